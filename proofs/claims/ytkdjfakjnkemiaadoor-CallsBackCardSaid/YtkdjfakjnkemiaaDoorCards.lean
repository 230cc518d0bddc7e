/-
  DERIVED. GIVEN WITH THE SEED: THE CARDS: each row of YtkdjfakjnkemiaaDoorRows.lean that lists a variable, with what it lists TIED to the program's text (the seventh form; the later family's looks); each row that meets fmt, with fmt's text TOLD by the authors' own Lean function (tested against real Go, not proved from fmt's source: count such statements apart). THE CARD IS WHAT COUNTS. Prove the row's statement (the work); the ties are given (YtkdjfakjnkemiaaDoorTie.lean); close each card by the builder's one call (the guide's Derived/Test/ToyasCard.lean, 'card_holds'). Laid BY PROGRAM, IN A SANDBOX (cutbox-door.mjs). By AI agents, Wed Nov 11 2026. No macro, syntax, notation, axiom, sorry.
-/
import Derived.Test.YtkdjfakjnkemiaaDoorRows
import GoSem.ClaimSeven
namespace Go.Proofs.YtkdjfakjnkemiaaDoor
namespace Rows

/-- THE TIED CARD OF 'fuseelaw44.CallsForms'. -/
def callsFormsCard : Claim7 := { stood := { row := callsFormsRow, standIns := [], harness := (true, "eb738897e3974e8b3805042a65f2189acedddd8e8c8fb686ca74dc2ead00a474"), looks := true }, kinds := [], alts := [], laidByText := true, laidKinds := [.handle], laidTests := true, laidLooks := .later }
def CallsFormsCardSaid : Prop := Claim7.holds Tryd.pinned (.plain (OpenSpec.ofChange callsFormsSpec)) callsFormsCard

/-- THE TIED CARD OF 'fuseelaw44.CallsBack'. -/
def callsBackCard : Claim7 := { stood := { row := callsBackRow, standIns := [], harness := (true, "eb738897e3974e8b3805042a65f2189acedddd8e8c8fb686ca74dc2ead00a474"), looks := true }, kinds := [], alts := [], laidByText := true, laidKinds := [.handle], laidTests := true, laidLooks := .later }
def CallsBackCardSaid : Prop := Claim7.holds Tryd.pinned (.plain (OpenSpec.ofChange callsBackSpec)) callsBackCard

/-- THE TIED CARD OF 'fuseelaw02.WideParts'. -/
def widePartsCard : Claim7 := { stood := { row := widePartsRow, standIns := [], harness := (true, "eb738897e3974e8b3805042a65f2189acedddd8e8c8fb686ca74dc2ead00a474"), looks := true }, kinds := [], alts := [], laidByText := true, laidKinds := [.handle], laidTests := true, laidLooks := .later }
def WidePartsCardSaid : Prop := Claim7.holds Tryd.pinned (.plain (OpenSpec.ofChange widePartsSpec)) widePartsCard

/-- THE TIED CARD OF 'fuseelaw02.WideTimes'. -/
def wideTimesCard : Claim7 := { stood := { row := wideTimesRow, standIns := [], harness := (true, "eb738897e3974e8b3805042a65f2189acedddd8e8c8fb686ca74dc2ead00a474"), looks := true }, kinds := [], alts := [], laidByText := true, laidKinds := [.handle], laidTests := true, laidLooks := .later }
def WideTimesCardSaid : Prop := Claim7.holds Tryd.pinned (.plain (OpenSpec.ofChange wideTimesSpec)) wideTimesCard

/-- THE TIED CARD OF 'fuseelaw02.WideBack'. -/
def wideBackCard : Claim7 := { stood := { row := wideBackRow, standIns := [], harness := (true, "eb738897e3974e8b3805042a65f2189acedddd8e8c8fb686ca74dc2ead00a474"), looks := true }, kinds := [], alts := [], laidByText := true, laidKinds := [.handle], laidTests := true, laidLooks := .later }
def WideBackCardSaid : Prop := Claim7.holds Tryd.pinned (.plain (OpenSpec.ofChange wideBackSpec)) wideBackCard

/-- THE TIED CARD OF 'fuseelaw03.RatioAdjusts'. -/
def ratioAdjustsCard : Claim7 := { stood := { row := ratioAdjustsRow, standIns := [], harness := (true, "eb738897e3974e8b3805042a65f2189acedddd8e8c8fb686ca74dc2ead00a474"), looks := true }, kinds := [], alts := [], laidByText := true, laidKinds := [.handle], laidTests := true, laidLooks := .later }
def RatioAdjustsCardSaid : Prop := Claim7.holds Tryd.pinned (.plain (OpenSpec.ofChange ratioAdjustsSpec)) ratioAdjustsCard

/-- THE TIED CARD OF 'fuseelaw03.RatioNear'. -/
def ratioNearCard : Claim7 := { stood := { row := ratioNearRow, standIns := [], harness := (true, "eb738897e3974e8b3805042a65f2189acedddd8e8c8fb686ca74dc2ead00a474"), looks := true }, kinds := [], alts := [], laidByText := true, laidKinds := [.handle], laidTests := true, laidLooks := .later }
def RatioNearCardSaid : Prop := Claim7.holds Tryd.pinned (.plain (OpenSpec.ofChange ratioNearSpec)) ratioNearCard

/-- THE TIED CARD OF 'fuseelaw03.RatioFits'. -/
def ratioFitsCard : Claim7 := { stood := { row := ratioFitsRow, standIns := [], harness := (true, "eb738897e3974e8b3805042a65f2189acedddd8e8c8fb686ca74dc2ead00a474"), looks := true }, kinds := [], alts := [], laidByText := true, laidKinds := [.handle], laidTests := true, laidLooks := .later }
def RatioFitsCardSaid : Prop := Claim7.holds Tryd.pinned (.plain (OpenSpec.ofChange ratioFitsSpec)) ratioFitsCard

/-- THE TIED CARD OF 'fuseelaw02.WideSums'. -/
def wideSumsCard : Claim7 := { stood := { row := wideSumsRow, standIns := [], harness := (true, "eb738897e3974e8b3805042a65f2189acedddd8e8c8fb686ca74dc2ead00a474"), looks := true }, kinds := [], alts := [], laidByText := true, laidKinds := [.handle], laidTests := true, laidLooks := .later }
def WideSumsCardSaid : Prop := Claim7.holds Tryd.pinned (.plain (OpenSpec.ofChange wideSumsSpec)) wideSumsCard

/-- THE SECOND FORM's CARD OF 'fuseelaw44.CallsForms'. -/
def callsFormsUptoCard : Claim7 := { stood := { row := callsFormsUptoRow, standIns := [], harness := (true, "eb738897e3974e8b3805042a65f2189acedddd8e8c8fb686ca74dc2ead00a474"), looks := true }, kinds := [], alts := [], laidByText := true, laidKinds := [.handle], laidTests := true, laidLooks := .later }
def CallsFormsUptoCardSaid : Prop := Claim7.holds Tryd.pinned (.plain (OpenSpec.upto callsFormsSpec)) callsFormsUptoCard

/-- THE SECOND FORM's CARD OF 'fuseelaw44.CallsBack'. -/
def callsBackUptoCard : Claim7 := { stood := { row := callsBackUptoRow, standIns := [], harness := (true, "eb738897e3974e8b3805042a65f2189acedddd8e8c8fb686ca74dc2ead00a474"), looks := true }, kinds := [], alts := [], laidByText := true, laidKinds := [.handle], laidTests := true, laidLooks := .later }
def CallsBackUptoCardSaid : Prop := Claim7.holds Tryd.pinned (.plain (OpenSpec.upto callsBackSpec)) callsBackUptoCard

/-- THE SECOND FORM's CARD OF 'fuseelaw02.WideParts'. -/
def widePartsUptoCard : Claim7 := { stood := { row := widePartsUptoRow, standIns := [], harness := (true, "eb738897e3974e8b3805042a65f2189acedddd8e8c8fb686ca74dc2ead00a474"), looks := true }, kinds := [], alts := [], laidByText := true, laidKinds := [.handle], laidTests := true, laidLooks := .later }
def WidePartsUptoCardSaid : Prop := Claim7.holds Tryd.pinned (.plain (OpenSpec.upto widePartsSpec)) widePartsUptoCard

/-- THE SECOND FORM's CARD OF 'fuseelaw02.WideTimes'. -/
def wideTimesUptoCard : Claim7 := { stood := { row := wideTimesUptoRow, standIns := [], harness := (true, "eb738897e3974e8b3805042a65f2189acedddd8e8c8fb686ca74dc2ead00a474"), looks := true }, kinds := [], alts := [], laidByText := true, laidKinds := [.handle], laidTests := true, laidLooks := .later }
def WideTimesUptoCardSaid : Prop := Claim7.holds Tryd.pinned (.plain (OpenSpec.upto wideTimesSpec)) wideTimesUptoCard

/-- THE SECOND FORM's CARD OF 'fuseelaw02.WideBack'. -/
def wideBackUptoCard : Claim7 := { stood := { row := wideBackUptoRow, standIns := [], harness := (true, "eb738897e3974e8b3805042a65f2189acedddd8e8c8fb686ca74dc2ead00a474"), looks := true }, kinds := [], alts := [], laidByText := true, laidKinds := [.handle], laidTests := true, laidLooks := .later }
def WideBackUptoCardSaid : Prop := Claim7.holds Tryd.pinned (.plain (OpenSpec.upto wideBackSpec)) wideBackUptoCard

/-- THE SECOND FORM's CARD OF 'fuseelaw03.RatioAdjusts'. -/
def ratioAdjustsUptoCard : Claim7 := { stood := { row := ratioAdjustsUptoRow, standIns := [], harness := (true, "eb738897e3974e8b3805042a65f2189acedddd8e8c8fb686ca74dc2ead00a474"), looks := true }, kinds := [], alts := [], laidByText := true, laidKinds := [.handle], laidTests := true, laidLooks := .later }
def RatioAdjustsUptoCardSaid : Prop := Claim7.holds Tryd.pinned (.plain (OpenSpec.upto ratioAdjustsSpec)) ratioAdjustsUptoCard

/-- THE SECOND FORM's CARD OF 'fuseelaw03.RatioNear'. -/
def ratioNearUptoCard : Claim7 := { stood := { row := ratioNearUptoRow, standIns := [], harness := (true, "eb738897e3974e8b3805042a65f2189acedddd8e8c8fb686ca74dc2ead00a474"), looks := true }, kinds := [], alts := [], laidByText := true, laidKinds := [.handle], laidTests := true, laidLooks := .later }
def RatioNearUptoCardSaid : Prop := Claim7.holds Tryd.pinned (.plain (OpenSpec.upto ratioNearSpec)) ratioNearUptoCard

/-- THE SECOND FORM's CARD OF 'fuseelaw03.RatioFits'. -/
def ratioFitsUptoCard : Claim7 := { stood := { row := ratioFitsUptoRow, standIns := [], harness := (true, "eb738897e3974e8b3805042a65f2189acedddd8e8c8fb686ca74dc2ead00a474"), looks := true }, kinds := [], alts := [], laidByText := true, laidKinds := [.handle], laidTests := true, laidLooks := .later }
def RatioFitsUptoCardSaid : Prop := Claim7.holds Tryd.pinned (.plain (OpenSpec.upto ratioFitsSpec)) ratioFitsUptoCard

/-- THE SECOND FORM's CARD OF 'fuseelaw02.WideSums'. -/
def wideSumsUptoCard : Claim7 := { stood := { row := wideSumsUptoRow, standIns := [], harness := (true, "eb738897e3974e8b3805042a65f2189acedddd8e8c8fb686ca74dc2ead00a474"), looks := true }, kinds := [], alts := [], laidByText := true, laidKinds := [.handle], laidTests := true, laidLooks := .later }
def WideSumsUptoCardSaid : Prop := Claim7.holds Tryd.pinned (.plain (OpenSpec.upto wideSumsSpec)) wideSumsUptoCard
end Rows
end Go.Proofs.YtkdjfakjnkemiaaDoor
