/-
  DERIVED. GIVEN WITH THE SEED: THE CARDS: each row of YtmdnnlfoljdfpaaDoorRows.lean that lists a variable, with what it lists TIED to the program's text (the seventh form; the later family's looks); each row that meets fmt, with fmt's text TOLD by the authors' own Lean function (tested against real Go, not proved from fmt's source: count such statements apart). THE CARD IS WHAT COUNTS. Prove the row's statement (the work); the ties are given (YtmdnnlfoljdfpaaDoorTie.lean); close each card by the builder's one call (the guide's Derived/Test/ToyasCard.lean, 'card_holds'). Laid BY PROGRAM, IN A SANDBOX (cutbox-door.mjs). By AI agents, Wed Nov 11 2026. No macro, syntax, notation, axiom, sorry.
-/
import Derived.Test.YtmdnnlfoljdfpaaDoorRows
import GoSem.ClaimSeven
namespace Go.Proofs.YtmdnnlfoljdfpaaDoor
namespace Rows

/-- THE TIED CARD OF 'fuseelaw10.ZoneTells'. -/
def zoneTellsCard : Claim7 := { stood := { row := zoneTellsRow, standIns := [], harness := (true, "aed86954db6b33096d3ca1d5b6c29411050c215f9b69710bab4f08fd713ba15b"), looks := true }, kinds := [], alts := [], laidByText := true, laidKinds := [.data, .handle, .pinned], laidTests := true, laidLooks := .later }
def ZoneTellsCardSaid : Prop := Claim7.holds Tryd.pinned (.plain (OpenSpec.ofChange zoneTellsSpec)) zoneTellsCard

/-- THE TIED CARD OF 'fuseelaw10.ZoneSpans'. -/
def zoneSpansCard : Claim7 := { stood := { row := zoneSpansRow, standIns := [], harness := (true, "aed86954db6b33096d3ca1d5b6c29411050c215f9b69710bab4f08fd713ba15b"), looks := true }, kinds := [], alts := [], laidByText := true, laidKinds := [.data, .handle, .pinned], laidTests := true, laidLooks := .later }
def ZoneSpansCardSaid : Prop := Claim7.holds Tryd.pinned (.plain (OpenSpec.ofChange zoneSpansSpec)) zoneSpansCard

/-- THE TIED CARD OF 'fuseelaw12.SmearSteps'. -/
def smearStepsCard : Claim7 := { stood := { row := smearStepsRow, standIns := [], harness := (true, "aed86954db6b33096d3ca1d5b6c29411050c215f9b69710bab4f08fd713ba15b"), looks := true }, kinds := [], alts := [], laidByText := true, laidKinds := [.handle], laidTests := true, laidLooks := .later }
def SmearStepsCardSaid : Prop := Claim7.holds Tryd.pinned (.plain (OpenSpec.ofChange smearStepsSpec)) smearStepsCard

/-- THE TIED CARD OF 'fuseelaw12.SmearTells'. -/
def smearTellsCard : Claim7 := { stood := { row := smearTellsRow, standIns := [], harness := (true, "aed86954db6b33096d3ca1d5b6c29411050c215f9b69710bab4f08fd713ba15b"), looks := true }, kinds := [], alts := [], laidByText := true, laidKinds := [.handle], laidTests := true, laidLooks := .later }
def SmearTellsCardSaid : Prop := Claim7.holds Tryd.pinned (.plain (OpenSpec.ofChange smearTellsSpec)) smearTellsCard

/-- THE TIED CARD OF 'fuseelaw12.SmearOnward'. -/
def smearOnwardCard : Claim7 := { stood := { row := smearOnwardRow, standIns := [], harness := (true, "aed86954db6b33096d3ca1d5b6c29411050c215f9b69710bab4f08fd713ba15b"), looks := true }, kinds := [], alts := [], laidByText := true, laidKinds := [.handle], laidTests := true, laidLooks := .later }
def SmearOnwardCardSaid : Prop := Claim7.holds Tryd.pinned (.plain (OpenSpec.ofChange smearOnwardSpec)) smearOnwardCard

/-- THE TIED CARD OF 'fuseelaw12.SmearOutside'. -/
def smearOutsideCard : Claim7 := { stood := { row := smearOutsideRow, standIns := [], harness := (true, "aed86954db6b33096d3ca1d5b6c29411050c215f9b69710bab4f08fd713ba15b"), looks := true }, kinds := [], alts := [], laidByText := true, laidKinds := [.handle], laidTests := true, laidLooks := .later }
def SmearOutsideCardSaid : Prop := Claim7.holds Tryd.pinned (.plain (OpenSpec.ofChange smearOutsideSpec)) smearOutsideCard

/-- THE TIED CARD OF 'fuseelaw28.PolicyBack'. -/
def policyBackCard : Claim7 := { stood := { row := policyBackRow, standIns := [], harness := (true, "aed86954db6b33096d3ca1d5b6c29411050c215f9b69710bab4f08fd713ba15b"), looks := true }, kinds := [], alts := [], laidByText := true, laidKinds := [.data, .handle, .pinned], laidTests := true, laidLooks := .later }
def PolicyBackCardSaid : Prop := Claim7.holds Tryd.pinned (.plain (OpenSpec.ofChange policyBackSpec)) policyBackCard

/-- THE SECOND FORM's CARD OF 'fuseelaw10.ZoneTells'. -/
def zoneTellsUptoCard : Claim7 := { stood := { row := zoneTellsUptoRow, standIns := [], harness := (true, "aed86954db6b33096d3ca1d5b6c29411050c215f9b69710bab4f08fd713ba15b"), looks := true }, kinds := [], alts := [], laidByText := true, laidKinds := [.data, .handle, .pinned], laidTests := true, laidLooks := .later }
def ZoneTellsUptoCardSaid : Prop := Claim7.holds Tryd.pinned (.plain (OpenSpec.upto zoneTellsSpec)) zoneTellsUptoCard

/-- THE SECOND FORM's CARD OF 'fuseelaw10.ZoneSpans'. -/
def zoneSpansUptoCard : Claim7 := { stood := { row := zoneSpansUptoRow, standIns := [], harness := (true, "aed86954db6b33096d3ca1d5b6c29411050c215f9b69710bab4f08fd713ba15b"), looks := true }, kinds := [], alts := [], laidByText := true, laidKinds := [.data, .handle, .pinned], laidTests := true, laidLooks := .later }
def ZoneSpansUptoCardSaid : Prop := Claim7.holds Tryd.pinned (.plain (OpenSpec.upto zoneSpansSpec)) zoneSpansUptoCard

/-- THE SECOND FORM's CARD OF 'fuseelaw12.SmearSteps'. -/
def smearStepsUptoCard : Claim7 := { stood := { row := smearStepsUptoRow, standIns := [], harness := (true, "aed86954db6b33096d3ca1d5b6c29411050c215f9b69710bab4f08fd713ba15b"), looks := true }, kinds := [], alts := [], laidByText := true, laidKinds := [.handle], laidTests := true, laidLooks := .later }
def SmearStepsUptoCardSaid : Prop := Claim7.holds Tryd.pinned (.plain (OpenSpec.upto smearStepsSpec)) smearStepsUptoCard

/-- THE SECOND FORM's CARD OF 'fuseelaw12.SmearTells'. -/
def smearTellsUptoCard : Claim7 := { stood := { row := smearTellsUptoRow, standIns := [], harness := (true, "aed86954db6b33096d3ca1d5b6c29411050c215f9b69710bab4f08fd713ba15b"), looks := true }, kinds := [], alts := [], laidByText := true, laidKinds := [.handle], laidTests := true, laidLooks := .later }
def SmearTellsUptoCardSaid : Prop := Claim7.holds Tryd.pinned (.plain (OpenSpec.upto smearTellsSpec)) smearTellsUptoCard

/-- THE SECOND FORM's CARD OF 'fuseelaw12.SmearOnward'. -/
def smearOnwardUptoCard : Claim7 := { stood := { row := smearOnwardUptoRow, standIns := [], harness := (true, "aed86954db6b33096d3ca1d5b6c29411050c215f9b69710bab4f08fd713ba15b"), looks := true }, kinds := [], alts := [], laidByText := true, laidKinds := [.handle], laidTests := true, laidLooks := .later }
def SmearOnwardUptoCardSaid : Prop := Claim7.holds Tryd.pinned (.plain (OpenSpec.upto smearOnwardSpec)) smearOnwardUptoCard

/-- THE SECOND FORM's CARD OF 'fuseelaw12.SmearOutside'. -/
def smearOutsideUptoCard : Claim7 := { stood := { row := smearOutsideUptoRow, standIns := [], harness := (true, "aed86954db6b33096d3ca1d5b6c29411050c215f9b69710bab4f08fd713ba15b"), looks := true }, kinds := [], alts := [], laidByText := true, laidKinds := [.handle], laidTests := true, laidLooks := .later }
def SmearOutsideUptoCardSaid : Prop := Claim7.holds Tryd.pinned (.plain (OpenSpec.upto smearOutsideSpec)) smearOutsideUptoCard

/-- THE SECOND FORM's CARD OF 'fuseelaw28.PolicyBack'. -/
def policyBackUptoCard : Claim7 := { stood := { row := policyBackUptoRow, standIns := [], harness := (true, "aed86954db6b33096d3ca1d5b6c29411050c215f9b69710bab4f08fd713ba15b"), looks := true }, kinds := [], alts := [], laidByText := true, laidKinds := [.data, .handle, .pinned], laidTests := true, laidLooks := .later }
def PolicyBackUptoCardSaid : Prop := Claim7.holds Tryd.pinned (.plain (OpenSpec.upto policyBackSpec)) policyBackUptoCard
end Rows
end Go.Proofs.YtmdnnlfoljdfpaaDoor
