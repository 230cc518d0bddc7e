/-
  DERIVED. GIVEN WITH THE SEED: THE CARDS: each row of YthbhbfnnagaclaaGreatDoorRows.lean that lists a variable, with what it lists TIED to the program's text (the seventh form; the later family's looks); each row that meets fmt, with fmt's text TOLD by the authors' own Lean function (tested against real Go, not proved from fmt's source: count such statements apart). THE CARD IS WHAT COUNTS. Prove the row's statement (the work); the ties are given (YthbhbfnnagaclaaGreatDoorTie.lean); close each card by the builder's one call (the guide's Derived/Test/ToyasCard.lean, 'card_holds'). Laid BY PROGRAM, IN A SANDBOX (cutbox-door.mjs). By AI agents, Wed Nov 11 2026. No macro, syntax, notation, axiom, sorry.
-/
import Derived.Test.YthbhbfnnagaclaaGreatDoorRows
import GoSem.ClaimSeven
namespace Go.Proofs.YthbhbfnnagaclaaGreatDoor
namespace Rows

/-- THE TIED CARD OF 'fuseelaw43.ToldTexts'. -/
def toldTextsCard : Claim7 := { stood := { row := toldTextsRow, standIns := [], harness := (true, "29f79b802523f2220ebda4cdcddd0b9dcef4cd4e8ed8270d28cffd863e1e5a57"), looks := true }, kinds := [], alts := [], laidByText := true, laidKinds := [.data, .data, .data, .data, .handle, .sentinel, .sentinel, .pinned], laidTests := true, laidLooks := .later }
def ToldTextsCardSaid : Prop := Claim7.holds Tryz.pinned (.plain (OpenSpec.ofChange toldTextsSpec)) toldTextsCard

/-- THE TIED CARD OF 'fuseelaw43.ToldBack'. -/
def toldBackCard : Claim7 := { stood := { row := toldBackRow, standIns := [], harness := (true, "29f79b802523f2220ebda4cdcddd0b9dcef4cd4e8ed8270d28cffd863e1e5a57"), looks := true }, kinds := [], alts := [], laidByText := true, laidKinds := [.data, .data, .data, .data, .handle, .sentinel, .sentinel, .pinned], laidTests := true, laidLooks := .later }
def ToldBackCardSaid : Prop := Claim7.holds Tryz.pinned (.plain (OpenSpec.ofChange toldBackSpec)) toldBackCard

/-- THE SECOND FORM's CARD OF 'fuseelaw43.ToldTexts'. -/
def toldTextsUptoCard : Claim7 := { stood := { row := toldTextsUptoRow, standIns := [], harness := (true, "29f79b802523f2220ebda4cdcddd0b9dcef4cd4e8ed8270d28cffd863e1e5a57"), looks := true }, kinds := [], alts := [], laidByText := true, laidKinds := [.data, .data, .data, .data, .handle, .sentinel, .sentinel, .pinned], laidTests := true, laidLooks := .later }
def ToldTextsUptoCardSaid : Prop := Claim7.holds Tryz.pinned (.plain (OpenSpec.upto toldTextsSpec)) toldTextsUptoCard

/-- THE SECOND FORM's CARD OF 'fuseelaw43.ToldBack'. -/
def toldBackUptoCard : Claim7 := { stood := { row := toldBackUptoRow, standIns := [], harness := (true, "29f79b802523f2220ebda4cdcddd0b9dcef4cd4e8ed8270d28cffd863e1e5a57"), looks := true }, kinds := [], alts := [], laidByText := true, laidKinds := [.data, .data, .data, .data, .handle, .sentinel, .sentinel, .pinned], laidTests := true, laidLooks := .later }
def ToldBackUptoCardSaid : Prop := Claim7.holds Tryz.pinned (.plain (OpenSpec.upto toldBackSpec)) toldBackUptoCard
end Rows
end Go.Proofs.YthbhbfnnagaclaaGreatDoor
