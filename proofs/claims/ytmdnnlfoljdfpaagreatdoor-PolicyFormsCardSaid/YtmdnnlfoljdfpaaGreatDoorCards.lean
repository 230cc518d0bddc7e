/-
  DERIVED. GIVEN WITH THE SEED: THE CARDS: each row of YtmdnnlfoljdfpaaGreatDoorRows.lean that lists a variable, with what it lists TIED to the program's text (the seventh form; the later family's looks); each row that meets fmt, with fmt's text TOLD by the authors' own Lean function (tested against real Go, not proved from fmt's source: count such statements apart). THE CARD IS WHAT COUNTS. Prove the row's statement (the work); the ties are given (YtmdnnlfoljdfpaaGreatDoorTie.lean); close each card by the builder's one call (the guide's Derived/Test/ToyasCard.lean, 'card_holds'). Laid BY PROGRAM, IN A SANDBOX (cutbox-door.mjs). By AI agents, Wed Nov 11 2026. No macro, syntax, notation, axiom, sorry.
-/
import Derived.Test.YtmdnnlfoljdfpaaGreatDoorRows
import GoSem.ClaimSeven
namespace Go.Proofs.YtmdnnlfoljdfpaaGreatDoor
namespace Rows

/-- THE TIED CARD OF 'fuseelaw10.ZoneForms'. -/
def zoneFormsCard : Claim7 := { stood := { row := zoneFormsRow, standIns := [], harness := (true, "be46af1f45cf2e0b36774301d4893680febb883d82b21bca9015b5850644c4cf"), looks := true }, kinds := [], alts := [], laidByText := true, laidKinds := [.data, .handle, .pinned], laidTests := true, laidLooks := .later }
def ZoneFormsCardSaid : Prop := Claim7.holds Tryz.pinned (.plain (OpenSpec.ofChange zoneFormsSpec)) zoneFormsCard

/-- THE TIED CARD OF 'fuseelaw28.PolicyForms'. -/
def policyFormsCard : Claim7 := { stood := { row := policyFormsRow, standIns := [], harness := (true, "be46af1f45cf2e0b36774301d4893680febb883d82b21bca9015b5850644c4cf"), looks := true }, kinds := [], alts := [], laidByText := true, laidKinds := [.data, .handle, .pinned], laidTests := true, laidLooks := .later }
def PolicyFormsCardSaid : Prop := Claim7.holds Tryz.pinned (.plain (OpenSpec.ofChange policyFormsSpec)) policyFormsCard

/-- THE SECOND FORM's CARD OF 'fuseelaw10.ZoneForms'. -/
def zoneFormsUptoCard : Claim7 := { stood := { row := zoneFormsUptoRow, standIns := [], harness := (true, "be46af1f45cf2e0b36774301d4893680febb883d82b21bca9015b5850644c4cf"), looks := true }, kinds := [], alts := [], laidByText := true, laidKinds := [.data, .handle, .pinned], laidTests := true, laidLooks := .later }
def ZoneFormsUptoCardSaid : Prop := Claim7.holds Tryz.pinned (.plain (OpenSpec.upto zoneFormsSpec)) zoneFormsUptoCard

/-- THE SECOND FORM's CARD OF 'fuseelaw28.PolicyForms'. -/
def policyFormsUptoCard : Claim7 := { stood := { row := policyFormsUptoRow, standIns := [], harness := (true, "be46af1f45cf2e0b36774301d4893680febb883d82b21bca9015b5850644c4cf"), looks := true }, kinds := [], alts := [], laidByText := true, laidKinds := [.data, .handle, .pinned], laidTests := true, laidLooks := .later }
def PolicyFormsUptoCardSaid : Prop := Claim7.holds Tryz.pinned (.plain (OpenSpec.upto policyFormsSpec)) policyFormsUptoCard
end Rows
end Go.Proofs.YtmdnnlfoljdfpaaGreatDoor
