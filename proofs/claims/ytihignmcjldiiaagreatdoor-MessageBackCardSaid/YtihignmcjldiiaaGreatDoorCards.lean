/-
  DERIVED. GIVEN WITH THE SEED: THE CARDS: each row of YtihignmcjldiiaaGreatDoorRows.lean that lists a variable, with what it lists TIED to the program's text (the seventh form; the later family's looks); each row that meets fmt, with fmt's text TOLD by the authors' own Lean function (tested against real Go, not proved from fmt's source: count such statements apart). THE CARD IS WHAT COUNTS. Prove the row's statement (the work); the ties are given (YtihignmcjldiiaaGreatDoorTie.lean); close each card by the builder's one call (the guide's Derived/Test/ToyasCard.lean, 'card_holds'). Laid BY PROGRAM, IN A SANDBOX (cutbox-door.mjs). By AI agents, Wed Nov 11 2026. No macro, syntax, notation, axiom, sorry.
-/
import Derived.Test.YtihignmcjldiiaaGreatDoorRows
import GoSem.ClaimSeven
namespace Go.Proofs.YtihignmcjldiiaaGreatDoor
namespace Rows

/-- THE TIED CARD OF 'fuseelaw31.MessageSame'. -/
def messageSameCard : Claim7 := { stood := { row := messageSameRow, standIns := [], harness := (true, "f063fcc16c6ec63e933c30416a767a76a773a347fedff91bc67d3483b41b2ed4"), looks := true }, kinds := [], alts := [], laidByText := true, laidKinds := [.data, .handle, .pinned], laidTests := true, laidLooks := .later }
def MessageSameCardSaid : Prop := Claim7.holds Tryz.pinned (.plain (OpenSpec.ofChange messageSameSpec)) messageSameCard

/-- THE TIED CARD OF 'fuseelaw31.MessageForms'. -/
def messageFormsCard : Claim7 := { stood := { row := messageFormsRow, standIns := [], harness := (true, "f063fcc16c6ec63e933c30416a767a76a773a347fedff91bc67d3483b41b2ed4"), looks := true }, kinds := [], alts := [], laidByText := true, laidKinds := [.data, .handle, .pinned], laidTests := true, laidLooks := .later }
def MessageFormsCardSaid : Prop := Claim7.holds Tryz.pinned (.plain (OpenSpec.ofChange messageFormsSpec)) messageFormsCard

/-- THE TIED CARD OF 'fuseelaw31.MessageBack'. -/
def messageBackCard : Claim7 := { stood := { row := messageBackRow, standIns := [], harness := (true, "f063fcc16c6ec63e933c30416a767a76a773a347fedff91bc67d3483b41b2ed4"), looks := true }, kinds := [], alts := [], laidByText := true, laidKinds := [.data, .handle, .pinned], laidTests := true, laidLooks := .later }
def MessageBackCardSaid : Prop := Claim7.holds Tryz.pinned (.plain (OpenSpec.ofChange messageBackSpec)) messageBackCard

/-- THE SECOND FORM's CARD OF 'fuseelaw31.MessageSame'. -/
def messageSameUptoCard : Claim7 := { stood := { row := messageSameUptoRow, standIns := [], harness := (true, "f063fcc16c6ec63e933c30416a767a76a773a347fedff91bc67d3483b41b2ed4"), looks := true }, kinds := [], alts := [], laidByText := true, laidKinds := [.data, .handle, .pinned], laidTests := true, laidLooks := .later }
def MessageSameUptoCardSaid : Prop := Claim7.holds Tryz.pinned (.plain (OpenSpec.upto messageSameSpec)) messageSameUptoCard

/-- THE SECOND FORM's CARD OF 'fuseelaw31.MessageForms'. -/
def messageFormsUptoCard : Claim7 := { stood := { row := messageFormsUptoRow, standIns := [], harness := (true, "f063fcc16c6ec63e933c30416a767a76a773a347fedff91bc67d3483b41b2ed4"), looks := true }, kinds := [], alts := [], laidByText := true, laidKinds := [.data, .handle, .pinned], laidTests := true, laidLooks := .later }
def MessageFormsUptoCardSaid : Prop := Claim7.holds Tryz.pinned (.plain (OpenSpec.upto messageFormsSpec)) messageFormsUptoCard

/-- THE SECOND FORM's CARD OF 'fuseelaw31.MessageBack'. -/
def messageBackUptoCard : Claim7 := { stood := { row := messageBackUptoRow, standIns := [], harness := (true, "f063fcc16c6ec63e933c30416a767a76a773a347fedff91bc67d3483b41b2ed4"), looks := true }, kinds := [], alts := [], laidByText := true, laidKinds := [.data, .handle, .pinned], laidTests := true, laidLooks := .later }
def MessageBackUptoCardSaid : Prop := Claim7.holds Tryz.pinned (.plain (OpenSpec.upto messageBackSpec)) messageBackUptoCard
end Rows
end Go.Proofs.YtihignmcjldiiaaGreatDoor
