/-
  DERIVED. GIVEN WITH THE SEED: THE CARDS: each row of YthpljlpokmoeeaaGreatDoorRows.lean that lists a variable, with what it lists TIED to the program's text (the seventh form; the later family's looks); each row that meets fmt, with fmt's text TOLD by the authors' own Lean function (tested against real Go, not proved from fmt's source: count such statements apart). THE CARD IS WHAT COUNTS. Prove the row's statement (the work); the ties are given (YthpljlpokmoeeaaGreatDoorTie.lean); close each card by the builder's one call (the guide's Derived/Test/ToyasCard.lean, 'card_holds'). Laid BY PROGRAM, IN A SANDBOX (cutbox-door.mjs). By AI agents, Wed Nov 11 2026. No macro, syntax, notation, axiom, sorry.
-/
import Derived.Test.YthpljlpokmoeeaaGreatDoorRows
import GoSem.ClaimSeven
namespace Go.Proofs.YthpljlpokmoeeaaGreatDoor
namespace Rows

/-- THE TIED CARD OF 'fuseelaw30.BoundTells'. -/
def boundTellsCard : Claim7 := { stood := { row := boundTellsRow, standIns := [], harness := (true, "39fbcf0dbf7dd7dd1f714fb5b63f8fdff126e6e71812ebffed17a346cab99b69"), looks := true }, kinds := [], alts := [], laidByText := true, laidKinds := [.data, .handle, .pinned], laidTests := true, laidLooks := .later }
def BoundTellsCardSaid : Prop := Claim7.holds Tryz.pinned (.plain (OpenSpec.ofChange boundTellsSpec)) boundTellsCard

/-- THE TIED CARD OF 'fuseelaw29.TenantHolds'. -/
def tenantHoldsCard : Claim7 := { stood := { row := tenantHoldsRow, standIns := [], harness := (true, "39fbcf0dbf7dd7dd1f714fb5b63f8fdff126e6e71812ebffed17a346cab99b69"), looks := true }, kinds := [], alts := [], laidByText := true, laidKinds := [.data, .handle, .pinned], laidTests := true, laidLooks := .later }
def TenantHoldsCardSaid : Prop := Claim7.holds Tryz.pinned (.plain (OpenSpec.ofChange tenantHoldsSpec)) tenantHoldsCard

/-- THE TIED CARD OF 'fuseelaw29.TenantTells'. -/
def tenantTellsCard : Claim7 := { stood := { row := tenantTellsRow, standIns := [], harness := (true, "39fbcf0dbf7dd7dd1f714fb5b63f8fdff126e6e71812ebffed17a346cab99b69"), looks := true }, kinds := [], alts := [], laidByText := true, laidKinds := [.data, .handle, .pinned], laidTests := true, laidLooks := .later }
def TenantTellsCardSaid : Prop := Claim7.holds Tryz.pinned (.plain (OpenSpec.ofChange tenantTellsSpec)) tenantTellsCard

/-- THE TIED CARD OF 'fuseelaw29.TenantOnward'. -/
def tenantOnwardCard : Claim7 := { stood := { row := tenantOnwardRow, standIns := [], harness := (true, "39fbcf0dbf7dd7dd1f714fb5b63f8fdff126e6e71812ebffed17a346cab99b69"), looks := true }, kinds := [], alts := [], laidByText := true, laidKinds := [.data, .handle, .pinned], laidTests := true, laidLooks := .later }
def TenantOnwardCardSaid : Prop := Claim7.holds Tryz.pinned (.plain (OpenSpec.ofChange tenantOnwardSpec)) tenantOnwardCard

/-- THE TIED CARD OF 'fuseelaw30.BoundHolds'. -/
def boundHoldsCard : Claim7 := { stood := { row := boundHoldsRow, standIns := [], harness := (true, "39fbcf0dbf7dd7dd1f714fb5b63f8fdff126e6e71812ebffed17a346cab99b69"), looks := true }, kinds := [], alts := [], laidByText := true, laidKinds := [.data, .handle, .pinned], laidTests := true, laidLooks := .later }
def BoundHoldsCardSaid : Prop := Claim7.holds Tryz.pinned (.plain (OpenSpec.ofChange boundHoldsSpec)) boundHoldsCard

/-- THE SECOND FORM's CARD OF 'fuseelaw30.BoundTells'. -/
def boundTellsUptoCard : Claim7 := { stood := { row := boundTellsUptoRow, standIns := [], harness := (true, "39fbcf0dbf7dd7dd1f714fb5b63f8fdff126e6e71812ebffed17a346cab99b69"), looks := true }, kinds := [], alts := [], laidByText := true, laidKinds := [.data, .handle, .pinned], laidTests := true, laidLooks := .later }
def BoundTellsUptoCardSaid : Prop := Claim7.holds Tryz.pinned (.plain (OpenSpec.upto boundTellsSpec)) boundTellsUptoCard

/-- THE SECOND FORM's CARD OF 'fuseelaw29.TenantHolds'. -/
def tenantHoldsUptoCard : Claim7 := { stood := { row := tenantHoldsUptoRow, standIns := [], harness := (true, "39fbcf0dbf7dd7dd1f714fb5b63f8fdff126e6e71812ebffed17a346cab99b69"), looks := true }, kinds := [], alts := [], laidByText := true, laidKinds := [.data, .handle, .pinned], laidTests := true, laidLooks := .later }
def TenantHoldsUptoCardSaid : Prop := Claim7.holds Tryz.pinned (.plain (OpenSpec.upto tenantHoldsSpec)) tenantHoldsUptoCard

/-- THE SECOND FORM's CARD OF 'fuseelaw29.TenantTells'. -/
def tenantTellsUptoCard : Claim7 := { stood := { row := tenantTellsUptoRow, standIns := [], harness := (true, "39fbcf0dbf7dd7dd1f714fb5b63f8fdff126e6e71812ebffed17a346cab99b69"), looks := true }, kinds := [], alts := [], laidByText := true, laidKinds := [.data, .handle, .pinned], laidTests := true, laidLooks := .later }
def TenantTellsUptoCardSaid : Prop := Claim7.holds Tryz.pinned (.plain (OpenSpec.upto tenantTellsSpec)) tenantTellsUptoCard

/-- THE SECOND FORM's CARD OF 'fuseelaw29.TenantOnward'. -/
def tenantOnwardUptoCard : Claim7 := { stood := { row := tenantOnwardUptoRow, standIns := [], harness := (true, "39fbcf0dbf7dd7dd1f714fb5b63f8fdff126e6e71812ebffed17a346cab99b69"), looks := true }, kinds := [], alts := [], laidByText := true, laidKinds := [.data, .handle, .pinned], laidTests := true, laidLooks := .later }
def TenantOnwardUptoCardSaid : Prop := Claim7.holds Tryz.pinned (.plain (OpenSpec.upto tenantOnwardSpec)) tenantOnwardUptoCard

/-- THE SECOND FORM's CARD OF 'fuseelaw30.BoundHolds'. -/
def boundHoldsUptoCard : Claim7 := { stood := { row := boundHoldsUptoRow, standIns := [], harness := (true, "39fbcf0dbf7dd7dd1f714fb5b63f8fdff126e6e71812ebffed17a346cab99b69"), looks := true }, kinds := [], alts := [], laidByText := true, laidKinds := [.data, .handle, .pinned], laidTests := true, laidLooks := .later }
def BoundHoldsUptoCardSaid : Prop := Claim7.holds Tryz.pinned (.plain (OpenSpec.upto boundHoldsSpec)) boundHoldsUptoCard
end Rows
end Go.Proofs.YthpljlpokmoeeaaGreatDoor
