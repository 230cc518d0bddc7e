/-
  DERIVED. GIVEN WITH THE SEED: THE CARDS: each row of YtgkanacfffilmaaGreatDoorRows.lean that lists a variable, with what it lists TIED to the program's text (the seventh form; the later family's looks); each row that meets fmt, with fmt's text TOLD by the authors' own Lean function (tested against real Go, not proved from fmt's source: count such statements apart). THE CARD IS WHAT COUNTS. Prove the row's statement (the work); the ties are given (YtgkanacfffilmaaGreatDoorTie.lean); close each card by the builder's one call (the guide's Derived/Test/ToyasCard.lean, 'card_holds'). Laid BY PROGRAM, IN A SANDBOX (cutbox-door.mjs). By AI agents, Wed Nov 11 2026. No macro, syntax, notation, axiom, sorry.
-/
import Derived.Test.YtgkanacfffilmaaGreatDoorRows
import GoSem.ClaimSeven
namespace Go.Proofs.YtgkanacfffilmaaGreatDoor
namespace Rows

/-- THE TIED CARD OF 'fuseelaw07.CivilDays'. -/
def civilDaysCard : Claim7 := { stood := { row := civilDaysRow, standIns := [], harness := (true, "83e1c7e8b90a502ab25fef1b10e525b7036a0e19de54f5e155d72b3da6e3f6c6"), looks := true }, kinds := [], alts := [], laidByText := true, laidKinds := [.data, .data, .data, .data, .handle, .sentinel, .sentinel, .pinned], laidTests := true, laidLooks := .later }
def CivilDaysCardSaid : Prop := Claim7.holds Tryz.pinned (.plain (OpenSpec.ofChange civilDaysSpec)) civilDaysCard

/-- THE TIED CARD OF 'fuseelaw07.CivilTexts'. -/
def civilTextsCard : Claim7 := { stood := { row := civilTextsRow, standIns := [], harness := (true, "83e1c7e8b90a502ab25fef1b10e525b7036a0e19de54f5e155d72b3da6e3f6c6"), looks := true }, kinds := [], alts := [], laidByText := true, laidKinds := [.data, .data, .data, .data, .handle, .sentinel, .sentinel, .pinned], laidTests := true, laidLooks := .later }
def CivilTextsCardSaid : Prop := Claim7.holds Tryz.pinned (.plain (OpenSpec.ofChange civilTextsSpec)) civilTextsCard

/-- THE TIED CARD OF 'fuseelaw07.CivilBack'. -/
def civilBackCard : Claim7 := { stood := { row := civilBackRow, standIns := [], harness := (true, "83e1c7e8b90a502ab25fef1b10e525b7036a0e19de54f5e155d72b3da6e3f6c6"), looks := true }, kinds := [], alts := [], laidByText := true, laidKinds := [.data, .data, .data, .data, .handle, .sentinel, .sentinel, .pinned], laidTests := true, laidLooks := .later }
def CivilBackCardSaid : Prop := Claim7.holds Tryz.pinned (.plain (OpenSpec.ofChange civilBackSpec)) civilBackCard

/-- THE TIED CARD OF 'fuseelaw08.DaytimeSeconds'. -/
def daytimeSecondsCard : Claim7 := { stood := { row := daytimeSecondsRow, standIns := [], harness := (true, "83e1c7e8b90a502ab25fef1b10e525b7036a0e19de54f5e155d72b3da6e3f6c6"), looks := true }, kinds := [], alts := [], laidByText := true, laidKinds := [.data, .data, .data, .data, .handle, .sentinel, .sentinel, .pinned], laidTests := true, laidLooks := .later }
def DaytimeSecondsCardSaid : Prop := Claim7.holds Tryz.pinned (.plain (OpenSpec.ofChange daytimeSecondsSpec)) daytimeSecondsCard

/-- THE TIED CARD OF 'fuseelaw08.DaytimeStamps'. -/
def daytimeStampsCard : Claim7 := { stood := { row := daytimeStampsRow, standIns := [], harness := (true, "83e1c7e8b90a502ab25fef1b10e525b7036a0e19de54f5e155d72b3da6e3f6c6"), looks := true }, kinds := [], alts := [], laidByText := true, laidKinds := [.data, .data, .data, .data, .handle, .sentinel, .sentinel, .pinned], laidTests := true, laidLooks := .later }
def DaytimeStampsCardSaid : Prop := Claim7.holds Tryz.pinned (.plain (OpenSpec.ofChange daytimeStampsSpec)) daytimeStampsCard

/-- THE TIED CARD OF 'fuseelaw08.DaytimeBack'. -/
def daytimeBackCard : Claim7 := { stood := { row := daytimeBackRow, standIns := [], harness := (true, "83e1c7e8b90a502ab25fef1b10e525b7036a0e19de54f5e155d72b3da6e3f6c6"), looks := true }, kinds := [], alts := [], laidByText := true, laidKinds := [.data, .data, .data, .data, .handle, .sentinel, .sentinel, .pinned], laidTests := true, laidLooks := .later }
def DaytimeBackCardSaid : Prop := Claim7.holds Tryz.pinned (.plain (OpenSpec.ofChange daytimeBackSpec)) daytimeBackCard

/-- THE SECOND FORM's CARD OF 'fuseelaw07.CivilDays'. -/
def civilDaysUptoCard : Claim7 := { stood := { row := civilDaysUptoRow, standIns := [], harness := (true, "83e1c7e8b90a502ab25fef1b10e525b7036a0e19de54f5e155d72b3da6e3f6c6"), looks := true }, kinds := [], alts := [], laidByText := true, laidKinds := [.data, .data, .data, .data, .handle, .sentinel, .sentinel, .pinned], laidTests := true, laidLooks := .later }
def CivilDaysUptoCardSaid : Prop := Claim7.holds Tryz.pinned (.plain (OpenSpec.upto civilDaysSpec)) civilDaysUptoCard

/-- THE SECOND FORM's CARD OF 'fuseelaw07.CivilTexts'. -/
def civilTextsUptoCard : Claim7 := { stood := { row := civilTextsUptoRow, standIns := [], harness := (true, "83e1c7e8b90a502ab25fef1b10e525b7036a0e19de54f5e155d72b3da6e3f6c6"), looks := true }, kinds := [], alts := [], laidByText := true, laidKinds := [.data, .data, .data, .data, .handle, .sentinel, .sentinel, .pinned], laidTests := true, laidLooks := .later }
def CivilTextsUptoCardSaid : Prop := Claim7.holds Tryz.pinned (.plain (OpenSpec.upto civilTextsSpec)) civilTextsUptoCard

/-- THE SECOND FORM's CARD OF 'fuseelaw07.CivilBack'. -/
def civilBackUptoCard : Claim7 := { stood := { row := civilBackUptoRow, standIns := [], harness := (true, "83e1c7e8b90a502ab25fef1b10e525b7036a0e19de54f5e155d72b3da6e3f6c6"), looks := true }, kinds := [], alts := [], laidByText := true, laidKinds := [.data, .data, .data, .data, .handle, .sentinel, .sentinel, .pinned], laidTests := true, laidLooks := .later }
def CivilBackUptoCardSaid : Prop := Claim7.holds Tryz.pinned (.plain (OpenSpec.upto civilBackSpec)) civilBackUptoCard

/-- THE SECOND FORM's CARD OF 'fuseelaw08.DaytimeSeconds'. -/
def daytimeSecondsUptoCard : Claim7 := { stood := { row := daytimeSecondsUptoRow, standIns := [], harness := (true, "83e1c7e8b90a502ab25fef1b10e525b7036a0e19de54f5e155d72b3da6e3f6c6"), looks := true }, kinds := [], alts := [], laidByText := true, laidKinds := [.data, .data, .data, .data, .handle, .sentinel, .sentinel, .pinned], laidTests := true, laidLooks := .later }
def DaytimeSecondsUptoCardSaid : Prop := Claim7.holds Tryz.pinned (.plain (OpenSpec.upto daytimeSecondsSpec)) daytimeSecondsUptoCard

/-- THE SECOND FORM's CARD OF 'fuseelaw08.DaytimeStamps'. -/
def daytimeStampsUptoCard : Claim7 := { stood := { row := daytimeStampsUptoRow, standIns := [], harness := (true, "83e1c7e8b90a502ab25fef1b10e525b7036a0e19de54f5e155d72b3da6e3f6c6"), looks := true }, kinds := [], alts := [], laidByText := true, laidKinds := [.data, .data, .data, .data, .handle, .sentinel, .sentinel, .pinned], laidTests := true, laidLooks := .later }
def DaytimeStampsUptoCardSaid : Prop := Claim7.holds Tryz.pinned (.plain (OpenSpec.upto daytimeStampsSpec)) daytimeStampsUptoCard

/-- THE SECOND FORM's CARD OF 'fuseelaw08.DaytimeBack'. -/
def daytimeBackUptoCard : Claim7 := { stood := { row := daytimeBackUptoRow, standIns := [], harness := (true, "83e1c7e8b90a502ab25fef1b10e525b7036a0e19de54f5e155d72b3da6e3f6c6"), looks := true }, kinds := [], alts := [], laidByText := true, laidKinds := [.data, .data, .data, .data, .handle, .sentinel, .sentinel, .pinned], laidTests := true, laidLooks := .later }
def DaytimeBackUptoCardSaid : Prop := Claim7.holds Tryz.pinned (.plain (OpenSpec.upto daytimeBackSpec)) daytimeBackUptoCard
end Rows
end Go.Proofs.YtgkanacfffilmaaGreatDoor
