/-
  DERIVED. GIVEN WITH THE SEED: THE CARDS: each row of YtgapaaloalfmfaaGreatDoorRows.lean that lists a variable, with what it lists TIED to the program's text (the seventh form; the later family's looks); each row that meets fmt, with fmt's text TOLD by the authors' own Lean function (tested against real Go, not proved from fmt's source: count such statements apart). THE CARD IS WHAT COUNTS. Prove the row's statement (the work); the ties are given (YtgapaaloalfmfaaGreatDoorTie.lean); close each card by the builder's one call (the guide's Derived/Test/ToyasCard.lean, 'card_holds'). Laid BY PROGRAM, IN A SANDBOX (cutbox-door.mjs). By AI agents, Wed Nov 11 2026. No macro, syntax, notation, axiom, sorry.
-/
import Derived.Test.YtgapaaloalfmfaaGreatDoorRows
import GoSem.ClaimSeven
namespace Go.Proofs.YtgapaaloalfmfaaGreatDoor
namespace Rows

/-- THE TIED CARD OF 'caravanlaw23.TempPlays'. -/
def tempPlaysCard : Claim7 := { stood := { row := tempPlaysRow, standIns := [], harness := (true, "f1d191c70c0c6dd7ec6bae8d0b33ba976a555d8bacee630ac4ec6a5c351658da"), looks := true }, kinds := [], alts := [], laidByText := true, laidKinds := [.data, .data, .data, .pinned], laidTests := true, laidLooks := .later }
def TempPlaysCardSaid : Prop := Claim7.holds Tryz.pinned (.plain (OpenSpec.ofChange tempPlaysSpec)) tempPlaysCard

/-- THE TIED CARD OF 'caravanlaw17.WalkKnown'. -/
def walkKnownCard : Claim7 := { stood := { row := walkKnownRow, standIns := [], harness := (true, "f1d191c70c0c6dd7ec6bae8d0b33ba976a555d8bacee630ac4ec6a5c351658da"), looks := true }, kinds := [], alts := [], laidByText := true, laidKinds := [.data, .data, .data, .pinned], laidTests := true, laidLooks := .later }
def WalkKnownCardSaid : Prop := Claim7.holds Tryz.pinned (.plain (OpenSpec.ofChange walkKnownSpec)) walkKnownCard

/-- THE TIED CARD OF 'caravanlaw17.WalkFinds'. -/
def walkFindsCard : Claim7 := { stood := { row := walkFindsRow, standIns := [], harness := (true, "f1d191c70c0c6dd7ec6bae8d0b33ba976a555d8bacee630ac4ec6a5c351658da"), looks := true }, kinds := [], alts := [], laidByText := true, laidKinds := [.data, .data, .data, .pinned], laidTests := true, laidLooks := .later }
def WalkFindsCardSaid : Prop := Claim7.holds Tryz.pinned (.plain (OpenSpec.ofChange walkFindsSpec)) walkFindsCard

/-- THE TIED CARD OF 'caravanlaw19.ArchiveGoes'. -/
def archiveGoesCard : Claim7 := { stood := { row := archiveGoesRow, standIns := [], harness := (true, "f1d191c70c0c6dd7ec6bae8d0b33ba976a555d8bacee630ac4ec6a5c351658da"), looks := true }, kinds := [], alts := [], laidByText := true, laidKinds := [.data, .data, .data, .data, .sentinel, .sentinel, .pinned], laidTests := true, laidLooks := .later }
def ArchiveGoesCardSaid : Prop := Claim7.holds Tryz.pinned (.plain (OpenSpec.ofChange archiveGoesSpec)) archiveGoesCard

/-- THE TIED CARD OF 'caravanlaw19.ArchiveKeeps'. -/
def archiveKeepsCard : Claim7 := { stood := { row := archiveKeepsRow, standIns := [], harness := (true, "f1d191c70c0c6dd7ec6bae8d0b33ba976a555d8bacee630ac4ec6a5c351658da"), looks := true }, kinds := [], alts := [], laidByText := true, laidKinds := [.data, .data, .data, .data, .sentinel, .sentinel, .pinned], laidTests := true, laidLooks := .later }
def ArchiveKeepsCardSaid : Prop := Claim7.holds Tryz.pinned (.plain (OpenSpec.ofChange archiveKeepsSpec)) archiveKeepsCard

/-- THE TIED CARD OF 'caravanlaw19.ArchiveTurn'. -/
def archiveTurnCard : Claim7 := { stood := { row := archiveTurnRow, standIns := [], harness := (true, "f1d191c70c0c6dd7ec6bae8d0b33ba976a555d8bacee630ac4ec6a5c351658da"), looks := true }, kinds := [], alts := [], laidByText := true, laidKinds := [.data, .data, .data, .data, .sentinel, .sentinel, .pinned], laidTests := true, laidLooks := .later }
def ArchiveTurnCardSaid : Prop := Claim7.holds Tryz.pinned (.plain (OpenSpec.ofChange archiveTurnSpec)) archiveTurnCard

/-- THE TIED CARD OF 'caravanlaw19.ArchiveBack'. -/
def archiveBackCard : Claim7 := { stood := { row := archiveBackRow, standIns := [], harness := (true, "f1d191c70c0c6dd7ec6bae8d0b33ba976a555d8bacee630ac4ec6a5c351658da"), looks := true }, kinds := [], alts := [], laidByText := true, laidKinds := [.data, .data, .data, .data, .sentinel, .sentinel, .pinned], laidTests := true, laidLooks := .later }
def ArchiveBackCardSaid : Prop := Claim7.holds Tryz.pinned (.plain (OpenSpec.ofChange archiveBackSpec)) archiveBackCard

/-- THE TIED CARD OF 'caravanlaw19.ArchiveKnown'. -/
def archiveKnownCard : Claim7 := { stood := { row := archiveKnownRow, standIns := [], harness := (true, "f1d191c70c0c6dd7ec6bae8d0b33ba976a555d8bacee630ac4ec6a5c351658da"), looks := true }, kinds := [], alts := [], laidByText := true, laidKinds := [.data, .data, .data, .data, .sentinel, .sentinel, .pinned], laidTests := true, laidLooks := .later }
def ArchiveKnownCardSaid : Prop := Claim7.holds Tryz.pinned (.plain (OpenSpec.ofChange archiveKnownSpec)) archiveKnownCard

/-- THE SECOND FORM's CARD OF 'caravanlaw23.TempPlays'. -/
def tempPlaysUptoCard : Claim7 := { stood := { row := tempPlaysUptoRow, standIns := [], harness := (true, "f1d191c70c0c6dd7ec6bae8d0b33ba976a555d8bacee630ac4ec6a5c351658da"), looks := true }, kinds := [], alts := [], laidByText := true, laidKinds := [.data, .data, .data, .pinned], laidTests := true, laidLooks := .later }
def TempPlaysUptoCardSaid : Prop := Claim7.holds Tryz.pinned (.plain (OpenSpec.upto tempPlaysSpec)) tempPlaysUptoCard

/-- THE SECOND FORM's CARD OF 'caravanlaw17.WalkKnown'. -/
def walkKnownUptoCard : Claim7 := { stood := { row := walkKnownUptoRow, standIns := [], harness := (true, "f1d191c70c0c6dd7ec6bae8d0b33ba976a555d8bacee630ac4ec6a5c351658da"), looks := true }, kinds := [], alts := [], laidByText := true, laidKinds := [.data, .data, .data, .pinned], laidTests := true, laidLooks := .later }
def WalkKnownUptoCardSaid : Prop := Claim7.holds Tryz.pinned (.plain (OpenSpec.upto walkKnownSpec)) walkKnownUptoCard

/-- THE SECOND FORM's CARD OF 'caravanlaw17.WalkFinds'. -/
def walkFindsUptoCard : Claim7 := { stood := { row := walkFindsUptoRow, standIns := [], harness := (true, "f1d191c70c0c6dd7ec6bae8d0b33ba976a555d8bacee630ac4ec6a5c351658da"), looks := true }, kinds := [], alts := [], laidByText := true, laidKinds := [.data, .data, .data, .pinned], laidTests := true, laidLooks := .later }
def WalkFindsUptoCardSaid : Prop := Claim7.holds Tryz.pinned (.plain (OpenSpec.upto walkFindsSpec)) walkFindsUptoCard

/-- THE SECOND FORM's CARD OF 'caravanlaw19.ArchiveGoes'. -/
def archiveGoesUptoCard : Claim7 := { stood := { row := archiveGoesUptoRow, standIns := [], harness := (true, "f1d191c70c0c6dd7ec6bae8d0b33ba976a555d8bacee630ac4ec6a5c351658da"), looks := true }, kinds := [], alts := [], laidByText := true, laidKinds := [.data, .data, .data, .data, .sentinel, .sentinel, .pinned], laidTests := true, laidLooks := .later }
def ArchiveGoesUptoCardSaid : Prop := Claim7.holds Tryz.pinned (.plain (OpenSpec.upto archiveGoesSpec)) archiveGoesUptoCard

/-- THE SECOND FORM's CARD OF 'caravanlaw19.ArchiveKeeps'. -/
def archiveKeepsUptoCard : Claim7 := { stood := { row := archiveKeepsUptoRow, standIns := [], harness := (true, "f1d191c70c0c6dd7ec6bae8d0b33ba976a555d8bacee630ac4ec6a5c351658da"), looks := true }, kinds := [], alts := [], laidByText := true, laidKinds := [.data, .data, .data, .data, .sentinel, .sentinel, .pinned], laidTests := true, laidLooks := .later }
def ArchiveKeepsUptoCardSaid : Prop := Claim7.holds Tryz.pinned (.plain (OpenSpec.upto archiveKeepsSpec)) archiveKeepsUptoCard

/-- THE SECOND FORM's CARD OF 'caravanlaw19.ArchiveTurn'. -/
def archiveTurnUptoCard : Claim7 := { stood := { row := archiveTurnUptoRow, standIns := [], harness := (true, "f1d191c70c0c6dd7ec6bae8d0b33ba976a555d8bacee630ac4ec6a5c351658da"), looks := true }, kinds := [], alts := [], laidByText := true, laidKinds := [.data, .data, .data, .data, .sentinel, .sentinel, .pinned], laidTests := true, laidLooks := .later }
def ArchiveTurnUptoCardSaid : Prop := Claim7.holds Tryz.pinned (.plain (OpenSpec.upto archiveTurnSpec)) archiveTurnUptoCard

/-- THE SECOND FORM's CARD OF 'caravanlaw19.ArchiveBack'. -/
def archiveBackUptoCard : Claim7 := { stood := { row := archiveBackUptoRow, standIns := [], harness := (true, "f1d191c70c0c6dd7ec6bae8d0b33ba976a555d8bacee630ac4ec6a5c351658da"), looks := true }, kinds := [], alts := [], laidByText := true, laidKinds := [.data, .data, .data, .data, .sentinel, .sentinel, .pinned], laidTests := true, laidLooks := .later }
def ArchiveBackUptoCardSaid : Prop := Claim7.holds Tryz.pinned (.plain (OpenSpec.upto archiveBackSpec)) archiveBackUptoCard

/-- THE SECOND FORM's CARD OF 'caravanlaw19.ArchiveKnown'. -/
def archiveKnownUptoCard : Claim7 := { stood := { row := archiveKnownUptoRow, standIns := [], harness := (true, "f1d191c70c0c6dd7ec6bae8d0b33ba976a555d8bacee630ac4ec6a5c351658da"), looks := true }, kinds := [], alts := [], laidByText := true, laidKinds := [.data, .data, .data, .data, .sentinel, .sentinel, .pinned], laidTests := true, laidLooks := .later }
def ArchiveKnownUptoCardSaid : Prop := Claim7.holds Tryz.pinned (.plain (OpenSpec.upto archiveKnownSpec)) archiveKnownUptoCard
end Rows
end Go.Proofs.YtgapaaloalfmfaaGreatDoor
