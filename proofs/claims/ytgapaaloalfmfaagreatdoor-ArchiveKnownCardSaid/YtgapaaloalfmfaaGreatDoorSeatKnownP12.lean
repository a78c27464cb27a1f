/- ArchiveKnown(): the statements 8 to 12. -/
import Derived.Test.YtgapaaloalfmfaaGreatDoorSeatKnownStates
set_option linter.unusedVariables false
set_option linter.unusedSimpArgs false
set_option linter.unusedSectionVars false
namespace Go.Proofs.YtgapaaloalfmfaaGreatDoor
open Go Go.Abs
set_option maxRecDepth 100000
theorem pk12_ok : checkPiece KT hook5 tidy3 5 1992 (dropSeq 7 c10) pk7 pk12 = true := by kernel_rfl
end Go.Proofs.YtgapaaloalfmfaaGreatDoor
