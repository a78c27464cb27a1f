/- ArchiveKnown(): the statements 13 to 14. -/
import Derived.Test.YtgapaaloalfmfaaGreatDoorSeatKnownStates
set_option linter.unusedVariables false
set_option linter.unusedSimpArgs false
set_option linter.unusedSectionVars false
namespace Go.Proofs.YtgapaaloalfmfaaGreatDoor
open Go Go.Abs
set_option maxRecDepth 100000
theorem pk14_ok : checkPiece KT hook5 tidy3 2 1987 (dropSeq 12 c10) pk12 pk14 = true := by kernel_rfl
end Go.Proofs.YtgapaaloalfmfaaGreatDoor
