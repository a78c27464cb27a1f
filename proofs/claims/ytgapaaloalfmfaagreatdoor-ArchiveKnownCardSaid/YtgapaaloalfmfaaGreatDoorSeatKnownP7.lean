/- ArchiveKnown(): the statements 7 to 7. -/
import Derived.Test.YtgapaaloalfmfaaGreatDoorSeatKnownStates
set_option linter.unusedVariables false
set_option linter.unusedSimpArgs false
set_option linter.unusedSectionVars false
namespace Go.Proofs.YtgapaaloalfmfaaGreatDoor
open Go Go.Abs
set_option maxRecDepth 100000
theorem pk7_ok : checkPiece KT hook5 tidy3 1 1993 (dropSeq 6 c10) pk6 pk7 = true := by kernel_rfl
end Go.Proofs.YtgapaaloalfmfaaGreatDoor
