/- ArchiveKnown(): the statements 15 to 16. -/
import Derived.Test.YtgapaaloalfmfaaGreatDoorSeatKnownStates
set_option linter.unusedVariables false
set_option linter.unusedSimpArgs false
set_option linter.unusedSectionVars false
namespace Go.Proofs.YtgapaaloalfmfaaGreatDoor
open Go Go.Abs
set_option maxRecDepth 100000
theorem pk16_ok : checkPiece KT hook5 tidy3 2 1985 (dropSeq 14 c10) pk14 pk16 = true := by kernel_rfl
end Go.Proofs.YtgapaaloalfmfaaGreatDoor
