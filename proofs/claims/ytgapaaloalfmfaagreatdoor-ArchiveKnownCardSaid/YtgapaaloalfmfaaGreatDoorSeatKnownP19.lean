/- ArchiveKnown(): the statements 17 to 19. -/
import Derived.Test.YtgapaaloalfmfaaGreatDoorSeatKnownStates
set_option linter.unusedVariables false
set_option linter.unusedSimpArgs false
set_option linter.unusedSectionVars false
namespace Go.Proofs.YtgapaaloalfmfaaGreatDoor
open Go Go.Abs
set_option maxRecDepth 100000
theorem pk19_ok : checkPiece KT hook5 tidy3 3 1983 (dropSeq 16 c10) pk16 pk19 = true := by kernel_rfl
end Go.Proofs.YtgapaaloalfmfaaGreatDoor
