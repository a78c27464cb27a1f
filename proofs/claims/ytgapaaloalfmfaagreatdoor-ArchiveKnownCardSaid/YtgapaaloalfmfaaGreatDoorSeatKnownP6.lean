/- ArchiveKnown(): the statements 5 to 6. -/
import Derived.Test.YtgapaaloalfmfaaGreatDoorSeatKnownStates
set_option linter.unusedVariables false
set_option linter.unusedSimpArgs false
set_option linter.unusedSectionVars false
namespace Go.Proofs.YtgapaaloalfmfaaGreatDoor
open Go Go.Abs
set_option maxRecDepth 100000
theorem pk6_ok : checkPiece KT hook5 tidy3 2 1995 (dropSeq 4 c10) pk4 pk6 = true := by kernel_rfl
end Go.Proofs.YtgapaaloalfmfaaGreatDoor
