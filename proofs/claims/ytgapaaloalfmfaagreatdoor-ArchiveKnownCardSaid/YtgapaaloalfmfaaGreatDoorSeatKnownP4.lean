/- ArchiveKnown(): the statements 4 to 4. -/
import Derived.Test.YtgapaaloalfmfaaGreatDoorSeatKnownStates
set_option linter.unusedVariables false
set_option linter.unusedSimpArgs false
set_option linter.unusedSectionVars false
namespace Go.Proofs.YtgapaaloalfmfaaGreatDoor
open Go Go.Abs
set_option maxRecDepth 100000
theorem pk4_ok : checkPiece KT hook5 tidy3 1 1996 (dropSeq 3 c10) pk3 pk4 = true := by kernel_rfl
end Go.Proofs.YtgapaaloalfmfaaGreatDoor
