/- ArchiveKnown(): the statements 1 to 3. -/
import Derived.Test.YtgapaaloalfmfaaGreatDoorSeatKnownStates
set_option linter.unusedVariables false
set_option linter.unusedSimpArgs false
set_option linter.unusedSectionVars false
namespace Go.Proofs.YtgapaaloalfmfaaGreatDoor
open Go Go.Abs
set_option maxRecDepth 100000
theorem pk3_ok : checkPiece KT hook5 tidy3 3 1999 (dropSeq 0 c10) pk0 pk3 = true := by kernel_rfl
end Go.Proofs.YtgapaaloalfmfaaGreatDoor
