/- ArchiveKnown(): what comes behind its statements, and its answer. -/
import Derived.Test.YtgapaaloalfmfaaGreatDoorSeatKnownStates
set_option linter.unusedVariables false
set_option linter.unusedSimpArgs false
set_option linter.unusedSectionVars false
namespace Go.Proofs.YtgapaaloalfmfaaGreatDoor
open Go Go.Abs
set_option maxRecDepth 100000
theorem pk99_ok : checkEnd KT hook5 tidy3 Tryz.f10 1980 (dropSeq 19 c10) pk19 (.bool true) = true := by kernel_rfl
end Go.Proofs.YtgapaaloalfmfaaGreatDoor
