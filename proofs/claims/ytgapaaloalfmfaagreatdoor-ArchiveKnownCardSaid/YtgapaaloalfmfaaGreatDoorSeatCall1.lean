/- The interpreter at this program, with the library's two hooks. -/
import Derived.Test.YtgapaaloalfmfaaGreatDoorSeatHooks
set_option linter.unusedVariables false
set_option linter.unusedSimpArgs false
set_option linter.unusedSectionVars false
namespace Go.Proofs.YtgapaaloalfmfaaGreatDoor
open Go Go.Abs
def tidy1 : Tidy := tidyOf [110, 192, 237, 238, 100, 148, 149, 146, 117, 235, 239, 118] []
noncomputable def call1 : CallF := runCall KT hook0 tidy1 2000
theorem call1_ok : CallsOk Tryz.prog 15 call1 := (runCode_ok KT hook0 tidy1 rfl KT_ok hook0_ok (tidyOf_ok _ _) 2000).2.2
end Go.Proofs.YtgapaaloalfmfaaGreatDoor
