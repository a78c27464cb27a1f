/- The interpreter with what has been evaluated. -/
import Derived.Test.YtgapaaloalfmfaaGreatDoorSeatMemoA
import Derived.Test.YtgapaaloalfmfaaGreatDoorSeatMemoB
import Derived.Test.YtgapaaloalfmfaaGreatDoorSeatMemoC
set_option linter.unusedVariables false
set_option linter.unusedSimpArgs false
set_option linter.unusedSectionVars false
namespace Go.Proofs.YtgapaaloalfmfaaGreatDoor
open Go Go.Abs
def memo2 : List Memo := mBL ++ (mAL ++ mCL)
theorem memo2_ok : ∀ m ∈ memo2, Fact Tryz.prog 15 m.f m.args m.v := by
  intro m hm
  rcases List.mem_append.1 hm with hm | hm
  · exact mBL_ok m hm
  · rcases List.mem_append.1 hm with hm | hm
    · exact mAL_ok m hm
    · exact mCL_ok m hm
noncomputable def call2 : CallF := runCall KT (orHook (memoHook memo2) hook0) tidy1 2000
theorem call2_ok : CallsOk Tryz.prog 15 call2 := (runCode_ok KT _ tidy1 rfl KT_ok (orHook_ok (memoHook_ok memo2_ok) hook0_ok) (tidyOf_ok _ _) 2000).2.2
end Go.Proofs.YtgapaaloalfmfaaGreatDoor
