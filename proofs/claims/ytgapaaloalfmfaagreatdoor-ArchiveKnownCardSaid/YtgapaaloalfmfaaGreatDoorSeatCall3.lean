/- The interpreter with what has been evaluated, further. -/
import Derived.Test.YtgapaaloalfmfaaGreatDoorSeatMemoD
import Derived.Test.YtgapaaloalfmfaaGreatDoorSeatMemoE
set_option linter.unusedVariables false
set_option linter.unusedSimpArgs false
set_option linter.unusedSectionVars false
namespace Go.Proofs.YtgapaaloalfmfaaGreatDoor
open Go Go.Abs
def memo3 : List Memo := mDL ++ (mEL ++ memo2)
theorem memo3_ok : ∀ m ∈ memo3, Fact Tryz.prog 15 m.f m.args m.v := by
  intro m hm
  rcases List.mem_append.1 hm with hm | hm
  · exact mDL_ok m hm
  · rcases List.mem_append.1 hm with hm | hm
    · exact mEL_ok m hm
    · exact memo2_ok m hm
def tidy3 : Tidy := tidyOf [110, 192, 237, 238, 100, 148, 149, 146, 117, 235, 239, 118, 56, 42, 57, 55, 144, 153, 304, 226, 227, 327, 236, 245, 129] [147, 53, 44, 58, 51, 145, 54, 150, 272, 133, 50]
def hook3 : CallF := orHook (memoHook memo3) hook0
theorem hook3_ok : CallsOk Tryz.prog 15 hook3 := orHook_ok (memoHook_ok memo3_ok) hook0_ok
noncomputable def call3 : CallF := runCall KT hook3 tidy3 2000
theorem call3_ok : CallsOk Tryz.prog 15 call3 := (runCode_ok KT _ tidy3 rfl KT_ok hook3_ok (tidyOf_ok _ _) 2000).2.2
end Go.Proofs.YtgapaaloalfmfaaGreatDoor
