/- awake() is true, under every tape. -/
import Derived.Test.YtgapaaloalfmfaaGreatDoorSeatTwo
set_option linter.unusedVariables false
set_option linter.unusedSimpArgs false
set_option linter.unusedSectionVars false
namespace Go.Proofs.YtgapaaloalfmfaaGreatDoor
open Go Go.Abs
set_option maxRecDepth 100000
theorem awake_fact : Fact Tryz.prog 15 42 [] (.bool true) := Fact.of_run call4_ok (by kernel_rfl) ⟨_, Tryz.func42, by kernel_rfl⟩
def hook5 : CallF := orHook (memoHook [⟨42, [], .bool true⟩]) hook4
theorem hook5_ok : CallsOk Tryz.prog 15 hook5 := orHook_ok (memoHook_ok (by
  intro m hm
  simp only [List.mem_singleton] at hm
  subst hm
  exact awake_fact)) hook4_ok
noncomputable def call5 : CallF := runCall KT hook5 tidy3 2000
theorem call5_ok : CallsOk Tryz.prog 15 call5 := (runCode_ok KT _ tidy3 rfl KT_ok hook5_ok (tidyOf_ok _ _) 2000).2.2
end Go.Proofs.YtgapaaloalfmfaaGreatDoor
