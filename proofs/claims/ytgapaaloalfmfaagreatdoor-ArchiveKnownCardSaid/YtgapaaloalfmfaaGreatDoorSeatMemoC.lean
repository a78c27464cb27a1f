/- Calls whose answers have been evaluated once, by the kernel: under every tape. -/
import Derived.Test.YtgapaaloalfmfaaGreatDoorSeatCall1
set_option linter.unusedVariables false
set_option linter.unusedSimpArgs false
set_option linter.unusedSectionVars false
namespace Go.Proofs.YtgapaaloalfmfaaGreatDoor
open Go Go.Abs
set_option maxRecDepth 100000
theorem mC0 : Fact Tryz.prog 15 148 [.string ⟨#[48, 48, 48, 48, 48, 48, 48, 48, 48, 55, 45, 48, 48, 48, 48]⟩] (.tuple #[.int .i64 7, .bool true]) := Fact.of_run call1_ok (by kernel_rfl) ⟨_, Tryz.func148, by kernel_rfl⟩
theorem mC1 : Fact Tryz.prog 15 148 [.string ⟨#[48, 48, 48, 48, 48, 48, 48, 48, 48, 55, 45, 48, 48, 48, 49]⟩] (.tuple #[.int .i64 7, .bool true]) := Fact.of_run call1_ok (by kernel_rfl) ⟨_, Tryz.func148, by kernel_rfl⟩
theorem mC2 : Fact Tryz.prog 15 148 [.string ⟨#[120]⟩] (.tuple #[.int .i64 0, .bool false]) := Fact.of_run call1_ok (by kernel_rfl) ⟨_, Tryz.func148, by kernel_rfl⟩
theorem mC3 : Fact Tryz.prog 15 148 [.string ⟨#[48, 48, 48, 48, 48, 48, 48, 48, 48, 49, 45, 48, 48, 48, 48]⟩] (.tuple #[.int .i64 1, .bool true]) := Fact.of_run call1_ok (by kernel_rfl) ⟨_, Tryz.func148, by kernel_rfl⟩
def mCL : List Memo := [⟨148, [.string ⟨#[48, 48, 48, 48, 48, 48, 48, 48, 48, 55, 45, 48, 48, 48, 48]⟩], .tuple #[.int .i64 7, .bool true]⟩, ⟨148, [.string ⟨#[48, 48, 48, 48, 48, 48, 48, 48, 48, 55, 45, 48, 48, 48, 49]⟩], .tuple #[.int .i64 7, .bool true]⟩, ⟨148, [.string ⟨#[120]⟩], .tuple #[.int .i64 0, .bool false]⟩, ⟨148, [.string ⟨#[48, 48, 48, 48, 48, 48, 48, 48, 48, 49, 45, 48, 48, 48, 48]⟩], .tuple #[.int .i64 1, .bool true]⟩]
theorem mCL_ok : ∀ m ∈ mCL, Fact Tryz.prog 15 m.f m.args m.v := by
  intro m hm
  simp only [mCL, List.mem_cons, List.not_mem_nil, or_false] at hm
  rcases hm with rfl | rfl | rfl | rfl
  · exact mC0
  · exact mC1
  · exact mC2
  · exact mC3
end Go.Proofs.YtgapaaloalfmfaaGreatDoor
