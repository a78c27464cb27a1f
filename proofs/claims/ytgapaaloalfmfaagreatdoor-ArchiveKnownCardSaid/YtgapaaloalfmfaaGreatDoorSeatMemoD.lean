/- Calls whose answers have been evaluated once, by the kernel: under every tape. -/
import Derived.Test.YtgapaaloalfmfaaGreatDoorSeatCall2
set_option linter.unusedVariables false
set_option linter.unusedSimpArgs false
set_option linter.unusedSectionVars false
namespace Go.Proofs.YtgapaaloalfmfaaGreatDoor
open Go Go.Abs
set_option maxRecDepth 100000
theorem mD0 : Fact Tryz.prog 15 237 [.string ⟨#[118, 49]⟩] (.tuple #[.string ⟨#[]⟩, .bool true]) := Fact.of_run call2_ok (by kernel_rfl) ⟨_, Tryz.func237, by kernel_rfl⟩
theorem mD1 : Fact Tryz.prog 15 237 [.string ⟨#[118, 49, 47, 48, 48, 48, 48, 48, 48, 48, 48, 48, 55, 45, 48, 48, 48, 48]⟩] (.tuple #[.string ⟨#[118, 49]⟩, .bool true]) := Fact.of_run call2_ok (by kernel_rfl) ⟨_, Tryz.func237, by kernel_rfl⟩
theorem mD2 : Fact Tryz.prog 15 237 [.string ⟨#[118, 49, 47, 48, 48, 48, 48, 48, 48, 48, 48, 48, 55, 45, 48, 48, 48, 49]⟩] (.tuple #[.string ⟨#[118, 49]⟩, .bool true]) := Fact.of_run call2_ok (by kernel_rfl) ⟨_, Tryz.func237, by kernel_rfl⟩
theorem mD3 : Fact Tryz.prog 15 238 [.string ⟨#[118, 49, 47, 48, 48, 48, 48, 48, 48, 48, 48, 48, 55, 45, 48, 48, 48, 48]⟩] (.string ⟨#[48, 48, 48, 48, 48, 48, 48, 48, 48, 55, 45, 48, 48, 48, 48]⟩) := Fact.of_run call2_ok (by kernel_rfl) ⟨_, Tryz.func238, by kernel_rfl⟩
theorem mD4 : Fact Tryz.prog 15 238 [.string ⟨#[118, 49, 47, 48, 48, 48, 48, 48, 48, 48, 48, 48, 55, 45, 48, 48, 48, 49]⟩] (.string ⟨#[48, 48, 48, 48, 48, 48, 48, 48, 48, 55, 45, 48, 48, 48, 49]⟩) := Fact.of_run call2_ok (by kernel_rfl) ⟨_, Tryz.func238, by kernel_rfl⟩
theorem mD5 : Fact Tryz.prog 15 100 [.string ⟨#[118, 49]⟩, .string ⟨#[118, 49, 47, 48, 48, 48, 48, 48, 48, 48, 48, 48, 55, 45, 48, 48, 48, 48]⟩] (.bool false) := Fact.of_run call2_ok (by kernel_rfl) ⟨_, Tryz.func100, by kernel_rfl⟩
theorem mD6 : Fact Tryz.prog 15 100 [.string ⟨#[118, 49, 47, 48, 48, 48, 48, 48, 48, 48, 48, 48, 55, 45, 48, 48, 48, 48]⟩, .string ⟨#[118, 49, 47, 48, 48, 48, 48, 48, 48, 48, 48, 48, 55, 45, 48, 48, 48, 48]⟩] (.bool false) := Fact.of_run call2_ok (by kernel_rfl) ⟨_, Tryz.func100, by kernel_rfl⟩
theorem mD7 : Fact Tryz.prog 15 100 [.string ⟨#[118, 49, 47, 48, 48, 48, 48, 48, 48, 48, 48, 48, 55, 45, 48, 48, 48, 49]⟩, .string ⟨#[118, 49, 47, 48, 48, 48, 48, 48, 48, 48, 48, 48, 55, 45, 48, 48, 48, 48]⟩] (.bool false) := Fact.of_run call2_ok (by kernel_rfl) ⟨_, Tryz.func100, by kernel_rfl⟩
theorem mD8 : Fact Tryz.prog 15 237 [.string ⟨#[118, 49, 47, 120]⟩] (.tuple #[.string ⟨#[118, 49]⟩, .bool true]) := Fact.of_run call2_ok (by kernel_rfl) ⟨_, Tryz.func237, by kernel_rfl⟩
theorem mD9 : Fact Tryz.prog 15 237 [.string ⟨#[118, 49, 47, 48, 48, 48, 48, 48, 48, 48, 48, 48, 49, 45, 48, 48, 48, 48]⟩] (.tuple #[.string ⟨#[118, 49]⟩, .bool true]) := Fact.of_run call2_ok (by kernel_rfl) ⟨_, Tryz.func237, by kernel_rfl⟩
theorem mD10 : Fact Tryz.prog 15 238 [.string ⟨#[118, 49, 47, 120]⟩] (.string ⟨#[120]⟩) := Fact.of_run call2_ok (by kernel_rfl) ⟨_, Tryz.func238, by kernel_rfl⟩
theorem mD11 : Fact Tryz.prog 15 238 [.string ⟨#[118, 49, 47, 48, 48, 48, 48, 48, 48, 48, 48, 48, 49, 45, 48, 48, 48, 48]⟩] (.string ⟨#[48, 48, 48, 48, 48, 48, 48, 48, 48, 49, 45, 48, 48, 48, 48]⟩) := Fact.of_run call2_ok (by kernel_rfl) ⟨_, Tryz.func238, by kernel_rfl⟩
def mDL : List Memo := [⟨237, [.string ⟨#[118, 49]⟩], .tuple #[.string ⟨#[]⟩, .bool true]⟩, ⟨237, [.string ⟨#[118, 49, 47, 48, 48, 48, 48, 48, 48, 48, 48, 48, 55, 45, 48, 48, 48, 48]⟩], .tuple #[.string ⟨#[118, 49]⟩, .bool true]⟩, ⟨237, [.string ⟨#[118, 49, 47, 48, 48, 48, 48, 48, 48, 48, 48, 48, 55, 45, 48, 48, 48, 49]⟩], .tuple #[.string ⟨#[118, 49]⟩, .bool true]⟩, ⟨238, [.string ⟨#[118, 49, 47, 48, 48, 48, 48, 48, 48, 48, 48, 48, 55, 45, 48, 48, 48, 48]⟩], .string ⟨#[48, 48, 48, 48, 48, 48, 48, 48, 48, 55, 45, 48, 48, 48, 48]⟩⟩, ⟨238, [.string ⟨#[118, 49, 47, 48, 48, 48, 48, 48, 48, 48, 48, 48, 55, 45, 48, 48, 48, 49]⟩], .string ⟨#[48, 48, 48, 48, 48, 48, 48, 48, 48, 55, 45, 48, 48, 48, 49]⟩⟩, ⟨100, [.string ⟨#[118, 49]⟩, .string ⟨#[118, 49, 47, 48, 48, 48, 48, 48, 48, 48, 48, 48, 55, 45, 48, 48, 48, 48]⟩], .bool false⟩, ⟨100, [.string ⟨#[118, 49, 47, 48, 48, 48, 48, 48, 48, 48, 48, 48, 55, 45, 48, 48, 48, 48]⟩, .string ⟨#[118, 49, 47, 48, 48, 48, 48, 48, 48, 48, 48, 48, 55, 45, 48, 48, 48, 48]⟩], .bool false⟩, ⟨100, [.string ⟨#[118, 49, 47, 48, 48, 48, 48, 48, 48, 48, 48, 48, 55, 45, 48, 48, 48, 49]⟩, .string ⟨#[118, 49, 47, 48, 48, 48, 48, 48, 48, 48, 48, 48, 55, 45, 48, 48, 48, 48]⟩], .bool false⟩, ⟨237, [.string ⟨#[118, 49, 47, 120]⟩], .tuple #[.string ⟨#[118, 49]⟩, .bool true]⟩, ⟨237, [.string ⟨#[118, 49, 47, 48, 48, 48, 48, 48, 48, 48, 48, 48, 49, 45, 48, 48, 48, 48]⟩], .tuple #[.string ⟨#[118, 49]⟩, .bool true]⟩, ⟨238, [.string ⟨#[118, 49, 47, 120]⟩], .string ⟨#[120]⟩⟩, ⟨238, [.string ⟨#[118, 49, 47, 48, 48, 48, 48, 48, 48, 48, 48, 48, 49, 45, 48, 48, 48, 48]⟩], .string ⟨#[48, 48, 48, 48, 48, 48, 48, 48, 48, 49, 45, 48, 48, 48, 48]⟩⟩]
theorem mDL_ok : ∀ m ∈ mDL, Fact Tryz.prog 15 m.f m.args m.v := by
  intro m hm
  simp only [mDL, List.mem_cons, List.not_mem_nil, or_false] at hm
  rcases hm with rfl | rfl | rfl | rfl | rfl | rfl | rfl | rfl | rfl | rfl | rfl | rfl
  · exact mD0
  · exact mD1
  · exact mD2
  · exact mD3
  · exact mD4
  · exact mD5
  · exact mD6
  · exact mD7
  · exact mD8
  · exact mD9
  · exact mD10
  · exact mD11
end Go.Proofs.YtgapaaloalfmfaaGreatDoor
