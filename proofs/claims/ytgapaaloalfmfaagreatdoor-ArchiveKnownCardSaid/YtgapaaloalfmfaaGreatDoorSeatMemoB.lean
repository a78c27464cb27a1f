/- Calls whose answers have been evaluated once, by the kernel: under every tape. -/
import Derived.Test.YtgapaaloalfmfaaGreatDoorSeatCall1
set_option linter.unusedVariables false
set_option linter.unusedSimpArgs false
set_option linter.unusedSectionVars false
namespace Go.Proofs.YtgapaaloalfmfaaGreatDoor
open Go Go.Abs
set_option maxRecDepth 100000
theorem mB0 : Fact Tryz.prog 15 110 [.string ⟨#[118, 49]⟩] (.bool true) := Fact.of_run call1_ok (by kernel_rfl) ⟨_, Tryz.func110, by kernel_rfl⟩
theorem mB1 : Fact Tryz.prog 15 110 [.string ⟨#[97, 47, 98]⟩] (.bool true) := Fact.of_run call1_ok (by kernel_rfl) ⟨_, Tryz.func110, by kernel_rfl⟩
theorem mB2 : Fact Tryz.prog 15 110 [.string ⟨#[118, 49, 47, 48, 48, 48, 48, 48, 48, 48, 48, 48, 55, 45, 48, 48, 48, 48]⟩] (.bool true) := Fact.of_run call1_ok (by kernel_rfl) ⟨_, Tryz.func110, by kernel_rfl⟩
theorem mB3 : Fact Tryz.prog 15 110 [.string ⟨#[118, 49, 47, 48, 48, 48, 48, 48, 48, 48, 48, 48, 55, 45, 48, 48, 48, 49]⟩] (.bool true) := Fact.of_run call1_ok (by kernel_rfl) ⟨_, Tryz.func110, by kernel_rfl⟩
theorem mB4 : Fact Tryz.prog 15 110 [.string ⟨#[47]⟩] (.bool false) := Fact.of_run call1_ok (by kernel_rfl) ⟨_, Tryz.func110, by kernel_rfl⟩
theorem mB5 : Fact Tryz.prog 15 110 [.string ⟨#[97]⟩] (.bool true) := Fact.of_run call1_ok (by kernel_rfl) ⟨_, Tryz.func110, by kernel_rfl⟩
theorem mB6 : Fact Tryz.prog 15 118 [.string ⟨#[118, 49]⟩, .string ⟨#[118, 49, 47, 48, 48, 48, 48, 48, 48, 48, 48, 48, 55, 45, 48, 48, 48, 48, 47]⟩] (.bool false) := Fact.of_run call1_ok (by kernel_rfl) ⟨_, Tryz.func118, by kernel_rfl⟩
theorem mB7 : Fact Tryz.prog 15 118 [.string ⟨#[118, 49, 47, 48, 48, 48, 48, 48, 48, 48, 48, 48, 55, 45, 48, 48, 48, 48]⟩, .string ⟨#[118, 49, 47, 48, 48, 48, 48, 48, 48, 48, 48, 48, 55, 45, 48, 48, 48, 48, 47]⟩] (.bool false) := Fact.of_run call1_ok (by kernel_rfl) ⟨_, Tryz.func118, by kernel_rfl⟩
theorem mB8 : Fact Tryz.prog 15 118 [.string ⟨#[118, 49, 47, 48, 48, 48, 48, 48, 48, 48, 48, 48, 55, 45, 48, 48, 48, 49]⟩, .string ⟨#[118, 49, 47, 48, 48, 48, 48, 48, 48, 48, 48, 48, 55, 45, 48, 48, 48, 48, 47]⟩] (.bool false) := Fact.of_run call1_ok (by kernel_rfl) ⟨_, Tryz.func118, by kernel_rfl⟩
theorem mB9 : Fact Tryz.prog 15 110 [.string ⟨#[118, 49, 47, 120]⟩] (.bool true) := Fact.of_run call1_ok (by kernel_rfl) ⟨_, Tryz.func110, by kernel_rfl⟩
theorem mB10 : Fact Tryz.prog 15 110 [.string ⟨#[118, 49, 47, 48, 48, 48, 48, 48, 48, 48, 48, 48, 49, 45, 48, 48, 48, 48]⟩] (.bool true) := Fact.of_run call1_ok (by kernel_rfl) ⟨_, Tryz.func110, by kernel_rfl⟩
def mBL : List Memo := [⟨110, [.string ⟨#[118, 49]⟩], .bool true⟩, ⟨110, [.string ⟨#[97, 47, 98]⟩], .bool true⟩, ⟨110, [.string ⟨#[118, 49, 47, 48, 48, 48, 48, 48, 48, 48, 48, 48, 55, 45, 48, 48, 48, 48]⟩], .bool true⟩, ⟨110, [.string ⟨#[118, 49, 47, 48, 48, 48, 48, 48, 48, 48, 48, 48, 55, 45, 48, 48, 48, 49]⟩], .bool true⟩, ⟨110, [.string ⟨#[47]⟩], .bool false⟩, ⟨110, [.string ⟨#[97]⟩], .bool true⟩, ⟨118, [.string ⟨#[118, 49]⟩, .string ⟨#[118, 49, 47, 48, 48, 48, 48, 48, 48, 48, 48, 48, 55, 45, 48, 48, 48, 48, 47]⟩], .bool false⟩, ⟨118, [.string ⟨#[118, 49, 47, 48, 48, 48, 48, 48, 48, 48, 48, 48, 55, 45, 48, 48, 48, 48]⟩, .string ⟨#[118, 49, 47, 48, 48, 48, 48, 48, 48, 48, 48, 48, 55, 45, 48, 48, 48, 48, 47]⟩], .bool false⟩, ⟨118, [.string ⟨#[118, 49, 47, 48, 48, 48, 48, 48, 48, 48, 48, 48, 55, 45, 48, 48, 48, 49]⟩, .string ⟨#[118, 49, 47, 48, 48, 48, 48, 48, 48, 48, 48, 48, 55, 45, 48, 48, 48, 48, 47]⟩], .bool false⟩, ⟨110, [.string ⟨#[118, 49, 47, 120]⟩], .bool true⟩, ⟨110, [.string ⟨#[118, 49, 47, 48, 48, 48, 48, 48, 48, 48, 48, 48, 49, 45, 48, 48, 48, 48]⟩], .bool true⟩]
theorem mBL_ok : ∀ m ∈ mBL, Fact Tryz.prog 15 m.f m.args m.v := by
  intro m hm
  simp only [mBL, List.mem_cons, List.not_mem_nil, or_false] at hm
  rcases hm with rfl | rfl | rfl | rfl | rfl | rfl | rfl | rfl | rfl | rfl | rfl
  · exact mB0
  · exact mB1
  · exact mB2
  · exact mB3
  · exact mB4
  · exact mB5
  · exact mB6
  · exact mB7
  · exact mB8
  · exact mB9
  · exact mB10
end Go.Proofs.YtgapaaloalfmfaaGreatDoor
