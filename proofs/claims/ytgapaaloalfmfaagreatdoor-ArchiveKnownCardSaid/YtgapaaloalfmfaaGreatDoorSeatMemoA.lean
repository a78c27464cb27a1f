/- Calls whose answers have been evaluated once, by the kernel: under every tape. -/
import Derived.Test.YtgapaaloalfmfaaGreatDoorSeatCall1
set_option linter.unusedVariables false
set_option linter.unusedSimpArgs false
set_option linter.unusedSectionVars false
namespace Go.Proofs.YtgapaaloalfmfaaGreatDoor
open Go Go.Abs
set_option maxRecDepth 100000
theorem mA0 : Fact Tryz.prog 15 192 [.string ⟨#[118, 49]⟩] (.tuple #[.string ⟨#[]⟩, .string ⟨#[118, 49]⟩]) := Fact.of_run call1_ok (by kernel_rfl) ⟨_, Tryz.func192, by kernel_rfl⟩
theorem mA1 : Fact Tryz.prog 15 192 [.string ⟨#[97, 47, 98]⟩] (.tuple #[.string ⟨#[97]⟩, .string ⟨#[98]⟩]) := Fact.of_run call1_ok (by kernel_rfl) ⟨_, Tryz.func192, by kernel_rfl⟩
theorem mA2 : Fact Tryz.prog 15 146 [.int .i64 7, .int .i64 10] (.string ⟨#[48, 48, 48, 48, 48, 48, 48, 48, 48, 55]⟩) := Fact.of_run call1_ok (by kernel_rfl) ⟨_, Tryz.func146, by kernel_rfl⟩
theorem mA3 : Fact Tryz.prog 15 146 [.int .i64 0, .int .i64 4] (.string ⟨#[48, 48, 48, 48]⟩) := Fact.of_run call1_ok (by kernel_rfl) ⟨_, Tryz.func146, by kernel_rfl⟩
theorem mA4 : Fact Tryz.prog 15 192 [.string ⟨#[118, 49, 47, 48, 48, 48, 48, 48, 48, 48, 48, 48, 55, 45, 48, 48, 48, 48]⟩] (.tuple #[.string ⟨#[118, 49]⟩, .string ⟨#[48, 48, 48, 48, 48, 48, 48, 48, 48, 55, 45, 48, 48, 48, 48]⟩]) := Fact.of_run call1_ok (by kernel_rfl) ⟨_, Tryz.func192, by kernel_rfl⟩
theorem mA5 : Fact Tryz.prog 15 146 [.int .i64 1, .int .i64 4] (.string ⟨#[48, 48, 48, 49]⟩) := Fact.of_run call1_ok (by kernel_rfl) ⟨_, Tryz.func146, by kernel_rfl⟩
theorem mA6 : Fact Tryz.prog 15 192 [.string ⟨#[118, 49, 47, 48, 48, 48, 48, 48, 48, 48, 48, 48, 55, 45, 48, 48, 48, 49]⟩] (.tuple #[.string ⟨#[118, 49]⟩, .string ⟨#[48, 48, 48, 48, 48, 48, 48, 48, 48, 55, 45, 48, 48, 48, 49]⟩]) := Fact.of_run call1_ok (by kernel_rfl) ⟨_, Tryz.func192, by kernel_rfl⟩
theorem mA7 : Fact Tryz.prog 15 312 [.string ⟨#[48, 48, 48, 48, 48, 48, 48, 48, 48, 55, 45, 48, 48, 48, 49]⟩, .string ⟨#[48, 48, 48, 48, 48, 48, 48, 48, 48, 55, 45, 48, 48, 48, 48]⟩] (.bool false) := Fact.of_run call1_ok (by kernel_rfl) ⟨_, Tryz.func312, by kernel_rfl⟩
theorem mA8 : Fact Tryz.prog 15 312 [.string ⟨#[48, 48, 48, 48, 48, 48, 48, 48, 48, 55, 45, 48, 48, 48, 48]⟩, .string ⟨#[48, 48, 48, 48, 48, 48, 48, 48, 48, 55, 45, 48, 48, 48, 49]⟩] (.bool true) := Fact.of_run call1_ok (by kernel_rfl) ⟨_, Tryz.func312, by kernel_rfl⟩
theorem mA9 : Fact Tryz.prog 15 135 [.string ⟨#[48, 48, 48, 48, 48, 48, 48, 48, 48, 55, 45, 48, 48, 48, 49]⟩, .string ⟨#[48, 48, 48, 48, 48, 48, 48, 48, 48, 55, 45, 48, 48, 48, 48]⟩] (.int .i64 1) := Fact.of_run call1_ok (by kernel_rfl) ⟨_, Tryz.func135, by kernel_rfl⟩
theorem mA10 : Fact Tryz.prog 15 227 [.int .i64 2] (.agg #[.int .i64 0, .int .i64 0]) := Fact.of_run call1_ok (by kernel_rfl) ⟨_, Tryz.func227, by kernel_rfl⟩
theorem mA11 : Fact Tryz.prog 15 135 [.string ⟨#[50]⟩, .string ⟨#[49]⟩] (.int .i64 1) := Fact.of_run call1_ok (by kernel_rfl) ⟨_, Tryz.func135, by kernel_rfl⟩
theorem mA12 : Fact Tryz.prog 15 135 [.string ⟨#[51]⟩, .string ⟨#[50]⟩] (.int .i64 1) := Fact.of_run call1_ok (by kernel_rfl) ⟨_, Tryz.func135, by kernel_rfl⟩
theorem mA13 : Fact Tryz.prog 15 135 [.string ⟨#[52]⟩, .string ⟨#[51]⟩] (.int .i64 1) := Fact.of_run call1_ok (by kernel_rfl) ⟨_, Tryz.func135, by kernel_rfl⟩
theorem mA14 : Fact Tryz.prog 15 135 [.string ⟨#[53]⟩, .string ⟨#[52]⟩] (.int .i64 1) := Fact.of_run call1_ok (by kernel_rfl) ⟨_, Tryz.func135, by kernel_rfl⟩
theorem mA15 : Fact Tryz.prog 15 227 [.int .i64 200] (.agg #[.int .i64 1, .int .i64 2]) := Fact.of_run call1_ok (by kernel_rfl) ⟨_, Tryz.func227, by kernel_rfl⟩
theorem mA16 : Fact Tryz.prog 15 227 [.int .i64 195] (.agg #[.int .i64 1, .int .i64 1]) := Fact.of_run call1_ok (by kernel_rfl) ⟨_, Tryz.func227, by kernel_rfl⟩
theorem mA17 : Fact Tryz.prog 15 227 [.int .i64 105] (.agg #[.int .i64 1, .int .i64 1]) := Fact.of_run call1_ok (by kernel_rfl) ⟨_, Tryz.func227, by kernel_rfl⟩
theorem mA18 : Fact Tryz.prog 15 227 [.int .i64 50] (.agg #[.int .i64 0, .int .i64 5]) := Fact.of_run call1_ok (by kernel_rfl) ⟨_, Tryz.func227, by kernel_rfl⟩
theorem mA19 : Fact Tryz.prog 15 192 [.string ⟨#[47]⟩] (.tuple #[.string ⟨#[]⟩, .string ⟨#[]⟩]) := Fact.of_run call1_ok (by kernel_rfl) ⟨_, Tryz.func192, by kernel_rfl⟩
theorem mA20 : Fact Tryz.prog 15 192 [.string ⟨#[97]⟩] (.tuple #[.string ⟨#[]⟩, .string ⟨#[97]⟩]) := Fact.of_run call1_ok (by kernel_rfl) ⟨_, Tryz.func192, by kernel_rfl⟩
theorem mA21 : Fact Tryz.prog 15 192 [.string ⟨#[118, 49, 47, 120]⟩] (.tuple #[.string ⟨#[118, 49]⟩, .string ⟨#[120]⟩]) := Fact.of_run call1_ok (by kernel_rfl) ⟨_, Tryz.func192, by kernel_rfl⟩
theorem mA22 : Fact Tryz.prog 15 192 [.string ⟨#[118, 49, 47, 48, 48, 48, 48, 48, 48, 48, 48, 48, 49, 45, 48, 48, 48, 48]⟩] (.tuple #[.string ⟨#[118, 49]⟩, .string ⟨#[48, 48, 48, 48, 48, 48, 48, 48, 48, 49, 45, 48, 48, 48, 48]⟩]) := Fact.of_run call1_ok (by kernel_rfl) ⟨_, Tryz.func192, by kernel_rfl⟩
theorem mA23 : Fact Tryz.prog 15 312 [.string ⟨#[120]⟩, .string ⟨#[48, 48, 48, 48, 48, 48, 48, 48, 48, 55, 45, 48, 48, 48, 49]⟩] (.bool false) := Fact.of_run call1_ok (by kernel_rfl) ⟨_, Tryz.func312, by kernel_rfl⟩
theorem mA24 : Fact Tryz.prog 15 312 [.string ⟨#[48, 48, 48, 48, 48, 48, 48, 48, 48, 49, 45, 48, 48, 48, 48]⟩, .string ⟨#[120]⟩] (.bool true) := Fact.of_run call1_ok (by kernel_rfl) ⟨_, Tryz.func312, by kernel_rfl⟩
theorem mA25 : Fact Tryz.prog 15 312 [.string ⟨#[48, 48, 48, 48, 48, 48, 48, 48, 48, 49, 45, 48, 48, 48, 48]⟩, .string ⟨#[48, 48, 48, 48, 48, 48, 48, 48, 48, 55, 45, 48, 48, 48, 49]⟩] (.bool true) := Fact.of_run call1_ok (by kernel_rfl) ⟨_, Tryz.func312, by kernel_rfl⟩
theorem mA26 : Fact Tryz.prog 15 312 [.string ⟨#[48, 48, 48, 48, 48, 48, 48, 48, 48, 55, 45, 48, 48, 48, 49]⟩, .string ⟨#[120]⟩] (.bool true) := Fact.of_run call1_ok (by kernel_rfl) ⟨_, Tryz.func312, by kernel_rfl⟩
theorem mA27 : Fact Tryz.prog 15 312 [.string ⟨#[48, 48, 48, 48, 48, 48, 48, 48, 48, 55, 45, 48, 48, 48, 49]⟩, .string ⟨#[48, 48, 48, 48, 48, 48, 48, 48, 48, 49, 45, 48, 48, 48, 48]⟩] (.bool false) := Fact.of_run call1_ok (by kernel_rfl) ⟨_, Tryz.func312, by kernel_rfl⟩
theorem mA28 : Fact Tryz.prog 15 312 [.string ⟨#[120]⟩, .string ⟨#[48, 48, 48, 48, 48, 48, 48, 48, 48, 49, 45, 48, 48, 48, 48]⟩] (.bool false) := Fact.of_run call1_ok (by kernel_rfl) ⟨_, Tryz.func312, by kernel_rfl⟩
def mAL : List Memo := [⟨192, [.string ⟨#[118, 49]⟩], .tuple #[.string ⟨#[]⟩, .string ⟨#[118, 49]⟩]⟩, ⟨192, [.string ⟨#[97, 47, 98]⟩], .tuple #[.string ⟨#[97]⟩, .string ⟨#[98]⟩]⟩, ⟨146, [.int .i64 7, .int .i64 10], .string ⟨#[48, 48, 48, 48, 48, 48, 48, 48, 48, 55]⟩⟩, ⟨146, [.int .i64 0, .int .i64 4], .string ⟨#[48, 48, 48, 48]⟩⟩, ⟨192, [.string ⟨#[118, 49, 47, 48, 48, 48, 48, 48, 48, 48, 48, 48, 55, 45, 48, 48, 48, 48]⟩], .tuple #[.string ⟨#[118, 49]⟩, .string ⟨#[48, 48, 48, 48, 48, 48, 48, 48, 48, 55, 45, 48, 48, 48, 48]⟩]⟩, ⟨146, [.int .i64 1, .int .i64 4], .string ⟨#[48, 48, 48, 49]⟩⟩, ⟨192, [.string ⟨#[118, 49, 47, 48, 48, 48, 48, 48, 48, 48, 48, 48, 55, 45, 48, 48, 48, 49]⟩], .tuple #[.string ⟨#[118, 49]⟩, .string ⟨#[48, 48, 48, 48, 48, 48, 48, 48, 48, 55, 45, 48, 48, 48, 49]⟩]⟩, ⟨312, [.string ⟨#[48, 48, 48, 48, 48, 48, 48, 48, 48, 55, 45, 48, 48, 48, 49]⟩, .string ⟨#[48, 48, 48, 48, 48, 48, 48, 48, 48, 55, 45, 48, 48, 48, 48]⟩], .bool false⟩, ⟨312, [.string ⟨#[48, 48, 48, 48, 48, 48, 48, 48, 48, 55, 45, 48, 48, 48, 48]⟩, .string ⟨#[48, 48, 48, 48, 48, 48, 48, 48, 48, 55, 45, 48, 48, 48, 49]⟩], .bool true⟩, ⟨135, [.string ⟨#[48, 48, 48, 48, 48, 48, 48, 48, 48, 55, 45, 48, 48, 48, 49]⟩, .string ⟨#[48, 48, 48, 48, 48, 48, 48, 48, 48, 55, 45, 48, 48, 48, 48]⟩], .int .i64 1⟩, ⟨227, [.int .i64 2], .agg #[.int .i64 0, .int .i64 0]⟩, ⟨135, [.string ⟨#[50]⟩, .string ⟨#[49]⟩], .int .i64 1⟩, ⟨135, [.string ⟨#[51]⟩, .string ⟨#[50]⟩], .int .i64 1⟩, ⟨135, [.string ⟨#[52]⟩, .string ⟨#[51]⟩], .int .i64 1⟩, ⟨135, [.string ⟨#[53]⟩, .string ⟨#[52]⟩], .int .i64 1⟩, ⟨227, [.int .i64 200], .agg #[.int .i64 1, .int .i64 2]⟩, ⟨227, [.int .i64 195], .agg #[.int .i64 1, .int .i64 1]⟩, ⟨227, [.int .i64 105], .agg #[.int .i64 1, .int .i64 1]⟩, ⟨227, [.int .i64 50], .agg #[.int .i64 0, .int .i64 5]⟩, ⟨192, [.string ⟨#[47]⟩], .tuple #[.string ⟨#[]⟩, .string ⟨#[]⟩]⟩, ⟨192, [.string ⟨#[97]⟩], .tuple #[.string ⟨#[]⟩, .string ⟨#[97]⟩]⟩, ⟨192, [.string ⟨#[118, 49, 47, 120]⟩], .tuple #[.string ⟨#[118, 49]⟩, .string ⟨#[120]⟩]⟩, ⟨192, [.string ⟨#[118, 49, 47, 48, 48, 48, 48, 48, 48, 48, 48, 48, 49, 45, 48, 48, 48, 48]⟩], .tuple #[.string ⟨#[118, 49]⟩, .string ⟨#[48, 48, 48, 48, 48, 48, 48, 48, 48, 49, 45, 48, 48, 48, 48]⟩]⟩, ⟨312, [.string ⟨#[120]⟩, .string ⟨#[48, 48, 48, 48, 48, 48, 48, 48, 48, 55, 45, 48, 48, 48, 49]⟩], .bool false⟩, ⟨312, [.string ⟨#[48, 48, 48, 48, 48, 48, 48, 48, 48, 49, 45, 48, 48, 48, 48]⟩, .string ⟨#[120]⟩], .bool true⟩, ⟨312, [.string ⟨#[48, 48, 48, 48, 48, 48, 48, 48, 48, 49, 45, 48, 48, 48, 48]⟩, .string ⟨#[48, 48, 48, 48, 48, 48, 48, 48, 48, 55, 45, 48, 48, 48, 49]⟩], .bool true⟩, ⟨312, [.string ⟨#[48, 48, 48, 48, 48, 48, 48, 48, 48, 55, 45, 48, 48, 48, 49]⟩, .string ⟨#[120]⟩], .bool true⟩, ⟨312, [.string ⟨#[48, 48, 48, 48, 48, 48, 48, 48, 48, 55, 45, 48, 48, 48, 49]⟩, .string ⟨#[48, 48, 48, 48, 48, 48, 48, 48, 48, 49, 45, 48, 48, 48, 48]⟩], .bool false⟩, ⟨312, [.string ⟨#[120]⟩, .string ⟨#[48, 48, 48, 48, 48, 48, 48, 48, 48, 49, 45, 48, 48, 48, 48]⟩], .bool false⟩]
theorem mAL_ok : ∀ m ∈ mAL, Fact Tryz.prog 15 m.f m.args m.v := by
  intro m hm
  simp only [mAL, List.mem_cons, List.not_mem_nil, or_false] at hm
  rcases hm with rfl | rfl | rfl | rfl | rfl | rfl | rfl | rfl | rfl | rfl | rfl | rfl | rfl | rfl | rfl | rfl | rfl | rfl | rfl | rfl | rfl | rfl | rfl | rfl | rfl | rfl | rfl | rfl | rfl
  · exact mA0
  · exact mA1
  · exact mA2
  · exact mA3
  · exact mA4
  · exact mA5
  · exact mA6
  · exact mA7
  · exact mA8
  · exact mA9
  · exact mA10
  · exact mA11
  · exact mA12
  · exact mA13
  · exact mA14
  · exact mA15
  · exact mA16
  · exact mA17
  · exact mA18
  · exact mA19
  · exact mA20
  · exact mA21
  · exact mA22
  · exact mA23
  · exact mA24
  · exact mA25
  · exact mA26
  · exact mA27
  · exact mA28
end Go.Proofs.YtgapaaloalfmfaaGreatDoor
