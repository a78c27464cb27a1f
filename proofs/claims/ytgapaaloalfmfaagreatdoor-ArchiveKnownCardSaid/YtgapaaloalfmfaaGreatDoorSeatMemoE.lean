/- Calls whose answers have been evaluated once, by the kernel: under every tape. -/
import Derived.Test.YtgapaaloalfmfaaGreatDoorSeatCall2
set_option linter.unusedVariables false
set_option linter.unusedSimpArgs false
set_option linter.unusedSectionVars false
namespace Go.Proofs.YtgapaaloalfmfaaGreatDoor
open Go Go.Abs
set_option maxRecDepth 100000
theorem mE0 : Fact Tryz.prog 15 149 [.agg #[.int .i64 1, .string ⟨#[0, 3, 97, 47, 98, 120, 121]⟩, .string ⟨#[]⟩, .int .i64 3]] (.tuple #[.string ⟨#[97, 47, 98]⟩, .agg #[.int .i64 1, .string ⟨#[120, 121]⟩, .string ⟨#[]⟩, .int .i64 3], .bool true]) := Fact.of_run call2_ok (by kernel_rfl) ⟨_, Tryz.func149, by kernel_rfl⟩
theorem mE1 : Fact Tryz.prog 15 226 [.agg #[.string ⟨#[48, 48, 48, 48, 48, 48, 48, 48, 48, 55, 45, 48, 48, 48, 48]⟩, .string ⟨#[97, 47, 98]⟩, .int .i64 7, .int .i64 2], .int .i64 9] (.int .i64 2) := Fact.of_run call2_ok (by kernel_rfl) ⟨_, Tryz.func226, by kernel_rfl⟩
theorem mE2 : Fact Tryz.prog 15 226 [.agg #[.string ⟨#[49]⟩, .string ⟨#[97]⟩, .int .i64 0, .int .i64 0], .int .i64 200] (.int .i64 200) := Fact.of_run call2_ok (by kernel_rfl) ⟨_, Tryz.func226, by kernel_rfl⟩
theorem mE3 : Fact Tryz.prog 15 226 [.agg #[.string ⟨#[50]⟩, .string ⟨#[97]⟩, .int .i64 5, .int .i64 0], .int .i64 200] (.int .i64 195) := Fact.of_run call2_ok (by kernel_rfl) ⟨_, Tryz.func226, by kernel_rfl⟩
theorem mE4 : Fact Tryz.prog 15 226 [.agg #[.string ⟨#[51]⟩, .string ⟨#[97]⟩, .int .i64 95, .int .i64 0], .int .i64 200] (.int .i64 105) := Fact.of_run call2_ok (by kernel_rfl) ⟨_, Tryz.func226, by kernel_rfl⟩
theorem mE5 : Fact Tryz.prog 15 226 [.agg #[.string ⟨#[52]⟩, .string ⟨#[97]⟩, .int .i64 150, .int .i64 0], .int .i64 200] (.int .i64 50) := Fact.of_run call2_ok (by kernel_rfl) ⟨_, Tryz.func226, by kernel_rfl⟩
theorem mE6 : Fact Tryz.prog 15 149 [.agg #[.int .i64 1, .string ⟨#[]⟩, .string ⟨#[]⟩, .int .i64 1]] (.tuple #[.string ⟨#[]⟩, .agg #[.int .i64 0, .string ⟨#[]⟩, .string ⟨#[]⟩, .int .i64 0], .bool false]) := Fact.of_run call2_ok (by kernel_rfl) ⟨_, Tryz.func149, by kernel_rfl⟩
theorem mE7 : Fact Tryz.prog 15 149 [.agg #[.int .i64 1, .string ⟨#[0, 1, 47, 98]⟩, .string ⟨#[]⟩, .int .i64 1]] (.tuple #[.string ⟨#[]⟩, .agg #[.int .i64 0, .string ⟨#[]⟩, .string ⟨#[]⟩, .int .i64 0], .bool false]) := Fact.of_run call2_ok (by kernel_rfl) ⟨_, Tryz.func149, by kernel_rfl⟩
def mEL : List Memo := [⟨149, [.agg #[.int .i64 1, .string ⟨#[0, 3, 97, 47, 98, 120, 121]⟩, .string ⟨#[]⟩, .int .i64 3]], .tuple #[.string ⟨#[97, 47, 98]⟩, .agg #[.int .i64 1, .string ⟨#[120, 121]⟩, .string ⟨#[]⟩, .int .i64 3], .bool true]⟩, ⟨226, [.agg #[.string ⟨#[48, 48, 48, 48, 48, 48, 48, 48, 48, 55, 45, 48, 48, 48, 48]⟩, .string ⟨#[97, 47, 98]⟩, .int .i64 7, .int .i64 2], .int .i64 9], .int .i64 2⟩, ⟨226, [.agg #[.string ⟨#[49]⟩, .string ⟨#[97]⟩, .int .i64 0, .int .i64 0], .int .i64 200], .int .i64 200⟩, ⟨226, [.agg #[.string ⟨#[50]⟩, .string ⟨#[97]⟩, .int .i64 5, .int .i64 0], .int .i64 200], .int .i64 195⟩, ⟨226, [.agg #[.string ⟨#[51]⟩, .string ⟨#[97]⟩, .int .i64 95, .int .i64 0], .int .i64 200], .int .i64 105⟩, ⟨226, [.agg #[.string ⟨#[52]⟩, .string ⟨#[97]⟩, .int .i64 150, .int .i64 0], .int .i64 200], .int .i64 50⟩, ⟨149, [.agg #[.int .i64 1, .string ⟨#[]⟩, .string ⟨#[]⟩, .int .i64 1]], .tuple #[.string ⟨#[]⟩, .agg #[.int .i64 0, .string ⟨#[]⟩, .string ⟨#[]⟩, .int .i64 0], .bool false]⟩, ⟨149, [.agg #[.int .i64 1, .string ⟨#[0, 1, 47, 98]⟩, .string ⟨#[]⟩, .int .i64 1]], .tuple #[.string ⟨#[]⟩, .agg #[.int .i64 0, .string ⟨#[]⟩, .string ⟨#[]⟩, .int .i64 0], .bool false]⟩]
theorem mEL_ok : ∀ m ∈ mEL, Fact Tryz.prog 15 m.f m.args m.v := by
  intro m hm
  simp only [mEL, List.mem_cons, List.not_mem_nil, or_false] at hm
  rcases hm with rfl | rfl | rfl | rfl | rfl | rfl | rfl | rfl
  · exact mE0
  · exact mE1
  · exact mE2
  · exact mE3
  · exact mE4
  · exact mE5
  · exact mE6
  · exact mE7
end Go.Proofs.YtgapaaloalfmfaaGreatDoor
