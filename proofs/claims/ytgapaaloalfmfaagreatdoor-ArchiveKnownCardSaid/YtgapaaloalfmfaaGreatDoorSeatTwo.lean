/- two(): what it leaves, under every tape. -/
import Derived.Test.YtgapaaloalfmfaaGreatDoorSeatCall3
import Derived.Test.YtgapaaloalfmfaaGreatDoorEngShift
set_option linter.unusedVariables false
set_option linter.unusedSimpArgs false
set_option linter.unusedSectionVars false
namespace Go.Proofs.YtgapaaloalfmfaaGreatDoor
open Go Go.Abs
set_option maxRecDepth 100000
def twoL : List Out := [(.pointer (some ⟨19, 0, none⟩), ⟨82, [(73, .cells [.int .i64 3] 2 .own),
    (72, .cells [.string ⟨#[0, 3, 97, 47, 98, 120, 121]⟩] 9 .own),
    (71, .cells [.string ⟨#[118, 49, 47, 48, 48, 48, 48, 48, 48, 48, 48, 48, 55, 45, 48, 48, 48, 49]⟩] 9 .own),
    (45, .cells [.int .i64 3] 2 .own),
    (44, .cells [.string ⟨#[0, 3, 97, 47, 98, 120, 121]⟩] 9 .own),
    (43, .cells [.string ⟨#[118, 49, 47, 48, 48, 48, 48, 48, 48, 48, 48, 48, 55, 45, 48, 48, 48, 48]⟩] 9 .own),
    (25, .cells [.string ⟨#[118, 49]⟩] 9 .own),
    (17, .map [] 0),
    (15, .map [⟨.string ⟨#[118, 49]⟩, .agg #[.int .i64 2, .string ⟨#[]⟩, .string ⟨#[]⟩, .int .i64 0], 0⟩, ⟨.string ⟨#[118, 49, 47, 48, 48, 48, 48, 48, 48, 48, 48, 48, 55, 45, 48, 48, 48, 48]⟩, .agg #[.int .i64 1, .string ⟨#[0, 3, 97, 47, 98, 120, 121]⟩, .string ⟨#[]⟩, .int .i64 3], 1⟩, ⟨.string ⟨#[118, 49, 47, 48, 48, 48, 48, 48, 48, 48, 48, 48, 55, 45, 48, 48, 48, 49]⟩, .agg #[.int .i64 1, .string ⟨#[0, 3, 97, 47, 98, 120, 121]⟩, .string ⟨#[]⟩, .int .i64 3], 2⟩] 3),
    (81, .cells [.func (.func 164) #[] #[.pointer (some ⟨25, 0, none⟩)], .func (.func 151) #[] #[.pointer (some ⟨43, 0, none⟩), .pointer (some ⟨44, 0, none⟩), .pointer (some ⟨45, 0, none⟩)], .func (.func 151) #[] #[.pointer (some ⟨71, 0, none⟩), .pointer (some ⟨72, 0, none⟩), .pointer (some ⟨73, 0, none⟩)]] 302 .opn),
    (18, .cells [.map (some 17), .int .i64 0, .int .i64 16384] 238 .own),
    (16, .cells [.map (some 15), .int .i64 206, .int .i64 16384] 238 .own),
    (19, .cells [.pointer (some ⟨16, 0, none⟩), .pointer (some ⟨18, 0, none⟩), .slice (some ⟨81, 0, none⟩) 3 3, .bool false, .int .i64 (-3)] 242 .own)]⟩)]

theorem two_fact : FactB Tryz.prog 15 54 [] twoL := FactB.of_check call3_ok (by kernel_rfl) ⟨_, Tryz.func54, by kernel_rfl⟩
def memoB4 : List MemoB := [⟨54, [], twoL⟩]
theorem memoB4_ok : ∀ m ∈ memoB4, FactB Tryz.prog 15 m.f m.args m.l := by
  intro m hm
  simp only [memoB4, List.mem_singleton] at hm
  subst hm
  exact two_fact
def hook4 : CallF := orHook (memoBHook 15 memoB4) hook3
theorem hook4_ok : CallsOk Tryz.prog 15 hook4 := orHook_ok (memoBHook_ok memoB4_ok) hook3_ok
noncomputable def call4 : CallF := runCall KT hook4 tidy3 2000
theorem call4_ok : CallsOk Tryz.prog 15 call4 := (runCode_ok KT _ tidy3 rfl KT_ok hook4_ok (tidyOf_ok _ _) 2000).2.2
end Go.Proofs.YtgapaaloalfmfaaGreatDoor
