/- ArchiveKnown() is true, under every tape. -/
import Derived.Test.YtgapaaloalfmfaaGreatDoorSeatKnownP3
import Derived.Test.YtgapaaloalfmfaaGreatDoorSeatKnownP4
import Derived.Test.YtgapaaloalfmfaaGreatDoorSeatKnownP6
import Derived.Test.YtgapaaloalfmfaaGreatDoorSeatKnownP7
import Derived.Test.YtgapaaloalfmfaaGreatDoorSeatKnownP12
import Derived.Test.YtgapaaloalfmfaaGreatDoorSeatKnownP14
import Derived.Test.YtgapaaloalfmfaaGreatDoorSeatKnownP16
import Derived.Test.YtgapaaloalfmfaaGreatDoorSeatKnownP19
import Derived.Test.YtgapaaloalfmfaaGreatDoorSeatKnownP99
set_option linter.unusedVariables false
set_option linter.unusedSimpArgs false
set_option linter.unusedSectionVars false
namespace Go.Proofs.YtgapaaloalfmfaaGreatDoor
open Go Go.Abs
set_option maxRecDepth 100000
theorem c10_body : Tryz.f10.body = some c10 := by
  unfold c10
  have h : Tryz.f10.body.isSome = true := by kernel_rfl
  cases hb : Tryz.f10.body with
  | none => rw [hb] at h; cases h
  | some c => rfl
theorem known_run : ∃ l l', runCode KT hook5 tidy3 1999 c10 pk0 = some l ∧ bindAll l (finish Tryz.prog Tryz.f10) = some l' ∧ allOuts (.bool true) l' = true := by
  have h3 := piece_ok KT hook5 tidy3 pk3_ok (by omega)
  have h4 := piece_ok KT hook5 tidy3 pk4_ok (by omega)
  have h6 := piece_ok KT hook5 tidy3 pk6_ok (by omega)
  have h7 := piece_ok KT hook5 tidy3 pk7_ok (by omega)
  have h12 := piece_ok KT hook5 tidy3 pk12_ok (by omega)
  have h14 := piece_ok KT hook5 tidy3 pk14_ok (by omega)
  have h16 := piece_ok KT hook5 tidy3 pk16_ok (by omega)
  have h19 := piece_ok KT hook5 tidy3 pk19_ok (by omega)
  simp only [dropSeq_add, Nat.reduceAdd, Nat.reduceSub] at h3 h4 h6 h7 h12 h14 h16 h19
  obtain ⟨l, l', h1, h2, hv⟩ := checkEnd_ok KT hook5 tidy3 pk99_ok
  refine ⟨l, l', ?_, h2, hv⟩
  have h0 : dropSeq 0 c10 = c10 := rfl
  rw [h0] at h3
  rw [h3, h4, h6, h7, h12, h14, h16, h19]
  exact h1
theorem archiveKnown_fact : Fact Tryz.prog 15 10 [] (.bool true) := by
  obtain ⟨l, l', h1, h2, hv⟩ := known_run
  refine Fact.of_run call5_ok ?_ ⟨_, Tryz.func10, by kernel_rfl⟩
  have hr : call5 10 [] ⟨15, []⟩ = some (tidy3 10 15 l') := runCall_body KT hook5 tidy3 (by kernel_rfl) Tryz.func10 c10_body (by kernel_rfl) rfl h1 h2
  have ht : tidy3 10 15 l' = l' := rfl
  rw [ht] at hr
  simp only [checkFact, hr, hv]
  rfl
end Go.Proofs.YtgapaaloalfmfaaGreatDoor
