/- What has been evaluated once serves at every heap. -/
import Derived.Test.YtgapaaloalfmfaaGreatDoorEngRun2
set_option linter.unusedVariables false
set_option linter.unusedSimpArgs false
set_option linter.unusedSectionVars false
namespace Go.Abs
open Go.RowKit

section
variable {P : Program} {G : Nat}

/-- A call with such arguments answers so, whatever the world; nothing that stands there turns. -/
structure Fact (P : Program) (G : Nat) (f : FuncId) (args : List Value) (v : Value) : Prop where
  fn : ∃ fn, P.funcs[f]? = some fn ∧ fn.body.isSome = true
  run : ∀ w : World, G ≤ w.heap.size → Calls P f ⟨args⟩ w fun e w' => e = .returned v ∧ Below w.heap.size w w'
  la : vltL 0 args = true
  lv : vlt 0 v = true

/-- Nothing is known but the first blocks. -/
theorem R.none (w : World) (h : G ≤ w.heap.size) : R P G ⟨id, fun _ => 0⟩ ⟨G, []⟩ w :=
  { has := fun b o h => by simp [AHeap.get, look] at h
    inj := fun b b' o o' h => by simp [AHeap.get, look] at h
    lt := fun b o h => by simp [AHeap.get, look] at h
    olt := fun b o h => by simp [AHeap.get, look] at h
    size := h
    gnext := Nat.le_refl _
    glob := fun _ _ => rfl }

def allOuts (v : Value) : List Out → Bool
  | [] => true
  | x :: r => sameV v x.1 && allOuts v r
theorem allOuts_mem {v : Value} : ∀ {l : List Out}, allOuts v l = true → ∀ x ∈ l, x.1 = v
  | y :: r, h, x, hx => by
      simp only [allOuts, Bool.and_eq_true] at h
      rcases List.mem_cons.1 hx with rfl | hx
      · exact (sameV_eq h.1).symm
      · exact allOuts_mem h.2 x hx

theorem mapConc_pure (σ : Ren) : ∀ {args : List Value}, vltL 0 args = true → args.map (conc σ) = args
  | [], _ => rfl
  | v :: r, h => by
      simp only [vltL, Bool.and_eq_true] at h
      rw [List.map_cons, conc_pure σ v h.1, mapConc_pure σ h.2]

def checkFact (call : CallF) (G : Nat) (f : FuncId) (args : List Value) (v : Value) : Bool :=
  vltL 0 args && vlt 0 v && (match call f args ⟨G, []⟩ with | some l => allOuts v l | none => false)

theorem Fact.of_run {call : CallF} (hc : CallsOk P G call) {f : FuncId} {args : List Value} {v : Value} (h : checkFact call G f args v = true)
    (hfn : ∃ fn, P.funcs[f]? = some fn ∧ fn.body.isSome = true) : Fact P G f args v := by
  simp only [checkFact, Bool.and_eq_true] at h
  obtain ⟨⟨h1, h2⟩, h3⟩ := h
  split at h3
  case h_2 => cases h3
  rename_i l hl
  refine ⟨hfn, ?_, h1, h2⟩
  intro w hw
  have hargs : ∀ u ∈ args, vlt G u = true := fun u hu => vlt_mono (Nat.zero_le _) u ((vltL_iff _ _).1 h1 u hu)
  have := (hc f args _ l hl _ w (R.none w hw) hargs).2
  rw [mapConc_pure _ h1] at this
  refine this.mono ?_
  rintro e w' ⟨u, H', σ', hm, rfl, hR, hE, _⟩
  obtain rfl := allOuts_mem h3 _ hm
  refine ⟨by rw [conc_pure σ' _ h2], ?_⟩
  exact ⟨hE.os, hE.tape, hE.output, hE.size, fun r hr => hE.frame r hr (fun b o hb => by simp [AHeap.get, look] at hb)⟩

/-- What is known lasts, where nothing turns. -/
theorem R.below {σ : Ren} {H : AHeap} {w w' : World} (hR : R P G σ H w) (hB : Below w.heap.size w w') : R P G σ H w' := by
  refine ⟨?_, hR.inj, hR.lt, hR.olt, Nat.le_trans hR.size hB.size, hR.gnext, hR.glob⟩
  intro b o hb
  obtain ⟨co, h1, h2⟩ := hR.has b o hb
  have hlt : σ.ρ b < w.heap.size := (Array.getElem?_eq_some_iff.1 h1).1
  exact ⟨co, by rw [hB.block _ hlt]; exact h1, h2⟩
theorem Ext.below {σ : Ren} {H : AHeap} {w w' : World} (hR : R P G σ H w) (hB : Below w.heap.size w w') : Ext σ H w σ H w' :=
  ⟨Nat.le_refl _, .refl _ _, hB.size, hB.os, hB.tape, hB.output, fun r hr _ => hB.block r hr, fun b o h _ => ⟨o, h, rfl⟩, fun b o h hb => by have := hR.lt b o h; omega⟩

structure Memo where
  f : FuncId
  args : List Value
  v : Value

def memoHook : List Memo → CallF
  | [], _, _, _ => none
  | m :: r, f, args, H => bif Nat.beq m.f f && sameL m.args args then some [(m.v, H)] else memoHook r f args H

theorem memoHook_ok : ∀ {l : List Memo}, (∀ m ∈ l, Fact P G m.f m.args m.v) → CallsOk P G (memoHook l)
  | [], _, _, _, _, _, h => by cases h
  | m :: r, hl, f, args, H, l', h => by
      unfold memoHook at h
      cases hs : (Nat.beq m.f f && sameL m.args args) with
      | false =>
        rw [hs, cond_false] at h
        exact memoHook_ok (fun m hm => hl m (List.mem_cons_of_mem _ hm)) f args H l' h
      | true =>
        rw [hs, cond_true] at h
        simp only [Option.some.injEq] at h; subst h
        simp only [Bool.and_eq_true] at hs
        obtain rfl := Nat.eq_of_beq_eq_true hs.1
        obtain rfl := sameL_eq hs.2
        have F := hl m (by simp)
        intro σ w hR hargs
        refine ⟨F.fn, ?_⟩
        rw [mapConc_pure σ F.la]
        refine (F.run w hR.size).mono ?_
        rintro e w' ⟨rfl, hB⟩
        exact ⟨m.v, H, σ, by simp, by rw [conc_pure σ _ F.lv], hR.below hB, .below hR hB, vlt_mono (Nat.zero_le _) _ F.lv⟩

/-- One hook, then another. -/
def orHook (a b : CallF) : CallF := fun f args H => match a f args H with | some l => some l | none => b f args H
theorem orHook_ok {a b : CallF} (ha : CallsOk P G a) (hb : CallsOk P G b) : CallsOk P G (orHook a b) := by
  intro f args H l h
  unfold orHook at h
  split at h
  · rename_i l' hl'
    simp only [Option.some.injEq] at h; subst h
    exact ha f args H _ hl'
  · exact hb f args H l h

end
end Go.Abs
