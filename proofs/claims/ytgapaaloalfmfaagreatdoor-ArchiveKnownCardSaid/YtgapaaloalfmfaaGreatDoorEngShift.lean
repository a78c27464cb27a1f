/- What has been evaluated where nothing was known serves at every heap: the numbers of its blocks move up. -/
import Derived.Test.YtgapaaloalfmfaaGreatDoorEngMemo
set_option linter.unusedVariables false
set_option linter.unusedSimpArgs false
set_option linter.unusedSectionVars false
namespace Go.Abs
open Go.RowKit

/-- Numbers from G on move up by d. -/
def shB (G d b : Nat) : Nat := bif Nat.blt b G then b else b + d
def shAd (G d : Nat) (a : Addr) : Addr := ⟨shB G d a.block, a.off, a.spot⟩
def shFn (G d : Nat) : Fn → Fn
  | .yield l => .yield (shB G d l)
  | f => f
mutual
def shV (G d : Nat) : Value → Value
  | .pointer (some a) => .pointer (some (shAd G d a))
  | .slice (some a) l c => .slice (some (shAd G d a)) l c
  | .map (some r) => .map (some (shB G d r))
  | .chan (some r) => .chan (some (shB G d r))
  | .func fn f c => .func (shFn G d fn) (shA G d f) (shA G d c)
  | .iface t v => .iface t (shV G d v)
  | .agg cs => .agg (shA G d cs)
  | .tuple vs => .tuple (shA G d vs)
  | v => v
def shA (G d : Nat) : Array Value → Array Value
  | ⟨l⟩ => ⟨shL G d l⟩
def shL (G d : Nat) : List Value → List Value
  | [] => []
  | v :: r => shV G d v :: shL G d r
end
def shE (G d : Nat) (e : MapEntry) : MapEntry := ⟨shV G d e.key, shV G d e.val, e.born⟩
def shO (G d : Nat) : AObj → AObj
  | .cells c e m => .cells (shL G d c) e m
  | .map es t => .map (es.map (shE G d)) t
  | .mapIter m a l b => .mapIter (m.map (shB G d)) a l b
  | .strIter s p => .strIter s p
  | .view o c e => .view o (shL G d c) e
def shT (G d : Nat) : List (Nat × AObj) → List (Nat × AObj)
  | [] => []
  | (k, o) :: r => bif Nat.blt k G then shT G d r else (k + d, shO G d o) :: shT G d r

/-- The renaming that knows both: below n the elder one, above the other one. -/
def glue (n d : Nat) (σ σ' : Ren) : Ren := ⟨fun b => if b < n then σ.ρ b else σ'.ρ (b - d), fun b => if b < n then σ.κ b else σ'.κ (b - d)⟩

section
variable {G n d m : Nat} {σ σ' : Ren}

structure Glued (G n d : Nat) (σ σ' : Ren) : Prop where
  nd : n = G + d
  rho : ∀ b, b < G → σ'.ρ b = σ.ρ b
  kap : ∀ b, b < G → σ'.κ b = σ.κ b

theorem glue_b (h : Glued G n d σ σ') (b : Nat) : (glue n d σ σ').ρ (shB G d b) = σ'.ρ b ∧ (glue n d σ σ').κ (shB G d b) = σ'.κ b := by
  have hn := h.nd
  unfold shB glue
  by_cases hb : b < G
  · have : Nat.blt b G = true := by rw [Nat.blt_eq]; exact hb
    rw [this, cond_true]
    simp only [if_pos (show b < n by omega)]
    exact ⟨(h.rho b hb).symm, (h.kap b hb).symm⟩
  · have : Nat.blt b G = false := by rw [← Bool.not_eq_true, Nat.blt_eq]; exact hb
    rw [this, cond_false]
    simp [if_neg (show ¬ b + d < n by omega), Nat.add_sub_cancel]

mutual
theorem conc_sh (h : Glued G n d σ σ') : ∀ v, conc (glue n d σ σ') (shV G d v) = conc σ' v
  | .bool _ => rfl
  | .int _ _ => rfl
  | .float _ _ => rfl
  | .complex _ _ _ => rfl
  | .string _ => rfl
  | .pointer none => rfl
  | .pointer (some a) => by simp only [shV, conc, renA, shAd, (glue_b h a.block).1]
  | .slice none _ _ => rfl
  | .slice (some a) l c => by
      simp only [shV, conc, shAd, exK, (glue_b h a.block).1, (glue_b h a.block).2]
  | .map none => rfl
  | .map (some r) => by simp only [shV, conc, (glue_b h r).1]
  | .chan none => rfl
  | .chan (some r) => by simp only [shV, conc, (glue_b h r).1]
  | .func fn f c => by
      have hfn : concFn (glue n d σ σ') (shFn G d fn) = concFn σ' fn := by
        cases fn <;> simp [shFn, concFn, (glue_b h _).1]
      simp only [shV, conc, hfn, concA_sh h f, concA_sh h c]
  | .nilFunc => rfl
  | .iface t v => by simp only [shV, conc, conc_sh h v]
  | .nilIface => rfl
  | .agg cs => by simp only [shV, conc, concA_sh h cs]
  | .tuple vs => by simp only [shV, conc, concA_sh h vs]
theorem concA_sh (h : Glued G n d σ σ') : ∀ a, concA (glue n d σ σ') (shA G d a) = concA σ' a
  | ⟨l⟩ => by simp only [shA, concA, concL_sh h l]
theorem concL_sh (h : Glued G n d σ σ') : ∀ l, concL (glue n d σ σ') (shL G d l) = concL σ' l
  | [] => rfl
  | v :: r => by simp only [shL, concL, conc_sh h v, concL_sh h r]
end

theorem shB_lt {b : Nat} (hb : b < m) : shB G d b < m + d := by
  unfold shB
  cases Nat.blt b G with
  | true => rw [cond_true]; omega
  | false => rw [cond_false]; omega
mutual
theorem vlt_sh : ∀ v, vlt m v = true → vlt (m + d) (shV G d v) = true
  | .bool _, _ => rfl
  | .int _ _, _ => rfl
  | .float _ _, _ => rfl
  | .complex _ _ _, _ => rfl
  | .string _, _ => rfl
  | .pointer none, _ => rfl
  | .pointer (some a), h => by simp only [vlt, shV, shAd, Nat.blt_eq] at h ⊢; exact shB_lt h
  | .slice none _ _, _ => rfl
  | .slice (some a) l c, h => by simp only [vlt, shV, shAd, Nat.blt_eq] at h ⊢; exact shB_lt h
  | .map none, _ => rfl
  | .map (some r), h => by simp only [vlt, shV, Nat.blt_eq] at h ⊢; exact shB_lt h
  | .chan none, _ => rfl
  | .chan (some r), h => by simp only [vlt, shV, Nat.blt_eq] at h ⊢; exact shB_lt h
  | .func fn f c, h => by
      simp only [vlt, shV, Bool.and_eq_true] at h ⊢
      refine ⟨⟨?_, vltA_sh f h.1.2⟩, vltA_sh c h.2⟩
      have h1 := h.1.1
      cases fn with
      | yield l => simp only [shFn, ltFn, Nat.blt_eq] at h1 ⊢; exact shB_lt h1
      | _ => exact h1
  | .nilFunc, _ => rfl
  | .iface t v, h => by simp only [vlt, shV] at h ⊢; exact vlt_sh v h
  | .nilIface, _ => rfl
  | .agg cs, h => by simp only [vlt, shV] at h ⊢; exact vltA_sh cs h
  | .tuple vs, h => by simp only [vlt, shV] at h ⊢; exact vltA_sh vs h
theorem vltA_sh : ∀ a, vltA m a = true → vltA (m + d) (shA G d a) = true
  | ⟨l⟩, h => by simp only [vltA, shA] at h ⊢; exact vltL_sh l h
theorem vltL_sh : ∀ l, vltL m l = true → vltL (m + d) (shL G d l) = true
  | [], _ => rfl
  | v :: r, h => by simp only [vltL, shL, Bool.and_eq_true] at h ⊢; exact ⟨vlt_sh v h.1, vltL_sh r h.2⟩
end

theorem shL_map : ∀ l, shL G d l = l.map (shV G d)
  | [] => rfl
  | v :: r => by rw [shL, shL_map r]; rfl

theorem shO_lt {o : AObj} (h : o.lt m) : (shO G d o).lt (m + d) := by
  cases o with
  | cells c e md =>
    intro v hv
    rw [shL_map] at hv
    obtain ⟨u, hu, rfl⟩ := List.mem_map.1 hv
    exact vlt_sh u (h u hu)
  | map es t =>
    intro e he
    obtain ⟨u, hu, rfl⟩ := List.mem_map.1 he
    have := h u hu
    simp only [ltE, shE, Bool.and_eq_true] at this ⊢
    exact ⟨vlt_sh _ this.1, vlt_sh _ this.2⟩
  | mapIter r a l b =>
    intro x hx
    cases r with
    | none => cases hx
    | some r =>
      simp only [Option.map_some, Option.some.injEq] at hx
      subst hx
      exact shB_lt (h r rfl)
  | strIter _ _ => trivial
  | view o c e =>
    intro v hv
    rw [shL_map] at hv
    obtain ⟨u, hu, rfl⟩ := List.mem_map.1 hv
    exact vlt_sh u (h u hu)

theorem rel_sh {P : Program} (h : Glued G n d σ σ') {k : Nat} {o : AObj} {co : Obj} (hr : rel P σ' k o co) : rel P (glue n d σ σ') k (shO G d o) co := by
  cases o with
  | cells c e md =>
    obtain ⟨ext, fr, h1, h2, h3, h4⟩ := hr
    have hm : (shL G d c).map (conc (glue n d σ σ')) = c.map (conc σ') := by
      rw [shL_map, List.map_map]
      exact List.map_congr_left fun v _ => conc_sh h v
    have hl : (shL G d c).length = c.length := by rw [shL_map, List.length_map]
    exact ⟨ext, fr, by rw [hm]; exact h1, by rw [hl]; exact h2, h3, h4⟩
  | map es t =>
    simp only [rel, shO] at hr ⊢
    rw [hr, List.map_map]
    congr 2
    exact List.map_congr_left fun e _ => by simp [concE, shE, conc_sh h]
  | mapIter r a l b =>
    simp only [rel, shO] at hr ⊢
    rw [hr]
    cases r with
    | none => rfl
    | some r => simp [(glue_b h r).1]
  | strIter _ _ => exact hr
  | view o c e =>
    obtain ⟨⟨cells, fr, h1, h2⟩, h3⟩ := hr
    refine ⟨⟨cells, fr, h1, ?_⟩, h3⟩
    intro i v hv
    rw [shL_map, List.getElem?_map] at hv
    obtain ⟨u, hu, rfl⟩ := Option.map_eq_some_iff.1 hv
    rw [h2 i u hu, conc_sh h]

theorem shO_ro (o : AObj) : (shO G d o).ro = o.ro := by
  cases o with
  | cells c e md => cases md <;> rfl
  | _ => rfl

theorem look_app (b : Nat) : ∀ (t u : List (Nat × AObj)), look (t ++ u) b = match look t b with | some o => some o | none => look u b
  | [], u => rfl
  | (k, x) :: r, u => by
      rw [List.cons_append, look_cons, look_cons]
      by_cases hb : b = k
      · rw [if_pos hb, if_pos hb]
      · rw [if_neg hb, if_neg hb]; exact look_app b r u

theorem look_shT (hn : n = G + d) (b : Nat) : ∀ t, look (shT G d t) b = if b < n then none else (look t (b - d)).map (shO G d)
  | [] => by simp [shT, look]
  | (k, x) :: r => by
      have ih := look_shT hn b r
      unfold shT
      by_cases hk : k < G
      · have : Nat.blt k G = true := by rw [Nat.blt_eq]; exact hk
        rw [this, cond_true, ih, look_cons]
        by_cases hb : b < n
        · rw [if_pos hb, if_pos hb]
        · rw [if_neg hb, if_neg hb, if_neg (by omega)]
      · have : Nat.blt k G = false := by rw [← Bool.not_eq_true, Nat.blt_eq]; exact hk
        rw [this, cond_false, look_cons, look_cons, ih]
        by_cases hb : b < n
        · rw [if_pos hb, if_neg (by omega), if_pos hb]
        · rw [if_neg hb]
          by_cases he : b = k + d
          · have hbd : b - d = k := by omega
            rw [if_pos he, if_pos hbd]; simp [hb]
          · have hbd : ¬ b - d = k := by omega
            rw [if_neg he, if_neg hbd]
            simp [hb]
end

section
variable {P : Program} {G : Nat}

/-- An outcome, at another heap. -/
def moved (G : Nat) (H : AHeap) (x : Out) : Out :=
  let d := H.next - G
  (shV G d x.1, ⟨x.2.next + d, shT G d x.2.tab ++ H.tab⟩)

/-- Calls with such arguments have these outcomes, where nothing is known. -/
structure FactB (P : Program) (G : Nat) (f : FuncId) (args : List Value) (l : List Out) : Prop where
  fn : ∃ fn, P.funcs[f]? = some fn ∧ fn.body.isSome = true
  run : ∀ σ w, R P G σ ⟨G, []⟩ w → Calls P f ⟨args⟩ w fun e w' => ∃ v H' σ', (v, H') ∈ l ∧ e = .returned (conc σ' v) ∧ R P G σ' H' w' ∧ Ext σ ⟨G, []⟩ w σ' H' w' ∧ vlt H'.next v = true
  la : vltL 0 args = true

theorem FactB.of_run {call : CallF} (hc : CallsOk P G call) {f : FuncId} {args : List Value} {l : List Out} (ha : vltL 0 args = true) (h : call f args ⟨G, []⟩ = some l)
    (hfn : ∃ fn, P.funcs[f]? = some fn ∧ fn.body.isSome = true) : FactB P G f args l := by
  refine ⟨hfn, ?_, ha⟩
  intro σ w hR
  have hargs : ∀ u ∈ args, vlt G u = true := fun u hu => vlt_mono (Nat.zero_le _) u ((vltL_iff _ _).1 ha u hu)
  have := (hc f args _ l h σ w hR hargs).2
  rwa [mapConc_pure _ ha] at this

def sameXs : List Out → List Out → Bool
  | [], [] => true
  | x :: r, y :: s => sameX x y && sameXs r s
  | _, _ => false
theorem sameXs_eq : ∀ {a b : List Out}, sameXs a b = true → a = b
  | [], [], _ => rfl
  | x :: r, y :: s, h => by
      simp only [sameXs, Bool.and_eq_true] at h
      rw [sameX_eq h.1, sameXs_eq h.2]
  | [], _ :: _, h => by simp [sameXs] at h
  | _ :: _, [], h => by simp [sameXs] at h
def checkFactB (call : CallF) (G : Nat) (f : FuncId) (args : List Value) (l : List Out) : Bool :=
  vltL 0 args && (match call f args ⟨G, []⟩ with | some l' => sameXs l' l | none => false)
theorem FactB.of_check {call : CallF} (hc : CallsOk P G call) {f : FuncId} {args : List Value} {l : List Out} (h : checkFactB call G f args l = true)
    (hfn : ∃ fn, P.funcs[f]? = some fn ∧ fn.body.isSome = true) : FactB P G f args l := by
  simp only [checkFactB, Bool.and_eq_true] at h
  obtain ⟨h1, h2⟩ := h
  split at h2
  case h_2 => cases h2
  rename_i l' hl
  exact .of_run hc h1 (by rw [hl, sameXs_eq h2]) hfn

theorem get_none {b : Nat} {o : AObj} (h : (⟨G, []⟩ : AHeap).get b = some o) : False := by simp [AHeap.get, look] at h

theorem FactB.at {f : FuncId} {args : List Value} {l : List Out} (F : FactB P G f args l) {σ : Ren} {H : AHeap} {w : World} (hR : R P G σ H w) :
    Calls P f ⟨args⟩ w fun e w' => ∃ v H' σ', (v, H') ∈ l.map (moved G H) ∧ e = .returned (conc σ' v) ∧ R P G σ' H' w' ∧ Ext σ H w σ' H' w' ∧ vlt H'.next v = true := by
  have h0 : R P G σ ⟨G, []⟩ w :=
    { has := fun b o h => (get_none h).elim, inj := fun b b' o o' h => (get_none h).elim, lt := fun b o h => (get_none h).elim, olt := fun b o h => (get_none h).elim
      size := hR.size, gnext := Nat.le_refl _, glob := hR.glob }
  refine (F.run σ w h0).mono ?_
  rintro e w' ⟨v, H', σ', hm, rfl, hR', hE, hv⟩
  obtain ⟨d, hd⟩ : ∃ d, H.next = G + d := ⟨H.next - G, by have := hR.gnext; omega⟩
  have hd' : H.next - G = d := by omega
  have hag : Agree G σ σ' := hE.agree
  have hgl : Glued G H.next d σ σ' := ⟨hd, fun b hb => (hag b hb).1, fun b hb => (hag b hb).2⟩
  have hnew : ∀ b o, H'.get b = some o → G ≤ b := by
    intro b o hb
    rcases Nat.lt_or_ge b G with h | h
    · obtain ⟨o', ho', _⟩ := hE.old b o hb h
      exact (get_none ho').elim
    · exact h
  have hfresh : ∀ b o, H'.get b = some o → w.heap.size ≤ σ'.ρ b := by
    intro b o hb
    rcases hE.fresh b o hb (hnew b o hb) with h | ⟨b0, o0, h, _⟩
    · exact h
    · exact (get_none h).elim
  have hframe : ∀ r, r < w.heap.size → w'.heap[r]? = w.heap[r]? := fun r hr => hE.frame r hr fun b o hb => (get_none hb).elim
  have hgn : G ≤ H'.next := hE.next
  let Hs : AHeap := ⟨H'.next + d, shT G d H'.tab ++ H.tab⟩
  have hmv : moved G H (v, H') = (shV G d v, Hs) := by simp [moved, hd', Hs]
  have hget : ∀ b, Hs.get b = if b < H.next then H.get b else (match (H'.get (b - d)).map (shO G d) with | some o => some o | none => H.get b) := by
    intro b
    show look (shT G d H'.tab ++ H.tab) b = _
    rw [look_app, look_shT hd]
    by_cases hb : b < H.next
    · rw [if_pos hb, if_pos hb]; rfl
    · rw [if_neg hb, if_neg hb]; rfl
  have hold : ∀ b, b < H.next → Hs.get b = H.get b := fun b hb => by rw [hget, if_pos hb]
  have hup : ∀ b o, H.next ≤ b → Hs.get b = some o → ∃ o', H'.get (b - d) = some o' ∧ o = shO G d o' := by
    intro b o hb ho
    rw [hget, if_neg (by omega)] at ho
    cases hq : H'.get (b - d) with
    | some o' =>
      rw [hq] at ho
      simp only [Option.map_some, Option.some.injEq] at ho
      exact ⟨o', rfl, ho.symm⟩
    | none =>
      rw [hq] at ho
      simp only [Option.map_none] at ho
      have := hR.lt b o ho
      omega
  let τ := glue H.next d σ σ'
  have hτ : Agree H.next σ τ := fun b hb => by simp [τ, glue, hb]
  have τup : ∀ b, H.next ≤ b → τ.ρ b = σ'.ρ (b - d) ∧ τ.κ b = σ'.κ (b - d) := fun b hb => by
    have : ¬ b < H.next := by omega
    simp [τ, glue, this]
  refine ⟨shV G d v, Hs, τ, List.mem_map.2 ⟨_, hm, hmv⟩, by rw [conc_sh hgl], ?_, ?_, vlt_sh v hv⟩
  · refine { has := ?_, inj := ?_, lt := ?_, olt := ?_, size := hR'.size, gnext := by show G ≤ H'.next + d; omega, glob := ?_ }
    · intro b o hb
      rcases Nat.lt_or_ge b H.next with hlt | hge
      · rw [hold b hlt] at hb
        obtain ⟨co, h1, h2⟩ := hR.has b o hb
        have hr : σ.ρ b < w.heap.size := (Array.getElem?_eq_some_iff.1 h1).1
        refine ⟨co, ?_, ?_⟩
        · rw [(hτ b hlt).1, hframe _ hr]; exact h1
        · rw [(hτ b hlt).2]; exact rel_congr hτ (hR.olt b o hb) h2
      · obtain ⟨o', ho', rfl⟩ := hup b o hge hb
        obtain ⟨co, h1, h2⟩ := hR'.has _ _ ho'
        refine ⟨co, ?_, ?_⟩
        · rw [(τup b hge).1]; exact h1
        · rw [(τup b hge).2]; exact rel_sh hgl h2
    · intro b b' o o' hb hb' heq
      rcases Nat.lt_or_ge b H.next with hlt | hge
      · rcases Nat.lt_or_ge b' H.next with hlt' | hge'
        · rw [hold b hlt] at hb; rw [hold b' hlt'] at hb'
          rw [(hτ b hlt).1, (hτ b' hlt').1] at heq
          exact hR.inj b b' o o' hb hb' heq
        · rw [hold b hlt] at hb
          obtain ⟨o2, ho2, _⟩ := hup b' o' hge' hb'
          obtain ⟨co, h1, _⟩ := hR.has b o hb
          have hr : σ.ρ b < w.heap.size := (Array.getElem?_eq_some_iff.1 h1).1
          have := hfresh _ _ ho2
          rw [(hτ b hlt).1, (τup b' hge').1] at heq
          omega
      · rcases Nat.lt_or_ge b' H.next with hlt' | hge'
        · rw [hold b' hlt'] at hb'
          obtain ⟨o2, ho2, _⟩ := hup b o hge hb
          obtain ⟨co, h1, _⟩ := hR.has b' o' hb'
          have hr : σ.ρ b' < w.heap.size := (Array.getElem?_eq_some_iff.1 h1).1
          have := hfresh _ _ ho2
          rw [(hτ b' hlt').1, (τup b hge).1] at heq
          omega
        · obtain ⟨o2, ho2, _⟩ := hup b o hge hb
          obtain ⟨o3, ho3, _⟩ := hup b' o' hge' hb'
          rw [(τup b hge).1, (τup b' hge').1] at heq
          have := hR'.inj _ _ _ _ ho2 ho3 heq
          omega
    · intro b o hb
      rcases Nat.lt_or_ge b H.next with hlt | hge
      · show b < H'.next + d; omega
      · obtain ⟨o2, ho2, _⟩ := hup b o hge hb
        have := hR'.lt _ _ ho2
        show b < H'.next + d; omega
    · intro b o hb
      rcases Nat.lt_or_ge b H.next with hlt | hge
      · rw [hold b hlt] at hb
        exact AObj.lt_mono (by show H.next ≤ H'.next + d; omega) (hR.olt b o hb)
      · obtain ⟨o2, ho2, rfl⟩ := hup b o hge hb
        exact shO_lt (hR'.olt _ _ ho2)
    · intro b hb
      rw [(hτ b (by have := hR.gnext; omega)).1]
      exact hR.glob b hb
  · refine ⟨by show H.next ≤ H'.next + d; omega, hτ, hE.size, hE.os, hE.tape, hE.output, fun r hr _ => hframe r hr, ?_, ?_⟩
    · intro b o hb hlt
      rw [hold b hlt] at hb
      exact ⟨o, hb, rfl⟩
    · intro b o hb hge
      obtain ⟨o2, ho2, _⟩ := hup b o hge hb
      rw [(τup b hge).1]
      exact .inl (hfresh _ _ ho2)

structure MemoB where
  f : FuncId
  args : List Value
  l : List Out
def memoBHook (G : Nat) : List MemoB → CallF
  | [], _, _, _ => none
  | m :: r, f, args, H => bif Nat.beq m.f f && sameL m.args args then some (m.l.map (moved G H)) else memoBHook G r f args H
theorem memoBHook_ok : ∀ {l : List MemoB}, (∀ m ∈ l, FactB P G m.f m.args m.l) → CallsOk P G (memoBHook G l)
  | [], _, _, _, _, _, h => by cases h
  | m :: r, hl, f, args, H, l', h => by
      unfold memoBHook at h
      cases hs : (Nat.beq m.f f && sameL m.args args) with
      | false =>
        rw [hs, cond_false] at h
        exact memoBHook_ok (fun m hm => hl m (List.mem_cons_of_mem _ hm)) f args H l' h
      | true =>
        rw [hs, cond_true] at h
        simp only [Option.some.injEq] at h; subst h
        simp only [Bool.and_eq_true] at hs
        obtain rfl := Nat.eq_of_beq_eq_true hs.1
        obtain rfl := sameL_eq hs.2
        have F := hl m (by simp)
        intro σ w hR _
        refine ⟨F.fn, ?_⟩
        rw [mapConc_pure σ F.la]
        exact F.at hR

end
end Go.Abs
