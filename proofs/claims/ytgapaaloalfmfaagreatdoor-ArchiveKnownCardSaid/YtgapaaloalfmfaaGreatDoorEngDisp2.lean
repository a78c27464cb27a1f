/- One operation that looks at memory, or calls. -/
import Derived.Test.YtgapaaloalfmfaaGreatDoorEngDisp
set_option linter.unusedVariables false
set_option linter.unusedSimpArgs false
set_option linter.unusedSectionVars false
namespace Go.Abs

inductive AOut where
  | vals (l : List (Value × AHeap))
  | enter (f : FuncId) (args : List Value)

def out1 : Option (Value × AHeap) → Option AOut
  | some x => some (.vals [x])
  | none => none
def outH : Option AHeap → Option AOut
  | some H => some (.vals [(undef, H)])
  | none => none
def outV (H : AHeap) : Option Value → Option AOut
  | some v => some (.vals [(v, H)])
  | none => none

def aConv {P : Program} (src dst : TypeId) (x : Value) (H : AHeap) : Option AOut :=
  match x with
  | .string _ => (match P.underlying dst with | some .string => outV H (aConvert P src dst x H) | _ => out1 (aStrBytes P src dst x H))
  | _ => outV H (aConvert P src dst x H)

def aBuiltin (P : Program) (b : Builtin) (ts : List TypeId) (vs : List Value) (H : AHeap) : Option AOut :=
  match b, ts, vs with
  | .append, [t, u], [s, x] => out1 (aAppend P t u s x H)
  | .copy, [t, _], [d, s] => out1 (aCopy P t d s H)
  | .delete, [t, _], [m, k] => (match aDelete P t m k H with | some H' => some (.vals [(.tuple ⟨[]⟩, H')]) | none => none)
  | .len, [t], [x] => outV H (aLen P t x H)
  | .clear, [t], [x] => (match aClear P t x H with | some H' => some (.vals [(.tuple ⟨[]⟩, H')]) | none => none)
  | _, _, _ => none

def aCall {P : Program} (K : Known P) (f : Value) (vs : List Value) (H : AHeap) : Option AOut :=
  match f with
  | .func (.func g) ⟨first⟩ ⟨cap⟩ =>
    bif hasN g K.clones then (match first ++ vs ++ cap with | [v] => out1 (aClone v H) | _ => none)
    else match extOf g K.exts with
      | some k => outV H (aExt k (first ++ vs ++ cap))
      | none => some (.enter g (first ++ vs ++ cap))
  | _ => none

/-- Operations that look at memory, make some, or call. -/
def aEff {P : Program} (K : Known P) (tm : Tms) (o : Oper) (H : AHeap) : Option AOut :=
  match o.op with
  | .alloc t => out1 (aAlloc P t H)
  | .box t x => match evalO K.G tm x with | some v => out1 (some (aBox t v H)) | none => none
  | .buildSlice t len parts => match evalP K.G tm parts.toList with | some ps => out1 (aBuildSlice P t len ps H) | none => none
  | .load t x => match evalO K.G tm x with | some v => outV H (aLoad P t v H) | none => none
  | .store t x y => match evalO K.G tm x, evalO K.G tm y with | some u, some v => outH (aStore P t u v H) | _, _ => none
  | .makeMap _ none => out1 (some (aMakeMap H))
  | .makeSlice t l c => match evalO K.G tm l, evalO K.G tm c with | some u, some v => out1 (aMakeSlice P t u v H) | _, _ => none
  | .slice t x lo hi mx =>
    match evalO K.G tm x, evalQ K.G tm lo, evalQ K.G tm hi, evalQ K.G tm mx with
    | some v, some l, some h, some m => (match aSlice P t v l h m H with | some r => some (.vals [(r, H)]) | none => (match aSliceMore P t v l h m H with | some rs => some (.vals (rs.map fun r => (r, H))) | none => none))
    | _, _, _, _ => none
  | .convert src dst x => match evalO K.G tm x with | some v => aConv (P := P) src dst v H | none => none
  | .lookup t x i ok => match evalO K.G tm x, evalO K.G tm i with | some u, some v => outV H (aLookup P t u v ok H) | _, _ => none
  | .mapUpdate t m k x => match evalO K.G tm m, evalO K.G tm k, evalO K.G tm x with | some a, some b, some c => outH (aMapUpdate P t a b c H) | _, _, _ => none
  | .insert t m k x => match evalO K.G tm m, evalO K.G tm k, evalO K.G tm x with | some a, some b, some c => outH (aMapUpdate P t a b c H) | _, _, _ => none
  | .mapEntry t m k => match evalO K.G tm m, evalO K.G tm k with | some a, some b => out1 (aMapEntry P t a b H) | _, _ => none
  | .entryStore _ m s x => match evalO K.G tm m, evalO K.G tm s, evalO K.G tm x with | some a, some b, some c => outH (aEntryStore a b c H) | _, _, _ => none
  | .range t x => match evalO K.G tm x with | some v => out1 (aRange P t v H) | none => none
  | .next x false => match evalO K.G tm x with | some v => (match aNext v H with | some l => some (.vals l) | none => none) | none => none
  | .entry x => match evalO K.G tm x with | some v => outV H (aEntry v H) | none => none
  | .call ⟨.builtin b, args, argTypes⟩ => match evalL K.G tm args.toList with | some vs => aBuiltin P b argTypes.toList vs H | none => none
  | .call ⟨.value f, args, _⟩ => match evalO K.G tm f, evalL K.G tm args.toList with | some g, some vs => aCall K g vs H | _, _ => none
  | _ => none

section
variable {P : Program} {σ : Ren} {tm : Tms} {a : Act} {H : AHeap} {w : World}

theorem vlt_undef (n : Nat) : vlt n undef = true := rfl
theorem conc_undef : conc σ undef = undef := rfl

/-- What a step's outcome has to meet. -/
def Meets (P : Program) (G : Nat) (σ : Ren) (H : AHeap) (w : World) (a : Act) (dst : Option Tmp) (next : Act → World → Prop) : AOut → Prop
  | .vals l => ∀ v H' σ' w', (v, H') ∈ l → R P G σ' H' w' → Ext σ H w σ' H' w' → vlt H'.next v = true → next (a.put dst (conc σ' v)) w'
  | .enter f args => (∀ v ∈ args, vlt H.next v = true) → (∃ fn, P.funcs[f]? = some fn ∧ fn.body.isSome = true) ∧ Calls P f ⟨args.map (conc σ)⟩ w fun e w'' => ∃ u, e = .returned u ∧ next (a.put dst u) w''

variable {next : Act → World → Prop} {Q : Exit → Act → World → Prop} {G : Nat}

theorem wp_vals {o : Oper} {v : Value} {w' : World} (hr : (execOp a.eval o).run P w = .ok (.value v) w') (h : next (a.put o.dst v) w') : o.wp P a w next Q := by
  unfold Oper.wp; rw [hr]; exact h
theorem wp_skip' {o : Oper} {w' : World} (hr : (execOp a.eval o).run P w = .ok .skip w') (h : next (a.put o.dst undef) w') : o.wp P a w next Q := by
  unfold Oper.wp; rw [hr]; exact h

theorem wp_okH {o : Oper} {s : Sem Value} {v : Value} {H' : AHeap} (hk : Meets P G σ H w a o.dst next (.vals [(v, H')])) (h : OkH P G (s.run P w) σ H w v H')
    (hm : execOp a.eval o = (do pure (.value (← s)))) : o.wp P a w next Q := by
  obtain ⟨σ', w', hr, hR, hE, hl⟩ := h
  exact wp_vals (by rw [hm]; simp only [Sem.run_bind, hr, Result.andThen_ok, Sem.run_pure]) (hk v H' σ' w' (by simp) hR hE hl)
theorem wp_okR (hR : R P G σ H w) {o : Oper} {s : Sem Value} {v : Value} (hk : Meets P G σ H w a o.dst next (.vals [(v, H)])) (h : OkR P (s.run P w) σ H.next w v)
    (hm : execOp a.eval o = (do pure (.value (← s)))) : o.wp P a w next Q :=
  wp_okH hk ⟨σ, w, h.1, hR, .refl _ _ _ hR.lt, h.2⟩ hm
theorem wp_okU {o : Oper} {s : Sem Unit} {H' : AHeap} (hk : Meets P G σ H w a o.dst next (.vals [(undef, H')]))
    (h : ∃ w', s.run P w = .ok () w' ∧ R P G σ H' w' ∧ Ext σ H w σ H' w' ∧ H'.next = H.next) (hm : execOp a.eval o = (do s; pure .skip)) : o.wp P a w next Q := by
  obtain ⟨w', hr, hR, hE, hn⟩ := h
  exact wp_skip' (by rw [hm]; simp only [Sem.run_bind, hr, Result.andThen_ok, Sem.run_pure]) (hk undef H' σ w' (by simp) hR hE rfl)

theorem out1_some {x : Option (Value × AHeap)} {out : AOut} (h : out1 x = some out) : ∃ v H', x = some (v, H') ∧ out = .vals [(v, H')] := by
  cases x with
  | none => cases h
  | some y => simp only [out1, Option.some.injEq] at h; exact ⟨y.1, y.2, rfl, h.symm⟩
theorem outH_some {x : Option AHeap} {out : AOut} (h : outH x = some out) : ∃ H', x = some H' ∧ out = .vals [(undef, H')] := by
  cases x with
  | none => cases h
  | some y => simp only [outH, Option.some.injEq] at h; exact ⟨y, rfl, h.symm⟩
theorem outV_some {x : Option Value} {out : AOut} (h : outV H x = some out) : ∃ v, x = some v ∧ out = .vals [(v, H)] := by
  cases x with
  | none => cases h
  | some y => simp only [outV, Option.some.injEq] at h; exact ⟨y, rfl, h.symm⟩

theorem mk2 {α : Type} {l : Array α} {x y : α} (h : l.toList = [x, y]) : l = #[x, y] := by apply Array.ext'; simpa using h
theorem mk1 {α : Type} {l : Array α} {x : α} (h : l.toList = [x]) : l = #[x] := by apply Array.ext'; simpa using h

theorem aEff_wp (K : Known P) (h : Tm σ K.G H.next tm a) (hR : R P K.G σ H w) {o : Oper} {out : AOut} (hv : aEff K tm o H = some out) (hk : Meets P K.G σ H w a o.dst next out) :
    o.wp P a w next Q := by
  obtain ⟨dst, op, type, pos, after, guard⟩ := o
  unfold aEff at hv
  cases op with
  | alloc t =>
    obtain ⟨v, H', h1, rfl⟩ := out1_some hv
    exact wp_okH hk (aAlloc_ok hR h1) rfl
  | box t x =>
    simp only at hv
    split at hv
    case h_2 => cases hv
    rename_i u hu
    obtain ⟨v, H', h1, rfl⟩ := out1_some hv
    obtain ⟨h2, h3⟩ := evalO_ok h hu
    simp only [Option.some.injEq] at h1
    exact wp_okH hk (aBox_ok hR h1 h3) (by simp only [execOp, h2])
  | buildSlice t len parts =>
    simp only at hv
    split at hv
    case h_2 => cases hv
    rename_i u hu
    obtain ⟨v, H', h1, rfl⟩ := out1_some hv
    obtain ⟨h2, h3⟩ := evalPA_ok h hu
    exact wp_okH hk (aBuildSlice_ok hR h1 h3) (by simp only [execOp, h2])
  | load t x =>
    simp only at hv
    split at hv
    case h_2 => cases hv
    rename_i u hu
    obtain ⟨v, h1, rfl⟩ := outV_some hv
    obtain ⟨h2, h3⟩ := evalO_ok h hu
    exact wp_okR hR hk (aLoad_ok hR h1) (by simp only [execOp, h2])
  | store t x y =>
    simp only at hv
    split at hv
    case h_2 => cases hv
    rename_i u u' hx hy
    obtain ⟨H', h1, rfl⟩ := outH_some hv
    obtain ⟨h2, h3⟩ := evalO_ok h hx
    obtain ⟨h4, h5⟩ := evalO_ok h hy
    exact wp_okU hk (aStore_ok hR h1 h5) (by simp only [execOp, h2, h4])
  | makeMap t r =>
    cases r with
    | some x => cases hv
    | none =>
      obtain ⟨v, H', h1, rfl⟩ := out1_some hv
      simp only [Option.some.injEq] at h1
      exact wp_okH hk (aMakeMap_ok hR h1 t) (by simp only [execOp, Option.map_none])
  | makeSlice t l c =>
    simp only at hv
    split at hv
    case h_2 => cases hv
    rename_i u u' hx hy
    obtain ⟨v, H', h1, rfl⟩ := out1_some hv
    obtain ⟨h2, h3⟩ := evalO_ok h hx
    obtain ⟨h4, h5⟩ := evalO_ok h hy
    exact wp_okH hk (aMakeSlice_ok hR h1) (by simp only [execOp, h2, h4])
  | slice t x lo hi mx =>
    simp only at hv
    split at hv
    case h_2 => cases hv
    rename_i u l u' m hx hl hh hm
    obtain ⟨h2, h3⟩ := evalO_ok h hx
    obtain ⟨h4, _⟩ := evalQ_ok h hl
    obtain ⟨h6, _⟩ := evalQ_ok h hh
    obtain ⟨h8, _⟩ := evalQ_ok h hm
    split at hv
    · rename_i v h1
      simp only [Option.some.injEq] at hv; subst hv
      exact wp_okR hR hk (aSlice_ok hR h1 h3) (by simp only [execOp, h2, h4, h6, h8])
    · split at hv
      case h_2 => cases hv
      rename_i rs h1
      simp only [Option.some.injEq] at hv; subst hv
      obtain ⟨r, hr, hok⟩ := aSliceMore_ok (P := P) (σ := σ) (w := w) h1 h3
      refine wp_okR (v := r) hR ?_ hok (by simp only [execOp, h2, h4, h6, h8])
      intro v H' σ' w' hm' hR' hE' hl'
      simp only [List.mem_singleton, Prod.mk.injEq] at hm'
      obtain ⟨rfl, rfl⟩ := hm'
      exact hk v H' σ' w' (List.mem_map.2 ⟨v, hr, rfl⟩) hR' hE' hl'
  | convert src dst' x =>
    simp only at hv
    split at hv
    case h_2 => cases hv
    rename_i u hx
    obtain ⟨h2, h3⟩ := evalO_ok h hx
    unfold aConv at hv
    split at hv
    · split at hv
      · obtain ⟨v, h1, rfl⟩ := outV_some hv
        exact wp_okR hR hk (aConvert_ok hR h1) (by simp only [execOp, h2])
      · obtain ⟨v, H', h1, rfl⟩ := out1_some hv
        exact wp_okH hk (aStrBytes_ok hR h1) (by simp only [execOp, h2])
    · obtain ⟨v, h1, rfl⟩ := outV_some hv
      exact wp_okR hR hk (aConvert_ok hR h1) (by simp only [execOp, h2])
  | lookup t x i ok =>
    simp only at hv
    split at hv
    case h_2 => cases hv
    rename_i u u' hx hy
    obtain ⟨v, h1, rfl⟩ := outV_some hv
    obtain ⟨h2, h3⟩ := evalO_ok h hx
    obtain ⟨h4, h5⟩ := evalO_ok h hy
    exact wp_okR hR hk (aLookup_ok hR h1) (by simp only [execOp, h2, h4])
  | mapUpdate t m k x =>
    simp only at hv
    split at hv
    case h_2 => cases hv
    rename_i u1 u2 u3 h1 h2 h3
    obtain ⟨H', h7, rfl⟩ := outH_some hv
    obtain ⟨e1, l1⟩ := evalO_ok h h1
    obtain ⟨e2, l2⟩ := evalO_ok h h2
    obtain ⟨e3, l3⟩ := evalO_ok h h3
    exact wp_okU hk (aMapUpdate_ok hR h7 l2 l3) (by simp only [execOp, e1, e2, e3])
  | insert t m k x =>
    simp only at hv
    split at hv
    case h_2 => cases hv
    rename_i u1 u2 u3 h1 h2 h3
    obtain ⟨H', h7, rfl⟩ := outH_some hv
    obtain ⟨e1, l1⟩ := evalO_ok h h1
    obtain ⟨e2, l2⟩ := evalO_ok h h2
    obtain ⟨e3, l3⟩ := evalO_ok h h3
    exact wp_okU hk (aMapUpdate_ok hR h7 l2 l3) (by simp only [execOp, e1, e2, e3])
  | mapEntry t m k =>
    simp only at hv
    split at hv
    case h_2 => cases hv
    rename_i u1 u2 h1 h2
    obtain ⟨v, H', h7, rfl⟩ := out1_some hv
    obtain ⟨e1, l1⟩ := evalO_ok h h1
    obtain ⟨e2, l2⟩ := evalO_ok h h2
    exact wp_okH hk (aMapEntry_ok hR h7 l2) (by simp only [execOp, e1, e2])
  | entryStore t m k x =>
    simp only at hv
    split at hv
    case h_2 => cases hv
    rename_i u1 u2 u3 h1 h2 h3
    obtain ⟨H', h7, rfl⟩ := outH_some hv
    obtain ⟨e1, l1⟩ := evalO_ok h h1
    obtain ⟨e2, l2⟩ := evalO_ok h h2
    obtain ⟨e3, l3⟩ := evalO_ok h h3
    exact wp_okU hk (aEntryStore_ok (t := t) hR h7 l3) (by simp only [execOp, e1, e2, e3])
  | range t x =>
    simp only at hv
    split at hv
    case h_2 => cases hv
    rename_i u1 h1
    obtain ⟨v, H', h7, rfl⟩ := out1_some hv
    obtain ⟨e1, l1⟩ := evalO_ok h h1
    exact wp_okH hk (aRange_ok hR h7) (by simp only [execOp, e1])
  | next x b =>
    cases b with
    | true => cases hv
    | false =>
      simp only at hv
      split at hv
      case h_2 => cases hv
      rename_i u1 h1
      split at hv
      case h_2 => cases hv
      rename_i l hl
      simp only [Option.some.injEq] at hv; subst hv
      obtain ⟨e1, l1⟩ := evalO_ok h h1
      obtain ⟨v, H', σ', w', hm, hr, hR', hE, hlt⟩ := aNext_ok hR (t := type) hl
      exact wp_vals (by simp only [execOp, e1, Sem.run_bind, hr, Result.andThen_ok, Sem.run_pure]) (hk v H' σ' w' hm hR' hE hlt)
  | entry x =>
    simp only at hv
    split at hv
    case h_2 => cases hv
    rename_i u1 h1
    obtain ⟨v, h7, rfl⟩ := outV_some hv
    obtain ⟨e1, l1⟩ := evalO_ok h h1
    exact wp_okR hR hk (aEntry_ok hR h7) (by simp only [execOp, e1])
  | call c =>
    obtain ⟨callee, args, argTypes⟩ := c
    cases callee with
    | builtin b =>
      simp only at hv
      split at hv
      case h_2 => cases hv
      rename_i vs hvs
      obtain ⟨e1, l1⟩ := evalA_ok h hvs
      unfold aBuiltin at hv
      split at hv
      · rename_i ts vs' t u s x hts
        obtain ⟨v, H', h7, rfl⟩ := out1_some hv
        rw [mk2 hts] at *
        exact wp_okH hk (aAppend_ok hR (ty := type) h7 (l1 s (by simp))) (by simp only [execOp, resolve, invoke, builtin, e1, pure_bind, List.map_cons, List.map_nil])
      · rename_i ts vs' t u s x hts
        obtain ⟨v, H', h7, rfl⟩ := out1_some hv
        rw [mk2 hts] at *
        exact wp_okH hk (aCopy_ok hR (u := u) (ty := type) h7) (by simp only [execOp, resolve, invoke, builtin, e1, pure_bind, List.map_cons, List.map_nil])
      · rename_i ts vs' t u s x hts
        split at hv
        case h_2 => cases hv
        rename_i H' h7
        simp only [Option.some.injEq] at hv; subst hv
        rw [mk2 hts] at *
        obtain ⟨w', hr, hR', hE, hn⟩ := aDelete_ok hR (u := u) (ty := type) h7
        refine wp_vals (v := .tuple #[]) (w' := w') ?_ (hk (.tuple ⟨[]⟩) H' σ w' (by simp) hR' hE rfl)
        simp only [execOp, resolve, invoke, builtin, e1, pure_bind, List.map_cons, List.map_nil, Sem.run_bind, hr, Result.andThen_ok, Sem.run_pure]
      · rename_i ts vs' t x hts
        obtain ⟨v, h7, rfl⟩ := outV_some hv
        rw [mk1 hts] at *
        exact wp_okR hR hk (aLen_ok hR (ty := type) h7) (by simp only [execOp, resolve, invoke, builtin, e1, pure_bind, List.map_cons, List.map_nil])
      · rename_i ts vs' t x hts
        split at hv
        case h_2 => cases hv
        rename_i H' h7
        simp only [Option.some.injEq] at hv; subst hv
        rw [mk1 hts] at *
        obtain ⟨w', hr, hR', hE, hn⟩ := aClear_ok hR (ty := type) h7
        refine wp_vals (v := .tuple #[]) (w' := w') ?_ (hk (.tuple ⟨[]⟩) H' σ w' (by simp) hR' hE rfl)
        simp only [execOp, resolve, invoke, builtin, e1, pure_bind, List.map_cons, List.map_nil, Sem.run_bind, hr, Result.andThen_ok, Sem.run_pure]
      · cases hv
    | value f =>
      simp only at hv
      split at hv
      case h_2 => cases hv
      rename_i g vs hg hvs
      obtain ⟨e1, l1⟩ := evalA_ok h hvs
      obtain ⟨e2, l2⟩ := evalO_ok h hg
      unfold aCall at hv
      split at hv
      case h_2 => cases hv
      rename_i q first cap
      have hexec : execOp a.eval ⟨dst, .call ⟨.value f, args, argTypes⟩, type, pos, after, guard⟩ = callFunc q ⟨(first ++ vs ++ cap).map (conc σ)⟩ := by
        simp only [execOp, resolve, e1, e2, conc, concFn, concA, concL_eq, Deferred.ofValue, pure_bind, invoke]
        congr 1
        simp
      have hlt : ∀ v ∈ first ++ vs ++ cap, vlt H.next v = true := by
        simp only [vlt, ltFn, vltA, Bool.true_and, Bool.and_eq_true] at l2
        intro v hv'
        rcases List.mem_append.1 hv' with hv' | hv'
        · rcases List.mem_append.1 hv' with hv' | hv'
          · exact (vltL_iff _ _).1 l2.1 v hv'
          · exact l1 v hv'
        · exact (vltL_iff _ _).1 l2.2 v hv'
      cases hc : hasN q K.clones with
      | true =>
        rw [hc, cond_true] at hv
        split at hv
        case h_2 => cases hv
        rename_i v hvv
        obtain ⟨r, H', h7, rfl⟩ := out1_some hv
        obtain ⟨fn, hfn, hname, hbody, hn1, hn2⟩ := K.isClone q (hasN_mem hc)
        obtain ⟨σ', w', hr, hR', hE, hl⟩ := aClone_ok hR h7
        refine wp_vals (v := conc σ' r) (w' := w') ?_ (hk r H' σ' w' (by simp) hR' hE hl)
        rw [hexec, hvv]
        have hb : fn.body.isNone = true := by rw [hbody]; rfl
        have hl1 : (⟨[v].map (conc σ)⟩ : Array Value) = #[conc σ v] := rfl
        simp only [callFunc, Sem.run_bind, run_program, Result.andThen_ok, hfn, hname, hb, Bool.false_eq_true, if_false, if_true, run_mark, hn1, hn2, Sem.run_pure, hl1, hr]
      | false =>
        rw [hc, cond_false] at hv
        cases hx : extOf q K.exts with
        | some k =>
          rw [hx] at hv
          obtain ⟨v, h7, rfl⟩ := outV_some hv
          obtain ⟨fn, hfn, hname, hbody, hn1, hn2⟩ := K.isExt _ (extOf_mem hx)
          obtain ⟨h8, h9⟩ := aExt_ok (P := P) (σ := σ) h7 w
          refine wp_vals (v := conc σ v) (w' := w) ?_ (hk v H σ w (by simp) hR (.refl _ _ _ hR.lt) (h9 _ hlt))
          rw [hexec]
          have hb : fn.body.isNone = true := by rw [hbody]; rfl
          simp only [callFunc, Sem.run_bind, run_program, Result.andThen_ok, hfn, hname, hb, Bool.false_eq_true, if_false, if_true, run_mark, hn1, hn2, Sem.run_pure, h8]
        | none =>
        rw [hx] at hv
        simp only [Option.some.injEq] at hv; subst hv
        obtain ⟨⟨fn, hfn, hbody⟩, hcalls⟩ := hk hlt
        unfold Oper.wp
        rw [hexec]
        have hname := K.named q fn hfn hbody
        have hr : (callFunc q ⟨(first ++ vs ++ cap).map (conc σ)⟩).run P w = .ok (.enter q ⟨(first ++ vs ++ cap).map (conc σ)⟩) w := by
          have hb : fn.body.isNone = false := by cases hq : fn.body <;> simp_all
          simp only [callFunc, Sem.run_bind, run_program, Result.andThen_ok, hfn, hname, hb, Bool.false_eq_true, if_false, Sem.run_pure]
        rw [hr]
        show Calls P q _ w _
        refine hcalls.mono ?_
        rintro e w'' ⟨u, rfl, hu⟩
        exact hu
    | invoke r m => cases hv
  | _ => cases hv

end
end Go.Abs
