/- Whole bodies and calls. -/
import Derived.Test.YtgapaaloalfmfaaGreatDoorEngRun
import Derived.Test.YtgapaaloalfmfaaGreatDoorEngSame
import Derived.Scope
set_option linter.unusedVariables false
set_option linter.unusedSimpArgs false
set_option linter.unusedSectionVars false
namespace Go.Abs

inductive AX where
  | normal
  | exit (id : Nat)
  | ret

abbrev XS := AX × St

def cutT (n : Nat) : List (Nat × AObj) → List (Nat × AObj)
  | [] => []
  | (k, o) :: r => bif Nat.blt k n then (k, o) :: cutT n r else cutT n r
def AHeap.cut (H : AHeap) (n : Nat) : AHeap := ⟨H.next, cutT n H.tab⟩

theorem look_cut (n : Nat) (b : Nat) (o : AObj) : ∀ t, look (cutT n t) b = some o → look t b = some o
  | [], h => h
  | (k, x) :: r, h => by
      unfold cutT at h
      cases hk : Nat.blt k n with
      | true =>
        rw [hk, cond_true] at h
        rw [look_cons] at h ⊢
        by_cases hb : b = k
        · rw [if_pos hb] at h ⊢; exact h
        · rw [if_neg hb] at h ⊢; exact look_cut n b o r h
      | false =>
        rw [hk, cond_false] at h
        have ih := look_cut n b o r h
        rw [look_cons]
        by_cases hb : b = k
        · subst hb
          -- what is left has no block that is cut
          have hno : ∀ t, look (cutT n t) b = none := by
            intro t
            induction t with
            | nil => rfl
            | cons y t iht =>
              obtain ⟨k', x'⟩ := y
              unfold cutT
              cases hk' : Nat.blt k' n with
              | true =>
                rw [cond_true, look_cons]
                have : ¬ b = k' := by rintro rfl; rw [hk] at hk'; cases hk'
                rw [if_neg this]; exact iht
              | false => rw [cond_false]; exact iht
          rw [hno] at h; cases h
        · rw [if_neg hb]; exact ih

def aResults (P : Program) (s : St) : List ResultVar → Option (List Value)
  | [] => some []
  | .tmp t :: r => match s.1.nth t, aResults P s r with | some v, some l => some (v :: l) | _, _ => none
  | .cell p t :: r =>
    match s.1.nth p with
    | some a => match aLoad P t a s.2, aResults P s r with | some v, some l => some (v :: l) | _, _ => none
    | none => none
def oneOf : List Value → Value
  | [v] => v
  | l => .tuple ⟨l⟩

def repV (n : Nat) : List Value := match n with | 0 => [] | n + 1 => undef :: repV n

def passN (f : St → Option (List XS)) (x : XS) : Option (List XS) :=
  match x.1 with
  | .normal => f x.2
  | _ => some [x]
def inBlk (id : Nat) (x : XS) : XS :=
  match x.1 with
  | .exit i => bif Nat.beq i id then (.normal, x.2) else x
  | _ => x
def finish (P : Program) (fn : Func) (x : XS) : Option (List (Value × AHeap)) :=
  match x.1 with
  | .exit _ => none
  | _ => match aResults P x.2 fn.results.toList with | some l => some [(oneOf l, x.2.2)] | none => none

/-- What a call's outcomes may be tidied to: of each, less may be known. -/
abbrev Tidy := FuncId → Nat → List Out → List Out
def Tidy.Ok (t : Tidy) : Prop := ∀ f n l x, x ∈ l → ∃ y ∈ t f n l, lessX y x
/-- 'pures': what they have made is let go; 'gcs': what cannot be reached is. -/
def forceX {β : Type} (x : Out) (k : Out → β) : β := match x with | (v, ⟨n, t⟩) => forceV 6 v fun v => forceS t fun t => k (v, ⟨n, t⟩)
theorem forceX_eq {β : Type} (x : Out) (k : Out → β) : forceX x k = k x := by obtain ⟨v, ⟨n, t⟩⟩ := x; simp [forceX]
def tidyOf (pures gcs : List FuncId) : Tidy := fun f n l =>
  bif hasN f pures then forceL forceX (l.map fun x => (x.1, x.2.cut n)) once
  else bif hasN f gcs then forceL forceX (l.map (gc n)) once
  else l
theorem tidyOf_ok (pures gcs : List FuncId) : (tidyOf pures gcs).Ok := by
  intro f n l x hx
  unfold tidyOf
  simp only [forceL_eq (β := List Out) forceX forceX_eq]
  cases hasN f pures with
  | true => exact ⟨(x.1, x.2.cut n), once_mem (List.mem_map.2 ⟨x, hx, rfl⟩), rfl, rfl, fun b o h => look_cut n b o _ h⟩
  | false =>
    cases hasN f gcs with
    | true => exact ⟨gc n x, once_mem (List.mem_map.2 ⟨x, hx, rfl⟩), gc_less n x⟩
    | false => exact ⟨x, hx, .rfl⟩

section
variable {P : Program} (K : Known P) (hook : CallF) (tidy : Tidy)

mutual
def runCode : Nat → Code → St → Option (List XS)
  | 0, _, _ => none
  | n + 1, c, s =>
    match c with
    | .skip => some [(.normal, s)]
    | .label _ => some [(.normal, s)]
    | .region _ ops false => match runOps K (runCall n) ops.toList ops.toList s with | some l => some (l.map fun x => (.normal, x)) | none => none
    | .region _ ops true =>
      bif Region.noSelect ops then
        match runAny K (runCall n) ops ops.toList ops.size [(Array.replicate ops.size false, s)] with | some l => some (l.map fun x => (.normal, x)) | none => none
      else none
    | .seq a b => match runCode n a s with | some l => bindAll l (passN (runCode n b)) | none => none
    | .cond c x y => match evalO K.G s.1 c with | some (.bool t) => runCode n (bif t then x else y) s | _ => none
    | .block id c => match runCode n c s with | some l => some (l.map (inBlk id)) | none => none
    | .loop c => runLoop n c s
    | .scope c => runCode n c s
    | .exit id => some [(.exit id, s)]
    | .ret => some [(.ret, s)]
    | _ => none
def runLoop : Nat → Code → St → Option (List XS)
  | 0, _, _ => none
  | n + 1, c, s => match runCode n c s with | some l => bindAll l (passN (runLoop n c)) | none => none
def runCall : Nat → FuncId → List Value → AHeap → Option (List (Value × AHeap))
  | 0, _, _, _ => none
  | n + 1, f, args, H =>
    match hook f args H with
    | some l => some l
    | none =>
      match P.funcs[f]? with
      | some fn =>
        match fn.body with
        | some c =>
          match (Tms.new (Nat.max fn.ntmps args.length)).argsK 0 args fun tm => runCode n c (tm, H) with
          | some l => match bindAll l (finish P fn) with | some l' => some (tidy f H.next l') | none => none
          | none => none
        | none => none
      | none => none
end
end

section
variable {P : Program} {G : Nat} {σ : Ren} {s : St} {a : Act} {w : World}

def AX.is : AX → Exit → Prop
  | .normal, e => e = .normal
  | .exit i, e => e = .exit i
  | .ret, e => e = .ret

/-- From one to one of these, with the way out. -/
def ToX (P : Program) (G : Nat) (σ : Ren) (H : AHeap) (w : World) (l : List XS) (e : Exit) (a' : Act) (w' : World) : Prop :=
  ∃ x ∈ l, x.1.is e ∧ ∃ σ', Rel P G σ' x.2 a' w' ∧ Ext σ H w σ' x.2.2 w'

theorem ToX.of {H : AHeap} {l : List St} {a' : Act} {w' : World} (h : To P G σ H w l a' w') : ToX P G σ H w (l.map fun x => (.normal, x)) .normal a' w' := by
  obtain ⟨x, hx, σ', hr, hE⟩ := h
  exact ⟨(.normal, x), List.mem_map.2 ⟨x, hx, rfl⟩, rfl, σ', hr, hE⟩
theorem ToX.here (h : Rel P G σ s a w) {x : AX} {e : Exit} (he : x.is e) : ToX P G σ s.2 w [(x, s)] e a w := ⟨(x, s), by simp, he, σ, h, .refl _ _ _ h.heap.lt⟩
theorem ToX.trans {H : AHeap} {l l' : List XS} {e : Exit} {a'' : Act} {w' w'' : World} {σ' : Ren} {s' : St} (hE : Ext σ H w σ' s'.2 w') (h : ToX P G σ' s'.2 w' l' e a'' w'') (hs : ∀ x ∈ l', x ∈ l) :
    ToX P G σ H w l e a'' w'' := by
  obtain ⟨x, hx, he, σ'', hr, hE'⟩ := h
  exact ⟨x, hs x hx, he, σ'', hr, hE.trans hE'⟩

structure Known.Ok (K : Known P) : Prop where
  mixed : P.follows .mixedOrders = true

theorem repV_eq : ∀ n, repV n = List.replicate n undef
  | 0 => rfl
  | n + 1 => by simp [repV, repV_eq n, List.replicate_succ]

def resSem (tmps : Array Value) : ResultVar → Sem Value
  | .tmp t => pure (tmps.getD t undef)
  | .cell p t => do loadVar t (← asAddr (tmps.getD p undef))

theorem aResults_ok (h : Rel P G σ s a w) : ∀ {rs : List ResultVar} {l : List Value}, aResults P s rs = some l →
    (rs.mapM (resSem a.tmps)).run P w = .ok (l.map (conc σ)) w ∧ ∀ v ∈ l, vlt s.2.next v = true
  | [], l, hl => by simp only [aResults, Option.some.injEq] at hl; subst hl; simp
  | .tmp t :: r, l, hl => by
      unfold aResults at hl
      split at hl
      case h_2 => cases hl
      rename_i v l' hv hl'
      simp only [Option.some.injEq] at hl; subst hl
      obtain ⟨h1, h2⟩ := aResults_ok h hl'
      have hg : a.tmps.getD t undef = conc σ v := by
        have := h.tm.tmps t
        rw [hv] at this
        simp [Array.getD_eq_getD_getElem?, this]
      refine ⟨?_, ?_⟩
      · simp only [List.mapM_cons, resSem, Sem.run_bind, Sem.run_pure, Result.andThen_ok, h1, hg, List.map_cons]
      · intro u hu
        rcases List.mem_cons.1 hu with rfl | hu
        · exact h.tm.lt _ _ hv
        · exact h2 u hu
  | .cell p t :: r, l, hl => by
      unfold aResults at hl
      split at hl
      case h_2 => cases hl
      rename_i ad hp
      split at hl
      case h_2 => cases hl
      rename_i v l' hv hl'
      simp only [Option.some.injEq] at hl; subst hl
      obtain ⟨h1, h2⟩ := aResults_ok h hl'
      obtain ⟨h3, h4⟩ := aLoad_ok h.heap hv
      have hg : a.tmps.getD p undef = conc σ ad := by
        have := h.tm.tmps p
        rw [hp] at this
        simp [Array.getD_eq_getD_getElem?, this]
      have hload : (do loadVar t (← asAddr (conc σ ad)) : Sem Value).run P w = .ok (conc σ v) w := by
        unfold aLoad at hv
        split at hv
        case h_2 => cases hv
        rw [← h3]
        simp [Instr.loadAt, Instr.sureAddr, asAddr, conc]
      refine ⟨?_, ?_⟩
      · simp only [List.mapM_cons, resSem, hg]
        rw [Sem.run_bind, hload]
        simp only [Result.andThen_ok, Sem.run_bind, h1, Sem.run_pure, List.map_cons]
      · intro u hu
        rcases List.mem_cons.1 hu with rfl | hu
        · exact h4
        · exact h2 u hu

theorem results_ok (h : Rel P G σ s a w) {fn : Func} {l : List Value} (hl : aResults P s fn.results.toList = some l) : (results fn a.tmps).run P w = .ok (conc σ (oneOf l)) w ∧ vlt s.2.next (oneOf l) = true := by
  obtain ⟨h1, h2⟩ := aResults_ok h hl
  refine ⟨?_, ?_⟩
  · have key : ∀ (f : ResultVar → Sem Value), (∀ x, f x = resSem a.tmps x) →
        ((do let vs ← fn.results.mapM f; pure (if h : vs.size = 1 then vs[0] else .tuple vs)) : Sem Value).run P w = .ok (conc σ (oneOf l)) w := by
      intro f hf
      obtain rfl : f = resSem a.tmps := funext hf
      simp only [Array.mapM_eq_mapM_toList, Sem.run_bind, Sem.run_map]
      rw [h1]
      simp only [Result.andThen_ok, Sem.run_pure]
      congr 1
      match l with
      | [] => simp [oneOf, conc_tuple]
      | [v] => simp [oneOf]
      | v :: u :: r => simp [oneOf, conc_tuple]
    exact key _ (by intro x; cases x <;> rfl)
  · match l with
    | [] => rfl
    | [v] => exact h2 v (by simp)
    | v :: u :: r => exact vlt_tuple.2 h2

variable (K : Known P) (hook : CallF) (tidy : Tidy)

theorem runCode_ok (hG : K.G = G) (hO : K.Ok) (hh : CallsOk P G hook) (ht : tidy.Ok) : ∀ n : Nat,
    (∀ (c : Code) {σ : Ren} {s : St} {a : Act} {w : World} {l : List XS}, Rel P G σ s a w → runCode K hook tidy n c s = some l → c.wp P (ToX P G σ s.2 w l) a w) ∧
    (∀ (c : Code) {σ : Ren} {s : St} {a : Act} {w : World} {l : List XS}, Rel P G σ s a w → runLoop K hook tidy n c s = some l → c.rounds P (ToX P G σ s.2 w l) n a w) ∧
    CallsOk P G (runCall K hook tidy n) := by
  intro n
  induction n with
  | zero =>
    refine ⟨?_, ?_, ?_⟩
    · intro c σ s a w l h hs; simp [runCode] at hs
    · intro c σ s a w l h hs; simp [runLoop] at hs
    · intro f args H l hs; simp [runCall] at hs
  | succ n ih =>
    obtain ⟨ihc, ihl, ihf⟩ := ih
    -- what goes on behind a normal end
    have hthen : ∀ {f : St → Option (List XS)} {Kn : Act → World → Prop} {σ : Ren} {s : St} {w : World} {l l' : List XS} {Q : Exit → Act → World → Prop},
        bindAll l (passN f) = some l' → Q = ToX P G σ s.2 w l' →
        (∀ {σ' : Ren} {s' : St} {a' : Act} {w' : World} {l'' : List XS}, Rel P G σ' s' a' w' → Ext σ s.2 w σ' s'.2 w' → f s' = some l'' → (∀ y ∈ l'', y ∈ l') → Kn a' w') →
        ∀ e a' w', ToX P G σ s.2 w l e a' w' → Exit.then Kn Q e a' w' := by
      rintro f Kn σ s w l l' Q hb rfl hk e a' w' ⟨x, hx, he, σ', hr, hE⟩
      obtain ⟨r', hr', hsub⟩ := bindAll_some hb x hx
      unfold passN at hr'
      obtain ⟨ax, sx⟩ := x
      cases ax with
      | normal => cases he; exact hk hr hE hr' hsub
      | exit i =>
        cases he
        simp only [Option.some.injEq] at hr'; subst hr'
        exact ⟨(.exit i, sx), hsub _ (by simp), rfl, σ', hr, hE⟩
      | ret =>
        cases he
        simp only [Option.some.injEq] at hr'; subst hr'
        exact ⟨(.ret, sx), hsub _ (by simp), rfl, σ', hr, hE⟩
    refine ⟨?_, ?_, ?_⟩
    · intro c σ s a w l h hs
      cases c with
      | skip => simp only [runCode, Option.some.injEq] at hs; subst hs; exact wp_skip (.here h rfl)
      | label i => simp only [runCode, Option.some.injEq] at hs; subst hs; exact wp_label (.here h rfl)
      | exit id => simp only [runCode, Option.some.injEq] at hs; subst hs; exact wp_exit (.here h rfl)
      | ret => simp only [runCode, Option.some.injEq] at hs; subst hs; exact wp_ret (.here h rfl)
      | region id ops draw =>
        cases draw with
        | false =>
          simp only [runCode] at hs
          split at hs
          case h_2 => cases hs
          rename_i l0 hl0
          simp only [Option.some.injEq] at hs; subst hs
          refine wp_region ?_
          rw [List.range_eq_range']
          exact runOps_ok K hG ihf ops _ ops.size 0 (by omega) h (by simpa using hl0) (fun a' w' ht => .of ht)
        | true =>
          simp only [runCode] at hs
          cases hsel : Region.noSelect ops with
          | false => rw [hsel, cond_false] at hs; cases hs
          | true =>
            rw [hsel, cond_true] at hs
            split at hs
            case h_2 => cases hs
            rename_i l0 hl0
            simp only [Option.some.injEq] at hs; subst hs
            refine wp_region_any hO.mixed ?_
            have h' : Rel P G σ s a w.drew := ⟨h.tm, h.heap.drew, h.defers⟩
            refine runAny_ok K hG ihf ops hsel _ ?_ ops.size _ hl0 _ (List.mem_singleton.2 rfl) h' (fun a' w' ht => ?_)
            · rintro c a w ⟨x, _, he, _⟩
              cases hx : x.1 <;> rw [hx] at he <;> cases he
            · obtain ⟨x, hx, σ', hr, hE⟩ := ht
              exact .of ⟨x, hx, σ', hr, ((Ext.refl _ _ _ h.heap.lt).drew).trans hE⟩
      | seq x y =>
        simp only [runCode] at hs
        split at hs
        case h_2 => cases hs
        rename_i l0 hl0
        refine wp_seq (wp_mono (ihc x h hl0) ?_)
        refine hthen hs rfl ?_
        intro σ' s' a' w' l'' hr hE hf hsub
        exact wp_mono (ihc y hr hf) (fun e a'' w'' ht => ToX.trans hE ht hsub)
      | cond c x y =>
        simp only [runCode] at hs
        split at hs
        case h_2 => cases hs
        rename_i t ht
        subst hG
        obtain ⟨h1, _⟩ := evalO_ok h.tm ht
        refine wp_cond h1 ?_
        have := ihc _ h hs
        cases t <;> exact this
      | block id c =>
        simp only [runCode] at hs
        split at hs
        case h_2 => cases hs
        rename_i l0 hl0
        simp only [Option.some.injEq] at hs; subst hs
        refine wp_block (wp_mono (ihc c h hl0) ?_)
        rintro e a' w' ⟨x, hx, he, σ', hr, hE⟩
        have hm : inBlk id x ∈ l0.map (inBlk id) := List.mem_map.2 ⟨x, hx, rfl⟩
        obtain ⟨ax, sx⟩ := x
        cases ax with
        | normal => cases he; exact ⟨_, hm, rfl, σ', hr, hE⟩
        | ret => cases he; exact ⟨_, hm, rfl, σ', hr, hE⟩
        | exit i =>
          cases he
          simp only [Exit.inBlock]
          by_cases hi : i = id
          · subst hi
            rw [if_pos rfl]
            refine ⟨_, hm, ?_, σ', ?_, ?_⟩
            · simp [inBlk, nbeq_self, AX.is]
            · simpa [inBlk, nbeq_self] using hr
            · simpa [inBlk, nbeq_self] using hE
          · rw [if_neg hi]
            refine ⟨_, hm, ?_, σ', ?_, ?_⟩
            · simp [inBlk, nbeq hi, AX.is]
            · simpa [inBlk, nbeq hi] using hr
            · simpa [inBlk, nbeq hi] using hE
      | loop c =>
        simp only [runCode] at hs
        exact wp_loop_rounds n (ihl c h hs)
      | scope c =>
        simp only [runCode] at hs
        refine wp_scope_straight (wp_mono (ihc c h hs) ?_)
        rintro e a' w' ⟨x, hx, he, rest⟩
        cases hax : x.1 <;> rw [hax] at he <;> cases he <;> exact ⟨x, hx, by rw [hax]; rfl, rest⟩
      | _ => simp [runCode] at hs
    · intro c σ s a w l h hs
      simp only [runLoop] at hs
      split at hs
      case h_2 => cases hs
      rename_i l0 hl0
      refine wp_mono (ihc c h hl0) ?_
      refine hthen hs rfl ?_
      intro σ' s' a' w' l'' hr hE hf hsub
      have hrr := ihl c hr hf
      -- the rounds behind, with the ends of all
      have mono : ∀ (m : Nat) {Q Q' : Exit → Act → World → Prop}, (∀ e a w, Q e a w → Q' e a w) → ∀ a w, c.rounds P Q m a w → c.rounds P Q' m a w := by
        intro m
        induction m with
        | zero => intro Q Q' _ a w hh; exact hh
        | succ m ihm =>
          intro Q Q' hq a w hh
          refine wp_mono hh ?_
          intro e a w he
          cases e <;> first | exact ihm hq a w he | exact hq _ a w he
      exact mono n (fun e a'' w'' ht => ToX.trans hE ht hsub) a' w' hrr
    · intro f args H l hs σ w hR hargs
      simp only [runCall] at hs
      split at hs
      · rename_i l0 hl0
        simp only [Option.some.injEq] at hs; subst hs
        exact hh f args H _ hl0 σ w hR hargs
      · split at hs
        case h_2 => cases hs
        rename_i fn hfn
        split at hs
        case h_2 => cases hs
        rename_i c hc
        rw [Tms.argsK_eq] at hs
        split at hs
        case h_2 => cases hs
        rename_i l0 hl0
        split at hs
        case h_2 => cases hs
        rename_i l1 hl1
        simp only [Option.some.injEq] at hs
        refine ⟨⟨fn, hfn, by rw [hc]; rfl⟩, ?_⟩
        refine calls_of_wp hfn hc ?_
        have hrel : Rel P G σ ((Tms.new (Nat.max fn.ntmps args.length)).args 0 args, H) { tmps := (⟨args.map (conc σ)⟩ : Array Value) ++ Array.replicate (fn.ntmps - (⟨args.map (conc σ)⟩ : Array Value).size) undef, defers := [] } w := by
          have hfit := Tms.new_fits (Nat.max fn.ntmps args.length)
          have hn : (Tms.new (Nat.max fn.ntmps args.length)).n = Nat.max fn.ntmps args.length := rfl
          have hle : 0 + args.length ≤ (Tms.new (Nat.max fn.ntmps args.length)).n := by rw [hn, Nat.zero_add]; exact Nat.le_max_right ..
          have hget : ∀ i, ((Tms.new (Nat.max fn.ntmps args.length)).args 0 args).nth i = if i < args.length then args[i]? else if i < Nat.max fn.ntmps args.length then some undef else none := by
            intro i
            rw [Tms.nth_args _ _ _ _ hfit hle, Tms.nth_new]
            simp
          refine ⟨⟨Tms.args_fits _ _ _ hfit, ?_, ?_, hR.glob, hR.gnext⟩, hR, rfl⟩
          · intro i
            simp only [hget]
            have hmax : Nat.max fn.ntmps args.length = max fn.ntmps args.length := rfl
            by_cases hi : i < args.length
            · rw [if_pos hi, Array.getElem?_append_left (by simpa using hi)]
              simp
            · rw [if_neg hi, Array.getElem?_append_right (by simp; omega), Array.getElem?_replicate]
              simp only [List.size_toArray, List.length_map]
              by_cases hj : i < Nat.max fn.ntmps args.length
              · rw [if_pos hj, if_pos (by rw [hmax] at hj; omega)]
                simp [conc_undef]
              · rw [if_neg hj, if_neg (by rw [hmax] at hj; omega)]
                rfl
          · intro i v hv
            rw [hget] at hv
            split at hv
            · exact hargs v (List.mem_of_getElem? hv)
            · split at hv
              · cases hv; rfl
              · cases hv
        refine wp_mono (ihc c hrel hl0) ?_
        rintro e a' w' ⟨x, hx, he, σ', hr, hE⟩
        obtain ⟨r', hr', hsub⟩ := bindAll_some hl1 x hx
        unfold finish at hr'
        have fin : ∀ {r' : List (Value × AHeap)}, (match aResults P x.2 fn.results.toList with | some l => some [(oneOf l, x.2.2)] | none => none) = some r' → (∀ y ∈ r', y ∈ l1) →
            a'.defers = [] ∧ ∃ v, (results fn a'.tmps).run P w' = .ok v w' ∧ ∃ v1 H' σ'', (v1, H') ∈ l ∧ (Ending.returned v) = .returned (conc σ'' v1) ∧ R P G σ'' H' w' ∧ Ext σ H w σ'' H' w' ∧ vlt H'.next v1 = true := by
          intro r' hr' hsub
          split at hr'
          case h_2 => cases hr'
          rename_i lv hlv
          simp only [Option.some.injEq] at hr'; subst hr'
          obtain ⟨h1, h2⟩ := results_ok hr hlv
          obtain ⟨⟨y1, y2⟩, hy, hy1, hy2, hy3⟩ := ht f H.next l1 (oneOf lv, x.2.2) (hsub _ (by simp))
          rw [hs] at hy
          simp only at hy1 hy2 hy3
          subst hy1
          exact ⟨hr.defers, _, h1, oneOf lv, y2, σ', hy, rfl, hr.heap.weaken hy2 hy3, hE.weaken hy2 hy3, by rw [hy2]; exact h2⟩
        cases hax : x.1 with
        | exit i => rw [hax] at hr'; cases hr'
        | normal => rw [hax] at hr' he; cases he; exact fin hr' hsub
        | ret => rw [hax] at hr' he; cases he; exact fin hr' hsub

end
end Go.Abs
