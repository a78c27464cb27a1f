/- Whole bodies: an interpreter upon what is known of the heap, and its soundness. -/
import Derived.Test.YtgapaaloalfmfaaGreatDoorEngSame
import Derived.LoopN
set_option linter.unusedVariables false
set_option linter.unusedSimpArgs false
set_option linter.unusedSectionVars false
namespace Go.Abs

abbrev St := Tms × AHeap

def putL (tm : Tms) (dst : Option Nat) (v : Value) : Tms :=
  match dst with
  | some d => tm.put d v
  | none => tm

def nthO : List Oper → Nat → Option Oper
  | [], _ => none
  | o :: _, 0 => some o
  | _ :: r, n + 1 => nthO r n

def aYield (ops : List Oper) (tm : Tms) (j : Nat) : Option Bool :=
  match nthO ops j with
  | some o =>
    match o.dst with
    | some t => match tm.nth t with | some (.bool b) => some b | _ => none
    | none => none
  | none => none
def aWant (ops : List Oper) (tm : Tms) (o : Oper) : Bool :=
  match o.guard with
  | none => true
  | some (j, want) => match aYield ops tm j with | some b => b == want | none => false

def bindAll {α β : Type} : List α → (α → Option (List β)) → Option (List β)
  | [], _ => some []
  | x :: r, f => match f x with | some l => (match bindAll r f with | some l' => some (l ++ l') | none => none) | none => none

theorem bindAll_some {α β : Type} {f : α → Option (List β)} : ∀ {l : List α} {r : List β}, bindAll l f = some r → ∀ x ∈ l, ∃ r', f x = some r' ∧ ∀ y ∈ r', y ∈ r
  | [], r, _, x, hx => by cases hx
  | a :: l, r, h, x, hx => by
      unfold bindAll at h
      split at h
      case h_2 => cases h
      rename_i la hla
      split at h
      case h_2 => cases h
      rename_i lr hlr
      simp only [Option.some.injEq] at h; subst h
      rcases List.mem_cons.1 hx with rfl | hx
      · exact ⟨la, hla, fun y hy => List.mem_append_left _ hy⟩
      · obtain ⟨r', h1, h2⟩ := bindAll_some hlr x hx
        exact ⟨r', h1, fun y hy => List.mem_append_right _ (h2 y hy)⟩

abbrev CallF := FuncId → List Value → AHeap → Option (List (Value × AHeap))

section
variable {P : Program} (K : Known P) (call : CallF)

/-- One slot is written. -/
def putK {β : Type} (tm : Tms) (dst : Option Nat) (v : Value) (k : Tms → β) : β :=
  match dst with
  | some d => forceV 6 v fun v => tm.putK d v k
  | none => k tm
theorem putK_eq {β : Type} (tm : Tms) (dst : Option Nat) (v : Value) (k : Tms → β) : putK tm dst v k = k (putL tm dst v) := by
  cases dst with
  | none => rfl
  | some d => simp [putK, putL, Tms.putK_eq]
/-- A heap whose table has been brought to its form (what makes one has made all of it, when its first cell is there). -/
def forceH {β : Type} (n : Nat) (t : List (Nat × AObj)) (k : AHeap → β) : β := forceN n fun n => match t with | [] => k ⟨n, []⟩ | x :: r => k ⟨n, x :: r⟩
@[simp] theorem forceH_eq {β : Type} (n : Nat) (t : List (Nat × AObj)) (k : AHeap → β) : forceH n t k = k ⟨n, t⟩ := by cases t <;> simp [forceH]
def packs {β : Type} (tm : Tms) (dst : Option Nat) : List (Value × AHeap) → (List St → β) → β
  | [], k => k []
  | (v, ⟨n, t⟩) :: r, k => putK tm dst v fun tm' => forceH n t fun H => packs tm dst r fun r' => k ((tm', H) :: r')
theorem packs_eq {β : Type} (tm : Tms) (dst : Option Nat) : ∀ (l : List (Value × AHeap)) (k : List St → β), packs tm dst l k = k (l.map fun x => (putL tm dst x.1, x.2))
  | [], _ => rfl
  | (v, ⟨n, t⟩) :: r, k => by rw [packs, putK_eq, forceH_eq]; exact packs_eq tm dst r _

/-- What one operation leaves: the slots and the heap. -/
def stepO (ops : List Oper) (o : Oper) (s : St) : Option (List St) :=
  bif aWant ops s.1 o then
    match aPure K s.1 o with
    | some v => putK s.1 o.dst v fun tm => some [(tm, s.2)]
    | none =>
      match aEff K s.1 o s.2 with
      | some (.vals l) => packs s.1 o.dst l some
      | some (.enter f args) => match call f args s.2 with | some l => packs s.1 o.dst l some | none => none
      | none => none
  else putK s.1 o.dst undef fun tm => some [(tm, s.2)]

def runOps (ops : List Oper) : List Oper → St → Option (List St)
  | [], s => some [s]
  | o :: rest, s =>
    match stepO K call ops o s with
    | some [x] => runOps ops rest x
    | some l => bindAll l (runOps ops rest)
    | none => none

def pureNow (ops : List Oper) (o : Oper) (s : St) : Option Value :=
  bif aWant ops s.1 o then aPure K s.1 o else some undef

/-- An operation that can be taken ahead of all that may stand beside it. -/
def firstPure (ops : Array Oper) (opl : List Oper) (listed : Array Bool) (s : St) : List Nat → Option (Nat × Oper × Value)
  | [] => none
  | i :: r =>
    match nthO opl i with
    | some o =>
      match pureNow K opl o s with
      | some v => bif Region.free .any ops listed i then some (i, o, v) else firstPure ops opl listed s r
      | none => firstPure ops opl listed s r
    | none => firstPure ops opl listed s r

/-- What may come up next, halfway through a region. -/
def expand (ops : Array Oper) (opl : List Oper) (listed : Array Bool) (s : St) : List Nat → Option (List Half)
  | [] => some []
  | i :: r =>
    match nthO opl i with
    | some o =>
      match stepO K call opl o s, expand ops opl listed s r with
      | some l, some l' => some (l.map (fun x => (listed.setIfInBounds i true, x)) ++ l')
      | _, _ => none
    | none => none

/-- All that is halfway, one operation each; what is done goes aside. -/
def level (ops : Array Oper) (opl : List Oper) : List Half → Option (List St × List Half)
  | [] => some ([], [])
  | (listed, s) :: r =>
    match level ops opl r with
    | some (d, h) =>
      match Region.ready .any ops listed with
      | [] => some (s :: d, h)
      | rs =>
        match firstPure K ops opl listed s rs with
        | some (i, o, v) => putK s.1 o.dst v fun tm => some (d, (listed.setIfInBounds i true, (tm, s.2)) :: h)
        | none => match expand K call ops opl listed s rs with | some l => some (d, l ++ h) | none => none
    | none => none

def doneAll (ops : Array Oper) : List Half → Option (List St)
  | [] => some []
  | (listed, s) :: r => match Region.ready .any ops listed with | [] => (match doneAll ops r with | some d => some (s :: d) | none => none) | _ => none

def runAny (ops : Array Oper) (opl : List Oper) : Nat → List Half → Option (List St)
  | 0, l => doneAll ops l
  | n + 1, l =>
    match level K call ops opl l with
    | some (d, []) => some d
    | some (d, h) => match runAny ops opl n (onceHalf h) with | some r => some (d ++ r) | none => none
    | none => none

end

section
variable {P : Program} {G : Nat}

/-- A state of the abstract run, and the model's. -/
structure Rel (P : Program) (G : Nat) (σ : Ren) (s : St) (a : Act) (w : World) : Prop where
  tm : Tm σ G s.2.next s.1 a
  heap : R P G σ s.2 w
  defers : a.defers = []

/-- From one to one of these. -/
def To (P : Program) (G : Nat) (σ : Ren) (H : AHeap) (w : World) (l : List St) (a' : Act) (w' : World) : Prop :=
  ∃ s ∈ l, ∃ σ', Rel P G σ' s a' w' ∧ Ext σ H w σ' s.2 w'

def CallsOk (P : Program) (G : Nat) (call : CallF) : Prop :=
  ∀ f args H l, call f args H = some l → ∀ σ w, R P G σ H w → (∀ v ∈ args, vlt H.next v = true) →
    (∃ fn, P.funcs[f]? = some fn ∧ fn.body.isSome = true) ∧
    Calls P f ⟨args.map (conc σ)⟩ w fun e w' => ∃ v H' σ', (v, H') ∈ l ∧ e = .returned (conc σ' v) ∧ R P G σ' H' w' ∧ Ext σ H w σ' H' w' ∧ vlt H'.next v = true

variable {σ : Ren} {s : St} {a : Act} {w : World}

theorem Rel.put (h : Rel P G σ s a w) {σ' : Ren} {H' : AHeap} {w' : World} (hR : R P G σ' H' w') (hE : Ext σ s.2 w σ' H' w') {v : Value} (hv : vlt H'.next v = true) (dst : Option Tmp) :
    Rel P G σ' (putL s.1 dst v, H') (a.put dst (conc σ' v)) w' := by
  have htm : ∀ i, (s.1.nth i).map (conc σ') = (s.1.nth i).map (conc σ) := fun i => by
    cases hi : s.1.nth i with
    | none => rfl
    | some u => simp only [Option.map_some, conc_congr hE.agree u (h.tm.lt i u hi)]
  have old : ∀ i u, s.1.nth i = some u → vlt H'.next u = true := fun i u hu => vlt_mono hE.next u (h.tm.lt i u hu)
  have hsz : ∀ d, d < s.1.n ↔ d < a.tmps.size := fun d => by
    have := h.tm.tmps d
    unfold Tms.nth at this
    cases hd : Nat.blt d s.1.n with
    | true =>
      rw [hd, cond_true] at this
      rw [Nat.blt_eq] at hd
      have := (Array.getElem?_eq_some_iff.1 this).1
      exact ⟨fun _ => this, fun _ => hd⟩
    | false =>
      rw [hd, cond_false] at this
      have h1 : ¬ d < s.1.n := by rw [← Nat.blt_eq, hd]; simp
      have h2 := Array.getElem?_eq_none_iff.1 this
      exact ⟨fun h => absurd h h1, fun h => by omega⟩
  refine ⟨⟨?_, ?_, ?_, hR.glob, hR.gnext⟩, hR, ?_⟩
  · cases dst with
    | none => exact h.tm.fits
    | some d => simp only [putL, Tms.n_put, Tms.d_put]; exact h.tm.fits
  · intro i
    cases dst with
    | none => simp only [Act.put, putL, h.tm.tmps, htm]
    | some d =>
      simp only [Act.put, putL, Tms.nth_put _ _ _ _ h.tm.fits]
      rw [Array.getElem?_setIfInBounds, h.tm.tmps i, ← htm i]
      by_cases hd : d = i
      · subst hd
        by_cases hlt : d < s.1.n
        · rw [if_pos rfl, if_pos ((hsz d).1 hlt), if_pos ⟨rfl, hlt⟩]; rfl
        · rw [if_pos rfl, if_neg (fun hh => hlt ((hsz d).2 hh)), if_neg (fun hh => hlt hh.2)]
          have : Nat.blt d s.1.n = false := by rw [← Bool.not_eq_true, Nat.blt_eq]; exact hlt
          simp [Tms.nth, this]
      · rw [if_neg hd, if_neg (fun hh => hd hh.1.symm)]
  · intro i u hu
    cases dst with
    | none => exact old i u hu
    | some d =>
      simp only [putL, Tms.nth_put _ _ _ _ h.tm.fits] at hu
      split at hu
      · cases hu; exact hv
      · exact old i u hu
  · cases dst <;> exact h.defers

theorem Rel.putHere (h : Rel P G σ s a w) {v : Value} (hv : vlt s.2.next v = true) (dst : Option Tmp) :
    Rel P G σ (putL s.1 dst v, s.2) (a.put dst (conc σ v)) w := h.put h.heap (.refl _ _ _ h.heap.lt) hv dst

theorem nthO_get : ∀ (l : List Oper) (n : Nat), nthO l n = l[n]?
  | [], n => by simp [nthO]
  | o :: r, 0 => by simp [nthO]
  | o :: r, n + 1 => by simp [nthO, nthO_get r n]

theorem yield_ok (h : Tm σ G s.2.next s.1 a) (ops : Array Oper) (j : Nat) : yielded ops a.tmps j = aYield ops.toList s.1 j := by
  unfold yielded aYield
  rw [nthO_get]
  cases ho : ops.toList[j]? with
  | none =>
    have : ops[j]? = none := by simpa using ho
    simp [this]
  | some o =>
    have : ops[j]? = some o := by simpa using ho
    simp only [this, Option.bind_some]
    cases hd : o.dst with
    | none => simp
    | some t =>
      simp only [Option.bind_some, h.tmps]
      cases hv : s.1.nth t with
      | none => simp
      | some v =>
        simp only [Option.map_some]
        cases v with
        | pointer x => cases x <;> simp
        | slice x _ _ => cases x <;> simp
        | map x => cases x <;> simp
        | chan x => cases x <;> simp [conc]
        | _ => simp [conc]

theorem want_ok (h : Tm σ G s.2.next s.1 a) (ops : Array Oper) (o : Oper) : Region.wanted o (yielded ops a.tmps) = aWant ops.toList s.1 o := by
  unfold Region.wanted aWant
  cases o.guard with
  | none => rfl
  | some x =>
    obtain ⟨j, want⟩ := x
    simp only [yield_ok h]
    cases aYield ops.toList s.1 j with
    | none => simp
    | some b => simp

/-- One operation, at the model. -/
theorem stepO_ok (K : Known P) (hG : K.G = G) {call : CallF} (hc : CallsOk P G call) (h : Rel P G σ s a w) (ops : Array Oper) {i : Nat} {o : Oper} (ho : ops[i]? = some o) {l : List St}
    (hs : stepO K call ops.toList o s = some l) {next : Act → World → Prop} {Q : Exit → Act → World → Prop} (hk : ∀ a' w', To P G σ s.2 w l a' w' → next a' w') :
    wpOp P ops Q i next a w := by
  subst hG
  unfold wpOp
  simp only [ho]
  rw [want_ok h.tm]
  unfold stepO at hs
  simp only [putK_eq, packs_eq] at hs
  cases hw : aWant ops.toList s.1 o with
  | false =>
    rw [hw, cond_false] at hs
    simp only [Option.some.injEq] at hs; subst hs
    simp only [Bool.false_eq_true, if_false]
    exact hk _ _ ⟨_, by simp, σ, h.putHere (vlt_undef _) o.dst, .refl _ _ _ h.heap.lt⟩
  | true =>
    rw [hw, cond_true] at hs
    simp only [if_true]
    refine .inl ?_
    split at hs
    · rename_i v hv
      simp only [Option.some.injEq] at hs; subst hs
      obtain ⟨hrun, hlt⟩ := aPure_ok K h.tm hv w
      exact wp_vals hrun (hk _ _ ⟨_, by simp, σ, h.putHere hlt o.dst, .refl _ _ _ h.heap.lt⟩)
    · split at hs
      · rename_i lv hv
        simp only [Option.some.injEq] at hs; subst hs
        refine aEff_wp K h.tm h.heap hv ?_
        intro v H' σ' w' hm hR hE hlt
        exact hk _ _ ⟨_, List.mem_map.2 ⟨(v, H'), hm, rfl⟩, σ', h.put hR hE hlt o.dst, hE⟩
      · rename_i f args hv
        split at hs
        case h_2 => cases hs
        rename_i lv hlv
        simp only [Option.some.injEq] at hs; subst hs
        refine aEff_wp K h.tm h.heap hv ?_
        intro hargs
        obtain ⟨hfn, hcalls⟩ := hc f args s.2 lv hlv σ w h.heap hargs
        refine ⟨hfn, hcalls.mono ?_⟩
        rintro e w' ⟨v, H', σ', hm, rfl, hR, hE, hlt⟩
        exact ⟨_, rfl, hk _ _ ⟨_, List.mem_map.2 ⟨(v, H'), hm, rfl⟩, σ', h.put hR hE hlt o.dst, hE⟩⟩
      · cases hs

theorem To.trans {H : AHeap} {l l' : List St} {a'' : Act} {w' w'' : World} {σ' : Ren} {s' : St} (hE : Ext σ H w σ' s'.2 w') (h : To P G σ' s'.2 w' l' a'' w'') (hs : ∀ x ∈ l', x ∈ l) :
    To P G σ H w l a'' w'' := by
  obtain ⟨x, hx, σ'', hr, hE'⟩ := h
  exact ⟨x, hs x hx, σ'', hr, hE.trans hE'⟩

theorem runOps_ok (K : Known P) (hG : K.G = G) {call : CallF} (hc : CallsOk P G call) (ops : Array Oper) (Q : Exit → Act → World → Prop) : ∀ (n k : Nat), k + n = ops.size →
    ∀ {σ : Ren} {s : St} {a : Act} {w : World} {l : List St},
    Rel P G σ s a w → runOps K call ops.toList (ops.toList.drop k) s = some l → (∀ a' w', To P G σ s.2 w l a' w' → Q .normal a' w') → wpOps P ops Q (List.range' k n) a w := by
  intro n
  induction n with
  | zero =>
    intro k hk σ s a w l h hs hq
    have : ops.toList.drop k = [] := by simp; omega
    rw [this] at hs
    simp only [runOps, Option.some.injEq] at hs; subst hs
    exact hq _ _ ⟨s, by simp, σ, h, .refl _ _ _ h.heap.lt⟩
  | succ n ih =>
    intro k hk σ s a w l h hs hq
    have hlt : k < ops.size := by omega
    have hd : ops.toList.drop k = ops[k] :: ops.toList.drop (k + 1) := by
      rw [List.drop_eq_getElem_cons (by simpa using hlt)]; simp
    rw [hd] at hs
    simp only [runOps] at hs
    rw [List.range'_succ, wpOps_cons]
    have key : ∀ lx, stepO K call ops.toList ops[k] s = some lx → bindAll lx (runOps K call ops.toList (ops.toList.drop (k + 1))) = some l →
        wpOp P ops Q k (wpOps P ops Q (List.range' (k + 1) n)) a w := by
      intro lx hx hb
      refine stepO_ok K hG hc h ops (by simp [hlt]) hx ?_
      rintro a' w' ⟨s', hs', σ', hr, hE⟩
      obtain ⟨l', hl', hsub⟩ := bindAll_some hb s' hs'
      exact ih (k + 1) (by omega) hr hl' (fun a'' w'' ht => hq _ _ (To.trans hE ht hsub))
    split at hs
    · rename_i x hx
      exact key _ hx (by simp [bindAll, hs])
    · rename_i lx _ hx
      exact key lx hx hs
    · cases hs

theorem firstPure_ok (K : Known P) {ops : Array Oper} {listed : Array Bool} {s : St} : ∀ {rs : List Nat} {i : Nat} {o : Oper} {v : Value}, firstPure K ops ops.toList listed s rs = some (i, o, v) →
    i ∈ rs ∧ ops[i]? = some o ∧ pureNow K ops.toList o s = some v ∧ Region.free .any ops listed i = true
  | [], i, o, v, h => by simp [firstPure] at h
  | j :: r, i, o, v, h => by
      unfold firstPure at h
      have rec_ : firstPure K ops ops.toList listed s r = some (i, o, v) → i ∈ j :: r ∧ ops[i]? = some o ∧ pureNow K ops.toList o s = some v ∧ Region.free .any ops listed i = true := fun h => by
        obtain ⟨h1, h2⟩ := firstPure_ok K h
        exact ⟨List.mem_cons_of_mem _ h1, h2⟩
      split at h
      · rename_i o' ho'
        split at h
        · rename_i v' hv'
          cases hf : Region.free .any ops listed j with
          | true =>
            rw [hf, cond_true] at h
            simp only [Option.some.injEq, Prod.mk.injEq] at h
            obtain ⟨rfl, rfl, rfl⟩ := h
            rw [nthO_get] at ho'
            exact ⟨by simp, by simpa using ho', hv', hf⟩
          | false => rw [hf, cond_false] at h; exact rec_ h
        · exact rec_ h
      · exact rec_ h

theorem expand_ok (K : Known P) {call : CallF} (ops : Array Oper) (opl : List Oper) (listed : Array Bool) (s : St) : ∀ {rs : List Nat} {l : List Half}, expand K call ops opl listed s rs = some l →
    ∀ i ∈ rs, ∃ o, nthO opl i = some o ∧ ∃ lx, stepO K call opl o s = some lx ∧ ∀ x ∈ lx, (listed.setIfInBounds i true, x) ∈ l
  | [], l, _, i, hi => by cases hi
  | j :: r, l, h, i, hi => by
      unfold expand at h
      split at h
      case h_2 => cases h
      rename_i o ho
      split at h
      case h_2 => cases h
      rename_i lx l' hlx hl'
      simp only [Option.some.injEq] at h; subst h
      rcases List.mem_cons.1 hi with rfl | hi
      · exact ⟨o, ho, lx, hlx, fun x hx => List.mem_append_left _ (List.mem_map.2 ⟨x, hx, rfl⟩)⟩
      · obtain ⟨o', h1, lx', h2, h3⟩ := expand_ok K ops opl listed s hl' i hi
        exact ⟨o', h1, lx', h2, fun x hx => List.mem_append_right _ (h3 x hx)⟩

/-- What one level leaves of a state that is halfway. -/
theorem level_ok (K : Known P) {call : CallF} (ops : Array Oper) (opl : List Oper) : ∀ {l : List Half} {d : List St} {h : List Half}, level K call ops opl l = some (d, h) →
    ∀ x ∈ l, (Region.ready .any ops x.1 = [] ∧ x.2 ∈ d) ∨
      (Region.ready .any ops x.1 ≠ [] ∧ ((∃ i o v, firstPure K ops opl x.1 x.2 (Region.ready .any ops x.1) = some (i, o, v) ∧ (x.1.setIfInBounds i true, (putL x.2.1 o.dst v, x.2.2)) ∈ h) ∨
        ∃ l', expand K call ops opl x.1 x.2 (Region.ready .any ops x.1) = some l' ∧ ∀ y ∈ l', y ∈ h))
  | [], d, h, _, x, hx => by cases hx
  | (listed, s) :: r, d, h, he, x, hx => by
      unfold level at he
      split at he
      case h_2 => cases he
      rename_i d' h' hr
      have ih := level_ok K ops opl hr
      have up : ∀ {d'' : List St} {h'' : List Half}, (∀ y ∈ d', y ∈ d'') → (∀ y ∈ h', y ∈ h'') → x ∈ r →
          (Region.ready .any ops x.1 = [] ∧ x.2 ∈ d'') ∨
          (Region.ready .any ops x.1 ≠ [] ∧ ((∃ i o v, firstPure K ops opl x.1 x.2 (Region.ready .any ops x.1) = some (i, o, v) ∧ (x.1.setIfInBounds i true, (putL x.2.1 o.dst v, x.2.2)) ∈ h'') ∨
            ∃ l', expand K call ops opl x.1 x.2 (Region.ready .any ops x.1) = some l' ∧ ∀ y ∈ l', y ∈ h'')) := by
        intro d'' h'' hd hh hxr
        rcases ih x hxr with ⟨h1, h2⟩ | ⟨h0, ⟨i, o, v, h1, h2⟩ | ⟨l', h1, h2⟩⟩
        · exact .inl ⟨h1, hd _ h2⟩
        · exact .inr ⟨h0, .inl ⟨i, o, v, h1, hh _ h2⟩⟩
        · exact .inr ⟨h0, .inr ⟨l', h1, fun y hy => hh _ (h2 y hy)⟩⟩
      split at he
      · rename_i hrd
        simp only [Option.some.injEq, Prod.mk.injEq] at he
        obtain ⟨rfl, rfl⟩ := he
        rcases List.mem_cons.1 hx with rfl | hx
        · exact .inl ⟨hrd, by simp⟩
        · exact up (fun y hy => List.mem_cons_of_mem _ hy) (fun y hy => hy) hx
      · rename_i hne
        split at he
        · rename_i i o v hf
          rw [putK_eq] at he
          simp only [Option.some.injEq, Prod.mk.injEq] at he
          obtain ⟨rfl, rfl⟩ := he
          rcases List.mem_cons.1 hx with rfl | hx
          · exact .inr ⟨hne, .inl ⟨i, o, v, hf, by simp⟩⟩
          · exact up (fun y hy => hy) (fun y hy => List.mem_cons_of_mem _ hy) hx
        · split at he
          case h_2 => cases he
          rename_i l' hl'
          simp only [Option.some.injEq, Prod.mk.injEq] at he
          obtain ⟨rfl, rfl⟩ := he
          rcases List.mem_cons.1 hx with rfl | hx
          · exact .inr ⟨hne, .inr ⟨l', hl', fun y hy => List.mem_append_left _ hy⟩⟩
          · exact up (fun y hy => hy) (fun y hy => List.mem_append_right _ hy) hx

theorem doneAll_ok (ops : Array Oper) : ∀ {l : List Half} {d : List St}, doneAll ops l = some d → ∀ x ∈ l, Region.ready .any ops x.1 = [] ∧ x.2 ∈ d
  | [], d, _, x, hx => by cases hx
  | (listed, s) :: r, d, h, x, hx => by
      unfold doneAll at h
      split at h
      case h_2 => cases h
      rename_i hr
      split at h
      case h_2 => cases h
      rename_i d' hd
      simp only [Option.some.injEq] at h; subst h
      rcases List.mem_cons.1 hx with rfl | hx
      · exact ⟨hr, by simp⟩
      · obtain ⟨h1, h2⟩ := doneAll_ok ops hd x hx
        exact ⟨h1, List.mem_cons_of_mem _ h2⟩

theorem runAny_ok (K : Known P) (hG : K.G = G) {call : CallF} (hc : CallsOk P G call) (ops : Array Oper) (hsel : Region.noSelect ops = true) (Q : Exit → Act → World → Prop)
    (hQ : ∀ c a w, ¬ Q (.panic c) a w) : ∀ (n : Nat) (hs : List Half) {l : List St}, runAny K call ops ops.toList n hs = some l → ∀ x ∈ hs,
    ∀ {σ : Ren} {a : Act} {w : World}, Rel P G σ x.2 a w → (∀ a' w', To P G σ x.2.2 w l a' w' → Q .normal a' w') → wpAny P .any ops Q n x.1 a w := by
  intro n
  induction n with
  | zero =>
    intro hs l h x hx σ a w hr hq
    unfold runAny at h
    obtain ⟨h1, h2⟩ := doneAll_ok ops h x hx
    exact ⟨h1, hq _ _ ⟨x.2, h2, σ, hr, .refl _ _ _ hr.heap.lt⟩⟩
  | succ n ih =>
    intro hs l h x hx σ a w hr hq
    have main : ∀ (d : List St) (h0 : List Half) (r : List St), level K call ops ops.toList hs = some (d, h0) → (h0 ≠ [] → runAny K call ops ops.toList n (onceHalf h0) = some r) →
        (∀ y ∈ d, y ∈ l) → (h0 ≠ [] → ∀ y ∈ r, y ∈ l) → wpAny P .any ops Q (n + 1) x.1 a w := by
      intro d h0 r hl hrun hd hrr
      have cont : ∀ y ∈ h0, ∀ {σ' : Ren} {a' : Act} {w' : World}, Rel P G σ' y.2 a' w' → Ext σ x.2.2 w σ' y.2.2 w' → wpAny P .any ops Q n y.1 a' w' := by
        intro y hy σ' a' w' hr' hE
        have hne : h0 ≠ [] := by rintro rfl; cases hy
        exact ih _ (hrun hne) y (onceHalf_mem hy) hr' (fun a'' w'' ht => hq _ _ (To.trans hE ht (hrr hne)))
      rcases level_ok K ops ops.toList hl x hx with ⟨h1, h2⟩ | ⟨hne, ⟨i, o, v, hf, h2⟩ | ⟨l', h1, h2⟩⟩
      · exact wpAny_done h1 (hq _ _ ⟨x.2, hd _ h2, σ, hr, .refl _ _ _ hr.heap.lt⟩) _
      · obtain ⟨hi, ho, hv, hfree⟩ := firstPure_ok K hf
        have hy : Yields P ops o (conc σ v) a ∧ vlt x.2.2.next v = true := by
          unfold pureNow at hv
          unfold Yields
          rw [want_ok hr.tm]
          cases hw : aWant ops.toList x.2.1 o with
          | true =>
            rw [hw, cond_true] at hv
            subst hG
            exact ⟨.inl ⟨rfl, fun w' => (aPure_ok K hr.tm hv w').1⟩, (aPure_ok K hr.tm hv w).2⟩
          | false =>
            rw [hw, cond_false] at hv
            simp only [Option.some.injEq] at hv; subst hv
            exact ⟨.inr ⟨rfl, conc_undef⟩, vlt_undef _⟩
        refine wpAny_take ho hsel hfree (by simpa using hi) (fun c a w hh => absurd hh (hQ c _ w)) hy.1 ?_
        exact cont _ h2 (hr.putHere hy.2 o.dst) (.refl _ _ _ hr.heap.lt)
      · refine wpAny_all rfl hne ?_
        intro i hi
        obtain ⟨o, ho, lx, hlx, hsub⟩ := expand_ok K ops ops.toList x.1 x.2 h1 i hi
        rw [nthO_get] at ho
        refine stepO_ok K hG hc hr ops (by simpa using ho) hlx ?_
        rintro a' w' ⟨s', hs', σ', hr', hE⟩
        exact cont _ (h2 _ (hsub s' hs')) hr' hE
    unfold runAny at h
    split at h
    · rename_i d hl
      simp only [Option.some.injEq] at h; subst h
      exact main d [] [] hl (fun hh => absurd rfl hh) (fun y hy => hy) (fun hh => absurd rfl hh)
    · rename_i d h0 hne hl
      split at h
      case h_2 => cases h
      rename_i r hrr
      simp only [Option.some.injEq] at h; subst h
      exact main d h0 r hl (fun _ => hrr) (fun y hy => List.mem_append_left _ hy) (fun _ y hy => List.mem_append_right _ hy)
    · cases h

end
end Go.Abs
