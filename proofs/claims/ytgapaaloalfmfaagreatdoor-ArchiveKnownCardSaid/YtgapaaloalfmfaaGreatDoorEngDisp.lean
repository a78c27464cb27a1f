/- One operation, whichever it is. -/
import Derived.Test.YtgapaaloalfmfaaGreatDoorEngOps11
import Derived.Orders
import GoSem.Extern.Table
import Derived.Laws.Externs
set_option linter.unusedVariables false
set_option linter.unusedSimpArgs false
set_option linter.unusedSectionVars false
namespace Go.Abs

def evalO (G : Nat) (tm : Tms) : Operand → Option Value
  | .tmp t => tm.nth t
  | .const v => bif vlt 0 v then some v else none
  | .global g => bif Nat.blt g G then some (.pointer (some ⟨g, 0, none⟩)) else none
  | .func f => some (.func (.func f) ⟨[]⟩ ⟨[]⟩)
def evalL (G : Nat) (tm : Tms) : List Operand → Option (List Value)
  | [] => some []
  | x :: r => match evalO G tm x, evalL G tm r with | some v, some l => some (v :: l) | _, _ => none
def evalP (G : Nat) (tm : Tms) : List (Nat × Operand) → Option (List (Nat × Value))
  | [] => some []
  | (i, x) :: r => match evalO G tm x, evalP G tm r with | some v, some l => some ((i, v) :: l) | _, _ => none
def evalQ (G : Nat) (tm : Tms) : Option Operand → Option (Option Value)
  | none => some none
  | some x => match evalO G tm x with | some v => some (some v) | none => none

/-- Bodies that stand in the model and look at no memory. -/
inductive Ext1 where
  | count
  | indexByte
  | same
def Ext1.fn : Ext1 → Array Value → Sem Value
  | .count => Extern.BytealgCount.count
  | .indexByte => Extern.BytealgIndexByte.indexByte
  | .same => Extern.AbiNoEscape.same
def aExt : Ext1 → List Value → Option Value
  | .count, [.string s, .int .u8 c] => some (goInt (s.foldl (fun n x => if x == c.toNat.toUInt8 then n + 1 else n) (0 : Nat)))
  | .indexByte, [.string s, .int .u8 c] => some (match (List.range s.size).find? fun i => s[i]! == c.toNat.toUInt8 with | some i => goInt i | none => goInt (-1))
  | .same, [x] => some x
  | _, _ => none
theorem aExt_ok {P : Program} {σ : Ren} {k : Ext1} {args : List Value} {v : Value} (h : aExt k args = some v) (w : World) :
    (k.fn ⟨args.map (conc σ)⟩).run P w = .ok (conc σ v) w ∧ ∀ n, (∀ x ∈ args, vlt n x = true) → vlt n v = true := by
  unfold aExt at h
  split at h
  · cases h; exact ⟨rfl, fun n _ => rfl⟩
  · rename_i s c
    refine ⟨?_, ?_⟩
    · have : (Ext1.indexByte.fn ⟨[Value.string s, Value.int .u8 c].map (conc σ)⟩).run P w = .ok (.int .i64 (firstIdx s c.toNat.toUInt8)) w := run_indexByte_string s c w
      rw [this]
      cases h
      unfold firstIdx goInt
      cases (List.range s.size).find? fun i => s[i]! == c.toNat.toUInt8 <;> rfl
    · intro n _
      cases h
      cases (List.range s.size).find? fun i => s[i]! == c.toNat.toUInt8 <;> rfl
  · cases h; exact ⟨rfl, fun n hx => hx _ (by simp)⟩
  · cases h
def extOf (f : FuncId) : List (FuncId × Ext1) → Option Ext1
  | [] => none
  | (g, k) :: r => bif Nat.beq f g then some k else extOf f r
theorem extOf_mem {f : FuncId} {k : Ext1} : ∀ {l : List (FuncId × Ext1)}, extOf f l = some k → (f, k) ∈ l
  | (g, k') :: r, h => by
      unfold extOf at h
      cases hb : Nat.beq f g with
      | true => rw [hb, cond_true] at h; cases h; rw [Nat.eq_of_beq_eq_true hb]; simp
      | false => rw [hb, cond_false] at h; exact List.mem_cons_of_mem _ (extOf_mem h)

/-- The library's bodies that stand in the model: what stands for them here; and which types are compared part by part. -/
structure Known (P : Program) extends Env P where
  G : Nat
  clones : List FuncId
  isClone : ∀ f ∈ clones, ∃ fn, P.funcs[f]? = some fn ∧ (fn.name == "runtime.NumGoroutine") = false ∧ fn.body = none ∧ Extern.findNext fn = none ∧ Extern.find fn = some Extern.MapsClone.clone
  exts : List (FuncId × Ext1)
  isExt : ∀ p ∈ exts, ∃ fn, P.funcs[p.1]? = some fn ∧ (fn.name == "runtime.NumGoroutine") = false ∧ fn.body = none ∧ Extern.findNext fn = none ∧ Extern.find fn = some p.2.fn
  named : ∀ (f : FuncId) fn, P.funcs[f]? = some fn → fn.body.isSome = true → (fn.name == "runtime.NumGoroutine") = false

def aStrSlice (P : Program) (t : TypeId) (v : Value) (lo hi : Option Value) : Option Value :=
  match P.underlying t, v with
  | some .string, .string s =>
    match aBounds s.data.toList.length s.data.toList.length lo hi with
    | some (l, h) => some (.string (exL l h s))
    | none => none
  | _, _ => none

def aFn : Fn → Bool
  | .func _ => true
  | _ => false

def isConst : Operand → Bool
  | .const _ => true
  | _ => false
/-- Two operands; nil compared with a literal nil too. -/
def aBinN {P : Program} (K : Known P) (op : BinOp) (t : TypeId) (x y : Operand) (u v : Value) : Option Value :=
  match u, v with
  | .nilIface, .nilIface =>
    bif isConst x || isConst y then
      match P.underlying t, op with
      | some (.interface _), .eql => some (.bool true)
      | some (.interface _), .neq => some (.bool false)
      | _, _ => none
    else none
  | u, v => aBin K.toEnv op t u v
theorem aBinN_ok {P : Program} (K : Known P) {σ : Ren} {w : World} {n : Nat} {op : BinOp} {t : TypeId} {u v r : Value} {ox oy : Operand} (h : aBinN K op t ox oy u v = some r) :
    OkR P ((do eqGuard op t ox oy (conc σ u) (conc σ v); binOp op t (conc σ u) (conc σ v) : Sem Value).run P w) σ n w r := by
  unfold aBinN at h
  split at h
  · cases hc : (isConst ox || isConst oy) with
    | false => rw [hc, cond_false] at h; cases h
    | true =>
      rw [hc, cond_true] at h
      have hg : eqGuard op t ox oy (conc σ .nilIface) (conc σ .nilIface) = pure () := by
        rcases Bool.or_eq_true_iff.1 hc with hx | hx
        · cases ox <;> first | (cases hx; done) | exact eqGuard_nil_constL ..
        · cases oy <;> first | (cases hx; done) | exact eqGuard_nil_constR ..
      rw [hg]
      split at h
      · rename_i ms hu
        cases h
        have : (Op.equal t .nilIface .nilIface).run P w = .ok true w := equal_of fun d => by simp [Op.equalIn, run_underlying hu]
        exact ⟨by simp [binOp, this], rfl⟩
      · rename_i ms hu
        cases h
        have : (Op.equal t .nilIface .nilIface).run P w = .ok true w := equal_of fun d => by simp [Op.equalIn, run_underlying hu]
        exact ⟨by simp [binOp, this], rfl⟩
      · cases h
  · exact aBin_ok K.toEnv h ox oy

/-- Operations that look at no memory. -/
def aPure {P : Program} (K : Known P) (tm : Tms) (o : Oper) : Option Value :=
  match o.op with
  | .move x => evalO K.G tm x
  | .assign x => evalO K.G tm x
  | .pick c a b =>
    match evalO K.G tm c, evalO K.G tm a, evalO K.G tm b with
    | some (.bool t), some u, some v => some (bif t then u else v)
    | _, _, _ => none
  | .build t parts => match evalP K.G tm parts.toList with | some ps => aBuild P t ps | none => none
  | .nilCheck x => match evalO K.G tm x with | some v => aNilCheck v | none => none
  | .binOp op t x y _ => match evalO K.G tm x, evalO K.G tm y with | some u, some v => aBinN K op t x y u v | _, _ => none
  | .unOp op _ x => match evalO K.G tm x with | some v => aUn op v | none => none
  | .makeInterface t x => match evalO K.G tm x with | some v => aIface P t v | none => none
  | .makeFunc fn first captured =>
    bif aFn fn then (match evalL K.G tm first.toList, evalL K.G tm captured.toList with | some a, some b => some (.func fn ⟨a⟩ ⟨b⟩) | _, _ => none) else none
  | .fieldAddr s x f => match evalO K.G tm x with | some v => aFieldAddr P s v f | none => none
  | .field t x f => match evalO K.G tm x with | some v => aField P t v f | none => none
  | .indexAddr t x i => match evalO K.G tm x, evalO K.G tm i with | some u, some v => aIndexAddr P t u v | _, _ => none
  | .index t x i => match evalO K.G tm x, evalO K.G tm i with | some u, some v => aIndex P t u v | _, _ => none
  | .extract x i => match evalO K.G tm x with | some v => aExtract v i | none => none
  | .typeAssert x _ asserted ok => match evalO K.G tm x with | some v => aAssert P v asserted ok | none => none
  | .slice t x lo hi none =>
    match evalO K.G tm x, evalQ K.G tm lo, evalQ K.G tm hi with
    | some v, some l, some h => aStrSlice P t v l h
    | _, _, _ => none
  | .convert src dst x =>
    match evalO K.G tm x with
    | some (.int k n) => match P.underlying src, P.underlying dst with | some _, some (.int k') => some (.int k' (k'.wrap n)) | _, _ => none
    | _ => none
  | .call ⟨.builtin .len, args, argTypes⟩ =>
    match argTypes.toList, evalL K.G tm args.toList with
    | [t], some [.string s] => match P.underlying t with | some .string => some (.int .i64 s.data.toList.length) | _ => none
    | [t], some [.slice a n c] => match P.underlying t with | some (.slice _) => some (.int .i64 n) | _ => none
    | _, _ => none
  | .call ⟨.builtin .min, args, _⟩ => match evalL K.G tm args.toList with | some l => aMin l | none => none
  | .call ⟨.builtin .max, args, _⟩ => match evalL K.G tm args.toList with | some l => aMax l | none => none
  | _ => none

section
variable {P : Program} {σ : Ren}

structure Tm (σ : Ren) (G n : Nat) (tm : Tms) (a : Act) : Prop where
  fits : tm.n ≤ 2 ^ tm.d
  tmps : ∀ i, a.tmps[i]? = (tm.nth i).map (conc σ)
  lt : ∀ i v, tm.nth i = some v → vlt n v = true
  glob : ∀ b, b < G → σ.ρ b = b
  gn : G ≤ n

variable {G n : Nat} {tm : Tms} {a : Act}

theorem evalO_ok (h : Tm σ G n tm a) {x : Operand} {v : Value} (hv : evalO G tm x = some v) : a.eval x = conc σ v ∧ vlt n v = true := by
  cases x with
  | tmp t =>
    simp only [evalO] at hv
    refine ⟨?_, h.lt _ v hv⟩
    have := h.tmps t
    rw [hv] at this
    simp [Act.eval, this]
  | const u =>
    simp only [evalO] at hv
    cases hu : vlt 0 u with
    | false => rw [hu, cond_false] at hv; cases hv
    | true =>
      rw [hu, cond_true] at hv
      simp only [Option.some.injEq] at hv; subst hv
      exact ⟨(conc_pure σ _ hu).symm, vlt_mono (Nat.zero_le n) _ hu⟩
  | global g =>
    simp only [evalO] at hv
    cases hu : Nat.blt g G with
    | false => rw [hu, cond_false] at hv; cases hv
    | true =>
      rw [hu, cond_true] at hv
      rw [Nat.blt_eq] at hu
      simp only [Option.some.injEq] at hv; subst hv
      refine ⟨by simp [Act.eval, renA, h.glob g hu], ?_⟩
      have := h.gn
      simp [vlt, Nat.blt_eq]; omega
  | func f =>
    simp only [evalO, Option.some.injEq] at hv; subst hv
    exact ⟨rfl, rfl⟩

theorem evalL_ok (h : Tm σ G n tm a) : ∀ {l : List Operand} {vs : List Value}, evalL G tm l = some vs → l.map a.eval = vs.map (conc σ) ∧ ∀ v ∈ vs, vlt n v = true
  | [], vs, hv => by simp only [evalL, Option.some.injEq] at hv; subst hv; simp
  | x :: r, vs, hv => by
      unfold evalL at hv
      split at hv
      case h_2 => cases hv
      rename_i v l hx hl
      simp only [Option.some.injEq] at hv; subst hv
      obtain ⟨h1, h2⟩ := evalO_ok h hx
      obtain ⟨h3, h4⟩ := evalL_ok h hl
      exact ⟨by simp [h1, h3], by simpa using ⟨h2, h4⟩⟩
theorem evalA_ok (h : Tm σ G n tm a) {l : Array Operand} {vs : List Value} (hv : evalL G tm l.toList = some vs) : l.map a.eval = ⟨vs.map (conc σ)⟩ ∧ ∀ v ∈ vs, vlt n v = true := by
  obtain ⟨h1, h2⟩ := evalL_ok h hv
  refine ⟨?_, h2⟩
  apply Array.ext'
  simp [h1]
theorem evalP_ok (h : Tm σ G n tm a) : ∀ {l : List (Nat × Operand)} {vs : List (Nat × Value)}, evalP G tm l = some vs →
    (l.map fun x => (x.1, a.eval x.2)) = (vs.map fun x => (x.1, conc σ x.2)) ∧ ∀ x ∈ vs, vlt n x.2 = true
  | [], vs, hv => by simp only [evalP, Option.some.injEq] at hv; subst hv; simp
  | (i, x) :: r, vs, hv => by
      unfold evalP at hv
      split at hv
      case h_2 => cases hv
      rename_i v l hx hl
      simp only [Option.some.injEq] at hv; subst hv
      obtain ⟨h1, h2⟩ := evalO_ok h hx
      obtain ⟨h3, h4⟩ := evalP_ok h hl
      refine ⟨by simp [h1, h3], ?_⟩
      intro y hy
      rcases List.mem_cons.1 hy with rfl | hy
      · exact h2
      · exact h4 y hy
theorem evalPA_ok (h : Tm σ G n tm a) {l : Array (Nat × Operand)} {vs : List (Nat × Value)} (hv : evalP G tm l.toList = some vs) :
    (l.map fun (i, x) => (i, a.eval x)) = ⟨vs.map fun x => (x.1, conc σ x.2)⟩ ∧ ∀ x ∈ vs, vlt n x.2 = true := by
  obtain ⟨h1, h2⟩ := evalP_ok h hv
  refine ⟨?_, h2⟩
  apply Array.ext'
  rw [← h1]
  simp
theorem evalQ_ok (h : Tm σ G n tm a) {x : Option Operand} {v : Option Value} (hv : evalQ G tm x = some v) : x.map a.eval = v.map (conc σ) ∧ ∀ u, v = some u → vlt n u = true := by
  cases x with
  | none => simp only [evalQ, Option.some.injEq] at hv; subst hv; simp
  | some y =>
    simp only [evalQ] at hv
    split at hv
    case h_2 => cases hv
    rename_i u hu
    simp only [Option.some.injEq] at hv; subst hv
    obtain ⟨h1, h2⟩ := evalO_ok h hu
    exact ⟨by simp [h1], by rintro _ ⟨⟩; exact h2⟩

theorem aStrSlice_ok {t : TypeId} {v r : Value} {lo hi : Option Value} (h : aStrSlice P t v lo hi = some r) (w : World) :
    OkR P ((Instr.sliceAt t (conc σ v) (lo.map (conc σ)) (hi.map (conc σ)) none).run P w) σ n w r := by
  unfold aStrSlice at h
  split at h
  case h_2 => cases h
  rename_i s hu
  split at h
  case h_2 => cases h
  rename_i l u hb
  simp only [Option.some.injEq] at h
  subst h
  obtain ⟨hrun, _⟩ := run_bounds (P := P) (w := w) σ (isS := false) hb 0
  refine ⟨?_, rfl⟩
  simp only [Nat.add_zero] at hrun
  have hsz : s.data.toList.length = s.size := by simp
  rw [hsz] at hrun
  simp only [Instr.sliceAt, Sem.run_bind, run_underlying hu, Result.andThen_ok, Instr.slice, conc_string, Option.isSome_none, Bool.false_eq_true, if_false,
    Sem.run_pure, hrun, extract_exL]

theorem value_of {r : Result Value} {w : World} {v : Value} (h : OkR P r σ n w v) {s : Sem Value} (hs : s.run P w = r) {m : Sem Next} (hm : m = (do pure (.value (← s)))) :
    m.run P w = .ok (.value (conc σ v)) w ∧ vlt n v = true := by
  subst hm
  refine ⟨?_, h.2⟩
  simp only [Sem.run_bind, hs, h.1, Result.andThen_ok, Sem.run_pure]

theorem aPure_ok (K : Known P) (h : Tm σ K.G n tm a) {o : Oper} {v : Value} (hv : aPure K tm o = some v) (w : World) :
    (execOp a.eval o).run P w = .ok (.value (conc σ v)) w ∧ vlt n v = true := by
  obtain ⟨dst, op, type, pos, after, guard⟩ := o
  unfold aPure at hv
  cases op with
  | move x =>
    obtain ⟨h1, h2⟩ := evalO_ok h hv
    exact ⟨by simp [execOp, h1], h2⟩
  | assign x =>
    obtain ⟨h1, h2⟩ := evalO_ok h hv
    exact ⟨by simp [execOp, h1], h2⟩
  | pick c x y =>
    simp only at hv
    split at hv
    case h_2 => cases hv
    rename_i t u u' hc hx hy
    simp only [Option.some.injEq] at hv; subst hv
    obtain ⟨h1, _⟩ := evalO_ok h hc
    obtain ⟨h3, h4⟩ := evalO_ok h hx
    obtain ⟨h5, h6⟩ := evalO_ok h hy
    refine ⟨?_, by cases t <;> assumption⟩
    cases t <;> simp [execOp, h1, h3, h5, asBool]
  | build t parts =>
    simp only at hv
    split at hv
    case h_2 => cases hv
    rename_i ps hps
    obtain ⟨h1, h2⟩ := evalPA_ok h hps
    exact value_of (aBuild_ok (w := w) hv h2) rfl (by simp only [execOp, h1])
  | nilCheck x =>
    simp only at hv
    split at hv
    case h_2 => cases hv
    rename_i u hu
    obtain ⟨h1, h2⟩ := evalO_ok h hu
    exact aNilCheck_ok hv h2 _ rfl h1
  | binOp op t x y yt =>
    simp only at hv
    split at hv
    case h_2 => cases hv
    rename_i u u' hx hy
    obtain ⟨h1, _⟩ := evalO_ok h hx
    obtain ⟨h3, _⟩ := evalO_ok h hy
    exact value_of (aBinN_ok (w := w) (n := n) K hv) rfl (by simp only [execOp, h1, h3])
  | unOp op t x =>
    simp only at hv
    split at hv
    case h_2 => cases hv
    rename_i u hx
    obtain ⟨h1, _⟩ := evalO_ok h hx
    exact value_of (aUn_ok (P := P) (w := w) (n := n) hv) rfl (by simp only [execOp, h1])
  | makeInterface t x =>
    simp only at hv
    split at hv
    case h_2 => cases hv
    rename_i u hx
    obtain ⟨h1, h2⟩ := evalO_ok h hx
    exact value_of (aIface_ok (w := w) hv h2) rfl (by simp only [execOp, h1])
  | makeFunc fn first captured =>
    simp only at hv
    cases hf : aFn fn with
    | false => rw [hf, cond_false] at hv; cases hv
    | true =>
      rw [hf, cond_true] at hv
      split at hv
      case h_2 => cases hv
      rename_i x y hx hy
      simp only [Option.some.injEq] at hv; subst hv
      obtain ⟨h1, h2⟩ := evalA_ok h hx
      obtain ⟨h3, h4⟩ := evalA_ok h hy
      cases fn with
      | func f =>
        refine ⟨by simp [execOp, h1, h3, Instr.makeFunc, conc, concFn, concA, concL_eq], ?_⟩
        simp only [vlt, ltFn, vltA, Bool.true_and, Bool.and_eq_true]
        exact ⟨(vltL_iff _ _).2 h2, (vltL_iff _ _).2 h4⟩
      | _ => cases hf
  | fieldAddr s x f =>
    simp only at hv
    split at hv
    case h_2 => cases hv
    rename_i u hx
    obtain ⟨h1, h2⟩ := evalO_ok h hx
    exact value_of (aFieldAddr_ok (w := w) hv h2) rfl (by simp only [execOp, h1])
  | field s x f =>
    simp only at hv
    split at hv
    case h_2 => cases hv
    rename_i u hx
    obtain ⟨h1, h2⟩ := evalO_ok h hx
    exact value_of (aField_ok (w := w) hv h2) rfl (by simp only [execOp, h1])
  | indexAddr s x f =>
    simp only at hv
    split at hv
    case h_2 => cases hv
    rename_i u u' hx hy
    obtain ⟨h1, h2⟩ := evalO_ok h hx
    obtain ⟨h3, _⟩ := evalO_ok h hy
    exact value_of (aIndexAddr_ok (w := w) hv h2) rfl (by simp only [execOp, h1, h3])
  | index s x f =>
    simp only at hv
    split at hv
    case h_2 => cases hv
    rename_i u u' hx hy
    obtain ⟨h1, h2⟩ := evalO_ok h hx
    obtain ⟨h3, _⟩ := evalO_ok h hy
    exact value_of (aIndex_ok (w := w) hv h2) rfl (by simp only [execOp, h1, h3])
  | extract x i =>
    simp only at hv
    split at hv
    case h_2 => cases hv
    rename_i u hx
    obtain ⟨h1, h2⟩ := evalO_ok h hx
    exact value_of (aExtract_ok (P := P) (w := w) hv h2) rfl (by simp only [execOp, h1])
  | typeAssert x xt asserted ok =>
    simp only at hv
    split at hv
    case h_2 => cases hv
    rename_i u hx
    obtain ⟨h1, h2⟩ := evalO_ok h hx
    exact value_of (aAssert_ok (w := w) (xt := xt) hv h2) rfl (by simp only [execOp, h1])
  | slice t x lo hi mx =>
    cases mx with
    | some y => cases hv
    | none =>
      simp only at hv
      split at hv
      case h_2 => cases hv
      rename_i u l h' hx hl hh
      obtain ⟨h1, h2⟩ := evalO_ok h hx
      obtain ⟨h3, _⟩ := evalQ_ok h hl
      obtain ⟨h5, _⟩ := evalQ_ok h hh
      exact value_of (aStrSlice_ok (n := n) hv w) rfl (by simp only [execOp, h1, h3, h5, Option.map_none])
  | convert src dst x =>
    simp only at hv
    split at hv
    case h_2 => cases hv
    rename_i k m hx
    split at hv
    case h_2 => cases hv
    rename_i d k' hs hd
    simp only [Option.some.injEq] at hv; subst hv
    obtain ⟨h1, _⟩ := evalO_ok h hx
    refine ⟨?_, rfl⟩
    simp [execOp, h1, convert, run_underlying hs, run_underlying hd, Conv.intToInt]
  | call c =>
    obtain ⟨callee, args, argTypes⟩ := c
    cases callee with
    | builtin b =>
      cases b with
      | len =>
        simp only at hv
        split at hv
        · rename_i t s ht hx
          split at hv
          case h_2 => cases hv
          rename_i hu
          simp only [Option.some.injEq] at hv; subst hv
          obtain ⟨h1, _⟩ := evalA_ok h hx
          refine ⟨?_, rfl⟩
          have hat : argTypes = #[t] := by apply Array.ext'; simpa using ht
          simp [execOp, resolve, invoke, builtin, h1, hat, Builtin.len_, run_underlying hu, goInt]
        · rename_i t s k c ht hx
          split at hv
          case h_2 => cases hv
          rename_i e hu
          simp only [Option.some.injEq] at hv; subst hv
          obtain ⟨h1, _⟩ := evalA_ok h hx
          refine ⟨?_, rfl⟩
          have hat : argTypes = #[t] := by apply Array.ext'; simpa using ht
          cases s <;> simp [execOp, resolve, invoke, builtin, h1, hat, Builtin.len_, run_underlying hu, goInt]
        · cases hv
      | min =>
        simp only at hv
        split at hv
        case h_2 => cases hv
        rename_i l hx
        obtain ⟨h1, _⟩ := evalA_ok h hx
        obtain ⟨h3, h4⟩ := aMin_ok (P := P) (σ := σ) (w := w) (n := n) argTypes type hv
        refine ⟨?_, h4⟩
        simp only [execOp, resolve, invoke, builtin, h1, pure_bind, Sem.run_bind, h3, Result.andThen_ok, Sem.run_pure]
      | max =>
        simp only at hv
        split at hv
        case h_2 => cases hv
        rename_i l hx
        obtain ⟨h1, _⟩ := evalA_ok h hx
        obtain ⟨h3, h4⟩ := aMax_ok (P := P) (σ := σ) (w := w) (n := n) argTypes type hv
        refine ⟨?_, h4⟩
        simp only [execOp, resolve, invoke, builtin, h1, pure_bind, Sem.run_bind, h3, Result.andThen_ok, Sem.run_pure]
      | _ => cases hv
    | _ => cases hv
  | _ => cases hv

end
end Go.Abs
