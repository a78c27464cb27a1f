/- Operations that turn nothing, further: arithmetic, comparisons, conversions, len. -/
import Derived.Test.YtgapaaloalfmfaaGreatDoorEngOps3
import Derived.Laws.StructEq
set_option linter.unusedVariables false
set_option linter.unusedSimpArgs false
set_option linter.unusedSectionVars false
namespace Go.Abs

def bytesEq : List UInt8 → List UInt8 → Bool
  | [], [] => true
  | a :: x, b :: y => Nat.beq a.toNat b.toNat && bytesEq x y
  | _, _ => false
def bytesLt : List UInt8 → List UInt8 → Bool
  | _, [] => false
  | [], _ :: _ => true
  | a :: x, b :: y => Nat.blt a.toNat b.toNat || (Nat.beq a.toNat b.toNat && bytesLt x y)

def catB (x y : ByteArray) : ByteArray := ⟨⟨x.data.toList ++ y.data.toList⟩⟩

def aInt (op : BinOp) (k : IntKind) (x y : Int) : Option Value :=
  match op with
  | .add => some (.int k (k.wrap (x + y)))
  | .sub => some (.int k (k.wrap (x - y)))
  | .mul => some (.int k (k.wrap (x * y)))
  | .quo => if y = 0 then none else some (.int k (k.wrap (x.tdiv y)))
  | .rem => if y = 0 then none else some (.int k (x.tmod y))
  | .and => some (.int k (bits .and k x y))
  | .or => some (.int k (bits .or k x y))
  | .xor => some (.int k (bits .xor k x y))
  | .andNot => some (.int k (bits .andNot k x y))
  | .eql => some (.bool (x == y))
  | .neq => some (.bool (x != y))
  | .lss => some (.bool (decide (x < y)))
  | .leq => some (.bool (decide (x ≤ y)))
  | .gtr => some (.bool (decide (x > y)))
  | .geq => some (.bool (decide (x ≥ y)))
  | _ => none

def aShift (op : BinOp) (k : IntKind) (x y : Int) : Option Value :=
  if y < 0 then none else
  match op with
  | .shl => some (.int k (k.wrap (x * 2 ^ (min y.toNat k.bits))))
  | .shr => some (.int k (x.fdiv (2 ^ (min y.toNat k.bits))))
  | _ => none

def aStr (op : BinOp) (x y : ByteArray) : Option Value :=
  match op with
  | .add => if x.data.toList.length + y.data.toList.length ≤ 9223372036854775807 then some (.string (catB x y)) else none
  | .eql => some (.bool (bytesEq x.data.toList y.data.toList))
  | .neq => some (.bool (!bytesEq x.data.toList y.data.toList))
  | .lss => some (.bool (bytesLt x.data.toList y.data.toList))
  | .leq => some (.bool (bytesLt x.data.toList y.data.toList || bytesEq x.data.toList y.data.toList))
  | .gtr => some (.bool (!(bytesLt x.data.toList y.data.toList || bytesEq x.data.toList y.data.toList)))
  | .geq => some (.bool (!bytesLt x.data.toList y.data.toList))
  | _ => none

/-- Types whose values are compared part by part: structs and arrays of numbers, bools and strings. -/
structure Env (P : Program) where
  eqs : List TypeId
  ok : ∀ t ∈ eqs, P.eqGuardType P.depth t = false ∧ ∃ m, m ≤ 10000 ∧ P.keyTypeAt m t = true

def litEq : Lit → Lit → Bool
  | .bool a, .bool b => a == b
  | .int k a, .int k' b => decide (k = k') && a == b
  | .string a, .string b => bytesEq a b
  | .float k a, .float k' b => decide (k = k') && a == b
  | .nil, .nil => true
  | _, _ => false
def litsEq : List Lit → List Lit → Bool
  | [], [] => true
  | a :: x, b :: y => litEq a b && litsEq x y
  | _, _ => false

def hasN (t : Nat) : List Nat → Bool
  | [] => false
  | x :: r => Nat.beq x t || hasN t r

/-- Are two values the same? Values that are no numbers and no strings. -/
def aEq {P : Program} (E : Env P) (t : TypeId) (x y : Value) : Option Bool :=
  match P.underlying t, x, y with
  | some .bool, .bool a, .bool b => some (a == b)
  | some (.pointer _), .pointer none, .pointer b => some b.isNone
  | some (.pointer _), .pointer _, .pointer none => some false
  | some (.slice _), .slice none _ _, .slice b _ _ => some b.isNone
  | some (.slice _), .slice _ _ _, .slice none _ _ => some false
  | some (.map _ _), .map none, .map b => some b.isNone
  | some (.map _ _), .map _, .map none => some false
  | some (.func _ _ _), .nilFunc, .nilFunc => some true
  | some (.func _ _ _), .nilFunc, .func _ _ _ => some false
  | some (.func _ _ _), .func _ _ _, .nilFunc => some false
  | some (.interface _), .nilIface, .iface _ _ => some false
  | some (.interface _), .iface _ _, .nilIface => some false
  | some _, .agg ⟨xs⟩, .agg ⟨ys⟩ =>
    bif hasN t E.eqs && vltL 0 xs && vltL 0 ys && (Value.agg ⟨xs⟩).formed P t && (Value.agg ⟨ys⟩).formed P t then
      match P.keyLits 10 t xs, P.keyLits 10 t ys with
      | some a, some b => some (litsEq a b)
      | _, _ => none
    else none
  | _, _, _ => none

def aBin {P : Program} (E : Env P) (op : BinOp) (t : TypeId) (x y : Value) : Option Value :=
  match x, y with
  | .int k a, .int k' b =>
    match op with
    | .shl => aShift .shl k a b
    | .shr => aShift .shr k a b
    | op => if k = k' then aInt op k a b else none
  | .string a, .string b => aStr op a b
  | x, y =>
    match op with
    | .eql => match aEq E t x y with | some b => some (.bool b) | none => none
    | .neq => match aEq E t x y with | some b => some (.bool !b) | none => none
    | _ => none

section
variable {P : Program} {σ : Ren} {w : World}

theorem bytesEq_eq : ∀ x y, bytesEq x y = (x == y)
  | [], [] => rfl
  | [], _ :: _ => rfl
  | _ :: _, [] => rfl
  | a :: x, b :: y => by
      have : Nat.beq a.toNat b.toNat = (a == b) := by
        rw [Bool.eq_iff_iff, Nat.beq_eq, beq_iff_eq, UInt8.toNat_inj]
      simp [bytesEq, bytesEq_eq x y, this]
theorem bytesLt_eq : ∀ x y, bytesLt x y = Op.bytesLess x y
  | [], [] => rfl
  | _ :: _, [] => rfl
  | [], _ :: _ => rfl
  | a :: x, b :: y => by
      have h1 : Nat.beq a.toNat b.toNat = (a == b) := by
        rw [Bool.eq_iff_iff, Nat.beq_eq, beq_iff_eq, UInt8.toNat_inj]
      have h2 : Nat.blt a.toNat b.toNat = decide (a < b) := by
        rw [Bool.eq_iff_iff, Nat.blt_eq, decide_eq_true_iff, UInt8.lt_iff_toNat_lt]
      simp [bytesLt, Op.bytesLess, bytesLt_eq x y, h1, h2]
theorem catB_eq (x y : ByteArray) : x ++ y = catB x y := by
  apply ByteArray.ext
  simp only [ByteArray.data_append, catB]
  apply Array.ext'
  simp

theorem aInt_ok {n : Nat} {op : BinOp} {k : IntKind} {x y : Int} {r : Value} (t : TypeId) (hs : op ≠ .shl) (hs' : op ≠ .shr) (h : aInt op k x y = some r) :
    OkR P ((binOp op t (.int k x) (.int k y)).run P w) σ n w r := by
  cases op <;> simp only [aInt] at h <;> first
    | (cases h; done)
    | (exact absurd rfl hs)
    | (exact absurd rfl hs')
    | (simp only [Option.some.injEq] at h; subst h; refine ⟨?_, rfl⟩; first | (simp [binOp, Op.intArith]; done) | (simp [binOp, Op.intCmp]; done) | (simp [binOp, intBits_and, intBits_or, intBits_xor, intBits_andNot]; done))
    | skip
  all_goals
    split at h
    · cases h
    · rename_i hy
      simp only [Option.some.injEq] at h
      subst h
      refine ⟨?_, rfl⟩
      simp [binOp, Op.intDiv, hy]

theorem aShift_ok {n : Nat} {op : BinOp} {k yk : IntKind} {x y : Int} {r : Value} (t : TypeId) (hs : op = .shl ∨ op = .shr) (h : aShift op k x y = some r) :
    OkR P ((binOp op t (.int k x) (.int yk y)).run P w) σ n w r := by
  unfold aShift at h
  by_cases hy : y < 0
  · rw [if_pos hy] at h; cases h
  · rw [if_neg hy] at h
    rcases hs with rfl | rfl
    · simp only [Option.some.injEq] at h; subst h; refine ⟨?_, rfl⟩
      simp [binOp, Op.shift, hy]
    · simp only [Option.some.injEq] at h; subst h; refine ⟨?_, rfl⟩
      simp [binOp, Op.shift, hy]

theorem aStr_ok {n : Nat} {op : BinOp} {x y : ByteArray} {r : Value} (t : TypeId) (h : aStr op x y = some r) :
    OkR P ((binOp op t (.string x) (.string y)).run P w) σ n w r := by
  unfold aStr at h
  cases op <;> first
    | (cases h; done)
    | skip
  case add =>
    by_cases hl : x.data.toList.length + y.data.toList.length ≤ 9223372036854775807
    · rw [if_pos hl] at h; simp only [Option.some.injEq] at h; subst h; refine ⟨?_, rfl⟩
      have hx : x.size = x.data.toList.length := by simp
      have hy : y.size = y.data.toList.length := by simp
      have : ¬ (((x.size + y.size : Nat) : Int) > IntKind.i64.max) := by rw [IntKind.max_i64, hx, hy]; omega
      simp only [binOp_string_add, Op.stringOp, if_neg this, Sem.run_pure, catB_eq, conc_string]
    · rw [if_neg hl] at h; cases h
  all_goals
    simp only [Option.some.injEq] at h; subst h; refine ⟨?_, rfl⟩
    simp [binOp, Op.stringOp, bytesEq_eq, bytesLt_eq, ByteArray.toList_eq]

theorem litEq_iff (a b : Lit) : litEq a b = true ↔ a = b := by
  cases a <;> cases b <;> simp [litEq, bytesEq_eq]
theorem litsEq_iff : ∀ (a b : List Lit), litsEq a b = true ↔ a = b
  | [], [] => by simp [litsEq]
  | [], _ :: _ => by simp [litsEq]
  | _ :: _, [] => by simp [litsEq]
  | a :: x, b :: y => by simp [litsEq, litEq_iff, litsEq_iff x y]

theorem hasN_mem {t : Nat} : ∀ {l : List Nat}, hasN t l = true → t ∈ l
  | [], h => by simp [hasN] at h
  | x :: r, h => by
      simp only [hasN, Bool.or_eq_true, Nat.beq_eq] at h
      rcases h with rfl | h
      · simp
      · simp [hasN_mem h]

theorem equal_of {t : TypeId} {x y : Value} {b : Bool} (h : ∀ d, (Op.equalIn (d + 1) t x y).run P w = .ok b w) : (Op.equal t x y).run P w = .ok b w := h 9999

theorem aEq_ok (E : Env P) {t : TypeId} {x y : Value} {b : Bool} (h : aEq E t x y = some b) (ox oy : Operand) (op : BinOp) :
    (eqGuard op t ox oy (conc σ x) (conc σ y)).run P w = .ok () w ∧ (Op.equal t (conc σ x) (conc σ y)).run P w = .ok b w ∧
      binOp .eql t (conc σ x) (conc σ y) = (do pure (.bool (← Op.equal t (conc σ x) (conc σ y)))) ∧ binOp .neq t (conc σ x) (conc σ y) = (do pure (.bool (!(← Op.equal t (conc σ x) (conc σ y))))) := by
  unfold aEq at h
  split at h
  · rename_i a c hu
    simp only [Option.some.injEq] at h; subst h
    refine ⟨by simp [eqGuard_at_bool], equal_of fun d => ?_, by simp [binOp], by simp [binOp]⟩
    simp [Op.equalIn, run_underlying hu]
  · rename_i c e hu
    simp only [Option.some.injEq] at h; subst h
    cases e <;> refine ⟨by simp [eqGuard_at_pointer], equal_of fun d => ?_, by simp [binOp], by simp [binOp]⟩ <;> simp [Op.equalIn, run_underlying hu]
  · rename_i el c hne hu
    simp only [Option.some.injEq] at h; subst h
    cases c with
    | none => exact (hne rfl).elim
    | some a => refine ⟨by simp [eqGuard_at_pointer], equal_of fun d => ?_, by simp [binOp], by simp [binOp]⟩; simp [Op.equalIn, run_underlying hu]
  · rename_i c l m e l' m' hu
    simp only [Option.some.injEq] at h; subst h
    cases e <;> refine ⟨by simp [eqGuard_at_slice], equal_of fun d => ?_, by simp [binOp], by simp [binOp]⟩ <;> simp [Op.equalIn, run_underlying hu]
  · rename_i el c l m l' m' hne hu
    simp only [Option.some.injEq] at h; subst h
    cases c with
    | none => exact (hne rfl).elim
    | some a => refine ⟨by simp [eqGuard_at_slice], equal_of fun d => ?_, by simp [binOp], by simp [binOp]⟩; simp [Op.equalIn, run_underlying hu]
  · rename_i c l e hu
    simp only [Option.some.injEq] at h; subst h
    cases e <;> refine ⟨by simp [eqGuard_at_map], equal_of fun d => ?_, by simp [binOp], by simp [binOp]⟩ <;> simp [Op.equalIn, run_underlying hu]
  · rename_i el ke c hne hu
    simp only [Option.some.injEq] at h; subst h
    cases c with
    | none => exact (hne rfl).elim
    | some a => refine ⟨by simp [eqGuard_at_map], equal_of fun d => ?_, by simp [binOp], by simp [binOp]⟩; simp [Op.equalIn, run_underlying hu]
  · rename_i ps rs v hu
    simp only [Option.some.injEq] at h; subst h
    refine ⟨by simp [eqGuard_at_nilFunc], equal_of fun d => ?_, by simp [binOp], by simp [binOp]⟩
    simp [Op.equalIn, run_underlying hu]
  · rename_i ps rs v f a c hu
    simp only [Option.some.injEq] at h; subst h
    refine ⟨by simp [eqGuard_at_nilFunc], equal_of fun d => ?_, by simp [binOp, conc], by simp [binOp, conc]⟩
    simp [Op.equalIn, run_underlying hu, conc]
  · rename_i ps rs v f a c hu
    simp only [Option.some.injEq] at h; subst h
    refine ⟨by simp [eqGuard_at_func, conc], equal_of fun d => ?_, by simp [binOp, conc], by simp [binOp, conc]⟩
    simp [Op.equalIn, run_underlying hu, conc]
  · rename_i ms tt u hu
    simp only [Option.some.injEq] at h; subst h
    refine ⟨by simp [eqGuard_nil_iface], equal_of fun d => ?_, by simp [binOp], by simp [binOp]⟩
    simp [Op.equalIn, run_underlying hu]
  · rename_i ms tt u hu
    simp only [Option.some.injEq] at h; subst h
    refine ⟨by simp [eqGuard_at_iface], equal_of fun d => ?_, by simp [binOp], by simp [binOp]⟩
    simp [Op.equalIn, run_underlying hu]
  · rename_i d xs ys hu
    cases hc : (hasN t E.eqs && vltL 0 xs && vltL 0 ys && (Value.agg ⟨xs⟩).formed P t && (Value.agg ⟨ys⟩).formed P t) with
    | false => rw [hc, cond_false] at h; cases h
    | true =>
      rw [hc, cond_true] at h
      simp only [Bool.and_eq_true] at hc
      obtain ⟨⟨⟨⟨hc1, hc2⟩, hc3⟩, hfx⟩, hfy⟩ := hc
      split at h
      case h_2 => cases h
      rename_i la lb ha hb
      simp only [Option.some.injEq] at h
      obtain ⟨hg, m, hm, hk⟩ := E.ok t (hasN_mem hc1)
      have hx : conc σ (.agg ⟨xs⟩) = .agg ⟨xs⟩ := conc_pure σ _ (by simpa [vlt, vltA] using hc2)
      have hy : conc σ (.agg ⟨ys⟩) = .agg ⟨ys⟩ := conc_pure σ _ (by simpa [vlt, vltA] using hc3)
      rw [hx, hy]
      obtain ⟨r, hr, hiff⟩ := run_equalIn_deep (10000 - m) m t hk w 10 10 (.agg ⟨xs⟩) (.agg ⟨ys⟩) la lb hfx hfy ha hb
      have hd : 10000 - m + m = 10000 := by omega
      rw [hd] at hr
      have : r = b := by
        rw [← h, Bool.eq_iff_iff, hiff, litsEq_iff]
      subst this
      exact ⟨run_eqGuard_agg w op t ox oy _ _ hg, hr, by simp [binOp], by simp [binOp]⟩
  · cases h

theorem aBin_ok (E : Env P) {n : Nat} {op : BinOp} {t : TypeId} {x y r : Value} (h : aBin E op t x y = some r) (ox oy : Operand) :
    OkR P ((do eqGuard op t ox oy (conc σ x) (conc σ y); binOp op t (conc σ x) (conc σ y) : Sem Value).run P w) σ n w r := by
  unfold aBin at h
  split at h
  · rename_i k a k' b
    have hg : eqGuard op t ox oy (conc σ (.int k a)) (conc σ (.int k' b)) = pure () := eqGuard_at_int ..
    rw [hg]
    simp only [pure_bind, conc_int]
    split at h
    · exact aShift_ok t (.inl rfl) h
    · exact aShift_ok t (.inr rfl) h
    · rename_i h1 h2
      by_cases hk : k = k'
      · rw [if_pos hk] at h; subst hk; exact aInt_ok t h1 h2 h
      · rw [if_neg hk] at h; cases h
  · rename_i a b
    have hg : eqGuard op t ox oy (conc σ (.string a)) (conc σ (.string b)) = pure () := eqGuard_at_string ..
    rw [hg]
    simp only [pure_bind, conc_string]
    exact aStr_ok t h
  · split at h
    · split at h
      case h_2 => cases h
      rename_i b hb
      simp only [Option.some.injEq] at h; subst h
      obtain ⟨h1, h2, h3, _⟩ := aEq_ok (w := w) (σ := σ) E hb ox oy .eql
      refine ⟨?_, rfl⟩
      simp only [Sem.run_bind, h1, Result.andThen_ok, h3, h2, Sem.run_pure, conc_bool]
    · split at h
      case h_2 => cases h
      rename_i b hb
      simp only [Option.some.injEq] at h; subst h
      obtain ⟨h1, h2, _, h3⟩ := aEq_ok (w := w) (σ := σ) E hb ox oy .neq
      refine ⟨?_, rfl⟩
      simp only [Sem.run_bind, h1, Result.andThen_ok, h3, h2, Sem.run_pure, conc_bool]
    · cases h

end
end Go.Abs
