/- The slots of an activation, as a tree: what the kernel reads and writes in few steps. -/
import Derived.Test.YtgapaaloalfmfaaGreatDoorEngVal
import GoSem.Machine.Frame
set_option linter.unusedVariables false
set_option linter.unusedSimpArgs false
set_option linter.unusedSectionVars false
namespace Go.Abs

inductive BT where
  | z
  | lf (v : Value)
  | nd (l r : BT)

def BT.get : Nat → BT → Nat → Value
  | 0, t, _ => match t with | .lf v => v | _ => undef
  | d + 1, t, n => match t with
    | .nd l r => match Nat.beq (n % 2) 0 with | true => BT.get d l (n / 2) | false => BT.get d r (n / 2)
    | _ => undef
def BT.set : Nat → BT → Nat → Value → BT
  | 0, _, _, v => .lf v
  | d + 1, t, n, v => match t with
    | .nd l r => match Nat.beq (n % 2) 0 with | true => .nd (BT.set d l (n / 2) v) r | false => .nd l (BT.set d r (n / 2) v)
    | _ => match Nat.beq (n % 2) 0 with | true => .nd (BT.set d .z (n / 2) v) .z | false => .nd .z (BT.set d .z (n / 2) v)

theorem BT.get_z (d n : Nat) : BT.get d .z n = undef := by cases d <;> rfl
theorem BT.get_set : ∀ (d : Nat) (t : BT) (n m : Nat) (v : Value), n < 2 ^ d → m < 2 ^ d → BT.get d (BT.set d t n v) m = if m = n then v else BT.get d t m
  | 0, t, n, m, v, hn, hm => by
      have : m = n := by omega
      simp [BT.get, BT.set, this]
  | d + 1, t, n, m, v, hn, hm => by
      have h2 : 2 ^ (d + 1) = 2 * 2 ^ d := by rw [Nat.pow_succ]; omega
      rw [h2] at hn hm
      have hn' : n / 2 < 2 ^ d := by omega
      have hm' : m / 2 < 2 ^ d := by omega
      have even : ∀ k, Nat.beq (k % 2) 0 = true ↔ k % 2 = 0 := fun k => by rw [Nat.beq_eq]
      have ih := fun t => BT.get_set d t (n / 2) (m / 2) v hn' hm'
      have key : ∀ l r : BT, (BT.get (d + 1) (match Nat.beq (n % 2) 0 with | true => BT.nd (BT.set d l (n / 2) v) r | false => .nd l (BT.set d r (n / 2) v)) m) =
          if m = n then v else (match Nat.beq (m % 2) 0 with | true => BT.get d l (m / 2) | false => BT.get d r (m / 2)) := by
        intro l r
        cases en : Nat.beq (n % 2) 0 with
        | true =>
          rw [even] at en
          simp only [BT.get]
          cases em : Nat.beq (m % 2) 0 with
          | true =>
            rw [even] at em
            simp only [ih]
            by_cases h : m = n
            · subst h; simp
            · have : ¬ m / 2 = n / 2 := by omega
              simp [h, this]
          | false =>
            have em' : ¬ m % 2 = 0 := by rw [← even, em]; simp
            have : ¬ m = n := by omega
            simp [this]
        | false =>
          have en' : ¬ n % 2 = 0 := by rw [← even, en]; simp
          simp only [BT.get]
          cases em : Nat.beq (m % 2) 0 with
          | true =>
            rw [even] at em
            have : ¬ m = n := by omega
            simp [this]
          | false =>
            have em' : ¬ m % 2 = 0 := by rw [← even, em]; simp
            simp only [ih]
            by_cases h : m = n
            · subst h; simp
            · have : ¬ m / 2 = n / 2 := by omega
              simp [h, this]
      have none_ : ∀ k : Nat, (match Nat.beq (k % 2) 0 with | true => BT.get d .z (k / 2) | false => BT.get d .z (k / 2)) = undef := by
        intro k; cases Nat.beq (k % 2) 0 <;> simp [BT.get_z]
      cases t with
      | nd l r => simp only [BT.set]; rw [key l r]; rfl
      | z => simp only [BT.set]; rw [key .z .z, none_]; rfl
      | lf u => simp only [BT.set]; rw [key .z .z, none_]; rfl

structure Tms where
  d : Nat
  n : Nat
  t : BT

def Tms.nth (s : Tms) (i : Nat) : Option Value := bif Nat.blt i s.n then some (s.t.get s.d i) else none
def Tms.put (s : Tms) (i : Nat) (v : Value) : Tms := bif Nat.blt i s.n then ⟨s.d, s.n, s.t.set s.d i v⟩ else s
theorem Tms.n_put (s : Tms) (i : Nat) (v : Value) : (s.put i v).n = s.n := by unfold Tms.put; cases Nat.blt i s.n <;> rfl
theorem Tms.d_put (s : Tms) (i : Nat) (v : Value) : (s.put i v).d = s.d := by unfold Tms.put; cases Nat.blt i s.n <;> rfl
theorem Tms.nth_put (s : Tms) (i j : Nat) (v : Value) (h : s.n ≤ 2 ^ s.d) : (s.put i v).nth j = if j = i ∧ i < s.n then some v else s.nth j := by
  unfold Tms.put
  cases hi : Nat.blt i s.n with
  | false =>
    have hi' : ¬ i < s.n := by rw [← Nat.blt_eq, hi]; simp
    rw [cond_false, if_neg (fun h => hi' h.2)]
  | true =>
    rw [cond_true]
    rw [Nat.blt_eq] at hi
    unfold Tms.nth
    simp only
    cases hj : Nat.blt j s.n with
    | false =>
      have hj' : ¬ j < s.n := by rw [← Nat.blt_eq, hj]; simp
      rw [cond_false, if_neg (fun h => hj' (by omega))]
      rfl
    | true =>
      rw [Nat.blt_eq] at hj
      rw [cond_true, BT.get_set _ _ _ _ _ (by omega) (by omega)]
      by_cases h : j = i
      · rw [if_pos h, if_pos ⟨h, hi⟩]
      · rw [if_neg h, if_neg (fun hh => h hh.1)]
        rfl

/-- Slots that hold nothing yet. -/
def Tms.new (n : Nat) : Tms := ⟨Nat.log2 n + 1, n, .z⟩
theorem Tms.new_fits (n : Nat) : (Tms.new n).n ≤ 2 ^ (Tms.new n).d := Nat.le_of_lt Nat.lt_log2_self
theorem Tms.nth_new (n i : Nat) : (Tms.new n).nth i = if i < n then some undef else none := by
  unfold Tms.nth Tms.new
  simp only [BT.get_z]
  cases hi : Nat.blt i n with
  | true => rw [Nat.blt_eq] at hi; simp [hi]
  | false =>
    have hi' : ¬ i < n := by rw [← Nat.blt_eq, hi]; simp
    simp [hi']
/-- The arguments, from the i-th slot on. -/
def Tms.args : Tms → Nat → List Value → Tms
  | s, _, [] => s
  | s, i, v :: r => Tms.args (s.put i v) (i + 1) r
theorem Tms.args_fits : ∀ (l : List Value) (s : Tms) (i : Nat), s.n ≤ 2 ^ s.d → (s.args i l).n ≤ 2 ^ (s.args i l).d
  | [], _, _, h => h
  | v :: r, s, i, h => Tms.args_fits r (s.put i v) (i + 1) (by rw [Tms.n_put, Tms.d_put]; exact h)
theorem Tms.nth_args : ∀ (l : List Value) (s : Tms) (i j : Nat), s.n ≤ 2 ^ s.d → i + l.length ≤ s.n → (s.args i l).nth j = if i ≤ j ∧ j < i + l.length then l[j - i]? else s.nth j
  | [], s, i, j, _, _ => by
      have : ¬ (i ≤ j ∧ j < i + 0) := by omega
      simp only [Tms.args, List.length_nil, if_neg this]
  | v :: r, s, i, j, h, hl => by
      simp only [List.length_cons] at hl
      rw [Tms.args, Tms.nth_args r _ _ _ (by rw [Tms.n_put, Tms.d_put]; exact h) (by rw [Tms.n_put]; omega), Tms.nth_put _ _ _ _ h]
      by_cases h1 : j = i
      · subst h1
        rw [if_neg (by omega), if_pos ⟨rfl, by omega⟩, if_pos (by simp only [List.length_cons]; omega)]
        simp
      · by_cases h2 : i + 1 ≤ j ∧ j < i + 1 + r.length
        · rw [if_pos h2, if_pos (by simp only [List.length_cons]; omega)]
          have : j - i = j - (i + 1) + 1 := by omega
          rw [this]; simp
        · rw [if_neg h2, if_neg (fun hh => h1 hh.1), if_neg (by simp only [List.length_cons]; omega)]

end Go.Abs
