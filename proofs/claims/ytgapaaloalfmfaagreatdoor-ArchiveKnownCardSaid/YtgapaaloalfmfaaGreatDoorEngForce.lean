/- Values, brought to their last form ahead of what follows: so the kernel carries small terms along. Each of these is the plain application. -/
import Derived.Test.YtgapaaloalfmfaaGreatDoorEngSlots
set_option linter.unusedVariables false
set_option linter.unusedSimpArgs false
set_option linter.unusedSectionVars false
namespace Go.Abs

section
variable {β : Type}

def forceN (n : Nat) (k : Nat → β) : β := match n with | 0 => k 0 | m + 1 => k (m + 1)
@[simp] theorem forceN_eq (n : Nat) (k : Nat → β) : forceN n k = k n := by cases n <;> rfl
def forceB (b : Bool) (k : Bool → β) : β := match b with | true => k true | false => k false
@[simp] theorem forceB_eq (n : Bool) (k : Bool → β) : forceB n k = k n := by cases n <;> rfl
def forceI (n : Int) (k : Int → β) : β := match n with | .ofNat m => forceN m fun m => k (.ofNat m) | .negSucc m => forceN m fun m => k (.negSucc m)
@[simp] theorem forceI_eq (n : Int) (k : Int → β) : forceI n k = k n := by cases n <;> simp [forceI]
/-- A list's cells (not what they hold). -/
def forceS {α : Type} : List α → (List α → β) → β
  | [], k => k []
  | x :: r, k => forceS r fun r => k (x :: r)
@[simp] theorem forceS_eq {α : Type} : ∀ (l : List α) (k : List α → β), forceS l k = k l
  | [], _ => rfl
  | x :: r, k => forceS_eq r _
/-- A list's elements too. -/
def forceL {α : Type} (f : α → (α → β) → β) : List α → (List α → β) → β
  | [], k => k []
  | x :: r, k => f x fun x => forceL f r fun r => k (x :: r)
theorem forceL_eq {α : Type} (f : α → (α → β) → β) (hf : ∀ x k, f x k = k x) : ∀ (l : List α) (k : List α → β), forceL f l k = k l
  | [], _ => rfl
  | x :: r, k => by rw [forceL, hf]; exact forceL_eq f hf r _

def forceV : Nat → Value → (Value → β) → β
  | 0, v, k => k v
  | d + 1, v, k => match v with
    | .bool b => forceB b fun b => k (.bool b)
    | .int kd n => forceI n fun n => k (.int kd n)
    | .string ⟨⟨l⟩⟩ => forceS l fun l => k (.string ⟨⟨l⟩⟩)
    | .pointer none => k (.pointer none)
    | .pointer (some ⟨b, o, s⟩) => forceN b fun b => forceN o fun o => k (.pointer (some ⟨b, o, s⟩))
    | .slice none l c => forceN l fun l => forceN c fun c => k (.slice none l c)
    | .slice (some ⟨b, o, s⟩) l c => forceN b fun b => forceN o fun o => forceN l fun l => forceN c fun c => k (.slice (some ⟨b, o, s⟩) l c)
    | .map (some r) => forceN r fun r => k (.map (some r))
    | .func fn ⟨f⟩ ⟨c⟩ => forceL (forceV d) f fun f => forceL (forceV d) c fun c => k (.func fn ⟨f⟩ ⟨c⟩)
    | .iface t v => forceV d v fun v => k (.iface t v)
    | .agg ⟨l⟩ => forceL (forceV d) l fun l => k (.agg ⟨l⟩)
    | .tuple ⟨l⟩ => forceL (forceV d) l fun l => k (.tuple ⟨l⟩)
    | v => k v
@[simp] theorem forceV_eq : ∀ (d : Nat) (v : Value) (k : Value → β), forceV d v k = k v
  | 0, v, k => rfl
  | d + 1, v, k => by
      have ih := forceL_eq (β := β) (forceV d) (forceV_eq d)
      unfold forceV
      split <;> simp [ih, forceV_eq d]

def BT.setK : Nat → BT → Nat → Value → (BT → β) → β
  | 0, _, _, v, k => k (.lf v)
  | d + 1, t, n, v, k => match t with
    | .nd l r => match Nat.beq (n % 2) 0 with | true => BT.setK d l (n / 2) v fun l => k (.nd l r) | false => BT.setK d r (n / 2) v fun r => k (.nd l r)
    | _ => match Nat.beq (n % 2) 0 with | true => BT.setK d .z (n / 2) v fun l => k (.nd l .z) | false => BT.setK d .z (n / 2) v fun r => k (.nd .z r)
theorem BT.setK_eq : ∀ (d : Nat) (t : BT) (n : Nat) (v : Value) (k : BT → β), BT.setK d t n v k = k (BT.set d t n v)
  | 0, _, _, _, _ => rfl
  | d + 1, t, n, v, k => by
      cases t <;> unfold BT.setK BT.set <;> cases Nat.beq (n % 2) 0 <;> simp [BT.setK_eq d]
def Tms.putK (s : Tms) (i : Nat) (v : Value) (k : Tms → β) : β :=
  match s with
  | ⟨d, n, t⟩ => match Nat.blt i n with | true => BT.setK d t i v fun t => k ⟨d, n, t⟩ | false => k ⟨d, n, t⟩
theorem Tms.putK_eq (s : Tms) (i : Nat) (v : Value) (k : Tms → β) : s.putK i v k = k (s.put i v) := by
  obtain ⟨d, n, t⟩ := s
  unfold Tms.putK Tms.put
  simp only
  cases Nat.blt i n <;> simp [BT.setK_eq]
def Tms.argsK : Tms → Nat → List Value → (Tms → β) → β
  | s, _, [], k => k s
  | s, i, v :: r, k => forceV 6 v fun v => s.putK i v fun s => Tms.argsK s (i + 1) r k
theorem Tms.argsK_eq : ∀ (l : List Value) (s : Tms) (i : Nat) (k : Tms → β), s.argsK i l k = k (s.args i l)
  | [], _, _, _ => rfl
  | v :: r, s, i, k => by rw [Tms.argsK, forceV_eq, Tms.putK_eq, Tms.argsK_eq r]; rfl

end
end Go.Abs
