/- Values up to the numbers of their blocks: a renaming of blocks (and what a slice's capacity is above what is known), and what it makes of a value. -/
import GoSem.Core.Value
set_option linter.unusedVariables false
set_option linter.unusedSimpArgs false
set_option linter.unusedSectionVars false
namespace Go.Abs

structure Ren where
  ρ : Nat → Nat
  κ : Nat → Nat

def renA (σ : Ren) (a : Addr) : Addr := ⟨σ.ρ a.block, a.off, a.spot⟩

def concFn (σ : Ren) : Fn → Fn
  | .yield l => .yield (σ.ρ l)
  | f => f

/-- How much more room a slice has than is known: none, where its address bears a mark ('s[l:h:m]' has room for just that much). -/
def exK (σ : Ren) (a : Addr) : Nat := match a.spot with | none => σ.κ a.block | some _ => 0

mutual
def conc (σ : Ren) : Value → Value
  | .bool b => .bool b
  | .int k n => .int k n
  | .float k b => .float k b
  | .complex k a b => .complex k a b
  | .string s => .string s
  | .pointer none => .pointer none
  | .pointer (some a) => .pointer (some (renA σ a))
  | .slice none l c => .slice none l c
  | .slice (some a) l c => .slice (some ⟨σ.ρ a.block, a.off, none⟩) l (c + exK σ a)
  | .map none => .map none
  | .map (some r) => .map (some (σ.ρ r))
  | .chan none => .chan none
  | .chan (some r) => .chan (some (σ.ρ r))
  | .func fn f c => .func (concFn σ fn) (concA σ f) (concA σ c)
  | .nilFunc => .nilFunc
  | .iface t v => .iface t (conc σ v)
  | .nilIface => .nilIface
  | .agg cs => .agg (concA σ cs)
  | .tuple vs => .tuple (concA σ vs)
def concA (σ : Ren) : Array Value → Array Value
  | ⟨l⟩ => ⟨concL σ l⟩
def concL (σ : Ren) : List Value → List Value
  | [] => []
  | v :: r => conc σ v :: concL σ r
end

section
variable (σ : Ren)
@[simp] theorem conc_bool (b : Bool) : conc σ (.bool b) = .bool b := rfl
@[simp] theorem conc_int (k : IntKind) (n : Int) : conc σ (.int k n) = .int k n := rfl
@[simp] theorem conc_string (s : ByteArray) : conc σ (.string s) = .string s := rfl
@[simp] theorem conc_ptrNil : conc σ (.pointer none) = .pointer none := rfl
@[simp] theorem conc_ptr (a : Addr) : conc σ (.pointer (some a)) = .pointer (some (renA σ a)) := rfl
@[simp] theorem conc_sliceNil (l c : Nat) : conc σ (.slice none l c) = .slice none l c := rfl
@[simp] theorem conc_slice (b o l c : Nat) : conc σ (.slice (some ⟨b, o, none⟩) l c) = .slice (some (renA σ ⟨b, o, none⟩)) l (c + σ.κ b) := rfl
@[simp low] theorem conc_sliceX (a : Addr) (l c : Nat) : conc σ (.slice (some a) l c) = .slice (some ⟨σ.ρ a.block, a.off, none⟩) l (c + exK σ a) := rfl
@[simp] theorem conc_sliceM (b o s l c : Nat) : conc σ (.slice (some ⟨b, o, some s⟩) l c) = .slice (some ⟨σ.ρ b, o, none⟩) l c := rfl
@[simp] theorem conc_mapNil : conc σ (.map none) = .map none := rfl
@[simp] theorem conc_map (r : Nat) : conc σ (.map (some r)) = .map (some (σ.ρ r)) := rfl
@[simp] theorem conc_nilFunc : conc σ .nilFunc = .nilFunc := rfl
@[simp] theorem conc_nilIface : conc σ .nilIface = .nilIface := rfl
@[simp] theorem conc_iface (t : TypeId) (v : Value) : conc σ (.iface t v) = .iface t (conc σ v) := rfl
end

theorem concL_eq (σ : Ren) : ∀ l, concL σ l = l.map (conc σ)
  | [] => by simp [concL]
  | v :: r => by simp [concL, concL_eq σ r]
theorem concA_eq (σ : Ren) (a : Array Value) : concA σ a = a.map (conc σ) := by
  cases a with | mk l => simp [concA, concL_eq]
@[simp] theorem size_concA (σ : Ren) (a : Array Value) : (concA σ a).size = a.size := by simp [concA_eq]
theorem toList_concA (σ : Ren) (a : Array Value) : (concA σ a).toList = concL σ a.toList := by cases a with | mk l => simp [concA]
@[simp] theorem get_concA (σ : Ren) (a : Array Value) (i : Nat) : (concA σ a)[i]? = (a[i]?).map (conc σ) := by simp [concA_eq]

/-- All blocks that are named in a value are below n. -/
def ltFn (n : Nat) : Fn → Bool
  | .yield l => Nat.blt l n
  | _ => true
mutual
def vlt (n : Nat) : Value → Bool
  | .bool _ => true
  | .int _ _ => true
  | .float _ _ => true
  | .complex _ _ _ => true
  | .string _ => true
  | .pointer none => true
  | .pointer (some a) => Nat.blt a.block n
  | .slice none _ _ => true
  | .slice (some a) _ _ => Nat.blt a.block n
  | .map none => true
  | .map (some r) => Nat.blt r n
  | .chan none => true
  | .chan (some r) => Nat.blt r n
  | .func fn f c => ltFn n fn && vltA n f && vltA n c
  | .nilFunc => true
  | .iface _ v => vlt n v
  | .nilIface => true
  | .agg cs => vltA n cs
  | .tuple vs => vltA n vs
def vltA (n : Nat) : Array Value → Bool
  | ⟨l⟩ => vltL n l
def vltL (n : Nat) : List Value → Bool
  | [] => true
  | v :: r => vlt n v && vltL n r
end

theorem vltL_iff (n : Nat) : ∀ l, vltL n l = true ↔ ∀ v ∈ l, vlt n v = true
  | [] => by simp [vltL]
  | v :: r => by simp [vltL, vltL_iff n r]
theorem vltA_iff (n : Nat) (a : Array Value) : vltA n a = true ↔ ∀ (i : Nat) (v : Value), a[i]? = some v → vlt n v = true := by
  cases a with | mk l =>
    simp only [vltA, vltL_iff, List.getElem?_toArray]
    constructor
    · intro h i v hv; exact h v (List.mem_of_getElem? hv)
    · intro h v hv; obtain ⟨i, hi⟩ := List.getElem?_of_mem hv; exact h i v hi

mutual
theorem vlt_mono {n m : Nat} (h : n ≤ m) : ∀ v, vlt n v = true → vlt m v = true
  | .bool _, _ => by simp [vlt]
  | .int _ _, _ => by simp [vlt]
  | .float _ _, _ => by simp [vlt]
  | .complex _ _ _, _ => by simp [vlt]
  | .string _, _ => by simp [vlt]
  | .pointer none, _ => by simp [vlt]
  | .pointer (some a), hv => by simp [vlt, Nat.blt_eq] at hv ⊢; omega
  | .slice none _ _, _ => by simp [vlt]
  | .slice (some a) _ _, hv => by simp [vlt, Nat.blt_eq] at hv ⊢; omega
  | .map none, _ => by simp [vlt]
  | .map (some r), hv => by simp [vlt, Nat.blt_eq] at hv ⊢; omega
  | .chan none, _ => by simp [vlt]
  | .chan (some r), hv => by simp [vlt, Nat.blt_eq] at hv ⊢; omega
  | .func fn f c, hv => by
      simp only [vlt, Bool.and_eq_true] at hv ⊢
      refine ⟨⟨?_, vltA_mono h f hv.1.2⟩, vltA_mono h c hv.2⟩
      have := hv.1.1
      cases fn <;> simp_all [ltFn, Nat.blt_eq]; omega
  | .nilFunc, _ => by simp [vlt]
  | .iface _ v, hv => by simp only [vlt] at hv ⊢; exact vlt_mono h v hv
  | .nilIface, _ => by simp [vlt]
  | .agg cs, hv => by simp only [vlt] at hv ⊢; exact vltA_mono h cs hv
  | .tuple vs, hv => by simp only [vlt] at hv ⊢; exact vltA_mono h vs hv
theorem vltA_mono {n m : Nat} (h : n ≤ m) : ∀ a, vltA n a = true → vltA m a = true
  | ⟨l⟩, hv => by simp only [vltA] at hv ⊢; exact vltL_mono h l hv
theorem vltL_mono {n m : Nat} (h : n ≤ m) : ∀ l, vltL n l = true → vltL m l = true
  | [], _ => by simp [vltL]
  | v :: r, hv => by simp only [vltL, Bool.and_eq_true] at hv ⊢; exact ⟨vlt_mono h v hv.1, vltL_mono h r hv.2⟩
end

/-- Two renamings agree below n. -/
def Agree (n : Nat) (σ σ' : Ren) : Prop := ∀ b, b < n → σ'.ρ b = σ.ρ b ∧ σ'.κ b = σ.κ b

theorem Agree.refl (n : Nat) (σ : Ren) : Agree n σ σ := fun _ _ => ⟨rfl, rfl⟩
theorem Agree.trans {n m : Nat} {σ σ' σ'' : Ren} (h : Agree n σ σ') (h' : Agree m σ' σ'') (hn : n ≤ m) : Agree n σ σ'' := fun b hb =>
  ⟨(h' b (by omega)).1.trans (h b hb).1, (h' b (by omega)).2.trans (h b hb).2⟩

mutual
theorem conc_congr {n : Nat} {σ σ' : Ren} (h : Agree n σ σ') : ∀ v, vlt n v = true → conc σ' v = conc σ v
  | .bool _, _ => by simp [conc]
  | .int _ _, _ => by simp [conc]
  | .float _ _, _ => by simp [conc]
  | .complex _ _ _, _ => by simp [conc]
  | .string _, _ => by simp [conc]
  | .pointer none, _ => by simp [conc]
  | .pointer (some a), hv => by simp [vlt, Nat.blt_eq] at hv; simp [conc, renA, (h _ hv).1]
  | .slice none _ _, _ => by simp [conc]
  | .slice (some a) _ _, hv => by simp [vlt, Nat.blt_eq] at hv; simp [conc, exK, (h _ hv).1, (h _ hv).2]
  | .map none, _ => by simp [conc]
  | .map (some r), hv => by simp [vlt, Nat.blt_eq] at hv; simp [conc, (h _ hv).1]
  | .chan none, _ => by simp [conc]
  | .chan (some r), hv => by simp [vlt, Nat.blt_eq] at hv; simp [conc, (h _ hv).1]
  | .func fn f c, hv => by
      simp only [vlt, Bool.and_eq_true] at hv
      have hfn : concFn σ' fn = concFn σ fn := by
        have h1 := hv.1.1
        cases fn with
        | yield l => simp [ltFn, Nat.blt_eq] at h1; simp [concFn, (h _ h1).1]
        | _ => rfl
      simp only [conc, concA_congr h f hv.1.2, concA_congr h c hv.2, hfn]
  | .nilFunc, _ => by simp [conc]
  | .iface _ v, hv => by simp only [vlt] at hv; simp [conc, conc_congr h v hv]
  | .nilIface, _ => by simp [conc]
  | .agg cs, hv => by simp only [vlt] at hv; simp [conc, concA_congr h cs hv]
  | .tuple vs, hv => by simp only [vlt] at hv; simp [conc, concA_congr h vs hv]
theorem concA_congr {n : Nat} {σ σ' : Ren} (h : Agree n σ σ') : ∀ a, vltA n a = true → concA σ' a = concA σ a
  | ⟨l⟩, hv => by simp only [vltA] at hv; simp [concA, concL_congr h l hv]
theorem concL_congr {n : Nat} {σ σ' : Ren} (h : Agree n σ σ') : ∀ l, vltL n l = true → concL σ' l = concL σ l
  | [], _ => by simp [concL]
  | v :: r, hv => by simp only [vltL, Bool.and_eq_true] at hv; simp [concL, conc_congr h v hv.1, concL_congr h r hv.2]
end

end Go.Abs
