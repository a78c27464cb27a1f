/- Which outcomes are alike: what need not be walked twice. And what of the heap nobody can reach. -/
import Derived.Test.YtgapaaloalfmfaaGreatDoorEngDisp2
set_option linter.unusedVariables false
set_option linter.unusedSimpArgs false
set_option linter.unusedSectionVars false
namespace Go.Abs

def sameAddr (a b : Addr) : Bool := Nat.beq a.block b.block && Nat.beq a.off b.off && (match a.spot, b.spot with | none, none => true | some x, some y => Nat.beq x y | _, _ => false)
theorem sameAddr_eq {a b : Addr} (h : sameAddr a b = true) : a = b := by
  obtain ⟨ab, ao, as⟩ := a; obtain ⟨bb, bo, bs⟩ := b
  simp only [sameAddr, Bool.and_eq_true] at h
  obtain ⟨⟨h1, h2⟩, h3⟩ := h
  obtain rfl := Nat.eq_of_beq_eq_true h1
  obtain rfl := Nat.eq_of_beq_eq_true h2
  cases as <;> cases bs <;> simp_all
def sameOA : Option Addr → Option Addr → Bool
  | none, none => true
  | some a, some b => sameAddr a b
  | _, _ => false
theorem sameOA_eq {a b : Option Addr} (h : sameOA a b = true) : a = b := by
  cases a <;> cases b <;> simp_all [sameOA]
  exact sameAddr_eq h
def sameON : Option Nat → Option Nat → Bool
  | none, none => true
  | some a, some b => Nat.beq a b
  | _, _ => false
theorem sameON_eq {a b : Option Nat} (h : sameON a b = true) : a = b := by
  cases a <;> cases b <;> simp_all [sameON]
def sameFn : Fn → Fn → Bool
  | .func a, .func b => Nat.beq a b
  | _, _ => false
theorem sameFn_eq {a b : Fn} (h : sameFn a b = true) : a = b := by
  cases a <;> cases b <;> simp_all [sameFn]
def sameB (a b : ByteArray) : Bool := bytesEq a.data.toList b.data.toList
theorem sameB_eq {a b : ByteArray} (h : sameB a b = true) : a = b := by
  have h1 : a.data.toList = b.data.toList := by
    unfold sameB at h
    rw [bytesEq_eq] at h
    exact eq_of_beq h
  cases a; cases b
  congr
  exact Array.ext' h1

mutual
def sameV : Value → Value → Bool
  | .bool a, .bool b => a == b
  | .int k a, .int k' b => decide (k = k') && decide (a = b)
  | .string a, .string b => sameB a b
  | .pointer a, .pointer b => sameOA a b
  | .slice a l c, .slice b l' c' => sameOA a b && (Nat.beq l l' && Nat.beq c c')
  | .map a, .map b => sameON a b
  | .func f a c, .func f' a' c' => sameFn f f' && (sameA a a' && sameA c c')
  | .nilFunc, .nilFunc => true
  | .iface t v, .iface t' v' => Nat.beq t t' && sameV v v'
  | .nilIface, .nilIface => true
  | .agg a, .agg b => sameA a b
  | .tuple a, .tuple b => sameA a b
  | _, _ => false
def sameA : Array Value → Array Value → Bool
  | ⟨a⟩, ⟨b⟩ => sameL a b
def sameL : List Value → List Value → Bool
  | [], [] => true
  | a :: r, b :: s => sameV a b && sameL r s
  | _, _ => false
end

mutual
theorem sameV_eq : ∀ {a b : Value}, sameV a b = true → a = b
  | .bool a, b, h => by cases b <;> simp_all [sameV]
  | .int k a, b, h => by cases b <;> simp_all [sameV]
  | .string a, b, h => by cases b <;> first | (simp [sameV] at h; done) | (simp only [sameV] at h; rw [sameB_eq h])
  | .pointer a, b, h => by cases b <;> first | (simp [sameV] at h; done) | (simp only [sameV] at h; rw [sameOA_eq h])
  | .slice a l c, b, h => by
      cases b <;> first | (simp [sameV] at h; done) | skip
      simp only [sameV, Bool.and_eq_true] at h
      rw [sameOA_eq h.1, Nat.eq_of_beq_eq_true h.2.1, Nat.eq_of_beq_eq_true h.2.2]
  | .map a, b, h => by cases b <;> first | (simp [sameV] at h; done) | (simp only [sameV] at h; rw [sameON_eq h])
  | .func f a c, b, h => by
      cases b <;> first | (simp [sameV] at h; done) | skip
      simp only [sameV, Bool.and_eq_true] at h
      rw [sameFn_eq h.1, sameA_eq h.2.1, sameA_eq h.2.2]
  | .nilFunc, b, h => by cases b <;> simp_all [sameV]
  | .iface t v, b, h => by
      cases b <;> first | (simp [sameV] at h; done) | skip
      simp only [sameV, Bool.and_eq_true] at h
      rw [Nat.eq_of_beq_eq_true h.1, sameV_eq h.2]
  | .nilIface, b, h => by cases b <;> simp_all [sameV]
  | .agg a, b, h => by cases b <;> first | (simp [sameV] at h; done) | (simp only [sameV] at h; rw [sameA_eq h])
  | .tuple a, b, h => by cases b <;> first | (simp [sameV] at h; done) | (simp only [sameV] at h; rw [sameA_eq h])
  | .float _ _, b, h => by cases b <;> simp [sameV] at h
  | .complex _ _ _, b, h => by cases b <;> simp [sameV] at h
  | .chan _, b, h => by cases b <;> simp [sameV] at h
theorem sameA_eq : ∀ {a b : Array Value}, sameA a b = true → a = b
  | ⟨a⟩, ⟨b⟩, h => by rw [sameL_eq (a := a) (b := b) h]
theorem sameL_eq : ∀ {a b : List Value}, sameL a b = true → a = b
  | [], [], _ => rfl
  | a :: r, b :: s, h => by
      simp only [sameL, Bool.and_eq_true] at h
      rw [sameV_eq h.1, sameL_eq h.2]
  | [], _ :: _, h => by simp [sameL] at h
  | _ :: _, [], h => by simp [sameL] at h
end

def sameEs : List MapEntry → List MapEntry → Bool
  | [], [] => true
  | a :: r, b :: s => sameV a.key b.key && (sameV a.val b.val && (Nat.beq a.born b.born && sameEs r s))
  | _, _ => false
theorem sameEs_eq : ∀ {a b : List MapEntry}, sameEs a b = true → a = b
  | [], [], _ => rfl
  | ⟨k, v, n⟩ :: r, ⟨k', v', n'⟩ :: s, h => by
      simp only [sameEs, Bool.and_eq_true] at h
      rw [sameV_eq h.1, sameV_eq h.2.1, Nat.eq_of_beq_eq_true h.2.2.1, sameEs_eq h.2.2.2]
  | [], _ :: _, h => by simp [sameEs] at h
  | _ :: _, [], h => by simp [sameEs] at h
def sameNs : List Nat → List Nat → Bool
  | [], [] => true
  | a :: r, b :: s => Nat.beq a b && sameNs r s
  | _, _ => false
theorem sameNs_eq : ∀ {a b : List Nat}, sameNs a b = true → a = b
  | [], [], _ => rfl
  | a :: r, b :: s, h => by
      simp only [sameNs, Bool.and_eq_true] at h
      rw [Nat.eq_of_beq_eq_true h.1, sameNs_eq h.2]
  | [], _ :: _, h => by simp [sameNs] at h
  | _ :: _, [], h => by simp [sameNs] at h
def sameO : AObj → AObj → Bool
  | .cells c e m, .cells c' e' m' => sameL c c' && (Nat.beq e e' && decide (m = m'))
  | .map es k, .map es' k' => sameEs es es' && Nat.beq k k'
  | .mapIter m a l b, .mapIter m' a' l' b' => sameON m m' && (Nat.beq a a' && (sameNs l l' && Nat.beq b b'))
  | .strIter s p, .strIter s' p' => sameB s s' && Nat.beq p p'
  | _, _ => false
theorem sameO_eq {a b : AObj} (h : sameO a b = true) : a = b := by
  cases a <;> cases b <;> first | (simp [sameO] at h; done) | skip
  · simp only [sameO, Bool.and_eq_true, decide_eq_true_eq] at h
    rw [sameL_eq h.1, Nat.eq_of_beq_eq_true h.2.1, h.2.2]
  · simp only [sameO, Bool.and_eq_true] at h
    rw [sameEs_eq h.1, Nat.eq_of_beq_eq_true h.2]
  · simp only [sameO, Bool.and_eq_true] at h
    rw [sameON_eq h.1, Nat.eq_of_beq_eq_true h.2.1, sameNs_eq h.2.2.1, Nat.eq_of_beq_eq_true h.2.2.2]
  · simp only [sameO, Bool.and_eq_true] at h
    rw [sameB_eq h.1, Nat.eq_of_beq_eq_true h.2]
def sameT : List (Nat × AObj) → List (Nat × AObj) → Bool
  | [], [] => true
  | (k, a) :: r, (k', b) :: s => Nat.beq k k' && (sameO a b && sameT r s)
  | _, _ => false
theorem sameT_eq : ∀ {a b : List (Nat × AObj)}, sameT a b = true → a = b
  | [], [], _ => rfl
  | (k, a) :: r, (k', b) :: s, h => by
      simp only [sameT, Bool.and_eq_true] at h
      rw [Nat.eq_of_beq_eq_true h.1, sameO_eq h.2.1, sameT_eq h.2.2]
  | [], _ :: _, h => by simp [sameT] at h
  | _ :: _, [], h => by simp [sameT] at h

abbrev Out := Value × AHeap
def sameX (x y : Out) : Bool := sameV x.1 y.1 && (Nat.beq x.2.next y.2.next && sameT x.2.tab y.2.tab)
theorem sameX_eq {x y : Out} (h : sameX x y = true) : x = y := by
  obtain ⟨v, ⟨n, t⟩⟩ := x; obtain ⟨v', ⟨n', t'⟩⟩ := y
  simp only [sameX, Bool.and_eq_true] at h
  obtain ⟨h1, h2, h3⟩ := h
  have h1 := sameV_eq h1; have h2 := Nat.eq_of_beq_eq_true h2; have h3 := sameT_eq h3
  subst h1 h2 h3; rfl
def hasX (x : Out) : List Out → Bool
  | [] => false
  | y :: r => bif sameX x y then true else hasX x r
theorem hasX_mem {x : Out} : ∀ {l : List Out}, hasX x l = true → x ∈ l
  | y :: r, h => by
      unfold hasX at h
      cases hs : sameX x y with
      | true => rw [sameX_eq hs]; simp
      | false => rw [hs, cond_false] at h; exact List.mem_cons_of_mem _ (hasX_mem h)
/-- Each outcome once. -/
def once : List Out → List Out
  | [] => []
  | x :: r => bif hasX x (once r) then once r else x :: once r
theorem once_mem : ∀ {l : List Out} {x : Out}, x ∈ l → x ∈ once l
  | y :: r, x, h => by
      unfold once
      cases hs : hasX y (once r) with
      | true =>
        rw [cond_true]
        rcases List.mem_cons.1 h with rfl | h
        · exact hasX_mem hs
        · exact once_mem h
      | false =>
        rw [cond_false]
        rcases List.mem_cons.1 h with rfl | h
        · simp
        · exact List.mem_cons_of_mem _ (once_mem h)

def sameBT : BT → BT → Bool
  | .z, .z => true
  | .lf a, .lf b => sameV a b
  | .nd a b, .nd c d => sameBT a c && sameBT b d
  | _, _ => false
theorem sameBT_eq : ∀ {a b : BT}, sameBT a b = true → a = b
  | .z, .z, _ => rfl
  | .lf a, .lf b, h => by rw [sameV_eq (a := a) (b := b) h]
  | .nd a b, .nd c d, h => by
      simp only [sameBT, Bool.and_eq_true] at h
      rw [sameBT_eq h.1, sameBT_eq h.2]
  | .z, .lf _, h => by simp [sameBT] at h
  | .z, .nd _ _, h => by simp [sameBT] at h
  | .lf _, .z, h => by simp [sameBT] at h
  | .lf _, .nd _ _, h => by simp [sameBT] at h
  | .nd _ _, .z, h => by simp [sameBT] at h
  | .nd _ _, .lf _, h => by simp [sameBT] at h
def sameSt (x y : Tms × AHeap) : Bool :=
  Nat.beq x.2.next y.2.next && (sameT x.2.tab y.2.tab && (Nat.beq x.1.d y.1.d && (Nat.beq x.1.n y.1.n && sameBT x.1.t y.1.t)))
theorem sameSt_eq {x y : Tms × AHeap} (h : sameSt x y = true) : x = y := by
  obtain ⟨⟨d, n, t⟩, ⟨m, u⟩⟩ := x; obtain ⟨⟨d', n', t'⟩, ⟨m', u'⟩⟩ := y
  simp only [sameSt, Bool.and_eq_true] at h
  obtain ⟨h1, h2, h3, h4, h5⟩ := h
  obtain rfl := Nat.eq_of_beq_eq_true h1
  obtain rfl := sameT_eq h2
  obtain rfl := Nat.eq_of_beq_eq_true h3
  obtain rfl := Nat.eq_of_beq_eq_true h4
  obtain rfl := sameBT_eq h5
  rfl
def sameBs : List Bool → List Bool → Bool
  | [], [] => true
  | a :: r, b :: s => (a == b) && sameBs r s
  | _, _ => false
theorem sameBs_eq : ∀ {a b : List Bool}, sameBs a b = true → a = b
  | [], [], _ => rfl
  | a :: r, b :: s, h => by
      simp only [sameBs, Bool.and_eq_true, beq_iff_eq] at h
      rw [h.1, sameBs_eq h.2]
  | [], _ :: _, h => by simp [sameBs] at h
  | _ :: _, [], h => by simp [sameBs] at h
/-- Halfway through a region: what has come up, and the state. -/
abbrev Half := Array Bool × (Tms × AHeap)
def sameHalf (x y : Half) : Bool := sameBs x.1.toList y.1.toList && sameSt x.2 y.2
theorem sameHalf_eq {x y : Half} (h : sameHalf x y = true) : x = y := by
  obtain ⟨a, s⟩ := x; obtain ⟨b, t⟩ := y
  simp only [sameHalf, Bool.and_eq_true] at h
  obtain ⟨h1, h2⟩ := h
  obtain rfl := sameSt_eq h2
  obtain rfl := Array.toList_inj.1 (sameBs_eq h1)
  rfl
def hasHalf (x : Half) : List Half → Bool
  | [] => false
  | y :: r => bif sameHalf x y then true else hasHalf x r
theorem hasHalf_mem {x : Half} : ∀ {l : List Half}, hasHalf x l = true → x ∈ l
  | y :: r, h => by
      unfold hasHalf at h
      cases hs : sameHalf x y with
      | true => rw [sameHalf_eq hs]; simp
      | false => rw [hs, cond_false] at h; exact List.mem_cons_of_mem _ (hasHalf_mem h)
def onceHalf : List Half → List Half
  | [] => []
  | [x] => [x]
  | x :: r => bif hasHalf x (onceHalf r) then onceHalf r else x :: onceHalf r
theorem onceHalf_mem : ∀ {l : List Half} {x : Half}, x ∈ l → x ∈ onceHalf l
  | [y], x, h => h
  | y :: z :: r, x, h => by
      unfold onceHalf
      cases hs : hasHalf y (onceHalf (z :: r)) with
      | true =>
        rw [cond_true]
        rcases List.mem_cons.1 h with rfl | h
        · exact hasHalf_mem hs
        · exact onceHalf_mem h
      | false =>
        rw [cond_false]
        rcases List.mem_cons.1 h with rfl | h
        · simp
        · exact List.mem_cons_of_mem _ (onceHalf_mem h)

/-! What is reached. -/
def menFn (b : Nat) : Fn → Bool
  | .yield l => Nat.beq l b
  | _ => false
mutual
def men (b : Nat) : Value → Bool
  | .pointer (some a) => Nat.beq a.block b
  | .slice (some a) _ _ => Nat.beq a.block b
  | .map (some r) => Nat.beq r b
  | .chan (some r) => Nat.beq r b
  | .func fn f c => menFn b fn || (menA b f || menA b c)
  | .iface _ v => men b v
  | .agg cs => menA b cs
  | .tuple vs => menA b vs
  | _ => false
def menA (b : Nat) : Array Value → Bool
  | ⟨l⟩ => menL b l
def menL (b : Nat) : List Value → Bool
  | [] => false
  | v :: r => men b v || menL b r
end
def menEs (b : Nat) : List MapEntry → Bool
  | [] => false
  | e :: r => men b e.key || (men b e.val || menEs b r)
def menO (b : Nat) : AObj → Bool
  | .cells c _ _ => menL b c
  | .map es _ => menEs b es
  | .mapIter (some m) _ _ _ => Nat.beq m b
  | .view _ c _ => menL b c
  | _ => false
def menT (b : Nat) : List (Nat × AObj) → Bool
  | [] => false
  | (_, o) :: r => menO b o || menT b r

def lowT (n : Nat) : List (Nat × AObj) → List (Nat × AObj)
  | [] => []
  | (k, o) :: r => bif Nat.blt k n then (k, o) :: lowT n r else lowT n r
def upT (n : Nat) : List (Nat × AObj) → List (Nat × AObj)
  | [] => []
  | (k, o) :: r => bif Nat.blt k n then upT n r else (k, o) :: upT n r
/-- Of the new ones, those that are reached from what is kept are kept. -/
def sweep (v : Value) : Nat → List (Nat × AObj) → List (Nat × AObj) → List (Nat × AObj)
  | 0, kept, _ => kept
  | n + 1, kept, rest =>
    let hit := rest.filter fun x => men x.1 v || menT x.1 kept
    match hit with
    | [] => kept
    | _ => sweep v n (hit ++ kept) (rest.filter fun x => !(men x.1 v || menT x.1 kept))

/-- What is looked up in one is found in the other. -/
def subT (t' t : List (Nat × AObj)) : Prop := ∀ b o, look t' b = some o → look t b = some o

def noDup : List (Nat × AObj) → Bool
  | [] => true
  | (k, _) :: r => (match look r k with | none => true | some _ => false) && noDup r
theorem look_of_mem : ∀ {t : List (Nat × AObj)} {b : Nat} {o : AObj}, noDup t = true → (b, o) ∈ t → look t b = some o
  | (k, x) :: r, b, o, h, hm => by
      simp only [noDup, Bool.and_eq_true] at h
      rw [look_cons]
      rcases List.mem_cons.1 hm with heq | hm
      · cases heq; rw [if_pos rfl]
      · have := look_of_mem h.2 hm
        by_cases hb : b = k
        · subst hb; rw [this] at h; simp at h
        · rw [if_neg hb]; exact this
theorem mem_of_look : ∀ {t : List (Nat × AObj)} {b : Nat} {o : AObj}, look t b = some o → (b, o) ∈ t
  | (k, x) :: r, b, o, h => by
      rw [look_cons] at h
      by_cases hb : b = k
      · subst hb; rw [if_pos rfl] at h; cases h; simp
      · rw [if_neg hb] at h; exact List.mem_cons_of_mem _ (mem_of_look h)
theorem lowT_mem {n : Nat} : ∀ {t : List (Nat × AObj)} {x : Nat × AObj}, x ∈ lowT n t → x ∈ t
  | (k, o) :: r, x, h => by
      unfold lowT at h
      cases hb : Nat.blt k n with
      | true => rw [hb, cond_true] at h; rcases List.mem_cons.1 h with rfl | h; simp; exact List.mem_cons_of_mem _ (lowT_mem h)
      | false => rw [hb, cond_false] at h; exact List.mem_cons_of_mem _ (lowT_mem h)
theorem upT_mem {n : Nat} : ∀ {t : List (Nat × AObj)} {x : Nat × AObj}, x ∈ upT n t → x ∈ t
  | (k, o) :: r, x, h => by
      unfold upT at h
      cases hb : Nat.blt k n with
      | false => rw [hb, cond_false] at h; rcases List.mem_cons.1 h with rfl | h; simp; exact List.mem_cons_of_mem _ (upT_mem h)
      | true => rw [hb, cond_true] at h; exact List.mem_cons_of_mem _ (upT_mem h)
theorem sweep_mem {v : Value} : ∀ {n : Nat} {kept rest : List (Nat × AObj)} {x : Nat × AObj}, x ∈ sweep v n kept rest → x ∈ kept ∨ x ∈ rest
  | 0, _, _, _, h => .inl h
  | n + 1, kept, rest, x, h => by
      unfold sweep at h
      simp only at h
      split at h
      · exact .inl h
      · rcases sweep_mem h with h | h
        · rcases List.mem_append.1 h with h | h
          · exact .inr (List.mem_filter.1 h).1
          · exact .inl h
        · exact .inr (List.mem_filter.1 h).1

/-- What can be reached of the new ones, and the elder ones. -/
def gc (n : Nat) (x : Out) : Out :=
  bif noDup x.2.tab then (x.1, ⟨x.2.next, sweep x.1 20 (lowT n x.2.tab) (upT n x.2.tab)⟩) else x

/-- Less is known. -/
def lessX (y x : Out) : Prop := y.1 = x.1 ∧ y.2.next = x.2.next ∧ ∀ b o, y.2.get b = some o → x.2.get b = some o

theorem lessX.rfl {x : Out} : lessX x x := ⟨Eq.refl _, Eq.refl _, fun _ _ h => h⟩
theorem gc_less (n : Nat) (x : Out) : lessX (gc n x) x := by
  unfold gc
  cases hd : noDup x.2.tab with
  | false => rw [cond_false]; exact .rfl
  | true =>
    rw [cond_true]
    refine ⟨rfl, rfl, ?_⟩
    intro b o h
    refine look_of_mem hd ?_
    rcases sweep_mem (mem_of_look h) with h | h
    · exact lowT_mem h
    · exact upT_mem h

end Go.Abs
