/- The heap up to the numbers of its blocks: what is known of it, how a world has what is known, and what a step may do to all the rest. -/
import Derived.Test.YtgapaaloalfmfaaGreatDoorEngForce
import Derived.Laws.World
import Derived.Below
set_option linter.unusedVariables false
set_option linter.unusedSimpArgs false
set_option linter.unusedSectionVars false
namespace Go.Abs
open Go.RowKit

/-- own: all cells known, written at will. opn: there may be more cells behind (what append has made). ro: all known, never written. (A view, below: some cells of a block are known, from the o-th on; it is never written.) -/
inductive CM where
  | own | opn | ro
  deriving DecidableEq

def CM.wr : CM → Bool
  | .ro => false
  | _ => true

inductive AObj where
  | cells (c : List Value) (e : TypeId) (m : CM)
  | map (es : List MapEntry) (clock : Nat)
  | mapIter (m : Option Nat) (since : Nat) (seen : List Nat) (stepped : Nat)
  | strIter (s : ByteArray) (pos : Nat)
  | view (o : Nat) (c : List Value) (e : TypeId)

def AObj.ro : AObj → Bool
  | .cells _ _ .ro => true
  | .view _ _ _ => true
  | _ => false

def concE (σ : Ren) (e : MapEntry) : MapEntry := ⟨conc σ e.key, conc σ e.val, e.born⟩
def ltE (n : Nat) (e : MapEntry) : Bool := vlt n e.key && vlt n e.val
def AObj.lt (n : Nat) : AObj → Prop
  | .cells c _ _ => ∀ v ∈ c, vlt n v = true
  | .map es _ => ∀ e ∈ es, ltE n e = true
  | .mapIter m _ _ _ => ∀ r, m = some r → r < n
  | .strIter _ _ => True
  | .view _ c _ => ∀ v ∈ c, vlt n v = true

def szOf (P : Program) (e : TypeId) : Nat := ((P.info? e).map (·.size)).getD 0

/-- The object in memory that an object of what is known stands for. k: how many elements there are room for above what is known. -/
def rel (P : Program) (σ : Ren) (k : Nat) : AObj → Obj → Prop
  | .cells c e m, o => ∃ (ext : List Value) (fr : Nat × Nat), o = .cells ⟨c.map (conc σ) ++ ext⟩ e fr ∧
      (∀ i, i < c.length + ext.length → ¬ (fr.1 ≤ i ∧ i < fr.2)) ∧ ext.length = k * szOf P e ∧ (m ≠ .opn → k = 0)
  | .map es clock, o => o = .map ⟨es.map (concE σ)⟩ clock
  | .mapIter m since seen stepped, o => o = .mapIter (m.map σ.ρ) since ⟨seen⟩ stepped
  | .strIter s pos, o => o = .stringIter s pos
  | .view o c e, co => (∃ (cells : Array Value) (fr : Nat × Nat), co = .cells cells e fr ∧ ∀ (i : Nat) v, c[i]? = some v → cells[o + i]? = some (conc σ v)) ∧ k = 0

structure AHeap where
  next : Nat
  tab : List (Nat × AObj)

def look : List (Nat × AObj) → Nat → Option AObj
  | [], _ => none
  | (k, o) :: r, b => bif Nat.beq k b then some o else look r b
def putT (b : Nat) (o : AObj) : List (Nat × AObj) → List (Nat × AObj)
  | [] => [(b, o)]
  | (k, x) :: r => bif Nat.beq k b then (k, o) :: r else (k, x) :: putT b o r
def dropT (b : Nat) : List (Nat × AObj) → List (Nat × AObj)
  | [] => []
  | (k, x) :: r => bif Nat.beq k b then dropT b r else (k, x) :: dropT b r

section
variable {β : Type}
def forceE (e : MapEntry) (k : MapEntry → β) : β := match e with | ⟨x, y, n⟩ => forceV 6 x fun x => forceV 6 y fun y => forceN n fun n => k ⟨x, y, n⟩
theorem forceE_eq (e : MapEntry) (k : MapEntry → β) : forceE e k = k e := by cases e; simp [forceE]
def forceO (o : AObj) (k : AObj → β) : β :=
  match o with
  | .cells c e m => forceL (forceV 6) c fun c => k (.cells c e m)
  | .map es t => forceL forceE es fun es => forceN t fun t => k (.map es t)
  | .mapIter m a l b => forceN a fun a => forceL forceN l fun l => forceN b fun b => k (.mapIter m a l b)
  | .strIter s p => forceN p fun p => k (.strIter s p)
  | .view o c e => forceL (forceV 6) c fun c => k (.view o c e)
theorem forceO_eq (o : AObj) (k : AObj → β) : forceO o k = k o := by
  cases o <;> simp [forceO, forceL_eq (β := β) (forceV 6) (forceV_eq 6), forceL_eq (β := β) forceE forceE_eq, forceL_eq (β := β) forceN forceN_eq]
def putTK (b : Nat) (o : AObj) : List (Nat × AObj) → (List (Nat × AObj) → β) → β
  | [], k => k [(b, o)]
  | (i, y) :: r, k => match Nat.beq i b with | true => k ((i, o) :: r) | false => putTK b o r fun r => k ((i, y) :: r)
theorem putTK_eq (b : Nat) (o : AObj) : ∀ (t : List (Nat × AObj)) (k : List (Nat × AObj) → β), putTK b o t k = k (putT b o t)
  | [], _ => rfl
  | (i, y) :: r, k => by
      unfold putTK putT
      cases Nat.beq i b with
      | true => rfl
      | false => exact putTK_eq b o r _
def dropTK (b : Nat) : List (Nat × AObj) → (List (Nat × AObj) → β) → β
  | [], k => k []
  | (i, y) :: r, k => match Nat.beq i b with | true => dropTK b r k | false => dropTK b r fun r => k ((i, y) :: r)
theorem dropTK_eq (b : Nat) : ∀ (t : List (Nat × AObj)) (k : List (Nat × AObj) → β), dropTK b t k = k (dropT b t)
  | [], _ => rfl
  | (i, y) :: r, k => by
      unfold dropTK dropT
      cases Nat.beq i b with
      | true => exact dropTK_eq b r _
      | false => exact dropTK_eq b r _
end

def AHeap.get (H : AHeap) (b : Nat) : Option AObj := look H.tab b
def putTF (b : Nat) (o : AObj) (t : List (Nat × AObj)) : List (Nat × AObj) := forceO o fun o => forceN b fun b => putTK b o t fun t => t
def dropTF (b : Nat) (t : List (Nat × AObj)) : List (Nat × AObj) := dropTK b t fun t => t
def allocTF (n : Nat) (o : AObj) (t : List (Nat × AObj)) : List (Nat × AObj) := forceO o fun o => forceN n fun n => (n, o) :: t
theorem putTF_eq (b : Nat) (o : AObj) (t : List (Nat × AObj)) : putTF b o t = putT b o t := by simp [putTF, forceO_eq, putTK_eq]
theorem dropTF_eq (b : Nat) (t : List (Nat × AObj)) : dropTF b t = dropT b t := by simp [dropTF, dropTK_eq]
theorem allocTF_eq (n : Nat) (o : AObj) (t : List (Nat × AObj)) : allocTF n o t = (n, o) :: t := by simp [allocTF, forceO_eq]
def AHeap.set (H : AHeap) (b : Nat) (o : AObj) : AHeap := ⟨H.next, putTF b o H.tab⟩
def AHeap.drop (H : AHeap) (b : Nat) : AHeap := ⟨H.next, dropTF b H.tab⟩
def AHeap.alloc (H : AHeap) (o : AObj) : AHeap := ⟨H.next + 1, allocTF H.next o H.tab⟩
theorem AHeap.set_eq (H : AHeap) (b : Nat) (o : AObj) : H.set b o = ⟨H.next, putT b o H.tab⟩ := by rw [AHeap.set, putTF_eq]
theorem AHeap.drop_eq (H : AHeap) (b : Nat) : H.drop b = ⟨H.next, dropT b H.tab⟩ := by rw [AHeap.drop, dropTF_eq]
theorem AHeap.alloc_eq (H : AHeap) (o : AObj) : H.alloc o = ⟨H.next + 1, (H.next, o) :: H.tab⟩ := by rw [AHeap.alloc, allocTF_eq]

theorem nbeq {k b : Nat} (h : ¬ k = b) : Nat.beq k b = false := by
  rw [← Bool.not_eq_true, Nat.beq_eq]; exact h
theorem nbeq_self (k : Nat) : Nat.beq k k = true := Nat.beq_refl k
theorem look_cons (k : Nat) (x : AObj) (r : List (Nat × AObj)) (b : Nat) : look ((k, x) :: r) b = if b = k then some x else look r b := by
  by_cases h : k = b
  · subst h; simp [look, nbeq_self]
  · have h' : ¬ b = k := fun e => h e.symm
    simp only [look, nbeq h, cond_false, if_neg h']
theorem look_put (b : Nat) (o : AObj) (b' : Nat) : ∀ t, look (putT b o t) b' = if b' = b then some o else look t b'
  | [] => by rw [putT, look_cons]
  | (k, x) :: r => by
      by_cases h : k = b
      · subst h
        simp only [putT, nbeq_self, cond_true, look_cons]
        by_cases h2 : b' = k <;> simp [h2]
      · simp only [putT, nbeq h, cond_false, look_cons, look_put b o b' r]
        by_cases h2 : b' = k
        · subst h2; simp [h]
        · simp [h2]
theorem look_drop (b b' : Nat) : ∀ t, look (dropT b t) b' = if b' = b then none else look t b'
  | [] => by simp [dropT, look]
  | (k, x) :: r => by
      by_cases h : k = b
      · subst h
        simp only [dropT, nbeq_self, cond_true, look_drop k b' r, look_cons]
        by_cases h2 : b' = k <;> simp [h2]
      · simp only [dropT, nbeq h, cond_false, look_cons, look_drop b b' r]
        by_cases h2 : b' = k
        · subst h2; simp [h]
        · simp [h2]

@[simp] theorem AHeap.get_set (H : AHeap) (b b' : Nat) (o : AObj) : (H.set b o).get b' = if b' = b then some o else H.get b' := by rw [AHeap.set_eq]; exact look_put b o b' H.tab
@[simp] theorem AHeap.get_drop (H : AHeap) (b b' : Nat) : (H.drop b).get b' = if b' = b then none else H.get b' := by rw [AHeap.drop_eq]; exact look_drop b b' H.tab
@[simp] theorem AHeap.get_alloc (H : AHeap) (o : AObj) (b : Nat) : (H.alloc o).get b = if b = H.next then some o else H.get b := by rw [AHeap.alloc_eq]; exact look_cons H.next o H.tab b
@[simp] theorem AHeap.next_set (H : AHeap) (b : Nat) (o : AObj) : (H.set b o).next = H.next := rfl
@[simp] theorem AHeap.next_drop (H : AHeap) (b : Nat) : (H.drop b).next = H.next := rfl
@[simp] theorem AHeap.next_alloc (H : AHeap) (o : AObj) : (H.alloc o).next = H.next + 1 := rfl

/-- The world has what is known. G: the first blocks, whose numbers stay (the program's own variables). -/
structure R (P : Program) (G : Nat) (σ : Ren) (H : AHeap) (w : World) : Prop where
  has : ∀ b o, H.get b = some o → ∃ co, w.heap[σ.ρ b]? = some co ∧ rel P σ (σ.κ b) o co
  inj : ∀ b b' o o', H.get b = some o → H.get b' = some o' → σ.ρ b = σ.ρ b' → b = b'
  lt : ∀ b o, H.get b = some o → b < H.next
  olt : ∀ b o, H.get b = some o → o.lt H.next
  size : G ≤ w.heap.size
  gnext : G ≤ H.next
  glob : ∀ b, b < G → σ.ρ b = b

/-- What a step from one to the other may do. -/
structure Ext (σ : Ren) (H : AHeap) (w : World) (σ' : Ren) (H' : AHeap) (w' : World) : Prop where
  next : H.next ≤ H'.next
  agree : Agree H.next σ σ'
  size : w.heap.size ≤ w'.heap.size
  os : w'.os = w.os
  tape : w'.tape = w.tape
  output : w'.output = w.output
  frame : ∀ r, r < w.heap.size → (∀ b o, H.get b = some o → o.ro = false → σ.ρ b ≠ r) → w'.heap[r]? = w.heap[r]?
  old : ∀ b o', H'.get b = some o' → b < H.next → ∃ o, H.get b = some o ∧ o.ro = o'.ro
  fresh : ∀ b o', H'.get b = some o' → H.next ≤ b → w.heap.size ≤ σ'.ρ b ∨ ∃ b0 o0, H.get b0 = some o0 ∧ o0.ro = false ∧ σ'.ρ b = σ.ρ b0

theorem Ext.refl (σ : Ren) (H : AHeap) (w : World) (hlt : ∀ b o, H.get b = some o → b < H.next) : Ext σ H w σ H w :=
  ⟨Nat.le_refl _, .refl _ _, Nat.le_refl _, rfl, rfl, rfl, fun _ _ _ => rfl, fun b o h _ => ⟨o, h, rfl⟩, fun b o h hb => by have := hlt b o h; omega⟩

theorem Ext.trans {σ σ' σ'' : Ren} {H H' H'' : AHeap} {w w' w'' : World} (h : Ext σ H w σ' H' w') (k : Ext σ' H' w' σ'' H'' w'') : Ext σ H w σ'' H'' w'' where
  next := Nat.le_trans h.next k.next
  agree := h.agree.trans k.agree h.next
  size := Nat.le_trans h.size k.size
  os := k.os.trans h.os
  tape := k.tape.trans h.tape
  output := k.output.trans h.output
  frame r hr hf := by
    rw [k.frame r (by have := h.size; omega), h.frame r hr hf]
    intro b o' hb hro he
    rcases Nat.lt_or_ge b H.next with hlt | hge
    · obtain ⟨o, ho, hoo⟩ := h.old b o' hb hlt
      exact hf b o ho (hoo.trans hro) (by rw [← (h.agree b hlt).1]; exact he)
    · rcases h.fresh b o' hb hge with h1 | ⟨b0, o0, h1, h2, h3⟩
      · omega
      · exact hf b0 o0 h1 h2 (h3.symm.trans he)
  old b o'' hb hlt := by
    obtain ⟨o', ho', h1⟩ := k.old b o'' hb (by have := h.next; omega)
    obtain ⟨o, ho, h2⟩ := h.old b o' ho' hlt
    exact ⟨o, ho, h2.trans h1⟩
  fresh b o'' hb hge := by
    rcases Nat.lt_or_ge b H'.next with hlt | hge'
    · obtain ⟨o', ho', _⟩ := k.old b o'' hb hlt
      rw [(k.agree b hlt).1]
      exact h.fresh b o' ho' hge
    · rcases k.fresh b o'' hb hge' with h1 | ⟨b0, o0, h1, h2, h3⟩
      · exact .inl (Nat.le_trans h.size h1)
      · rw [h3]
        rcases Nat.lt_or_ge b0 H.next with hlt0 | hge0
        · obtain ⟨o, ho, hro⟩ := h.old b0 o0 h1 hlt0
          exact .inr ⟨b0, o, ho, hro.trans h2, (h.agree b0 hlt0).1⟩
        · exact h.fresh b0 o0 h1 hge0

theorem AObj.lt_mono {n m : Nat} (h : n ≤ m) : ∀ {o : AObj}, o.lt n → o.lt m
  | .cells _ _ _, ho => fun v hv => vlt_mono h v (ho v hv)
  | .map _ _, ho => fun e he => by
      have := ho e he
      simp only [ltE, Bool.and_eq_true] at this ⊢
      exact ⟨vlt_mono h _ this.1, vlt_mono h _ this.2⟩
  | .mapIter _ _ _ _, ho => fun r hr => Nat.lt_of_lt_of_le (ho r hr) h
  | .strIter _ _, _ => trivial
  | .view _ _ _, ho => fun v hv => vlt_mono h v (ho v hv)

theorem concE_congr {n : Nat} {σ σ' : Ren} (h : Agree n σ σ') (e : MapEntry) (he : ltE n e = true) : concE σ' e = concE σ e := by
  simp only [ltE, Bool.and_eq_true] at he
  simp [concE, conc_congr h _ he.1, conc_congr h _ he.2]

theorem rel_congr {P : Program} {n k : Nat} {σ σ' : Ren} (h : Agree n σ σ') : ∀ {o : AObj} {co : Obj}, o.lt n → rel P σ k o co → rel P σ' k o co
  | .cells c e m, co, ho, ⟨ext, fr, h1, h2⟩ => ⟨ext, fr, by
      rw [h1]; congr 3
      exact List.map_congr_left fun v hv => (conc_congr h v (ho v hv)).symm, h2⟩
  | .map es clock, co, ho, h1 => by
      simp only [rel] at h1 ⊢
      rw [h1]; congr 2
      exact List.map_congr_left fun e he => (concE_congr h e (ho e he)).symm
  | .mapIter m since seen stepped, co, ho, h1 => by
      simp only [rel] at h1 ⊢
      rw [h1]
      cases m with
      | none => rfl
      | some r => simp [(h r (ho r rfl)).1]
  | .strIter _ _, _, _, h1 => h1
  | .view o c e, co, ho, ⟨⟨cells, fr, h1, h2⟩, h3⟩ => ⟨⟨cells, fr, h1, fun i v hv => by rw [h2 i v hv, conc_congr h v (ho v (List.mem_of_getElem? hv))]⟩, h3⟩

/-- What is known may be forgotten. -/
theorem R.weaken {P : Program} {G : Nat} {σ : Ren} {H H' : AHeap} {w : World} (h : R P G σ H w) (hn : H'.next = H.next)
    (hs : ∀ b o, H'.get b = some o → H.get b = some o) : R P G σ H' w where
  has b o hb := h.has b o (hs b o hb)
  inj b b' o o' hb hb' he := h.inj b b' o o' (hs b o hb) (hs b' o' hb') he
  lt b o hb := hn ▸ h.lt b o (hs b o hb)
  olt b o hb := hn ▸ h.olt b o (hs b o hb)
  size := h.size
  gnext := hn ▸ h.gnext
  glob := h.glob

theorem Ext.weaken {σ σ' : Ren} {H H' H'' : AHeap} {w w' : World} (h : Ext σ H w σ' H' w') (hn : H''.next = H'.next)
    (hs : ∀ b o, H''.get b = some o → H'.get b = some o) : Ext σ H w σ' H'' w' where
  next := hn ▸ h.next
  agree := h.agree
  size := h.size
  os := h.os
  tape := h.tape
  output := h.output
  frame := h.frame
  old b o hb hlt := h.old b o (hs b o hb) hlt
  fresh b o hb hlt := h.fresh b o (hs b o hb) hlt

/-- A draw turns nothing. -/
theorem R.drew {P : Program} {G : Nat} {σ : Ren} {H : AHeap} {w : World} (h : R P G σ H w) : R P G σ H w.drew := ⟨h.has, h.inj, h.lt, h.olt, h.size, h.gnext, h.glob⟩
theorem Ext.drew {σ σ' : Ren} {H H' : AHeap} {w w' : World} (h : Ext σ H w σ' H' w') : Ext σ H w σ' H' w'.drew := ⟨h.next, h.agree, h.size, h.os, h.tape, h.output, h.frame, h.old, h.fresh⟩

def upd (σ : Ren) (b r k : Nat) : Ren := ⟨fun x => if x = b then r else σ.ρ x, fun x => if x = b then k else σ.κ x⟩
theorem agree_upd (σ : Ren) (n r k : Nat) : Agree n σ (upd σ n r k) := fun b hb => by
  have : b ≠ n := by omega
  simp [upd, this]

theorem heap_alloc_lt (w : World) (o : Obj) {r : Nat} (h : r < w.heap.size) : (w.alloc o).heap[r]? = w.heap[r]? := by
  show (w.heap.push o)[r]? = _
  rw [Array.getElem?_push, if_neg (by omega)]
theorem lt_of_some {w : World} {r : Nat} {co : Obj} (h : w.heap[r]? = some co) : r < w.heap.size := by
  rcases Nat.lt_or_ge r w.heap.size with h' | h'
  · exact h'
  · simp [Array.getElem?_eq_none h'] at h

/-- A new block. -/
theorem R.alloc {P : Program} {G : Nat} {σ : Ren} {H : AHeap} {w : World} (h : R P G σ H w) {o : AObj} {co : Obj} (k : Nat) (ho : o.lt H.next)
    (hr : rel P σ k o co) : R P G (upd σ H.next w.heap.size k) (H.alloc o) (w.alloc co) := by
  have hag := agree_upd σ H.next w.heap.size k
  refine ⟨?_, ?_, ?_, ?_, ?_, ?_, ?_⟩
  · intro b o' hb
    simp only [AHeap.get_alloc] at hb
    by_cases he : b = H.next
    · subst he
      simp only [if_true, Option.some.injEq] at hb
      subst hb
      refine ⟨co, ?_, ?_⟩
      · show (w.heap.push co)[(upd σ H.next w.heap.size k).ρ H.next]? = _
        simp [upd]
      · have : (upd σ H.next w.heap.size k).κ H.next = k := by simp [upd]
        rw [this]; exact rel_congr hag ho hr
    · rw [if_neg he] at hb
      obtain ⟨co', h1, h2⟩ := h.has b o' hb
      have hlt := h.lt b o' hb
      refine ⟨co', ?_, ?_⟩
      · rw [(hag b hlt).1, heap_alloc_lt _ _ (lt_of_some h1)]; exact h1
      · rw [(hag b hlt).2]; exact rel_congr hag (h.olt b o' hb) h2
  · intro b b' o1 o2 hb hb' he
    simp only [AHeap.get_alloc] at hb hb'
    have big : ∀ x ox, H.get x = some ox → σ.ρ x < w.heap.size := fun x ox hx => by
      obtain ⟨_, h1, _⟩ := h.has x ox hx; exact lt_of_some h1
    by_cases e1 : b = H.next <;> by_cases e2 : b' = H.next
    · omega
    · rw [if_neg e2] at hb'
      have := big b' o2 hb'
      simp [upd, e1, e2] at he; omega
    · rw [if_neg e1] at hb
      have := big b o1 hb
      simp [upd, e1, e2] at he; omega
    · rw [if_neg e1] at hb; rw [if_neg e2] at hb'
      simp [upd, e1, e2] at he
      exact h.inj b b' o1 o2 hb hb' he
  · intro b o' hb
    simp only [AHeap.get_alloc, AHeap.next_alloc] at hb ⊢
    by_cases he : b = H.next
    · omega
    · rw [if_neg he] at hb; have := h.lt b o' hb; omega
  · intro b o' hb
    simp only [AHeap.get_alloc, AHeap.next_alloc] at hb ⊢
    by_cases he : b = H.next
    · rw [if_pos he] at hb; cases hb; exact AObj.lt_mono (by omega) ho
    · rw [if_neg he] at hb; exact AObj.lt_mono (by omega) (h.olt b o' hb)
  · have := h.size; simp only [World.size_alloc]; omega
  · have := h.gnext; simp only [AHeap.next_alloc]; omega
  · intro b hb
    have := h.gnext
    rw [(hag b (by omega)).1]; exact h.glob b hb

theorem Ext.alloc {P : Program} {G : Nat} {σ : Ren} {H : AHeap} {w : World} (h : R P G σ H w) (o : AObj) (co : Obj) (k : Nat) :
    Ext σ H w (upd σ H.next w.heap.size k) (H.alloc o) (w.alloc co) where
  next := by simp
  agree := agree_upd _ _ _ _
  size := by simp
  os := rfl
  tape := rfl
  output := rfl
  frame r hr _ := heap_alloc_lt w co hr
  old b o' hb hlt := by
    simp only [AHeap.get_alloc] at hb
    rw [if_neg (by omega)] at hb
    exact ⟨o', hb, rfl⟩
  fresh b o' hb hge := by
    simp only [AHeap.get_alloc] at hb
    by_cases he : b = H.next
    · exact .inl (by simp [upd, he])
    · rw [if_neg he] at hb; have := h.lt b o' hb; omega

/-- A block is turned: in general. -/
theorem R.turn {P : Program} {G : Nat} {σ : Ren} {H : AHeap} {w w' : World} (h : R P G σ H w) {b : Nat} {o o' : AObj} {co' : Obj} (hb : H.get b = some o)
    (ho : o'.lt H.next) (hsz : w'.heap.size = w.heap.size) (hat : w'.heap[σ.ρ b]? = some co') (hr : rel P σ (σ.κ b) o' co') (hoth : ∀ r, r ≠ σ.ρ b → w'.heap[r]? = w.heap[r]?) :
    R P G σ (H.set b o') w' := by
  refine ⟨?_, ?_, ?_, ?_, ?_, ?_, h.glob⟩
  · intro x ox hx
    simp only [AHeap.get_set] at hx
    by_cases he : x = b
    · subst he; simp only [if_true, Option.some.injEq] at hx; subst hx; exact ⟨co', hat, hr⟩
    · rw [if_neg he] at hx
      obtain ⟨co, h1, h2⟩ := h.has x ox hx
      refine ⟨co, ?_, h2⟩
      rw [hoth _ (fun e => he (h.inj x b ox o hx hb e))]; exact h1
  · intro x y ox oy hx hy he
    simp only [AHeap.get_set] at hx hy
    by_cases e1 : x = b <;> by_cases e2 : y = b
    · omega
    · rw [if_neg e2] at hy; subst e1; exact h.inj x y o oy hb hy he
    · rw [if_neg e1] at hx; subst e2; exact h.inj x y ox o hx hb he
    · rw [if_neg e1] at hx; rw [if_neg e2] at hy; exact h.inj x y ox oy hx hy he
  · intro x ox hx
    simp only [AHeap.get_set, AHeap.next_set] at hx ⊢
    by_cases he : x = b
    · subst he; exact h.lt x o hb
    · rw [if_neg he] at hx; exact h.lt x ox hx
  · intro x ox hx
    simp only [AHeap.get_set, AHeap.next_set] at hx ⊢
    by_cases he : x = b
    · rw [if_pos he] at hx; cases hx; exact ho
    · rw [if_neg he] at hx; exact h.olt x ox hx
  · rw [hsz]; exact h.size
  · exact h.gnext

theorem Ext.turn {P : Program} {G : Nat} {σ : Ren} {H : AHeap} {w w' : World} (h : R P G σ H w) {b : Nat} {o : AObj} (o' : AObj) (hb : H.get b = some o) (hro : o.ro = false) (hro' : o'.ro = false)
    (hsz : w'.heap.size = w.heap.size) (hoth : ∀ r, r ≠ σ.ρ b → w'.heap[r]? = w.heap[r]?) (hos : w'.os = w.os) (htape : w'.tape = w.tape) (hout : w'.output = w.output) :
    Ext σ H w σ (H.set b o') w' where
  next := Nat.le_refl _
  agree := .refl _ _
  size := by omega
  os := hos
  tape := htape
  output := hout
  frame r _ hf := hoth r fun e => hf b o hb hro e.symm
  old x ox hx _ := by
    simp only [AHeap.get_set] at hx
    by_cases he : x = b
    · rw [if_pos he] at hx; cases hx; subst he; exact ⟨o, hb, hro.trans hro'.symm⟩
    · rw [if_neg he] at hx; exact ⟨ox, hx, rfl⟩
  fresh x ox hx hge := by
    simp only [AHeap.get_set] at hx
    by_cases he : x = b
    · subst he; have := h.lt x o hb; omega
    · rw [if_neg he] at hx; have := h.lt x ox hx; omega

end Go.Abs
