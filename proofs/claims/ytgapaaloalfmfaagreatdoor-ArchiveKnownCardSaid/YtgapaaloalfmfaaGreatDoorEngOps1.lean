/- One operation upon what is known of the heap: memory: alloc, box, build, load, store, addresses. Each with the law that the model's operation does the same to every world that has what is known. -/
import Derived.Test.YtgapaaloalfmfaaGreatDoorEngHeap
import Derived.Laws.Tables
import Derived.Laws.Cells
import Derived.Laws.Strings
set_option linter.unusedVariables false
set_option linter.unusedSimpArgs false
set_option linter.unusedSectionVars false
namespace Go.Abs

/- A value without blocks stays as it is. -/
mutual
theorem conc_pure (σ : Ren) : ∀ v, vlt 0 v = true → conc σ v = v
  | .bool _, _ => rfl
  | .int _ _, _ => rfl
  | .float _ _, _ => rfl
  | .complex _ _ _, _ => rfl
  | .string _, _ => rfl
  | .pointer none, _ => rfl
  | .pointer (some a), hv => by simp [vlt, Nat.blt_eq] at hv
  | .slice none _ _, _ => rfl
  | .slice (some a) _ _, hv => by simp [vlt, Nat.blt_eq] at hv
  | .map none, _ => rfl
  | .map (some r), hv => by simp [vlt, Nat.blt_eq] at hv
  | .chan none, _ => rfl
  | .chan (some r), hv => by simp [vlt, Nat.blt_eq] at hv
  | .func fn f c, hv => by
      simp only [vlt, Bool.and_eq_true] at hv
      have hfn : concFn σ fn = fn := by
        have h1 := hv.1.1
        cases fn with
        | yield l => simp [ltFn, Nat.blt_eq] at h1
        | _ => rfl
      simp only [conc, concA_pure σ f hv.1.2, concA_pure σ c hv.2, hfn]
  | .nilFunc, _ => rfl
  | .iface _ v, hv => by simp only [vlt] at hv; simp [conc, conc_pure σ v hv]
  | .nilIface, _ => rfl
  | .agg cs, hv => by simp only [vlt] at hv; simp [conc, concA_pure σ cs hv]
  | .tuple vs, hv => by simp only [vlt] at hv; simp [conc, concA_pure σ vs hv]
theorem concA_pure (σ : Ren) : ∀ a, vltA 0 a = true → concA σ a = a
  | ⟨l⟩, hv => by simp only [vltA] at hv; simp [concA, concL_pure σ l hv]
theorem concL_pure (σ : Ren) : ∀ l, vltL 0 l = true → concL σ l = l
  | [], _ => rfl
  | v :: r, hv => by simp only [vltL, Bool.and_eq_true] at hv; simp [concL, conc_pure σ v hv.1, concL_pure σ r hv.2]
end

abbrev AR := Option (List (Value × AHeap))

/-- The run of the model's operation gives one of these, up to the numbers of blocks. -/
def OkV (P : Program) (G : Nat) (r : Result Value) (σ : Ren) (H : AHeap) (w : World) (l : List (Value × AHeap)) : Prop :=
  ∃ v H' σ' w', (v, H') ∈ l ∧ r = .ok (conc σ' v) w' ∧ R P G σ' H' w' ∧ Ext σ H w σ' H' w' ∧ vlt H'.next v = true

section
variable {P : Program} {G : Nat} {σ : Ren} {H : AHeap} {w : World}

theorem OkV.here (hR : R P G σ H w) {v : Value} (hv : vlt H.next v = true) {r : Result Value} (hr : r = .ok (conc σ v) w) : OkV P G r σ H w [(v, H)] :=
  ⟨v, H, σ, w, by simp, hr, hR, .refl _ _ _ hR.lt, hv⟩

theorem R.cell (hR : R P G σ H w) {b : Nat} {c : List Value} {e : TypeId} {m : CM} (hb : H.get b = some (.cells c e m)) {i : Nat} {v : Value} (hi : c[i]? = some v) :
    w.cell? ⟨σ.ρ b, i, none⟩ = some (conc σ v) := by
  obtain ⟨co, h1, ext, fr, rfl, _⟩ := hR.has b _ hb
  simp only [World.cell?, h1, Option.isSome_none, Bool.false_eq_true, if_false]
  have hlt : i < c.length := (List.getElem?_eq_some_iff.1 hi).1
  rw [List.getElem?_toArray, List.getElem?_append_left (by simpa using hlt), List.getElem?_map, hi]
  rfl

theorem R.cellV (hR : R P G σ H w) {b : Nat} {o : Nat} {c : List Value} {e : TypeId} (hb : H.get b = some (.view o c e)) {i : Nat} {v : Value} (hi : c[i]? = some v) :
    w.cell? ⟨σ.ρ b, o + i, none⟩ = some (conc σ v) := by
  obtain ⟨co, h1, ⟨cells, fr, rfl, h2⟩, _⟩ := hR.has b _ hb
  simp only [World.cell?, h1, Option.isSome_none, Bool.false_eq_true, if_false]
  exact h2 i v hi

theorem R.vltc (hR : R P G σ H w) {b : Nat} {c : List Value} {e : TypeId} {m : CM} (hb : H.get b = some (.cells c e m)) {i : Nat} {v : Value} (hi : c[i]? = some v) :
    vlt H.next v = true := hR.olt b _ hb v (List.mem_of_getElem? hi)

/-! ### cells put into a row -/
def setL : List Value → Nat → List Value → List Value
  | c, 0, [] => c
  | [], _, _ => []
  | x :: c, 0, v :: vs => v :: setL c 0 vs
  | x :: c, n + 1, vs => x :: setL c n vs

theorem setL_nil : ∀ (c : List Value) (n : Nat), setL c n [] = c
  | [], 0 => rfl
  | [], n + 1 => rfl
  | x :: c, 0 => rfl
  | x :: c, n + 1 => by simp [setL, setL_nil c n]
theorem setL_empty : ∀ (n : Nat) (vs : List Value), setL [] n vs = []
  | 0, [] => rfl
  | 0, _ :: _ => rfl
  | n + 1, _ => rfl
theorem setL_cons : ∀ (c : List Value) (n : Nat) (v : Value) (vs : List Value), setL c n (v :: vs) = setL (c.set n v) (n + 1) vs
  | [], n, v, vs => by simp [setL_empty]
  | x :: c, 0, v, vs => by
      cases vs with
      | nil => simp [setL, setL_nil]
      | cons u us => simp [setL]
  | x :: c, n + 1, v, vs => by simp [setL, setL_cons c n v vs]
theorem setL_length : ∀ (vs : List Value) (c : List Value) (n : Nat), (setL c n vs).length = c.length
  | [], c, n => by rw [setL_nil]
  | v :: vs, c, n => by rw [setL_cons, setL_length vs]; simp
theorem setL_map (f : Value → Value) : ∀ (vs : List Value) (c : List Value) (n : Nat), (setL c n vs).map f = setL (c.map f) n (vs.map f)
  | [], c, n => by simp [setL_nil]
  | v :: vs, c, n => by rw [setL_cons, setL_map f vs, List.map_cons, setL_cons, List.map_set]
theorem setL_mem {P : Value → Prop} : ∀ (vs : List Value) (c : List Value) (n : Nat), (∀ v ∈ c, P v) → (∀ v ∈ vs, P v) → ∀ v ∈ setL c n vs, P v
  | [], c, n, hc, _ => by rw [setL_nil]; exact hc
  | v :: vs, c, n, hc, hv => by
      rw [setL_cons]
      exact setL_mem vs _ _ (fun u hu => by
        rcases List.mem_or_eq_of_mem_set hu with h | h
        · exact hc u h
        · subst h; exact hv u (by simp)) (fun u hu => hv u (by simp [hu]))

theorem conc_oneCell (σ : Ren) (v : Value) : (conc σ v).oneCell' = v.oneCell' := by
  cases v with
  | pointer a => cases a <;> rfl
  | slice a _ _ => cases a <;> rfl
  | map a => cases a <;> rfl
  | chan a => cases a <;> rfl
  | _ => rfl

/-- One store. -/
theorem R.store1 (hR : R P G σ H w) {b : Nat} {c : List Value} {e : TypeId} {m : CM} (hb : H.get b = some (.cells c e m)) (hm : m ≠ .ro) {i : Nat} (hi : i < c.length) {v : Value}
    (hv : vlt H.next v = true) (h1 : v.oneCell' = true) :
    (store ⟨σ.ρ b, i, none⟩ (conc σ v)).run P w = .ok () (w.setCell ⟨σ.ρ b, i, none⟩ (conc σ v)) ∧
    R P G σ (H.set b (.cells (c.set i v) e m)) (w.setCell ⟨σ.ρ b, i, none⟩ (conc σ v)) ∧
    Ext σ H w σ (H.set b (.cells (c.set i v) e m)) (w.setCell ⟨σ.ρ b, i, none⟩ (conc σ v)) := by
  obtain ⟨co, hat, ext, fr, rfl, hfr, hext, hopn⟩ := hR.has b _ hb
  have hcell := hR.cell hb (List.getElem?_eq_getElem hi)
  have hnf : w.frozen? ⟨σ.ρ b, i, none⟩ = false := by
    simp only [World.frozen?, hat]
    have := hfr i (by omega)
    simpa [Bool.and_eq_false_iff] using this
  have hsz : (w.setCell ⟨σ.ρ b, i, none⟩ (conc σ v)).heap.size = w.heap.size := by simp
  have hoth : ∀ r, r ≠ σ.ρ b → (w.setCell ⟨σ.ρ b, i, none⟩ (conc σ v)).heap[r]? = w.heap[r]? := fun r hr => RowKit.Below.heap_setCell _ _ _ _ hr
  have hthere : (w.setCell ⟨σ.ρ b, i, none⟩ (conc σ v)).heap[σ.ρ b]? = some (.cells ⟨(c.set i v).map (conc σ) ++ ext⟩ e fr) := by
    simp only [World.setCell, Array.getElem?_modify, if_true, hat, Option.map_some, Option.isSome_none, Bool.false_eq_true, if_false]
    congr 2
    rw [List.map_set]
    have : i < (c.map (conc σ)).length := by simpa using hi
    rw [List.setIfInBounds_toArray]
    congr 1
    rw [List.set_append_left _ _ this]
  refine ⟨?_, ?_, ?_⟩
  · rw [run_store _ _ _ _ _ (by rw [conc_oneCell]; exact h1), hcell]
    simp [hnf]
  · refine hR.turn hb ?_ hsz hthere ⟨ext, fr, rfl, by simpa using hfr, hext, hopn⟩ hoth
    intro u hu
    rcases List.mem_or_eq_of_mem_set hu with h | h
    · exact hR.olt b _ hb u h
    · subst h; exact hv
  · refine Ext.turn hR _ hb ?_ ?_ hsz hoth rfl rfl rfl
    · cases m <;> simp_all [AObj.ro]
    · cases m <;> simp_all [AObj.ro]

theorem set_set (H : AHeap) (b : Nat) (o o' : AObj) : (H.set b o).set b o' = H.set b o' := by
  have : ∀ t, putT b o' (putT b o t) = putT b o' t := by
    intro t
    induction t with
    | nil => simp [putT, nbeq_self]
    | cons x r ih =>
      obtain ⟨k, x⟩ := x
      by_cases h : k = b
      · subst h; simp [putT, nbeq_self]
      · simp [putT, nbeq h, ih]
  simp [AHeap.set_eq, this]

theorem set_same (H : AHeap) (b : Nat) (o : AObj) (h : H.get b = some o) : H.set b o = H := by
  have : ∀ t, look t b = some o → putT b o t = t := by
    intro t ht
    induction t with
    | nil => simp [look] at ht
    | cons x r ih =>
      obtain ⟨k, x⟩ := x
      rw [look_cons] at ht
      by_cases h : k = b
      · subst h; simp at ht; subst ht; simp [putT, nbeq_self]
      · have h' : ¬ b = k := fun e => h e.symm
        simp only [if_neg h'] at ht
        simp [putT, nbeq h, ih ht]
  cases H with | mk n t => simp only [AHeap.set_eq, AHeap.get] at *; rw [this t h]

/-- A row of stores. -/
theorem R.stores {b : Nat} {e : TypeId} {m : CM} (hm : m ≠ .ro) (off : Nat) : ∀ (vs : List Value) (i : Nat) (H : AHeap) (w : World) (c : List Value), R P G σ H w → H.get b = some (.cells c e m) →
    off + i + vs.length ≤ c.length → (∀ v ∈ vs, vlt H.next v = true) → (∀ v ∈ vs, v.oneCell' = true) →
    ∃ w', (storeCells ⟨σ.ρ b, off, none⟩ (vs.map (conc σ)) i).run P w = .ok () w' ∧ R P G σ (H.set b (.cells (setL c (off + i) vs) e m)) w' ∧
      Ext σ H w σ (H.set b (.cells (setL c (off + i) vs) e m)) w'
  | [], i, H, w, c, hR, hb, _, _, _ => by
      refine ⟨w, rfl, ?_, ?_⟩ <;> rw [setL_nil, set_same H b _ hb]
      · exact hR
      · exact .refl _ _ _ hR.lt
  | v :: vs, i, H, w, c, hR, hb, hl, hv, h1 => by
      simp only [List.length_cons] at hl
      obtain ⟨hrun, hR', hE⟩ := hR.store1 hb hm (i := off + i) (by omega) (hv v (by simp)) (h1 v (by simp))
      obtain ⟨w', hrun', hR'', hE'⟩ := R.stores (b := b) (e := e) hm off vs (i + 1) _ _ (c.set (off + i) v) hR' (by simp) (by simp; omega) (fun u hu => hv u (by simp [hu])) (fun u hu => h1 u (by simp [hu]))
      rw [set_set] at hR'' hE'
      refine ⟨w', ?_, ?_, ?_⟩
      · simp only [List.map_cons, storeCells, Sem.run_bind, Addr.add_lit, hrun, Result.andThen_ok]
        exact hrun'
      · rw [setL_cons]; exact hR''
      · rw [setL_cons]; exact hE.trans hE'

end
end Go.Abs
