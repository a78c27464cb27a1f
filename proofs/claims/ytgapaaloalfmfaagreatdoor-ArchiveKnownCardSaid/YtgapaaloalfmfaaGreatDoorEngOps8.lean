/- append and copy. -/
import Derived.Test.YtgapaaloalfmfaaGreatDoorEngOps7
import Derived.Laws.Append
set_option linter.unusedVariables false
set_option linter.unusedSimpArgs false
set_option linter.unusedSectionVars false
namespace Go.Abs

section
variable {P : Program} {G : Nat} {σ : Ren} {H : AHeap} {w : World}

theorem setL_split : ∀ (vs L : List Value) (p : Nat), p + vs.length ≤ L.length → setL L p vs = L.take p ++ vs ++ L.drop (p + vs.length)
  | [], L, p, _ => by simp [setL_nil]
  | v :: vs, L, p, h => by
      simp only [List.length_cons] at h
      rw [setL_cons, setL_split vs _ _ (by simp; omega)]
      have h1 : (L.set p v).take (p + 1) = L.take p ++ [v] := by
        rw [List.take_succ_eq_append_getElem (by simp; omega)]
        simp [List.take_set_of_le]
      have h2 : (L.set p v).drop (p + 1 + vs.length) = L.drop (p + (vs.length + 1)) := by
        rw [List.drop_set_of_lt (by omega)]
        congr 1
        omega
      rw [h1, h2]
      simp

/-- A row of stores into a block of which all cells are named. -/
theorem raw_stores {r p : Nat} {e : TypeId} {fr : Nat × Nat} : ∀ (vs : List Value) (i : Nat) (w : World) (L : List Value), w.heap[r]? = some (.cells ⟨L⟩ e fr) → p + i + vs.length ≤ L.length →
    (∀ j, j < L.length → ¬ (fr.1 ≤ j ∧ j < fr.2)) → (∀ v ∈ vs, v.oneCell' = true) →
    ∃ w', (storeCells ⟨r, p, none⟩ vs i).run P w = .ok () w' ∧ w'.heap[r]? = some (.cells ⟨setL L (p + i) vs⟩ e fr) ∧ w'.heap.size = w.heap.size ∧ (∀ k, k ≠ r → w'.heap[k]? = w.heap[k]?) ∧
      w'.os = w.os ∧ w'.tape = w.tape ∧ w'.output = w.output ∧ w'.drawn = w.drawn
  | [], i, w, L, h, _, _, _ => ⟨w, rfl, by rw [setL_nil]; exact h, rfl, fun _ _ => rfl, rfl, rfl, rfl, rfl⟩
  | v :: vs, i, w, L, h, hl, hf, h1 => by
      simp only [List.length_cons] at hl
      have hcell : w.cell? ⟨r, p + i, none⟩ = some (L[p + i]'(by omega)) := by
        simp [World.cell?, h, List.getElem?_eq_getElem (show p + i < L.length by omega)]
      have hnf : w.frozen? ⟨r, p + i, none⟩ = false := by
        simp only [World.frozen?, h]
        have := hf (p + i) (by omega)
        simpa [Bool.and_eq_false_iff] using this
      have hat : (w.setCell ⟨r, p + i, none⟩ v).heap[r]? = some (.cells ⟨L.set (p + i) v⟩ e fr) := by
        simp [World.setCell, Array.getElem?_modify, h]
      obtain ⟨w', hrun, hthere, hsz, hoth, ho1, ho2, ho3, ho4⟩ := raw_stores (r := r) (p := p) (e := e) (fr := fr) vs (i + 1) _ (L.set (p + i) v) hat (by simp; omega) (by simpa using hf) (fun u hu => h1 u (by simp [hu]))
      refine ⟨w', ?_, ?_, hsz.trans (by simp), fun k hk => (hoth k hk).trans (RowKit.Below.heap_setCell _ _ _ _ hk), ho1, ho2, ho3, ho4⟩
      · simp only [storeCells, Sem.run_bind, Addr.add_lit]
        rw [run_store _ _ _ _ _ (h1 v (by simp)), hcell]
        simp only [hnf, Bool.false_eq_true, if_false, Result.andThen_ok]
        exact hrun
      · rw [setL_cons]; exact hthere

/-- A block gets another number and other contents, and is the same in memory: what append does where there is room. -/
theorem R.takeover (hR : R P G σ H w) {b : Nat} {o o' : AObj} {co' : Obj} (hb : H.get b = some o) {k : Nat} {w' : World} (ho : o'.lt H.next) (hsz : w'.heap.size = w.heap.size)
    (hat : w'.heap[σ.ρ b]? = some co') (hr : rel P σ k o' co') (hoth : ∀ r, r ≠ σ.ρ b → w'.heap[r]? = w.heap[r]?) :
    R P G (upd σ H.next (σ.ρ b) k) ((H.drop b).alloc o') w' := by
  have hag := agree_upd σ H.next (σ.ρ b) k
  refine ⟨?_, ?_, ?_, ?_, ?_, ?_, ?_⟩
  · intro x ox hx
    simp only [AHeap.get_alloc, AHeap.next_drop, AHeap.get_drop] at hx
    by_cases he : x = H.next
    · subst he
      simp only [if_true, Option.some.injEq] at hx; subst hx
      refine ⟨co', by simpa [upd] using hat, ?_⟩
      have : (upd σ H.next (σ.ρ b) k).κ H.next = k := by simp [upd]
      rw [this]; exact rel_congr hag ho hr
    · rw [if_neg he] at hx
      by_cases he2 : x = b
      · rw [if_pos he2] at hx; cases hx
      · rw [if_neg he2] at hx
        obtain ⟨co, h1, h2⟩ := hR.has x ox hx
        have hlt := hR.lt x ox hx
        refine ⟨co, ?_, ?_⟩
        · rw [(hag x hlt).1, hoth _ (fun e => he2 (hR.inj x b ox o hx hb e))]; exact h1
        · rw [(hag x hlt).2]; exact rel_congr hag (hR.olt x ox hx) h2
  · intro x y ox oy hx hy he
    simp only [AHeap.get_alloc, AHeap.next_drop, AHeap.get_drop] at hx hy
    by_cases e1 : x = H.next <;> by_cases e2 : y = H.next
    · omega
    · rw [if_neg e2] at hy
      by_cases e3 : y = b
      · rw [if_pos e3] at hy; cases hy
      · rw [if_neg e3] at hy
        simp [upd, e1, e2] at he
        exact absurd (hR.inj y b oy o hy hb he.symm) e3
    · rw [if_neg e1] at hx
      by_cases e3 : x = b
      · rw [if_pos e3] at hx; cases hx
      · rw [if_neg e3] at hx
        simp [upd, e1, e2] at he
        exact absurd (hR.inj x b ox o hx hb he) e3
    · rw [if_neg e1] at hx; rw [if_neg e2] at hy
      by_cases e3 : x = b
      · rw [if_pos e3] at hx; cases hx
      · by_cases e4 : y = b
        · rw [if_pos e4] at hy; cases hy
        · rw [if_neg e3] at hx; rw [if_neg e4] at hy
          simp [upd, e1, e2] at he
          exact hR.inj x y ox oy hx hy he
  · intro x ox hx
    simp only [AHeap.get_alloc, AHeap.next_drop, AHeap.get_drop, AHeap.next_alloc] at hx ⊢
    by_cases he : x = H.next
    · omega
    · rw [if_neg he] at hx
      by_cases he2 : x = b
      · rw [if_pos he2] at hx; cases hx
      · rw [if_neg he2] at hx; have := hR.lt x ox hx; omega
  · intro x ox hx
    simp only [AHeap.get_alloc, AHeap.next_drop, AHeap.get_drop, AHeap.next_alloc] at hx ⊢
    by_cases he : x = H.next
    · rw [if_pos he] at hx; cases hx; exact AObj.lt_mono (by omega) ho
    · rw [if_neg he] at hx
      by_cases he2 : x = b
      · rw [if_pos he2] at hx; cases hx
      · rw [if_neg he2] at hx; exact AObj.lt_mono (by omega) (hR.olt x ox hx)
  · rw [hsz]; exact hR.size
  · have := hR.gnext; simp only [AHeap.next_alloc, AHeap.next_drop]; omega
  · intro x hx
    have := hR.gnext
    rw [(hag x (by omega)).1]; exact hR.glob x hx

theorem Ext.takeover (hR : R P G σ H w) {b : Nat} {o : AObj} (o' : AObj) (hb : H.get b = some o) (hro : o.ro = false) (k : Nat) {w' : World} (hsz : w'.heap.size = w.heap.size)
    (hoth : ∀ r, r ≠ σ.ρ b → w'.heap[r]? = w.heap[r]?) (hos : w'.os = w.os) (htape : w'.tape = w.tape) (hout : w'.output = w.output) :
    Ext σ H w (upd σ H.next (σ.ρ b) k) ((H.drop b).alloc o') w' where
  next := by simp
  agree := agree_upd _ _ _ _
  size := by omega
  os := hos
  tape := htape
  output := hout
  frame r _ hf := hoth r fun e => hf b o hb hro e.symm
  old x ox hx hlt := by
    simp only [AHeap.get_alloc, AHeap.next_drop, AHeap.get_drop] at hx
    rw [if_neg (by omega)] at hx
    by_cases he2 : x = b
    · rw [if_pos he2] at hx; cases hx
    · rw [if_neg he2] at hx; exact ⟨ox, hx, rfl⟩
  fresh x ox hx hge := by
    simp only [AHeap.get_alloc, AHeap.next_drop, AHeap.get_drop] at hx
    by_cases he : x = H.next
    · exact .inr ⟨b, o, hb, hro, by simp [upd, he]⟩
    · rw [if_neg he] at hx
      by_cases he2 : x = b
      · rw [if_pos he2] at hx; cases hx
      · rw [if_neg he2] at hx; have := hR.lt x ox hx; omega

end

def bytesV : List UInt8 → List Value
  | [] => []
  | b :: r => .int .u8 b.toNat :: bytesV r

/-- The first n elements of a slice or a string, as cells. -/
def aFirst (size n : Nat) (v : Value) (H : AHeap) : Option (List Value) :=
  match v with
  | .slice none _ _ => some []
  | .slice (some ⟨b, off, _⟩) _ _ =>
    match H.get b with
    | some (.cells c _ _) => let l := (c.drop off).take (n * size); bif Nat.beq l.length (n * size) then some l else none
    | some (.view o c _) => let l := (c.drop (off - o)).take (n * size); bif Nat.ble o off && Nat.beq l.length (n * size) then some l else none
    | _ => none
  | .string s => some (bytesV (s.data.toList.take n))
  | _ => none
def aLenOf : Value → Option Nat
  | .slice (some _) n _ => some n
  | .slice none 0 _ => some 0
  | .string s => some s.data.toList.length
  | _ => none

def notInt (P : Program) (t : TypeId) : Bool :=
  match P.underlying t with
  | some (.slice _) => true
  | some .string => true
  | _ => false

def aAppend (P : Program) (t u : TypeId) (s x : Value) (H : AHeap) : Option (Value × AHeap) :=
  match P.underlying t with
  | some (.slice e) =>
    match szO P e, bytesO P e, zeroO P e, aLenOf x with
    | some (n + 1), some by_, some z, some m =>
      match aFirst (n + 1) m x H with
      | none => none
      | some news =>
        bif Nat.beq z.length (n + 1) && Nat.beq news.length (m * (n + 1)) && allOne news && notInt P u then
          match s with
          | .slice none 0 0 =>
            match m with
            | 0 => some (.slice none 0 0, H)
            | _ => bif Nat.ble (m * (by_ + 1)) 140737488355328 then some (.slice (some ⟨H.next, 0, none⟩) m m, H.alloc (.cells news e .opn)) else none
          | .slice (some ⟨b, off, none⟩) len cap =>
            match H.get b with
            | some (.cells c e' md) =>
              bif Nat.ble len cap && Nat.ble (off + len * (n + 1)) c.length && Nat.ble ((len + m) * (by_ + 1)) 140737488355328 then
                bif Nat.ble (len + m) cap then
                  bif Nat.ble (off + (len + m) * (n + 1)) c.length && md.wr then
                    some (.slice (some ⟨b, off, none⟩) (len + m) cap, H.set b (.cells (setL c (off + len * (n + 1)) news) e' md))
                  else none
                else bif ownB H b then
                  some (.slice (some ⟨H.next, 0, none⟩) (len + m) (len + m), H.alloc (.cells ((c.drop off).take (len * (n + 1)) ++ news) e .opn))
                else bif Nat.beq off 0 && Nat.beq c.length (cap * (n + 1)) && Nat.beq e' e then
                  some (.slice (some ⟨H.next, 0, none⟩) (len + m) (len + m), (H.drop b).alloc (.cells (c.take (len * (n + 1)) ++ news) e .opn))
                else none
              else none
            | _ => none
          | _ => none
        else none
    | _, _, _, _ => none
  | _ => none

section
variable {P : Program} {G : Nat} {σ : Ren} {H : AHeap} {w : World}

theorem bytesV_eq : ∀ l : List UInt8, bytesV l = l.map fun b => Value.int .u8 (b.toNat : Int)
  | [] => rfl
  | b :: r => by simp [bytesV, bytesV_eq r]

theorem aLenOf_ok {v : Value} {n : Nat} (h : aLenOf v = some n) : (Builtin.lenOf (conc σ v)).run P w = .ok n w := by
  unfold aLenOf at h
  split at h
  · simp only [Option.some.injEq] at h; subst h; simp [Builtin.lenOf]
  · simp only [Option.some.injEq] at h; subst h; simp [Builtin.lenOf]
  · simp only [Option.some.injEq] at h; subst h; simp [Builtin.lenOf]
  · cases h

theorem load_row (hR : R P G σ H w) {b : Nat} {c : List Value} {e : TypeId} {m : CM} (hb : H.get b = some (.cells c e m)) (off k : Nat) (hl : ((c.drop off).take k).length = k) :
    (loadCells ⟨σ.ρ b, off, none⟩ k).run P w = .ok ⟨((c.drop off).take k).map (conc σ)⟩ w := by
  have hload := run_loadCells_list (P := P) w ⟨σ.ρ b, off, none⟩ (((c.drop off).take k).map (conc σ)) (fun j v hj => by
      rw [Addr.add_lit]
      rw [List.getElem?_map] at hj
      obtain ⟨u, hu, rfl⟩ := Option.map_eq_some_iff.1 hj
      refine hR.cell hb ?_
      rw [List.getElem?_take] at hu
      split at hu
      · rwa [List.getElem?_drop] at hu
      · cases hu)
  rwa [List.length_map, hl] at hload

theorem load_rowV (hR : R P G σ H w) {b : Nat} {o : Nat} {c : List Value} {e : TypeId} (hb : H.get b = some (.view o c e)) (off k : Nat) (ho : o ≤ off) (hl : ((c.drop (off - o)).take k).length = k) :
    (loadCells ⟨σ.ρ b, off, none⟩ k).run P w = .ok ⟨((c.drop (off - o)).take k).map (conc σ)⟩ w := by
  have hload := run_loadCells_list (P := P) w ⟨σ.ρ b, off, none⟩ (((c.drop (off - o)).take k).map (conc σ)) (fun j v hj => by
      rw [Addr.add_lit]
      rw [List.getElem?_map] at hj
      obtain ⟨u, hu, rfl⟩ := Option.map_eq_some_iff.1 hj
      have key : c[off - o + j]? = some u := by
        rw [List.getElem?_take] at hu
        split at hu
        · rwa [List.getElem?_drop] at hu
        · cases hu
      have h5 := hR.cellV hb key
      have : o + (off - o + j) = off + j := by omega
      rwa [this] at h5)
  rwa [List.length_map, hl] at hload

theorem aFirst_ok (hR : R P G σ H w) {size n : Nat} {v : Value} {l : List Value} (h : aFirst size n v H = some l) :
    (Builtin.firstCells size n (conc σ v)).run P w = .ok ⟨l.map (conc σ)⟩ w ∧ ∀ u ∈ l, vlt H.next u = true := by
  unfold aFirst at h
  split at h
  · simp only [Option.some.injEq] at h; subst h; exact ⟨by simp [Builtin.firstCells], by simp⟩
  · rename_i b off sp len cap
    split at h
    case h_3 => cases h
    case h_2 =>
      rename_i o c e hb
      simp only [] at h
      cases hl : (Nat.ble o off && Nat.beq ((c.drop (off - o)).take (n * size)).length (n * size)) with
      | false => rw [hl, cond_false] at h; cases h
      | true =>
        rw [hl, cond_true] at h
        simp only [Option.some.injEq] at h; subst h
        simp only [Bool.and_eq_true, Nat.ble_eq] at hl
        refine ⟨?_, fun u hu => hR.olt b _ hb u (List.mem_of_mem_drop (List.mem_of_mem_take hu))⟩
        simp only [conc_sliceX, Builtin.firstCells]
        exact load_rowV hR hb off (n * size) hl.1 (Nat.eq_of_beq_eq_true hl.2)
    rename_i c e m hb
    simp only [] at h
    cases hl : Nat.beq ((c.drop off).take (n * size)).length (n * size) with
    | false => rw [hl, cond_false] at h; cases h
    | true =>
      rw [hl, cond_true] at h
      simp only [Option.some.injEq] at h; subst h
      refine ⟨?_, fun u hu => hR.olt b _ hb u (List.mem_of_mem_drop (List.mem_of_mem_take hu))⟩
      simp only [conc_sliceX, Builtin.firstCells]
      exact load_row hR hb off (n * size) (Nat.eq_of_beq_eq_true hl)
  · rename_i s
    simp only [Option.some.injEq] at h; subst h
    refine ⟨?_, ?_⟩
    · simp only [conc_string, Builtin.firstCells, Sem.run_pure, Result.ok.injEq, and_true]
      apply Array.ext'
      rw [bytesV_eq]
      simp [Function.comp_def]
    · intro u hu
      rw [bytesV_eq] at hu
      obtain ⟨b, _, rfl⟩ := List.mem_map.1 hu
      rfl
  · cases h

theorem notInt_ok {t : TypeId} (h : notInt P t = true) : (∃ e, P.underlying t = some (.slice e)) ∨ P.underlying t = some .string := by
  unfold notInt at h
  split at h
  · rename_i e hd; exact .inl ⟨e, hd⟩
  · rename_i hd; exact .inr hd
  · cases h

/-- append where there is no room: a new block, of some capacity. -/
theorem run_grow {t u ty e : TypeId} {i : TypeInfo} {z : Value} {base : Option Addr} {sLen sCap m size : Nat} {x : Value} {old new : Array Value}
    (hu : P.underlying t = some (.slice e)) (hi : P.info? e = some i) (hz : i.zero = some z) (hn : i.size = size) (hzs : z.cells.size = size) (hni : notInt P u = true)
    (hlen : (Builtin.lenOf x).run P w = .ok m w) (hold : ∀ w' : World, w'.heap = w.heap → (Builtin.firstCells size sLen (.slice base sLen sCap)).run P w' = .ok old w')
    (hnew : ∀ w' : World, w'.heap = w.heap → (Builtin.firstCells size m x).run P w' = .ok new w') (hg : sCap < sLen + m) (hb : (sLen + m) * (i.bytes + 1) ≤ 140737488355328) :
    ∃ (k : Nat) (rest : List Value), rest.length = k * size ∧
      (Builtin.append_ #[t, u] ty #[.slice base sLen sCap, x]).run P w =
        .ok (.slice (some ⟨w.heap.size, 0, none⟩) (sLen + m) (sLen + m + k)) (w.drew.alloc (.cells (old ++ new ++ ⟨rest⟩) e)) := by
  have hq : (Question.appendCap (sLen + m) sCap e).forced = false := rfl
  have hle : sLen + m ≤ 140737488355328 := Nat.le_trans (Nat.le_mul_of_pos_right _ (by omega)) hb
  have hmul : (sLen + m) * i.bytes ≤ 140737488355328 := Nat.le_trans (Nat.mul_le_mul_left _ (by omega)) hb
  have h1 : ¬ ((((sLen + m : Nat) : Int) > IntKind.i64.max) ∧ (False ∨ i.bytes = 0)) := by
    rw [IntKind.max_i64]; intro hh; omega
  have h2 : ¬ (Builtin.nextslicecap (sLen + m) sCap * i.bytes > 2 ^ 48) := by
    have := growslice_fits hg hmul; omega
  have h3 : ¬ (sLen + m ≤ sCap) := by omega
  have hnc : ∀ tt, (Question.appendCap (sLen + m) sCap e).cut tt = sLen + m + tt % (2 ^ 63 - (sLen + m)) := fun _ => rfl
  have hold' := hold w.drew rfl
  have hnew' := hnew w.drew rfl
  refine ⟨w.tape w.drawn (.appendCap (sLen + m) sCap e) % (2 ^ 63 - (sLen + m)), (Builtin.zeroCells z.cells (w.tape w.drawn (.appendCap (sLen + m) sCap e) % (2 ^ 63 - (sLen + m)))).toList, ?_, ?_⟩
  · simp [Builtin.zeroCells, hzs]
  · rcases notInt_ok hni with ⟨e2, hd⟩ | hd
    all_goals
      simp only [Builtin.append_, List.getElem?_toArray, List.getElem?_cons_zero, List.getElem?_cons_succ, Sem.run_bind, run_underlying hu, Result.andThen_ok, sizeOf, typeInfo, run_program, hi, Sem.run_map,
        Sem.run_pure, run_underlying hd, hn, Bool.false_eq_true, if_false, hlen, h3, h1, h2, run_choose, hq, hnc, World.drew_eq, run_askRoom, hold', hnew', Bool.not_false, if_true, zeroValue, hz, newRow, run_newObj,
        World.alloc_eq, Nat.add_sub_cancel_left]
      simp

/-- append where there is room. -/
theorem run_room {t u ty e : TypeId} {size : Nat} {r off sLen sCap m : Nat} {x : Value} {new : Array Value} {w' : World}
    (hu : P.underlying t = some (.slice e)) (hn : szO P e = some size) (hni : notInt P u = true)
    (hlen : (Builtin.lenOf x).run P w = .ok m w) (hnew : (Builtin.firstCells size m x).run P w = .ok new w) (hg : sLen + m ≤ sCap)
    (hst : (storeCells ⟨r, off + sLen * size, none⟩ new.toList).run P w = .ok () w') :
    (Builtin.append_ #[t, u] ty #[.slice (some ⟨r, off, none⟩) sLen sCap, x]).run P w = .ok (.slice (some ⟨r, off, none⟩) (sLen + m) sCap) w' := by
  rcases notInt_ok hni with ⟨e2, hd⟩ | hd
  all_goals
    simp only [Builtin.append_, List.getElem?_toArray, List.getElem?_cons_zero, List.getElem?_cons_succ, Sem.run_bind, run_underlying hu, Result.andThen_ok, run_sizeOf' hn,
      Sem.run_pure, run_underlying hd, Bool.false_eq_true, if_false, hlen, hg, Bool.not_false, if_true, hnew, Addr.add_lit, hst]

theorem run_append_nil {t u ty e : TypeId} {size : Nat} {x : Value} {new : Array Value}
    (hu : P.underlying t = some (.slice e)) (hn : szO P e = some size) (hni : notInt P u = true)
    (hlen : (Builtin.lenOf x).run P w = .ok 0 w) (hnew : (Builtin.firstCells size 0 x).run P w = .ok new w) :
    (Builtin.append_ #[t, u] ty #[.slice none 0 0, x]).run P w = .ok (.slice none 0 0) w := by
  rcases notInt_ok hni with ⟨e2, hd⟩ | hd
  all_goals
    simp [Builtin.append_, run_underlying hu, run_sizeOf' hn, run_underlying hd, hlen, hnew]

theorem R.of_heap {w' : World} (hR : R P G σ H w) (hw : w'.heap = w.heap) : R P G σ H w' :=
  ⟨by rw [hw]; exact hR.has, hR.inj, hR.lt, hR.olt, by rw [hw]; exact hR.size, hR.gnext, hR.glob⟩

theorem aAppend_ok (hR : R P G σ H w) {t u ty : TypeId} {s x v : Value} {H' : AHeap} (h : aAppend P t u s x H = some (v, H')) (hs : vlt H.next s = true) :
    OkH P G ((Builtin.append_ #[t, u] ty #[conc σ s, conc σ x]).run P w) σ H w v H' := by
  unfold aAppend at h
  split at h
  case h_2 => cases h
  rename_i e hu
  split at h
  case h_2 => cases h
  rename_i n by_ z m hn hby hz hm
  split at h
  · cases h
  rename_i news hnews
  cases hc : (Nat.beq z.length (n + 1) && Nat.beq news.length (m * (n + 1)) && allOne news && notInt P u) with
  | false => rw [hc, cond_false] at h; cases h
  | true =>
  rw [hc, cond_true] at h
  simp only [Bool.and_eq_true, Nat.beq_eq] at hc
  obtain ⟨⟨⟨hzl, hnl⟩, h1⟩, hni⟩ := hc
  obtain ⟨i, uz, hi, hzz, huz, h0⟩ := zeroO_some hz
  obtain ⟨i', hi', hby'⟩ := bytesO_some hby
  obtain rfl : i = i' := by rw [hi] at hi'; cases hi'; rfl
  obtain ⟨i', hi', hn'⟩ := szO_some hn
  obtain rfl : i = i' := by rw [hi] at hi'; cases hi'; rfl
  have hzs : uz.cells.size = n + 1 := by rw [← hzl, ← huz]; simp
  have hlen : (Builtin.lenOf (conc σ x)).run P w = .ok m w := aLenOf_ok hm
  have hfirst : ∀ w' : World, w'.heap = w.heap → (Builtin.firstCells (n + 1) m (conc σ x)).run P w' = .ok ⟨news.map (conc σ)⟩ w' := fun w' hw' =>
    (aFirst_ok (hR.of_heap hw') hnews).1
  have hnlt := (aFirst_ok hR hnews).2
  have hszOf : szOf P e = n + 1 := szOf_eq hn
  split at h
  · -- nil
    split at h
    · simp only [Option.some.injEq, Prod.mk.injEq] at h
      obtain ⟨rfl, rfl⟩ := h
      exact ⟨σ, w, run_append_nil hu hn hni hlen (hfirst w rfl), hR, .refl _ _ _ hR.lt, rfl⟩
    · cases hb : Nat.ble (m * (by_ + 1)) 140737488355328 with
      | false => rw [hb, cond_false] at h; cases h
      | true =>
        rw [hb, cond_true] at h
        rw [Nat.ble_eq] at hb
        simp only [Option.some.injEq, Prod.mk.injEq] at h
        obtain ⟨rfl, rfl⟩ := h
        have hm0 : 0 < m := Nat.pos_of_ne_zero (by assumption)
        obtain ⟨k, rest, hrest, hrun⟩ := run_grow (P := P) (w := w) (ty := ty) (base := none) (sLen := 0) (sCap := 0) (x := conc σ x) (old := #[]) hu hi hzz hn' hzs hni hlen
          (fun w' _ => by simp [Builtin.firstCells]) hfirst (by omega) (by rw [hby']; simpa using hb)
        refine ⟨upd σ H.next w.heap.size k, w.drew.alloc _, ?_, R.alloc (w := w.drew) hR.drew k hnlt ⟨rest, (0, 0), rfl, by simp, by rw [hrest, hszOf], by simp⟩, ?_, by simp [vlt, Nat.blt_eq]⟩
        · rw [conc_sliceNil, hrun]
          simp [renA, upd]
        · exact (Ext.refl σ H w hR.lt).drew.trans (Ext.alloc (w := w.drew) hR.drew _ _ k)
  · rename_i b off len cap
    split at h
    case h_2 => cases h
    rename_i c e' md hb
    cases hc : (Nat.ble len cap && Nat.ble (off + len * (n + 1)) c.length && Nat.ble ((len + m) * (by_ + 1)) 140737488355328) with
    | false => rw [hc, cond_false] at h; cases h
    | true =>
    rw [hc, cond_true] at h
    simp only [Bool.and_eq_true, Nat.ble_eq] at hc
    obtain ⟨⟨hlc, hoc⟩, hbb⟩ := hc
    have hol : ∀ w' : World, w'.heap = w.heap → (Builtin.firstCells (n + 1) len (.slice (some ⟨σ.ρ b, off, none⟩) len (cap + σ.κ b))).run P w' = .ok ⟨((c.drop off).take (len * (n + 1))).map (conc σ)⟩ w' := fun w' hw' => by
      simp only [Builtin.firstCells]
      exact load_row (hR.of_heap hw') hb off (len * (n + 1)) (by simp; omega)
    have hclt : ∀ v ∈ c, vlt H.next v = true := hR.olt b _ hb
    have hlin : (len + m) * (n + 1) = len * (n + 1) + m * (n + 1) := Nat.add_mul ..
    cases hr : Nat.ble (len + m) cap with
    | true =>
      rw [hr, cond_true] at h
      rw [Nat.ble_eq] at hr
      cases hc : (Nat.ble (off + (len + m) * (n + 1)) c.length && md.wr) with
      | false => rw [hc, cond_false] at h; cases h
      | true =>
        rw [hc, cond_true] at h
        simp only [Bool.and_eq_true, Nat.ble_eq] at hc
        simp only [Option.some.injEq, Prod.mk.injEq] at h
        obtain ⟨rfl, rfl⟩ := h
        have hmd : md ≠ .ro := by rintro rfl; cases hc.2
        obtain ⟨w', hst, hR', hE⟩ := R.stores (P := P) (G := G) (σ := σ) (b := b) (e := e') hmd (off + len * (n + 1)) news 0 H w c hR hb (by omega) hnlt (allOne_iff.1 h1)
        refine ⟨σ, w', ?_, hR', hE, by simpa [vlt] using hs⟩
        rw [conc_slice, conc_slice, renA]
        exact run_room hu hn hni hlen (hfirst w rfl) (by omega) hst
    | false =>
      rw [hr, cond_false] at h
      have hr' : cap < len + m := by
        rcases Nat.lt_or_ge cap (len + m) with h' | h'
        · exact h'
        · have h2 : Nat.ble (len + m) cap = true := by rw [Nat.ble_eq]; exact h'
          rw [h2] at hr; cases hr
      cases ho : ownB H b with
      | true =>
        rw [ho, cond_true] at h
        simp only [Option.some.injEq, Prod.mk.injEq] at h
        obtain ⟨rfl, rfl⟩ := h
        have hk0 := ownB_zero hR ho
        obtain ⟨k, rest, hrest, hrun⟩ := run_grow (P := P) (w := w) (ty := ty) (base := some ⟨σ.ρ b, off, none⟩) (sLen := len) (sCap := cap + σ.κ b) (x := conc σ x) hu hi hzz hn' hzs hni hlen
          hol hfirst (by omega) (by rw [hby']; exact hbb)
        refine ⟨upd σ H.next w.heap.size k, w.drew.alloc _, ?_, R.alloc (w := w.drew) hR.drew k ?_ ⟨rest, (0, 0), rfl, by simp, by rw [hrest, hszOf], by simp⟩, ?_, by simp [vlt, Nat.blt_eq]⟩
        · rw [conc_slice, renA, hrun]
          simp [renA, upd]
        · intro v hv
          rcases List.mem_append.1 hv with hv | hv
          · exact hclt v (List.mem_of_mem_drop (List.mem_of_mem_take hv))
          · exact hnlt v hv
        · exact (Ext.refl σ H w hR.lt).drew.trans (Ext.alloc (w := w.drew) hR.drew _ _ k)
      | false =>
        rw [ho, cond_false] at h
        cases hc : (Nat.beq off 0 && Nat.beq c.length (cap * (n + 1)) && Nat.beq e' e) with
        | false => rw [hc, cond_false] at h; cases h
        | true =>
          rw [hc, cond_true] at h
          simp only [Bool.and_eq_true, Nat.beq_eq] at hc
          obtain ⟨⟨rfl, hcl⟩, rfl⟩ := hc
          simp only [Option.some.injEq, Prod.mk.injEq] at h
          obtain ⟨rfl, rfl⟩ := h
          obtain ⟨co, hat, ext, fr, rfl, hfr, hext, hopn⟩ := hR.has b _ hb
          have hro : (AObj.cells c e' md).ro = false := by
            cases md <;> first | rfl | (simp [ownB, hb] at ho)
          have holt : ∀ v ∈ c.take (len * (n + 1)) ++ news, vlt H.next v = true := fun v hv => by
            rcases List.mem_append.1 hv with hv | hv
            · exact hclt v (List.mem_of_mem_take hv)
            · exact hnlt v hv
          by_cases hroom : len + m ≤ cap + σ.κ b
          · -- there is room
            have htot : (c.map (conc σ) ++ ext).length = (cap + σ.κ b) * (n + 1) := by
              rw [List.length_append, List.length_map, hcl, hext, hszOf, Nat.add_mul]
            have hfit : (len + m) * (n + 1) ≤ (cap + σ.κ b) * (n + 1) := Nat.mul_le_mul_right _ hroom
            obtain ⟨w', hst, hthere, hsz, hoth, ho1, ho2, ho3, ho4⟩ := raw_stores (P := P) (r := σ.ρ b) (p := len * (n + 1)) (e := e') (fr := fr) (news.map (conc σ)) 0 w _ hat
              (by rw [htot, List.length_map]; omega) (by simpa using hfr) (by
                intro v hv
                obtain ⟨u, hu, rfl⟩ := List.mem_map.1 hv
                rw [conc_oneCell]; exact allOne_iff.1 h1 u hu)
            rw [Nat.add_zero] at hthere
            have hsplit : setL (c.map (conc σ) ++ ext) (len * (n + 1)) (news.map (conc σ)) =
                (c.take (len * (n + 1)) ++ news).map (conc σ) ++ (c.map (conc σ) ++ ext).drop ((len + m) * (n + 1)) := by
              have hle : len * (n + 1) ≤ cap * (n + 1) := Nat.mul_le_mul_right _ hlc
              rw [setL_split _ _ _ (by rw [htot, List.length_map]; omega), List.map_append, List.length_map, hnl, ← hlin]
              congr 2
              rw [List.take_append_of_le_length (by rw [List.length_map]; omega), List.map_take]
            rw [hsplit] at hthere
            refine ⟨upd σ H.next (σ.ρ b) (cap + σ.κ b - (len + m)), w', ?_, R.takeover hR hb holt hsz hthere ⟨_, fr, rfl, ?_, ?_, by simp⟩ hoth, Ext.takeover hR _ hb hro _ hsz hoth ho1 ho2 ho3, by simp [vlt, Nat.blt_eq]⟩
            · rw [conc_slice, renA, run_room hu hn hni hlen (hfirst w rfl) hroom (by rw [Nat.zero_add]; exact hst)]
              simp [renA, upd]
              omega
            · intro j hj
              refine hfr j ?_
              have : (c.take (len * (n + 1)) ++ news).length + ((c.map (conc σ) ++ ext).drop ((len + m) * (n + 1))).length = (c.map (conc σ) ++ ext).length := by
                rw [List.length_append, List.length_take, List.length_drop, htot, hnl, hcl]
                have : len * (n + 1) ≤ cap * (n + 1) := Nat.mul_le_mul_right _ hlc
                omega
              rw [this] at hj
              simpa using hj
            · rw [List.length_drop, htot, hszOf, ← Nat.sub_mul]
          · obtain ⟨k, rest, hrest, hrun⟩ := run_grow (P := P) (w := w) (ty := ty) (base := some ⟨σ.ρ b, 0, none⟩) (sLen := len) (sCap := cap + σ.κ b) (x := conc σ x) hu hi hzz hn' hzs hni hlen
              hol hfirst (by omega) (by rw [hby']; exact hbb)
            have hR1 := R.weaken hR.drew (H' := H.drop b) rfl (fun x o hx => by
              simp only [AHeap.get_drop] at hx
              by_cases he : x = b
              · rw [if_pos he] at hx; cases hx
              · rwa [if_neg he] at hx)
            refine ⟨upd σ H.next w.heap.size k, w.drew.alloc _, ?_, R.alloc (w := w.drew) hR1 k ?_ ⟨rest, (0, 0), rfl, by simp, by rw [hrest, hszOf], by simp⟩, ?_, by simp [vlt, Nat.blt_eq]⟩
            · rw [conc_slice, renA, hrun]
              simp [renA, upd]
            · exact holt
            · refine Ext.trans (w' := w.drew) (H' := H.drop b) (σ' := σ) ?_ (Ext.alloc (w := w.drew) hR1 _ _ k)
              refine (Ext.weaken (H'' := H.drop b) (Ext.refl σ H w hR.lt) rfl (fun x o hx => ?_)).drew
              simp only [AHeap.get_drop] at hx
              by_cases he : x = b
              · rw [if_pos he] at hx; cases hx
              · rwa [if_neg he] at hx
  · cases h

end
end Go.Abs
