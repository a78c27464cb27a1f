/- Operations that turn nothing: what they give of what is known. -/
import Derived.Test.YtgapaaloalfmfaaGreatDoorEngOps1
import Derived.DeepKeys
set_option linter.unusedVariables false
set_option linter.unusedSimpArgs false
set_option linter.unusedSectionVars false
namespace Go.Abs

def szO (P : Program) (t : TypeId) : Option Nat := match P.info? t with | some i => some i.size | none => none
def isAggO (P : Program) (t : TypeId) : Option Bool :=
  match P.underlying t with
  | some (.struct _) => some true
  | some (.array _ _) => some true
  | some _ => some false
  | none => none

/-- What a reading gives: the value, and nothing is turned. -/
def OkR (P : Program) (r : Result Value) (σ : Ren) (n : Nat) (w : World) (v : Value) : Prop := r = .ok (conc σ v) w ∧ vlt n v = true

section
variable {P : Program} {G : Nat} {σ : Ren} {H : AHeap} {w : World}

theorem run_sizeOf' {t : TypeId} {n : Nat} (h : szO P t = some n) : (sizeOf t).run P w = .ok n w := by
  unfold szO at h
  cases hi : P.info? t with
  | none => simp [hi] at h
  | some i => simp [hi] at h; subst h; simp [sizeOf, typeInfo, hi]

theorem run_isAgg' {t : TypeId} {b : Bool} (h : isAggO P t = some b) : (isAgg t).run P w = .ok b w := by
  unfold isAggO at h
  cases hu : P.underlying t with
  | none => simp [hu] at h
  | some d =>
    cases d <;> simp [hu] at h <;> subst h <;> simp [isAgg, run_underlying hu]

/-! ### load -/
def aLoad (P : Program) (t : TypeId) (v : Value) (H : AHeap) : Option Value :=
  match v with
  | .pointer (some ⟨b, off, none⟩) =>
    match H.get b with
    | some (.cells c _ _) =>
      match isAggO P t with
      | some true =>
        match szO P t with
        | some n => let l := (c.drop off).take n; bif Nat.beq l.length n then some (.agg ⟨l⟩) else none
        | none => none
      | some false => c[off]?
      | none => none
    | some (.view o c _) =>
      match isAggO P t with
      | some true =>
        match szO P t with
        | some n => let l := (c.drop (off - o)).take n; bif Nat.ble o off && Nat.beq l.length n then some (.agg ⟨l⟩) else none
        | none => none
      | some false => bif Nat.ble o off then c[off - o]? else none
      | none => none
    | _ => none
  | _ => none

theorem conc_agg (σ : Ren) (l : List Value) : conc σ (.agg ⟨l⟩) = .agg ⟨l.map (conc σ)⟩ := by simp [conc, concA, concL_eq]
theorem conc_tuple (σ : Ren) (l : List Value) : conc σ (.tuple ⟨l⟩) = .tuple ⟨l.map (conc σ)⟩ := by simp [conc, concA, concL_eq]
theorem vlt_agg {n : Nat} {l : List Value} : vlt n (.agg ⟨l⟩) = true ↔ ∀ v ∈ l, vlt n v = true := by simp [vlt, vltA, vltL_iff]
theorem vlt_tuple {n : Nat} {l : List Value} : vlt n (.tuple ⟨l⟩) = true ↔ ∀ v ∈ l, vlt n v = true := by simp [vlt, vltA, vltL_iff]

theorem aLoad_ok (hR : R P G σ H w) {t : TypeId} {v r : Value} (h : aLoad P t v H = some r) : OkR P ((Instr.loadAt t (conc σ v)).run P w) σ H.next w r := by
  unfold aLoad at h
  split at h
  case h_2 => cases h
  rename_i b off
  have hrun : (Instr.loadAt t (conc σ (.pointer (some ⟨b, off, none⟩)))).run P w = (loadVar t ⟨σ.ρ b, off, none⟩).run P w := by
    simp [Instr.loadAt, conc, renA, Instr.sureAddr]
  split at h
  case h_3 => cases h
  case h_2 =>
    rename_i o c e hb
    split at h
    · rename_i hagg
      split at h
      case h_2 => cases h
      rename_i n hn
      simp only [] at h
      cases hl : (Nat.ble o off && Nat.beq ((c.drop (off - o)).take n).length n) with
      | false => rw [hl, cond_false] at h; cases h
      | true =>
        simp only [hl, cond_true, Option.some.injEq] at h
        subst h
        simp only [Bool.and_eq_true, Nat.ble_eq] at hl
        have hl' : ((c.drop (off - o)).take n).length = n := Nat.eq_of_beq_eq_true hl.2
        have ho : o + (off - o) = off := by omega
        refine ⟨?_, ?_⟩
        · rw [hrun]
          simp only [loadVar, Sem.run_bind, run_isAgg' hagg, Result.andThen_ok, if_true, run_sizeOf' hn, Sem.run_map, Sem.run_pure]
          have := run_loadCells_list (P := P) w ⟨σ.ρ b, off, none⟩ (((c.drop (off - o)).take n).map (conc σ)) (fun j v hj => by
            rw [Addr.add_lit]
            rw [List.getElem?_map] at hj
            obtain ⟨u, hu, rfl⟩ := Option.map_eq_some_iff.1 hj
            have key : c[off - o + j]? = some u := by
              rw [List.getElem?_take] at hu
              split at hu
              · rwa [List.getElem?_drop] at hu
              · cases hu
            have h5 := hR.cellV hb key
            have : o + (off - o + j) = off + j := by omega
            rwa [this] at h5)
          rw [List.length_map, hl'] at this
          rw [this, conc_agg]
          rfl
        · rw [vlt_agg]
          intro v hv
          exact hR.olt b _ hb v (List.mem_of_mem_drop (List.mem_of_mem_take hv))
    · rename_i hagg
      cases hl : Nat.ble o off with
      | false => rw [hl, cond_false] at h; cases h
      | true =>
        rw [hl, cond_true] at h
        rw [Nat.ble_eq] at hl
        have ho : o + (off - o) = off := by omega
        refine ⟨?_, hR.olt b _ hb r (List.mem_of_getElem? h)⟩
        have h5 := hR.cellV hb h
        rw [ho] at h5
        rw [hrun]
        simp [loadVar, run_isAgg' hagg, h5]
    · cases h
  rename_i c e m hb
  split at h
  · rename_i hagg
    split at h
    case h_2 => cases h
    rename_i n hn
    simp only [] at h
    cases hl : Nat.beq ((c.drop off).take n).length n with
    | false => rw [hl, cond_false] at h; cases h
    | true =>
      simp only [hl, cond_true, Option.some.injEq] at h
      subst h
      have hl' : ((c.drop off).take n).length = n := Nat.eq_of_beq_eq_true hl
      refine ⟨?_, ?_⟩
      · rw [hrun]
        simp only [loadVar, Sem.run_bind, run_isAgg' hagg, Result.andThen_ok, if_true, run_sizeOf' hn, Sem.run_map, Sem.run_pure]
        have := run_loadCells_list (P := P) w ⟨σ.ρ b, off, none⟩ (((c.drop off).take n).map (conc σ)) (fun j v hj => by
          rw [Addr.add_lit]
          rw [List.getElem?_map] at hj
          obtain ⟨u, hu, rfl⟩ := Option.map_eq_some_iff.1 hj
          refine hR.cell hb ?_
          rw [List.getElem?_take] at hu
          split at hu
          · rwa [List.getElem?_drop] at hu
          · cases hu)
        rw [List.length_map, hl'] at this
        rw [this, conc_agg]
        rfl
      · rw [vlt_agg]
        intro v hv
        exact hR.olt b _ hb v (List.mem_of_mem_drop (List.mem_of_mem_take hv))
  · rename_i hagg
    refine ⟨?_, hR.vltc hb h⟩
    rw [hrun]
    simp [loadVar, run_isAgg' hagg, hR.cell hb h]
  · cases h

/-! ### addresses -/
def aFieldAddr (P : Program) (s : TypeId) (v : Value) (f : Nat) : Option Value :=
  match P.underlying s, v with
  | some (.struct fields), .pointer (some ⟨b, off, none⟩) =>
    match fields.toList[f]? with
    | some fd =>
      match szO P fd.type with
      | some (_ + 1) => some (.pointer (some ⟨b, off + fd.offset, none⟩))
      | _ => none
    | none => none
  | _, _ => none

theorem aFieldAddr_ok {n : Nat} {s : TypeId} {v r : Value} {f : Nat} (h : aFieldAddr P s v f = some r) (hv : vlt n v = true) :
    OkR P ((Instr.fieldAt s (conc σ v) f).run P w) σ n w r := by
  unfold aFieldAddr at h
  split at h
  case h_2 => cases h
  rename_i fields b off hu
  split at h
  case h_2 => cases h
  rename_i fd hf
  split at h
  case h_2 => cases h
  rename_i k hk
  simp only [Option.some.injEq] at h
  subst h
  have hf' : fields[f]? = some fd := by rw [← hf]; simp
  refine ⟨?_, by simpa [vlt] using hv⟩
  simp [Instr.fieldAt, run_underlying hu, hf', conc, renA, Instr.sureAddr, fieldPlace, run_sizeOf' hk, Addr.add_lit]

def aIndexAddr (P : Program) (t : TypeId) (v i : Value) : Option Value :=
  match P.underlying t, v, i with
  | some (.array len elem), .pointer (some ⟨b, off, none⟩), .int _ (.ofNat i) =>
    match szO P elem with
    | some n => bif Nat.blt i len then some (.pointer (some ⟨b, off + i * n, none⟩)) else none
    | none => none
  | some (.slice elem), .slice (some ⟨b, off, _⟩) len _, .int _ (.ofNat i) =>
    match szO P elem with
    | some n => bif Nat.blt i len then some (.pointer (some ⟨b, off + i * n, none⟩)) else none
    | none => none
  | _, _, _ => none

theorem aIndexAddr_ok {n : Nat} {t : TypeId} {v i r : Value} (h : aIndexAddr P t v i = some r) (hv : vlt n v = true) :
    OkR P ((Instr.indexAt t (conc σ v) (conc σ i)).run P w) σ n w r := by
  unfold aIndexAddr at h
  split at h
  · rename_i len elem b off k i hu
    split at h
    case h_2 => cases h
    rename_i s hs
    cases hlt : Nat.blt i len with
    | false => simp [hlt] at h
    | true =>
      simp only [hlt, cond_true, Option.some.injEq] at h
      subst h
      rw [Nat.blt_eq] at hlt
      refine ⟨?_, by simpa [vlt] using hv⟩
      simp [Instr.indexAt, run_underlying hu, asIntOf, conc, renA, Instr.sureAddr, run_sizeOf' hs, hlt, Addr.add_lit]
  · rename_i elem b off len cap k i hu
    split at h
    case h_2 => cases h
    rename_i s hs
    cases hlt : Nat.blt i len with
    | false => simp [hlt] at h
    | true =>
      simp only [hlt, cond_true, Option.some.injEq] at h
      subst h
      rw [Nat.blt_eq] at hlt
      refine ⟨?_, by simpa [vlt] using hv⟩
      simp [Instr.indexAt, run_underlying hu, asIntOf, conc, renA, run_sizeOf' hs, hlt, Addr.add_lit]
  · cases h

/-! ### parts of values -/
def aPart (P : Program) (t : TypeId) (cs : List Value) (off : Nat) : Option Value :=
  match isAggO P t with
  | some true =>
    match szO P t with
    | some n => some (.agg ⟨(cs.drop off).take n⟩)
    | none => none
  | some false => cs[off]?
  | none => none

theorem aPart_ok {n : Nat} {t : TypeId} {cs : List Value} {off : Nat} {r : Value} (h : aPart P t cs off = some r) (hv : ∀ v ∈ cs, vlt n v = true) :
    OkR P ((part t ⟨cs.map (conc σ)⟩ off).run P w) σ n w r := by
  unfold aPart at h
  split at h
  · rename_i hagg
    split at h
    case h_2 => cases h
    rename_i s hs
    simp only [Option.some.injEq] at h
    subst h
    refine ⟨?_, by rw [vlt_agg]; exact fun v hv' => hv v (List.mem_of_mem_drop (List.mem_of_mem_take hv'))⟩
    simp only [part, Sem.run_bind, run_isAgg' hagg, Result.andThen_ok, if_true, run_sizeOf' hs, Sem.run_map, Sem.run_pure, conc_agg]
    congr 2
    simp [List.drop_take, Nat.add_sub_cancel_left, List.map_take, List.map_drop]
  · rename_i hagg
    refine ⟨?_, hv r (List.mem_of_getElem? h)⟩
    have : (⟨cs.map (conc σ)⟩ : Array Value)[off]? = some (conc σ r) := by simp [h]
    simp [part, run_isAgg' hagg, this]
  · cases h

def aField (P : Program) (t : TypeId) (v : Value) (f : Nat) : Option Value :=
  match P.underlying t, v with
  | some (.struct fields), .agg ⟨cs⟩ =>
    match fields.toList[f]? with
    | some fd => aPart P fd.type cs fd.offset
    | none => none
  | _, _ => none

theorem aField_ok {n : Nat} {t : TypeId} {v r : Value} {f : Nat} (h : aField P t v f = some r) (hv : vlt n v = true) :
    OkR P ((Instr.field t (conc σ v) f).run P w) σ n w r := by
  unfold aField at h
  split at h
  case h_2 => cases h
  rename_i fields cs hu
  split at h
  case h_2 => cases h
  rename_i fd hf
  have hf' : fields[f]? = some fd := by rw [← hf]; simp
  have := aPart_ok (σ := σ) (w := w) (n := n) h (vlt_agg.1 hv)
  refine ⟨?_, this.2⟩
  simp only [Instr.field, Sem.run_bind, run_underlying hu, Result.andThen_ok, hf', conc_agg, asAgg, Sem.run_pure]
  exact this.1

def aIndex (P : Program) (t : TypeId) (v i : Value) : Option Value :=
  match P.underlying t, v, i with
  | some (.array len elem), .agg ⟨cs⟩, .int _ (.ofNat i) =>
    match szO P elem with
    | some n => bif Nat.blt i len then aPart P elem cs (i * n) else none
    | none => none
  | some .string, .string s, .int _ (.ofNat i) =>
    match s.data.toList[i]? with
    | some b => some (.int .u8 b.toNat)
    | none => none
  | _, _, _ => none

theorem bytes_get (s : ByteArray) (i : Nat) : s[i]? = s.data.toList[i]? := by
  by_cases h : i < s.size
  · rw [ByteArray.getElem?_lt' s i h]
    have h' : i < s.data.toList.length := by simpa using h
    rw [List.getElem?_eq_getElem h']
    rfl
  · rw [ByteArray.getElem?_ge' s i h, List.getElem?_eq_none (by simpa using Nat.le_of_not_lt h)]

theorem aIndex_ok {n : Nat} {t : TypeId} {v i r : Value} (h : aIndex P t v i = some r) (hv : vlt n v = true) :
    OkR P ((Instr.index t (conc σ v) (conc σ i)).run P w) σ n w r := by
  unfold aIndex at h
  split at h
  · rename_i len elem cs k i hu
    split at h
    case h_2 => cases h
    rename_i s hs
    cases hlt : Nat.blt i len with
    | false => simp [hlt] at h
    | true =>
      simp only [hlt, cond_true] at h
      rw [Nat.blt_eq] at hlt
      have := aPart_ok (σ := σ) (w := w) (n := n) h (vlt_agg.1 hv)
      refine ⟨?_, this.2⟩
      simp only [Instr.index, Sem.run_bind, conc_int, conc_agg, asIntOf, Sem.run_pure, Result.andThen_ok, run_underlying hu]
      have hc : (0 : Int) ≤ Int.ofNat i ∧ Int.ofNat i < (len : Int) := ⟨Int.natCast_nonneg i, Int.ofNat_lt.2 hlt⟩
      simp only [hc, and_self, if_true, Sem.run_bind, run_sizeOf' hs, Result.andThen_ok]
      exact this.1
  · rename_i s k i hu
    split at h
    case h_2 => cases h
    rename_i b hb
    simp only [Option.some.injEq] at h
    subst h
    refine ⟨?_, rfl⟩
    have hc : (0 : Int) ≤ Int.ofNat i := Int.natCast_nonneg i
    simp only [Instr.index, Sem.run_bind, conc, asIntOf, Sem.run_pure, Result.andThen_ok, run_underlying hu, hc, if_true]
    have : s[(Int.ofNat i).toNat]? = some b := by rw [bytes_get]; exact hb
    rw [this]
    simp
  · cases h

def aExtract (v : Value) (i : Nat) : Option Value :=
  match v with
  | .tuple ⟨vs⟩ => vs[i]?
  | _ => none
theorem aExtract_ok {n : Nat} {v r : Value} {i : Nat} (h : aExtract v i = some r) (hv : vlt n v = true) :
    OkR P ((Instr.extract (conc σ v) i).run P w) σ n w r := by
  unfold aExtract at h
  split at h
  case h_2 => cases h
  rename_i vs
  refine ⟨?_, vlt_tuple.1 hv r (List.mem_of_getElem? h)⟩
  have : (⟨vs.map (conc σ)⟩ : Array Value)[i]? = some (conc σ r) := by simp [h]
  simp only [Instr.extract, conc_tuple, this, Sem.run_pure]

end
end Go.Abs
