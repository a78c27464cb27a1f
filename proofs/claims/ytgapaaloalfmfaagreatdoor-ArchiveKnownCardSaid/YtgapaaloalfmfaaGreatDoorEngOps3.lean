/- Operations that turn nothing, further: slices, arithmetic, comparisons, conversions. -/
import Derived.Test.YtgapaaloalfmfaaGreatDoorEngOps2
set_option linter.unusedVariables false
set_option linter.unusedSimpArgs false
set_option linter.unusedSectionVars false
namespace Go.Abs

def ownB (H : AHeap) (b : Nat) : Bool :=
  match H.get b with
  | some (.cells _ _ .own) => true
  | some (.cells _ _ .ro) => true
  | some (.view _ _ _) => true
  | _ => false

def ofInt? : Value → Option Nat
  | .int _ (.ofNat n) => some n
  | _ => none

/-- low and high of a slice expression without a third index: (low, high), both within m. -/
def aBounds (len m : Nat) (lo hi : Option Value) : Option (Nat × Nat) :=
  match (match hi with | none => some len | some v => ofInt? v) with
  | some h =>
    match (match lo with | none => some 0 | some v => ofInt? v) with
    | some l => bif Nat.ble l h && Nat.ble h m then some (l, h) else none
    | none => none
  | none => none

def exL (l h : Nat) (s : ByteArray) : ByteArray := ⟨⟨(s.data.toList.take h).drop l⟩⟩

def aSlice (P : Program) (t : TypeId) (v : Value) (lo hi mx : Option Value) (H : AHeap) : Option Value :=
  match mx with
  | some mv =>
    match P.underlying t, v, ofInt? mv with
    | some (.slice e), .slice (some ⟨b, off, none⟩) len cap, some m =>
      match aBounds len m lo hi, szO P e with
      | some (l, h), some n =>
        bif Nat.ble m cap && hi.isSome then some (.slice (some ⟨b, bif Nat.beq m l then off else off + l * n, bif ownB H b then none else some 0⟩) (h - l) (m - l)) else none
      | _, _ => none
    | _, _, _ => none
  | none =>
    match P.underlying t, v with
    | some .string, .string s =>
      match aBounds s.data.toList.length s.data.toList.length lo hi with
      | some (l, h) => some (.string (exL l h s))
      | none => none
    | some (.slice e), .slice none len cap =>
      match aBounds len cap lo hi, szO P e with
      | some (l, h), some _ => some (.slice none (h - l) (cap - l))
      | _, _ => none
    | some (.slice e), .slice (some ⟨b, off, none⟩) len cap =>
      match aBounds len cap lo hi, szO P e with
      | some (0, h), some _ => some (.slice (some ⟨b, off, none⟩) h cap)
      | some (l + 1, h), some n =>
        bif ownB H b then some (.slice (some (bif Nat.beq cap (l + 1) then ⟨b, off, none⟩ else ⟨b, off + (l + 1) * n, none⟩)) (h - (l + 1)) (cap - (l + 1)))
        else bif Nat.blt (l + 1) cap then some (.slice (some ⟨b, off + (l + 1) * n, none⟩) (h - (l + 1)) (cap - (l + 1))) else none
      | _, _ => none
    | some (.array n e), .pointer (some ⟨b, off, none⟩) =>
      match aBounds n n lo hi, szO P e with
      | some (l, h), some s =>
        bif ownB H b then some (.slice (some (bif Nat.beq n l then ⟨b, off, none⟩ else ⟨b, off + l * s, none⟩)) (h - l) (n - l)) else none
      | _, _ => none
    | _, _ => none

section
variable {P : Program} {G : Nat} {σ : Ren} {H : AHeap} {w : World}

theorem ownB_zero (hR : R P G σ H w) {b : Nat} (h : ownB H b = true) : σ.κ b = 0 := by
  unfold ownB at h
  split at h
  · rename_i hb; obtain ⟨_, _, _, _, _, _, _, h0⟩ := hR.has b _ hb; exact h0 (by simp)
  · rename_i hb; obtain ⟨_, _, _, _, _, _, _, h0⟩ := hR.has b _ hb; exact h0 (by simp)
  · rename_i hb; obtain ⟨_, _, _, h0⟩ := hR.has b _ hb; exact h0
  · cases h

theorem ofInt?_some {v : Value} {n : Nat} (h : ofInt? v = some n) : ∃ k, v = .int k (n : Int) := by
  unfold ofInt? at h
  split at h
  · rename_i k m; cases h; exact ⟨k, rfl⟩
  · cases h

theorem run_bound (k : IntKind) (i y : Nat) (h : i ≤ y) (code : BoundsCode) : (Instr.sliceBound (.int k (i : Int)) y code).run P w = .ok i w := by
  have : (0 : Int) ≤ (i : Int) ∧ (i : Int) ≤ (y : Int) := by omega
  simp [Instr.sliceBound, asIntOf, this]

theorem run_bounds (σ : Ren) {isS : Bool} {len m l h : Nat} {lo hi : Option Value} (hb : aBounds len m lo hi = some (l, h)) (k : Nat) :
    (Instr.sliceBounds isS len (m + k) (lo.map (conc σ)) (hi.map (conc σ)) none).run P w = .ok (l, h, m + k) w ∧ l ≤ h ∧ h ≤ m := by
  unfold aBounds at hb
  split at hb
  case h_2 => cases hb
  rename_i h' hh
  split at hb
  case h_2 => cases hb
  rename_i l' hl
  cases hc : (Nat.ble l' h' && Nat.ble h' m) with
  | false => rw [hc, cond_false] at hb; cases hb
  | true =>
    rw [hc, cond_true] at hb
    cases hb
    simp only [Bool.and_eq_true, Nat.ble_eq] at hc
    refine ⟨?_, hc⟩
    simp only [Instr.sliceBounds]
    cases hi with
    | none =>
      simp only [Option.some.injEq] at hh
      subst hh
      cases lo with
      | none => simp only [Option.some.injEq] at hl; subst hl; simp
      | some v =>
        obtain ⟨k', rfl⟩ := ofInt?_some hl
        simp [run_bound k' _ _ hc.1]
    | some u =>
      obtain ⟨k1, rfl⟩ := ofInt?_some hh
      have hm : h ≤ m + k := by omega
      cases lo with
      | none => simp only [Option.some.injEq] at hl; subst hl; simp [run_bound k1 _ _ hm]
      | some v =>
        obtain ⟨k', rfl⟩ := ofInt?_some hl
        simp [run_bound k1 _ _ hm, run_bound k' _ _ hc.1]

theorem run_bounds3 (σ : Ren) {isS : Bool} {len m l h : Nat} {lo hi : Option Value} (hb : aBounds len m lo hi = some (l, h)) (hi' : hi.isSome = true) (cap : Nat) (km : IntKind) (hm : m ≤ cap) :
    (Instr.sliceBounds isS len cap (lo.map (conc σ)) (hi.map (conc σ)) (some (.int km (m : Int)))).run P w = .ok (l, h, m) w := by
  unfold aBounds at hb
  split at hb
  case h_2 => cases hb
  rename_i h' hh
  split at hb
  case h_2 => cases hb
  rename_i l' hl
  cases hc : (Nat.ble l' h' && Nat.ble h' m) with
  | false => rw [hc, cond_false] at hb; cases hb
  | true =>
    rw [hc, cond_true] at hb
    cases hb
    simp only [Bool.and_eq_true, Nat.ble_eq] at hc
    simp only [Instr.sliceBounds]
    cases hi with
    | none => cases hi'
    | some u =>
      obtain ⟨k1, rfl⟩ := ofInt?_some hh
      cases lo with
      | none => simp only [Option.some.injEq] at hl; subst hl; simp [run_bound k1 _ _ hc.2, run_bound km _ _ hm]
      | some v =>
        obtain ⟨k', rfl⟩ := ofInt?_some hl
        simp [run_bound k1 _ _ hc.2, run_bound k' _ _ hc.1, run_bound km _ _ hm]

theorem extract_exL (s : ByteArray) (l h : Nat) : s.extract l h = exL l h s := by
  apply ByteArray.ext
  simp only [ByteArray.data_extract, exL]
  apply Array.ext'
  simp [List.drop_take]

theorem aSlice_ok (hR : R P G σ H w) {t : TypeId} {v r : Value} {lo hi mx : Option Value} (h : aSlice P t v lo hi mx H = some r) (hv : vlt H.next v = true) :
    OkR P ((Instr.sliceAt t (conc σ v) (lo.map (conc σ)) (hi.map (conc σ)) (mx.map (conc σ))).run P w) σ H.next w r := by
  unfold aSlice at h
  split at h
  · rename_i mv
    split at h
    case h_2 => cases h
    rename_i e b off len cap m hu hm
    split at h
    case h_2 => cases h
    rename_i l u n hb hn
    cases hc : (Nat.ble m cap && hi.isSome) with
    | false => rw [hc, cond_false] at h; cases h
    | true =>
      rw [hc, cond_true] at h
      simp only [Bool.and_eq_true, Nat.ble_eq] at hc
      simp only [Option.some.injEq] at h
      subst h
      obtain ⟨km, rfl⟩ := ofInt?_some hm
      have hrun := run_bounds3 (P := P) (w := w) σ (isS := true) hb hc.2 (cap + σ.κ b) km (by omega)
      refine ⟨?_, by simpa [vlt] using hv⟩
      simp only [Instr.sliceAt, Sem.run_bind, run_underlying hu, Result.andThen_ok, Instr.slice, conc_slice, Option.map_some, conc_int, hrun, run_sizeOf' hn, Sem.run_pure, renA, Addr.add_lit]
      have hk : exK σ ⟨b, bif Nat.beq m l then off else off + l * n, bif ownB H b then none else some 0⟩ = 0 := by
        cases ho : ownB H b with
        | true => exact ownB_zero hR ho
        | false => rfl
      rw [conc_sliceX, hk]
      by_cases hml : m = l
      · subst hml; simp [nbeq_self]
      · simp [nbeq hml, hml]
  split at h
  · rename_i s hu
    split at h
    case h_2 => cases h
    rename_i l u hb
    simp only [Option.some.injEq] at h
    subst h
    obtain ⟨hrun, _⟩ := run_bounds (P := P) (w := w) σ (isS := false) hb 0
    refine ⟨?_, rfl⟩
    simp only [Nat.add_zero] at hrun
    have hsz : s.data.toList.length = s.size := by simp
    rw [hsz] at hrun
    simp only [Instr.sliceAt, Sem.run_bind, run_underlying hu, Result.andThen_ok, Instr.slice, conc_string, Option.map_none, Option.isSome_none, Bool.false_eq_true, if_false,
      Sem.run_pure, hrun, extract_exL]
  · rename_i e len cap hu
    split at h
    case h_2 => cases h
    rename_i l u n hb hn
    simp only [Option.some.injEq] at h
    subst h
    obtain ⟨hrun, hlu⟩ := run_bounds (P := P) (w := w) σ (isS := true) hb 0
    simp only [Nat.add_zero] at hrun
    refine ⟨?_, rfl⟩
    simp only [Instr.sliceAt, Sem.run_bind, run_underlying hu, Result.andThen_ok, Instr.slice, conc_sliceNil, Option.map_none, hrun, run_sizeOf' hn, Sem.run_pure, ite_self]
  · rename_i e b off len cap hu
    split at h
    · rename_i u n hb hn
      simp only [Option.some.injEq] at h
      subst h
      obtain ⟨hrun, hlu⟩ := run_bounds (P := P) (w := w) σ (isS := true) hb (σ.κ b)
      refine ⟨?_, by simpa [vlt] using hv⟩
      simp only [Instr.sliceAt, Sem.run_bind, run_underlying hu, Result.andThen_ok, Instr.slice, conc_slice, Option.map_none, hrun, run_sizeOf' hn, Sem.run_pure, renA, Option.map_some,
        Nat.zero_mul, Addr.add_lit, Nat.add_zero, ite_self, Nat.sub_zero]
    · rename_i l u n hb hn
      obtain ⟨hrun, hlu⟩ := run_bounds (P := P) (w := w) σ (isS := true) hb (σ.κ b)
      cases ho : ownB H b with
      | true =>
        rw [ho, cond_true] at h
        simp only [Option.some.injEq] at h
        subst h
        have h0 := ownB_zero hR ho
        rw [h0, Nat.add_zero] at hrun
        refine ⟨?_, by cases Nat.beq cap (l + 1) <;> simpa [vlt] using hv⟩
        simp only [Instr.sliceAt, Sem.run_bind, run_underlying hu, Result.andThen_ok, Instr.slice, conc_slice, Option.map_none, h0, Nat.add_zero, hrun, run_sizeOf' hn, Sem.run_pure, renA, Option.map_some,
          Addr.add_lit]
        by_cases hc : cap = l + 1
        · subst hc
          simp [nbeq_self, h0, renA]
        · simp [nbeq hc, hc, h0, renA]
      | false =>
        rw [ho, cond_false] at h
        cases hc : Nat.blt (l + 1) cap with
        | false => rw [hc, cond_false] at h; cases h
        | true =>
          rw [hc, cond_true] at h
          rw [Nat.blt_eq] at hc
          simp only [Option.some.injEq] at h
          subst h
          refine ⟨?_, by simpa [vlt] using hv⟩
          have hne : ¬ (cap + σ.κ b = l + 1) := by omega
          have he : cap + σ.κ b - (l + 1) = cap - (l + 1) + σ.κ b := by omega
          simp only [Instr.sliceAt, Sem.run_bind, run_underlying hu, Result.andThen_ok, Instr.slice, conc_slice, Option.map_none, hrun, run_sizeOf' hn, Sem.run_pure, renA, Option.map_some,
            Addr.add_lit, if_neg hne, he]
    · cases h
  · rename_i n e b off hu
    split at h
    case h_2 => cases h
    rename_i l u s hb hn
    cases ho : ownB H b with
    | false => rw [ho, cond_false] at h; cases h
    | true =>
      rw [ho, cond_true] at h
      simp only [Option.some.injEq] at h
      subst h
      have h0 := ownB_zero hR ho
      obtain ⟨hrun, hlu⟩ := run_bounds (P := P) (w := w) σ (isS := false) hb 0
      rw [Nat.add_zero] at hrun
      refine ⟨?_, by cases Nat.beq n l <;> simpa [vlt] using hv⟩
      simp only [Instr.sliceAt, Sem.run_bind, run_underlying hu, Result.andThen_ok, conc_ptr, Instr.sureAddr, Sem.run_pure, Option.map_none, hrun, run_sizeOf' hn, renA, Addr.add_lit]
      by_cases hc : n = l
      · subst hc
        simp [nbeq_self, h0, renA]
      · simp [nbeq hc, hc, h0, renA]
  · cases h

/-- A slice expression at the end of what is known (there may be room behind, or none: its address is one of two); or of a slice that has room for just so much. -/
def aSliceMore (P : Program) (t : TypeId) (v : Value) (lo hi mx : Option Value) (H : AHeap) : Option (List Value) :=
  match mx, P.underlying t, v with
  | none, some (.slice e), .slice (some ⟨b, off, none⟩) len cap =>
    match aBounds len cap lo hi, szO P e with
    | some (l, h), some n => bif Nat.beq l cap && !ownB H b then some [.slice (some ⟨b, off, some 0⟩) 0 0, .slice (some ⟨b, off + l * n, none⟩) (h - l) (cap - l)] else none
    | _, _ => none
  | none, some (.slice e), .slice (some ⟨b, off, some s⟩) len cap =>
    match aBounds len cap lo hi, szO P e with
    | some (l, h), some n => some [.slice (some ⟨b, bif Nat.beq cap l then off else off + l * n, some s⟩) (h - l) (cap - l)]
    | _, _ => none
  | _, _, _ => none

theorem aSliceMore_ok {t : TypeId} {v : Value} {l : List Value} {lo hi mx : Option Value} (h : aSliceMore P t v lo hi mx H = some l) (hv : vlt H.next v = true) :
    ∃ r ∈ l, OkR P ((Instr.sliceAt t (conc σ v) (lo.map (conc σ)) (hi.map (conc σ)) (mx.map (conc σ))).run P w) σ H.next w r := by
  unfold aSliceMore at h
  split at h
  · rename_i e b off len cap hu
    split at h
    case h_2 => cases h
    rename_i l u n hb hn
    obtain ⟨hrun, hlu⟩ := run_bounds (P := P) (w := w) σ (isS := true) hb (σ.κ b)
    cases hc : (Nat.beq l cap && !ownB H b) with
    | false => rw [hc, cond_false] at h; cases h
    | true =>
      rw [hc, cond_true] at h
      simp only [Bool.and_eq_true] at hc
      have hl := Nat.eq_of_beq_eq_true hc.1
      subst hl
      simp only [Option.some.injEq] at h
      subst h
      have hul : u = l := by omega
      subst hul
      by_cases hk : σ.κ b = 0
      · refine ⟨_, List.mem_cons_self .., ?_, by simpa [vlt] using hv⟩
        rw [hk, Nat.add_zero] at hrun
        simp only [Instr.sliceAt, Sem.run_bind, run_underlying hu, Result.andThen_ok, Instr.slice, conc_slice, conc_sliceM, Option.map_none, hk, hrun, run_sizeOf' hn, Sem.run_pure, renA, Nat.add_zero, if_true,
          Nat.sub_self]
      · refine ⟨_, List.mem_cons_of_mem _ (List.mem_cons_self ..), ?_, by simpa [vlt] using hv⟩
        have hne : ¬ (u + σ.κ b = u) := by omega
        have he : u + σ.κ b - u = u - u + σ.κ b := by omega
        simp only [Instr.sliceAt, Sem.run_bind, run_underlying hu, Result.andThen_ok, Instr.slice, conc_slice, Option.map_none, hrun, run_sizeOf' hn, Sem.run_pure, renA, Option.map_some, Addr.add_lit, if_neg hne, he]
  · rename_i e b off s len cap hu
    split at h
    case h_2 => cases h
    rename_i l u n hb hn
    obtain ⟨hrun, hlu⟩ := run_bounds (P := P) (w := w) σ (isS := true) hb 0
    rw [Nat.add_zero] at hrun
    simp only [Option.some.injEq] at h
    subst h
    refine ⟨_, List.mem_cons_self .., ?_, by simpa [vlt] using hv⟩
    simp only [Instr.sliceAt, Sem.run_bind, run_underlying hu, Result.andThen_ok, Instr.slice, conc_sliceM, Option.map_none, hrun, run_sizeOf' hn, Sem.run_pure, Option.map_some, Addr.add_lit]
    by_cases hcl : cap = l
    · subst hcl; simp [nbeq_self]
    · simp [nbeq hcl, hcl]
  · cases h

end
end Go.Abs
