/- What the library's strings.Repeat and strings.Join answer, as hooks. -/
import Derived.Test.YtgapaaloalfmfaaGreatDoorEngMemo
import Derived.Test.YtgapaaloalfmfaaGreatDoorSeatKnown
import Derived.Test.YtgapaaloalfmfaaGreatDoorSeatShelf
set_option linter.unusedVariables false
set_option linter.unusedSimpArgs false
set_option linter.unusedSectionVars false
namespace Go.Proofs.YtgapaaloalfmfaaGreatDoor
open Go Go.Abs Go.RowKit
set_option maxRecDepth 100000

def repHook : CallF := fun f args H =>
  bif Nat.beq f 158 then
    match args with
    | [.string s, .int .i64 (.ofNat n)] =>
      bif Nat.ble n 9223372036854775807 && Nat.ble (s.data.toList.length * n) 140737488355328 then some [(.string ⟨(Lib.repeatL s.data.toList n).toArray⟩, H)] else none
    | _ => none
  else none

theorem repHook_ok : CallsOk Tryz.prog 15 repHook := by
  intro f args H l h σ w hR hargs
  unfold repHook at h
  cases hf : Nat.beq f 158 with
  | false => rw [hf, cond_false] at h; cases h
  | true =>
    rw [hf, cond_true] at h
    obtain rfl := Nat.eq_of_beq_eq_true hf
    split at h
    case h_2 => cases h
    rename_i s n
    cases hc : (Nat.ble n 9223372036854775807 && Nat.ble (s.data.toList.length * n) 140737488355328) with
    | false => rw [hc, cond_false] at h; cases h
    | true =>
      rw [hc, cond_true] at h
      simp only [Option.some.injEq] at h; subst h
      simp only [Bool.and_eq_true, Nat.ble_eq] at hc
      refine ⟨⟨_, Tryz.func158, by kernel_rfl⟩, ?_⟩
      refine (Tryz.strings_Repeat s n w hc.1 (by have : s.size = s.data.toList.length := by simp
                                                 rw [this]; exact hc.2)).mono ?_
      rintro e w' ⟨rfl, hB⟩
      exact ⟨_, H, σ, List.mem_singleton.2 rfl, rfl, hR.below hB, .below hR hB, rfl⟩

/-- Strings, out of cells. -/
def strsOf : List Value → Option (List ByteArray)
  | [] => some []
  | .string s :: r => match strsOf r with | some l => some (s :: l) | none => none
  | _ :: _ => none
theorem strsOf_some : ∀ {l : List Value} {xs : List ByteArray}, strsOf l = some xs → l = xs.map .string
  | [], xs, h => by simp only [strsOf, Option.some.injEq] at h; subst h; rfl
  | v :: r, xs, h => by
      unfold strsOf at h
      split at h
      · rename_i heq; cases heq
      · rename_i s r' heq
        cases heq
        split at h
        case h_2 => cases h
        rename_i l hl
        simp only [Option.some.injEq] at h; subst h
        rw [strsOf_some hl]; rfl
      · cases h

def joinHook : CallF := fun f args H =>
  bif Nat.beq f 28 then
    match args with
    | [.slice none 0 _, .string _] => some [(.string ⟨#[]⟩, H)]
    | [.slice (some ⟨b, off, _⟩) len cap, .string sep] =>
      match H.get b with
      | some (.cells c _ _) =>
        match strsOf ((c.drop off).take len) with
        | some xs =>
          bif Nat.beq xs.length len && Nat.ble len cap && Nat.ble len 140737488355328 && Nat.ble (Lib.join (xs.map (·.data.toList)) sep.data.toList).length 140737488355328 then
            some [(.string ⟨(Lib.join (xs.map (·.data.toList)) sep.data.toList).toArray⟩, H)] else none
        | none => none
      | _ => none
    | _ => none
  else none

theorem joinHook_ok : CallsOk Tryz.prog 15 joinHook := by
  intro f args H l h σ w hR hargs
  unfold joinHook at h
  cases hf : Nat.beq f 28 with
  | false => rw [hf, cond_false] at h; cases h
  | true =>
    rw [hf, cond_true] at h
    obtain rfl := Nat.eq_of_beq_eq_true hf
    split at h
    · rename_i c sep
      simp only [Option.some.injEq] at h; subst h
      refine ⟨⟨_, Tryz.func28, by kernel_rfl⟩, ?_⟩
      refine (Tryz.strings_Join_none none c sep w).mono ?_
      rintro e w' ⟨rfl, rfl⟩
      exact ⟨_, H, σ, List.mem_singleton.2 rfl, rfl, hR, .refl _ _ _ hR.lt, rfl⟩
    · rename_i b off sp len cap sep
      split at h
      case h_2 => cases h
      rename_i c e m hb
      split at h
      case h_2 => cases h
      rename_i xs hxs
      cases hc : (Nat.beq xs.length len && Nat.ble len cap && Nat.ble len 140737488355328 && Nat.ble (Lib.join (xs.map (·.data.toList)) sep.data.toList).length 140737488355328) with
      | false => rw [hc, cond_false] at h; cases h
      | true =>
        rw [hc, cond_true] at h
        simp only [Option.some.injEq] at h; subst h
        simp only [Bool.and_eq_true, Nat.ble_eq] at hc
        obtain ⟨⟨⟨h1, h2⟩, h3⟩, h4⟩ := hc
        obtain rfl := Nat.eq_of_beq_eq_true h1
        have hx := strsOf_some hxs
        refine ⟨⟨_, Tryz.func28, by kernel_rfl⟩, ?_⟩
        have hcell : ∀ (j : Nat) x, xs[j]? = some x → w.cell? ⟨σ.ρ b, off + j, none⟩ = some (.string x) := by
          intro j x hj
          have hl : c[off + j]? = some (.string x) := by
            have h5 : ((c.drop off).take xs.length)[j]? = some (.string x) := by rw [hx]; simp [hj]
            rw [List.getElem?_take] at h5
            split at h5
            · rwa [List.getElem?_drop] at h5
            · cases h5
          have := hR.cell hb hl
          simpa [renA] using this
        have hbk : σ.ρ b < w.heap.size := by
          obtain ⟨co, h6, _⟩ := hR.has b _ hb
          exact (Array.getElem?_eq_some_iff.1 h6).1
        have hk := Tryz.strings_Join (σ.ρ b) off (cap + exK σ ⟨b, off, sp⟩) xs sep w hcell hbk h3 (by omega) h4
        refine Calls.mono hk ?_
        rintro e w' ⟨rfl, hB⟩
        exact ⟨_, H, σ, List.mem_singleton.2 rfl, rfl, hR.below hB, .below hR hB, rfl⟩
    · cases h

def hook0 : CallF := orHook repHook joinHook
theorem hook0_ok : CallsOk Tryz.prog 15 hook0 := orHook_ok repHook_ok joinHook_ok

end Go.Proofs.YtgapaaloalfmfaaGreatDoor
