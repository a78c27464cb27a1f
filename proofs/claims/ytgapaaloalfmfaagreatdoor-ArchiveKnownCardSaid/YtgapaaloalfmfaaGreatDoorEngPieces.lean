/- A body, statement by statement: so the kernel may take it in parts. -/
import Derived.Test.YtgapaaloalfmfaaGreatDoorEngShift
set_option linter.unusedVariables false
set_option linter.unusedSimpArgs false
set_option linter.unusedSectionVars false
namespace Go.Abs

section
variable {P : Program} (K : Known P) (hook : CallF) (tidy : Tidy)

/-- The first j statements of a row of statements, where each has one outcome. -/
def runFirst : Nat → Nat → Code → St → Option (Nat × Code × St)
  | 0, n, c, s => some (n, c, s)
  | j + 1, n + 1, .seq a b, s =>
    match runCode K hook tidy n a s with
    | some [(.normal, s')] => runFirst j n b s'
    | _ => none
  | _, _, _, _ => none

theorem runFirst_ok : ∀ {j n : Nat} {c : Code} {s : St} {n' : Nat} {c' : Code} {s' : St}, runFirst K hook tidy j n c s = some (n', c', s') → runCode K hook tidy n c s = runCode K hook tidy n' c' s'
  | 0, n, c, s, n', c', s', h => by
      simp only [runFirst, Option.some.injEq, Prod.mk.injEq] at h
      obtain ⟨rfl, rfl, rfl⟩ := h
      rfl
  | j + 1, 0, c, s, n', c', s', h => by simp [runFirst] at h
  | j + 1, n + 1, c, s, n', c', s', h => by
      cases c with
      | seq a b =>
        simp only [runFirst] at h
        split at h
        case h_2 => cases h
        rename_i s1 h1
        have ih := runFirst_ok h
        rw [← ih]
        simp only [runCode, h1, bindAll, passN]
        cases runCode K hook tidy n b s1 with
        | none => rfl
        | some l => simp
      | _ => simp [runFirst] at h

/-- Does what is left of the statements, and the state, be these? -/
def dropSeq : Nat → Code → Code
  | 0, c => c
  | j + 1, .seq _ b => dropSeq j b
  | _ + 1, c => c
theorem runFirst_code : ∀ {j n : Nat} {c : Code} {s : St} {n' : Nat} {c' : Code} {s' : St}, runFirst K hook tidy j n c s = some (n', c', s') → n' + j = n ∧ c' = dropSeq j c
  | 0, n, c, s, n', c', s', h => by
      simp only [runFirst, Option.some.injEq, Prod.mk.injEq] at h
      obtain ⟨rfl, rfl, rfl⟩ := h
      exact ⟨rfl, rfl⟩
  | j + 1, 0, c, s, n', c', s', h => by simp [runFirst] at h
  | j + 1, n + 1, c, s, n', c', s', h => by
      cases c with
      | seq a b =>
        simp only [runFirst] at h
        split at h
        case h_2 => cases h
        obtain ⟨h1, h2⟩ := runFirst_code h
        exact ⟨by omega, h2⟩
      | _ => simp [runFirst] at h

def checkPiece (j n : Nat) (c : Code) (s s' : St) : Bool :=
  match runFirst K hook tidy j n c s with
  | some (_, _, x) => sameSt x s'
  | none => false
theorem piece_ok {j n : Nat} {c : Code} {s s' : St} (h : checkPiece K hook tidy j n c s s' = true) (hj : j ≤ n) : runCode K hook tidy n c s = runCode K hook tidy (n - j) (dropSeq j c) s' := by
  unfold checkPiece at h
  split at h
  case h_2 => cases h
  rename_i n' c' x hx
  obtain ⟨h1, h2⟩ := runFirst_code K hook tidy hx
  have := runFirst_ok K hook tidy hx
  rw [this, sameSt_eq h, h2]
  have : n' = n - j := by omega
  rw [this]

theorem dropSeq_add : ∀ (i j : Nat) (c : Code), dropSeq j (dropSeq i c) = dropSeq (i + j) c
  | 0, j, c => by simp [dropSeq]
  | i + 1, j, .seq a b => by
      have : i + 1 + j = (i + j) + 1 := by omega
      rw [this]; exact dropSeq_add i j b
  | i + 1, j, c => by
      have key : ∀ (c : Code), (∀ a b, c ≠ .seq a b) → ∀ k, dropSeq k c = c := by
        intro c hc k
        cases k with
        | zero => rfl
        | succ k => cases c <;> first | rfl | exact absurd rfl (hc _ _)
      cases c with
      | seq a b =>
        have : i + 1 + j = (i + j) + 1 := by omega
        rw [this]; exact dropSeq_add i j b
      | _ => rw [key _ (by intro a b h; cases h), key _ (by intro a b h; cases h), key _ (by intro a b h; cases h)]

/-- What a call does, out of what its body does. -/
theorem runCall_body {f : FuncId} {fn : Func} {c : Code} {args : List Value} {H : AHeap} {n : Nat} {s0 : St} {l : List XS} {l' : List Out} (hh : hook f args H = none) (hf : P.funcs[f]? = some fn) (hb : fn.body = some c)
    (h0 : (Tms.new (Nat.max fn.ntmps args.length)).args 0 args = s0.1) (hH : H = s0.2) (hr : runCode K hook tidy n c s0 = some l) (hl : bindAll l (finish P fn) = some l') : runCall K hook tidy (n + 1) f args H = some (tidy f H.next l') := by
  obtain ⟨t0, H'⟩ := s0
  simp only at h0 hH
  subst h0 hH
  simp only [runCall, hh, hf, hb, Tms.argsK_eq, hr, hl]

def checkEnd (fn : Func) (n : Nat) (c : Code) (s : St) (v : Value) : Bool :=
  match runCode K hook tidy n c s with
  | some l => (match bindAll l (finish P fn) with | some l' => allOuts v l' | none => false)
  | none => false
theorem checkEnd_ok {fn : Func} {n : Nat} {c : Code} {s : St} {v : Value} (h : checkEnd K hook tidy fn n c s v = true) :
    ∃ l l', runCode K hook tidy n c s = some l ∧ bindAll l (finish P fn) = some l' ∧ allOuts v l' = true := by
  unfold checkEnd at h
  split at h
  case h_2 => cases h
  rename_i l hl
  split at h
  case h_2 => cases h
  rename_i l' hl'
  exact ⟨l, l', hl, hl', h⟩
end
end Go.Abs
