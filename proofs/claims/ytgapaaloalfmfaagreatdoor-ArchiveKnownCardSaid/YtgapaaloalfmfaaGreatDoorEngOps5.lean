/- Operations: the rest of those that turn nothing; new blocks; stores. -/
import Derived.Test.YtgapaaloalfmfaaGreatDoorEngOps4
import Derived.Laws.BytesString
import Derived.Laws.BytesArg
set_option linter.unusedVariables false
set_option linter.unusedSimpArgs false
set_option linter.unusedSectionVars false
namespace Go.Abs

def aUn (op : UnOp) (x : Value) : Option Value :=
  match op, x with
  | .neg, .int k n => some (.int k (k.wrap (0 - n)))
  | .xor, .int k n => some (.int k (bits .xor k (if k.signed then -1 else k.max) n))
  | .not, .bool b => some (.bool !b)
  | _, _ => none

/-- Conversions that make no memory. -/
def aBytes : List Value → Option (List UInt8)
  | [] => some []
  | .int .u8 n :: r => match aBytes r with | some l => some (UInt8.ofNat n.toNat :: l) | none => none
  | _ => none

def aConvert (P : Program) (src dst : TypeId) (x : Value) (H : AHeap) : Option Value :=
  match P.underlying src, P.underlying dst, x with
  | some _, some (.int k), .int _ n => some (.int k (k.wrap n))
  | some .string, some .string, .string s => some (.string s)
  | some (.slice e), some .string, .slice none _ _ =>
    match P.underlying e with
    | some (.int .u8) => some (.string ⟨#[]⟩)
    | _ => none
  | some (.slice e), some .string, .slice (some ⟨b, off, _⟩) len _ =>
    match P.underlying e with
    | some (.int .u8) =>
      match H.get b with
      | some (.cells c _ _) =>
        let l := (c.drop off).take len
        bif Nat.beq l.length len then (match aBytes l with | some bs => some (.string ⟨⟨bs⟩⟩) | none => none) else none
      | _ => none
    | _ => none
  | _, _, _ => none

def aNilCheck (v : Value) : Option Value :=
  match v with
  | .pointer (some a) => some (.pointer (some a))
  | .func (.func f) first cap => some (.func (.func f) first cap)
  | _ => none

def aLen (P : Program) (t : TypeId) (v : Value) (H : AHeap) : Option Value :=
  match P.underlying t, v with
  | some .string, .string s => some (.int .i64 s.data.toList.length)
  | some (.array n _), _ => some (.int .i64 n)
  | some (.slice _), .slice _ n _ => some (.int .i64 n)
  | some (.map _ _), .map none => some (.int .i64 0)
  | some (.map _ _), .map (some r) =>
    match H.get r with
    | some (.map es _) => some (.int .i64 es.length)
    | _ => none
  | some (.pointer arr), _ =>
    match P.underlying arr with
    | some (.array n _) => some (.int .i64 n)
    | _ => none
  | _, _ => none

def foldMM (f : Int → Int → Bool) (k : IntKind) : List Value → Int → Option Value
  | [], x => some (.int k x)
  | .int k' y :: r, x => if k' = k then foldMM f k r (if f y x then y else x) else none
  | _, _ => none
def aMin : List Value → Option Value
  | .int k x :: r => foldMM (fun y x => decide (y < x)) k r x
  | _ => none
def aMax : List Value → Option Value
  | .int k x :: r => foldMM (fun y x => decide (y > x)) k r x
  | _ => none

section
variable {P : Program} {G : Nat} {σ : Ren} {H : AHeap} {w : World}

theorem aUn_ok {n : Nat} {op : UnOp} {x r : Value} (h : aUn op x = some r) : OkR P ((Op.unary op (conc σ x)).run P w) σ n w r := by
  unfold aUn at h
  split at h
  · simp only [Option.some.injEq] at h; subst h; refine ⟨?_, rfl⟩; simp [Op.unary, Op.intArith]
  · simp only [Option.some.injEq] at h; subst h; refine ⟨?_, rfl⟩; simp [Op.unary, intBits_xor]
  · simp only [Option.some.injEq] at h; subst h; refine ⟨?_, rfl⟩; simp [Op.unary]
  · cases h

theorem aBytes_some : ∀ {l : List Value} {bs : List UInt8}, aBytes l = some bs → ∃ ns : List Int, l = ns.map (Value.int .u8) ∧ bs = ns.map fun n => UInt8.ofNat n.toNat
  | [], bs, h => by
      simp only [aBytes, Option.some.injEq] at h; subst h
      exact ⟨[], rfl, rfl⟩
  | v :: r, bs, h => by
      unfold aBytes at h
      split at h
      · rename_i h1; cases h1
      · rename_i n r' h1
        cases h1
        split at h
        case h_2 => cases h
        rename_i l hl
        simp only [Option.some.injEq] at h; subst h
        obtain ⟨ns, rfl, rfl⟩ := aBytes_some hl
        exact ⟨n :: ns, rfl, rfl⟩
      · cases h

theorem aConvert_ok (hR : R P G σ H w) {src dst : TypeId} {x r : Value} (h : aConvert P src dst x H = some r) : OkR P ((convert src dst (conc σ x)).run P w) σ H.next w r := by
  unfold aConvert at h
  split at h
  · rename_i d k k' n hs hd
    simp only [Option.some.injEq] at h; subst h; refine ⟨?_, rfl⟩
    simp [convert, run_underlying hs, run_underlying hd, Conv.intToInt]
  · rename_i s hs hd
    simp only [Option.some.injEq] at h; subst h; refine ⟨?_, rfl⟩
    simp [convert, run_underlying hs, run_underlying hd]
  · rename_i e l c hs hd
    split at h
    case h_2 => cases h
    rename_i he
    simp only [Option.some.injEq] at h; subst h; refine ⟨?_, rfl⟩
    simp [convert, run_underlying hs, run_underlying hd, run_underlying he, Conv.bytesToString]
    rfl
  · rename_i e b off sp len cap hs hd
    split at h
    case h_2 => cases h
    rename_i he
    split at h
    case h_2 => cases h
    rename_i c e' m hb
    simp only [] at h
    cases hl : Nat.beq ((c.drop off).take len).length len with
    | false => rw [hl, cond_false] at h; cases h
    | true =>
      rw [hl, cond_true] at h
      have hl' : ((c.drop off).take len).length = len := Nat.eq_of_beq_eq_true hl
      split at h
      case h_2 => cases h
      rename_i bs hbs
      simp only [Option.some.injEq] at h; subst h; refine ⟨?_, rfl⟩
      have hload := run_loadCells_list (P := P) w ⟨σ.ρ b, off, none⟩ (((c.drop off).take len).map (conc σ)) (fun j v hj => by
          rw [Addr.add_lit]
          rw [List.getElem?_map] at hj
          obtain ⟨u, hu, rfl⟩ := Option.map_eq_some_iff.1 hj
          refine hR.cell hb ?_
          rw [List.getElem?_take] at hu
          split at hu
          · rwa [List.getElem?_drop] at hu
          · cases hu)
      obtain ⟨ns, hns, rfl⟩ := aBytes_some hbs
      have hcm : (ns.map (Value.int .u8)).map (conc σ) = ns.map (Value.int .u8) := by simp
      rw [List.length_map, hl', hns, hcm] at hload
      rw [conc_sliceX, run_convert_bytes_string w src dst e _ _ _ hs he hd, run_bytesToString w _ _ _ ns hload, foldl_push_bytes, conc_string]
      have hx : (ByteArray.empty.data ++ (ns.map fun n => UInt8.ofNat n.toNat).toArray) = ⟨ns.map fun n => UInt8.ofNat n.toNat⟩ := by
        apply Array.ext'
        simp
      rw [hx]
  · cases h

theorem aNilCheck_ok {n : Nat} {v r : Value} (h : aNilCheck v = some r) (hv : vlt n v = true) (o : Oper) {x : Operand} (ho : o.op = .nilCheck x) {ρ : Operand → Value} (hx : ρ x = conc σ v) :
    (execOp ρ o).run P w = .ok (.value (conc σ r)) w ∧ vlt n r = true := by
  unfold aNilCheck at h
  split at h
  · simp only [Option.some.injEq] at h; subst h
    exact ⟨by simp [execOp, ho, hx], hv⟩
  · simp only [Option.some.injEq] at h; subst h
    refine ⟨?_, hv⟩
    simp only [execOp, ho, hx, conc, concFn, Sem.run_pure]
  · cases h

theorem aLen_ok (hR : R P G σ H w) {t ty : TypeId} {v r : Value} (h : aLen P t v H = some r) : OkR P ((Builtin.len_ #[t] ty #[conc σ v]).run P w) σ H.next w r := by
  unfold aLen at h
  split at h
  · rename_i s hu
    simp only [Option.some.injEq] at h; subst h; refine ⟨?_, rfl⟩
    simp [Builtin.len_, run_underlying hu, goInt]
  · rename_i n hu
    simp only [Option.some.injEq] at h; subst h; refine ⟨?_, rfl⟩
    simp [Builtin.len_, run_underlying hu, goInt]
  · rename_i a n c hu
    simp only [Option.some.injEq] at h; subst h; refine ⟨?_, rfl⟩
    cases a <;> simp [Builtin.len_, run_underlying hu, goInt]
  · rename_i hu
    simp only [Option.some.injEq] at h; subst h; refine ⟨?_, rfl⟩
    simp [Builtin.len_, run_underlying hu, goInt]
  · rename_i k e r' hu
    split at h
    case h_2 => cases h
    rename_i es clock hb
    simp only [Option.some.injEq] at h; subst h; refine ⟨?_, rfl⟩
    obtain ⟨co, h1, h2⟩ := hR.has _ _ hb
    simp only [rel] at h2
    subst h2
    simp [Builtin.len_, run_underlying hu, goInt, getObj, Sem.run, h1]
  · rename_i arr hu
    split at h
    case h_2 => cases h
    rename_i n ha
    simp only [Option.some.injEq] at h; subst h; refine ⟨?_, rfl⟩
    simp [Builtin.len_, run_underlying hu, run_underlying ha, goInt]
  · cases h

theorem foldMin_ok {n : Nat} : ∀ {l : List Value} {k : IntKind} {x : Int} {r : Value}, foldMM (fun y x => decide (y < x)) k l x = some r →
    OkR P (((l.map (conc σ)).foldlM Builtin.min2 (.int k x)).run P w) σ n w r
  | [], k, x, r, h => by simp only [foldMM, Option.some.injEq] at h; subst h; exact ⟨rfl, rfl⟩
  | v :: l, k, x, r, h => by
      unfold foldMM at h
      split at h
      · rename_i h1; cases h1
      · rename_i k' y r' h1
        cases h1
        by_cases hk : k' = k
        · rw [if_pos hk] at h
          have := foldMin_ok (n := n) h
          simp only [List.map_cons, conc_int, List.foldlM_cons, Builtin.min2, pure_bind]
          simpa using this
        · rw [if_neg hk] at h; cases h
      · cases h
theorem foldMax_ok {n : Nat} : ∀ {l : List Value} {k : IntKind} {x : Int} {r : Value}, foldMM (fun y x => decide (y > x)) k l x = some r →
    OkR P (((l.map (conc σ)).foldlM Builtin.max2 (.int k x)).run P w) σ n w r
  | [], k, x, r, h => by simp only [foldMM, Option.some.injEq] at h; subst h; exact ⟨rfl, rfl⟩
  | v :: l, k, x, r, h => by
      unfold foldMM at h
      split at h
      · rename_i h1; cases h1
      · rename_i k' y r' h1
        cases h1
        by_cases hk : k' = k
        · rw [if_pos hk] at h
          have := foldMax_ok (n := n) h
          simp only [List.map_cons, conc_int, List.foldlM_cons, Builtin.max2, pure_bind]
          simpa using this
        · rw [if_neg hk] at h; cases h
      · cases h
theorem aMin_ok {n : Nat} {l : List Value} {r : Value} (ts : Array TypeId) (ty : TypeId) (h : aMin l = some r) : OkR P ((Builtin.min_ ts ty ⟨l.map (conc σ)⟩).run P w) σ n w r := by
  unfold aMin at h
  split at h
  · exact foldMin_ok h
  · cases h
theorem aMax_ok {n : Nat} {l : List Value} {r : Value} (ts : Array TypeId) (ty : TypeId) (h : aMax l = some r) : OkR P ((Builtin.max_ ts ty ⟨l.map (conc σ)⟩).run P w) σ n w r := by
  unfold aMax at h
  split at h
  · exact foldMax_ok h
  · cases h

end
end Go.Abs
