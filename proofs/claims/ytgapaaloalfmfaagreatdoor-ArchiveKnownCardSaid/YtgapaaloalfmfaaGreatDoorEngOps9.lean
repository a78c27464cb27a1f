/- Strings as bytes, copy; maps. -/
import Derived.Test.YtgapaaloalfmfaaGreatDoorEngOps8
set_option linter.unusedVariables false
set_option linter.unusedSimpArgs false
set_option linter.unusedSectionVars false
namespace Go.Abs

def aStrBytes (P : Program) (src dst : TypeId) (x : Value) (H : AHeap) : Option (Value × AHeap) :=
  match P.underlying src, P.underlying dst, x with
  | some .string, some (.slice e), .string s =>
    match P.underlying e, szO P e with
    | some (.int .u8), some 1 =>
      some (.slice (some ⟨H.next, 0, none⟩) s.data.toList.length s.data.toList.length, H.alloc (.cells (bytesV s.data.toList) e .opn))
    | _, _ => none
  | _, _, _ => none

def aCopy (P : Program) (t : TypeId) (dst src : Value) (H : AHeap) : Option (Value × AHeap) :=
  match P.underlying t with
  | some (.slice e) =>
    match szO P e, aLenOf src with
    | some n, some m =>
      match dst with
      | .slice (some ⟨b, off, none⟩) len _ =>
        match aFirst n (Nat.min m len) src H, H.get b with
        | some news, some (.cells c e' md) =>
          bif Nat.ble (off + news.length) c.length && allOne news && md.wr then
            some (.int .i64 (Nat.min m len : Nat), H.set b (.cells (setL c off news) e' md))
          else none
        | _, _ => none
      | _ => none
    | _, _ => none
  | _ => none

/-! ### clear, at a slice -/
def aClear (P : Program) (t : TypeId) (x : Value) (H : AHeap) : Option AHeap :=
  match P.underlying t, x with
  | some (.slice _), .slice none _ _ => some H
  | some (.slice _), .slice (some _) 0 _ => some H
  | some (.slice e), .slice (some ⟨b, off, none⟩) (n + 1) _ =>
    match zeroO P e, H.get b with
    | some z, some (.cells c e' md) =>
      bif Nat.ble (off + (repL z (n + 1)).length) c.length && allOne (repL z (n + 1)) && md.wr then some (H.set b (.cells (setL c off (repL z (n + 1))) e' md)) else none
    | _, _ => none
  | _, _ => none

/-! ### maps -/
def keyEq : TypeDesc → Value → Value → Option Bool
  | .int _, .int k a, .int k' b => if k = k' then some (a == b) else none
  | .string, .string a, .string b => some (bytesEq a.data.toList b.data.toList)
  | .bool, .bool a, .bool b => some (a == b)
  | _, _, _ => none
def findA (d : TypeDesc) (k : Value) : List MapEntry → Nat → Option (Option (Nat × Value))
  | [], _ => some none
  | e :: es, i =>
    match keyEq d k e.key with
    | some true => some (some (i, e.val))
    | some false => findA d k es (i + 1)
    | none => none
def plainKey : TypeDesc → Bool
  | .int _ => true
  | .string => true
  | .bool => true
  | _ => false

def zeroV (P : Program) (t : TypeId) : Option Value :=
  match P.info? t with
  | some i =>
    match i.zero with
    | some z => bif vlt 0 z then some z else none
    | none => none
  | none => none

def mapOf (m : Value) (H : AHeap) : Option (List MapEntry × Nat) :=
  match m with
  | .map none => some ([], 0)
  | .map (some r) => match H.get r with | some (.map es c) => some (es, c) | _ => none
  | _ => none

def aLookup (P : Program) (t : TypeId) (m k : Value) (ok : Bool) (H : AHeap) : Option Value :=
  match P.underlying t with
  | some (.map kt et) =>
    match P.underlying kt, mapOf m H with
    | some d, some (es, _) =>
      bif plainKey d then
        match findA d k es 0 with
        | some (some (_, v)) => some (if ok then .tuple ⟨[v, .bool true]⟩ else v)
        | some none =>
          match zeroV P et with
          | some z => some (if ok then .tuple ⟨[z, .bool false]⟩ else z)
          | none => none
        | none => none
      else none
    | _, _ => none
  | _ => none

def aMapUpdate (P : Program) (t : TypeId) (m k x : Value) (H : AHeap) : Option AHeap :=
  match P.underlying t, m with
  | some (.map kt _), .map (some r) =>
    match P.underlying kt, H.get r with
    | some d, some (.map es clock) =>
      bif plainKey d then
        match findA d k es 0 with
        | some (some (i, _)) => some (H.set r (.map (es.modify i fun e => { e with key := k, val := x }) clock))
        | some none => some (H.set r (.map (es ++ [⟨k, x, clock⟩]) (clock + 1)))
        | none => none
      else none
    | _, _ => none
  | _, _ => none

def bornAt (es : List MapEntry) (i : Nat) : Nat := match es[i]? with | some e => e.born | none => 0

def aMapEntry (P : Program) (t : TypeId) (m k : Value) (H : AHeap) : Option (Value × AHeap) :=
  match P.underlying t, m with
  | some (.map kt et), .map (some r) =>
    match P.underlying kt, H.get r with
    | some d, some (.map es clock) =>
      bif plainKey d then
        match findA d k es 0 with
        | some (some (i, v)) => some (.tuple ⟨[v, .int .i64 (bornAt es i : Nat)]⟩, H.set r (.map (es.modify i fun e => { e with key := k }) clock))
        | some none =>
          match zeroV P et with
          | some z => some (.tuple ⟨[z, .int .i64 (clock : Nat)]⟩, H.set r (.map (es ++ [⟨k, z, clock⟩]) (clock + 1)))
          | none => none
        | none => none
      else none
    | _, _ => none
  | _, _ => none

def findBorn (n : Int) : List MapEntry → Nat → Option Nat
  | [], _ => none
  | e :: es, i => if (e.born : Int) == n then some i else findBorn n es (i + 1)

def aEntryStore (m s x : Value) (H : AHeap) : Option AHeap :=
  match m, s with
  | .map (some r), .int _ n =>
    match H.get r with
    | some (.map es clock) =>
      match findBorn n es 0 with
      | some i => some (H.set r (.map (es.modify i fun e => { e with val := x }) clock))
      | none => none
    | _ => none
  | _, _ => none

def aDelete (P : Program) (t : TypeId) (m k : Value) (H : AHeap) : Option AHeap :=
  match P.underlying t, m with
  | some (.map kt _), .map (some r) =>
    match P.underlying kt, H.get r with
    | some d, some (.map es clock) =>
      bif plainKey d then
        match findA d k es 0 with
        | some (some (i, _)) => some (H.set r (.map (es.eraseIdx i) clock))
        | some none => some (H.set r (.map es clock))
        | none => none
      else none
    | _, _ => none
  | _, _ => none

section
variable {P : Program} {G : Nat} {σ : Ren} {H : AHeap} {w : World}

theorem freeze_new (w : World) (c : Array Value) (e : TypeId) (n : Nat) : (w.alloc (.cells c e)).freeze ⟨w.heap.size, n, none⟩ 1 = w.alloc (.cells c e (n, n + 1)) := by
  simp only [World.freeze, World.alloc, Nat.succ_ne_zero, if_false]
  congr 1
  apply Array.ext_getElem?
  intro i
  simp only [Array.getElem?_modify, Array.getElem?_push]
  by_cases h : w.heap.size = i
  · subst h; simp
  · have h' : ¬ i = w.heap.size := fun e => h e.symm
    simp [h, h']

theorem shape_new (w : World) (c : Array Value) (e : TypeId) : (w.alloc (.cells c e)).shape? w.heap.size = some (e, c.size) := by
  unfold World.shape? World.alloc
  simp only [Array.getElem?_push_size]

theorem aStrBytes_ok (hR : R P G σ H w) {src dst : TypeId} {x v : Value} {H' : AHeap} (h : aStrBytes P src dst x H = some (v, H')) :
    OkH P G ((convert src dst (conc σ x)).run P w) σ H w v H' := by
  unfold aStrBytes at h
  split at h
  case h_2 => cases h
  rename_i e s hs hd
  split at h
  case h_2 => cases h
  rename_i he hn
  simp only [Option.some.injEq, Prod.mk.injEq] at h
  obtain ⟨rfl, rfl⟩ := h
  have hq : (Question.appendCap s.size 0 e).forced = false := rfl
  have hnc : ∀ tt, (Question.appendCap s.size 0 e).cut tt = s.size + tt % (2 ^ 63 - s.size) := fun _ => rfl
  have hsz : s.data.toList.length = s.size := by simp
  generalize hk : w.tape w.drawn (.appendCap s.size 0 e) % (2 ^ 63 - s.size) = k
  have hrun : (convert src dst (.string s)).run P w = .ok (.slice (some ⟨w.heap.size, 0, none⟩) s.size (s.size + k))
      (w.drew.alloc (.cells ((s.data.map fun b => Value.int .u8 (b.toNat : Int)) ++ Array.replicate k (.int .u8 0)) e (s.size + k, s.size + k + 1))) := by
    have hfz := freeze_new w.drew ((s.data.map fun b => Value.int .u8 (b.toNat : Int)) ++ Array.replicate k (.int .u8 0)) e (s.size + k)
    simp only [World.size_drew] at hfz
    simp only [convert, Sem.run_bind, run_underlying hs, run_underlying hd, run_underlying he, Result.andThen_ok, Conv.stringToBytes, run_choose, hq, Bool.false_eq_true, if_false, hnc, hk, newRow, run_newObj,
      Sem.run_pure, Nat.add_sub_cancel_left, markStringish, run_shape, World.drew_eq, World.alloc_eq, World.size_drew]
    have hshape : (w.drew.alloc (.cells ((s.data.map fun b => Value.int .u8 (b.toNat : Int)) ++ Array.replicate k (.int .u8 0)) e)).shape? w.heap.size = some (e, s.size + k) := by
      have := shape_new w.drew ((s.data.map fun b => Value.int .u8 (b.toNat : Int)) ++ Array.replicate k (.int .u8 0)) e
      rw [World.size_drew] at this
      rw [this]
      simp
    rw [hshape]
    simp only [run_freeze, Sem.run_bind, Result.andThen_ok, Sem.run_pure, hfz]
  have hrel : rel P σ k (.cells (bytesV s.data.toList) e .opn) (.cells ((s.data.map fun b => Value.int .u8 (b.toNat : Int)) ++ Array.replicate k (.int .u8 0)) e (s.size + k, s.size + k + 1)) := by
    refine ⟨List.replicate k (.int .u8 0), (s.size + k, s.size + k + 1), ?_, ?_, ?_, by simp⟩
    · congr 1
      apply Array.ext'
      rw [bytesV_eq]
      simp [Function.comp_def]
    · intro i hi
      rw [bytesV_eq] at hi
      simp at hi
      omega
    · rw [szOf_eq hn]; simp
  refine ⟨upd σ H.next w.heap.size k, w.drew.alloc _, ?_, R.alloc (w := w.drew) hR.drew k ?_ hrel, ?_, by simp [vlt, Nat.blt_eq]⟩
  · rw [conc_string, hrun, hsz]
    simp [renA, upd]
  · intro v hv
    rw [bytesV_eq] at hv
    obtain ⟨b, _, rfl⟩ := List.mem_map.1 hv
    rfl
  · exact (Ext.refl σ H w hR.lt).drew.trans (Ext.alloc (w := w.drew) hR.drew _ _ k)

theorem aCopy_ok (hR : R P G σ H w) {t u ty : TypeId} {dst src v : Value} {H' : AHeap} (h : aCopy P t dst src H = some (v, H')) :
    OkH P G ((Builtin.copy_ #[t, u] ty #[conc σ dst, conc σ src]).run P w) σ H w v H' := by
  unfold aCopy at h
  split at h
  case h_2 => cases h
  rename_i e hu
  split at h
  case h_2 => cases h
  rename_i n m hn hm
  have hlen : (Builtin.lenOf (conc σ src)).run P w = .ok m w := aLenOf_ok hm
  split at h
  · rename_i b off len cap
    split at h
    case h_2 => cases h
    rename_i news c e' md hnews hb
    cases hc : (Nat.ble (off + news.length) c.length && allOne news && md.wr) with
    | false => rw [hc, cond_false] at h; cases h
    | true =>
      rw [hc, cond_true] at h
      simp only [Bool.and_eq_true, Nat.ble_eq] at hc
      obtain ⟨⟨h1, h2⟩, h3⟩ := hc
      simp only [Option.some.injEq, Prod.mk.injEq] at h
      obtain ⟨rfl, rfl⟩ := h
      have hmd : md ≠ .ro := by rintro rfl; cases h3
      obtain ⟨hf, hflt⟩ := aFirst_ok hR hnews
      obtain ⟨w', hst, hR', hE⟩ := R.stores (P := P) (G := G) (σ := σ) (b := b) (e := e') hmd off news 0 H w c hR hb (by omega) hflt (allOne_iff.1 h2)
      refine ⟨σ, w', ?_, hR', hE, rfl⟩
      simp only [Builtin.copy_, List.getElem?_toArray, List.getElem?_cons_zero, List.getElem?_cons_succ, Sem.run_bind, run_underlying hu, Result.andThen_ok, conc_slice, hlen, run_sizeOf' hn, hf, renA, hst,
        Sem.run_pure, goInt, conc_int]
  · cases h


theorem aClear_ok (hR : R P G σ H w) {t ty : TypeId} {x : Value} {H' : AHeap} (h : aClear P t x H = some H') :
    ∃ w', (Builtin.clear_ #[t] ty #[conc σ x]).run P w = .ok (.tuple #[]) w' ∧ R P G σ H' w' ∧ Ext σ H w σ H' w' ∧ H'.next = H.next := by
  unfold aClear at h
  split at h
  · rename_i hu
    simp only [Option.some.injEq] at h; subst h
    exact ⟨w, by simp [Builtin.clear_, run_underlying hu], hR, .refl _ _ _ hR.lt, rfl⟩
  · rename_i hu
    simp only [Option.some.injEq] at h; subst h
    exact ⟨w, by simp [Builtin.clear_, run_underlying hu], hR, .refl _ _ _ hR.lt, rfl⟩
  · rename_i e b off n c hu
    split at h
    case h_2 => cases h
    rename_i z cs e' md hz hb
    cases hc : (Nat.ble (off + (repL z (n + 1)).length) cs.length && allOne (repL z (n + 1)) && md.wr) with
    | false => rw [hc, cond_false] at h; cases h
    | true =>
      rw [hc, cond_true] at h
      simp only [Bool.and_eq_true, Nat.ble_eq] at hc
      obtain ⟨⟨h1, h2⟩, h3⟩ := hc
      simp only [Option.some.injEq] at h; subst h
      have hmd : md ≠ .ro := by rintro rfl; cases h3
      obtain ⟨i, u, hi, hzz, hu', h0⟩ := zeroO_some hz
      have hz0 := repL_zero h0 (n + 1)
      obtain ⟨w', hst, hR', hE⟩ := R.stores (P := P) (G := G) (σ := σ) (b := b) (e := e') hmd off (repL z (n + 1)) 0 H w cs hR hb (by omega) (vlt_zero hz0) (allOne_iff.1 h2)
      refine ⟨w', ?_, hR', hE, rfl⟩
      have hzc : (Builtin.zeroCells u.cells (n + 1)).toList = repL z (n + 1) := by
        have := rep_ok u.cells (n + 1)
        unfold Builtin.zeroCells
        rw [this, hu']
      rw [map_zero hz0] at hst
      have hst' : (storeCells (renA σ ⟨b, off, none⟩) (repL z (n + 1))).run P w = .ok () w' := hst
      simp only [Builtin.clear_, List.getElem?_toArray, List.getElem?_cons_zero, Sem.run_bind, run_underlying hu, Result.andThen_ok, conc_slice, zeroValue, typeInfo, run_program, hi, hzz, Sem.run_pure, Sem.run_map, hzc, hst']
  · cases h

end
end Go.Abs
