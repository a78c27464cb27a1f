/- The steps over a map; interfaces. -/
import Derived.Test.YtgapaaloalfmfaaGreatDoorEngOps10
import GoSem.Extern.MapsClone
set_option linter.unusedVariables false
set_option linter.unusedSimpArgs false
set_option linter.unusedSectionVars false
namespace Go.Abs

def aRange (P : Program) (t : TypeId) (x : Value) (H : AHeap) : Option (Value × AHeap) :=
  match P.underlying t, x with
  | some (.map _ _), .map none => some (.pointer (some ⟨H.next, 0, none⟩), H.alloc (.mapIter none 0 [] 0))
  | some (.map _ _), .map (some m) =>
    match H.get m with
    | some (.map _ clock) => some (.pointer (some ⟨H.next, 0, none⟩), H.alloc (.mapIter (some m) clock [] clock))
    | _ => none
  | _, _ => none

def leftL (seen : List Nat) (es : List MapEntry) : List MapEntry := es.filter fun e => !hasN e.born seen
def candsL (since : Nat) (seen : List Nat) (es : List MapEntry) : List (Option MapEntry) :=
  (if ((leftL seen es).filter fun e => decide (e.born < since)).isEmpty then [none] else []) ++
    (((leftL seen es).filter fun e => decide (e.born < since)) ++ ((leftL seen es).filter fun e => decide (e.born ≥ since))).map some
def gone (seen : List Nat) (last : Nat) (es : List MapEntry) : Bool := !seen.isEmpty && !es.isEmpty && es.all fun e => decide (e.born ≥ last)

def stepOut (H : AHeap) (r m since clock : Nat) (seen : List Nat) : Option MapEntry → Value × AHeap
  | none => (.tuple ⟨[.bool false]⟩, H)
  | some e => (.tuple ⟨[.bool true, e.key, e.val]⟩, H.set r (.mapIter (some m) since (seen ++ [e.born]) clock))

def aNext (v : Value) (H : AHeap) : Option (List (Value × AHeap)) :=
  match v with
  | .pointer (some ⟨r, 0, none⟩) =>
    match H.get r with
    | some (.mapIter none _ _ _) => some [(.tuple ⟨[.bool false]⟩, H)]
    | some (.mapIter (some m) since seen last) =>
      match H.get m with
      | some (.map es clock) =>
        bif gone seen last es then none else some ((candsL since seen es).map (stepOut H r m since clock seen))
      | _ => none
    | _ => none
  | _ => none

def findB (n : Nat) : List MapEntry → Option MapEntry
  | [] => none
  | e :: es => bif Nat.beq e.born n then some e else findB n es
def lastN : List Nat → Option Nat
  | [] => none
  | [x] => some x
  | _ :: r => lastN r

def aEntry (v : Value) (H : AHeap) : Option Value :=
  match v with
  | .pointer (some ⟨r, 0, none⟩) =>
    match H.get r with
    | some (.mapIter (some m) _ seen stepped) =>
      match lastN seen, H.get m with
      | some stamp, some (.map es clock) =>
        bif Nat.beq clock stepped then
          match findB stamp es with
          | some e => some (.tuple ⟨[e.key, e.val]⟩)
          | none => none
        else none
      | _, _ => none
    | _ => none
  | _ => none

def aAssert (P : Program) (x : Value) (asserted : TypeId) (ok : Bool) : Option Value :=
  match P.underlying asserted, x with
  | some (.interface _), _ => none
  | some _, .iface t v => bif Nat.beq t asserted then some (if ok then .tuple ⟨[v, .bool true]⟩ else v) else none
  | _, _ => none

def aIface (P : Program) (t : TypeId) (x : Value) : Option Value :=
  match P.underlying t with
  | some (.interface _) => none
  | some _ => some (.iface t x)
  | none => none

def aClone (v : Value) (H : AHeap) : Option (Value × AHeap) :=
  match v with
  | .iface t (.map (some r)) =>
    match H.get r with
    | some (.map es clock) => some (.iface t (.map (some H.next)), H.alloc (.map es clock))
    | _ => none
  | _ => none

section
variable {P : Program} {G : Nat} {σ : Ren} {H : AHeap} {w : World}

theorem R.allocPure (hR : R P G σ H w) {o : AObj} {co : Obj} {v : Value} {r : Result Value} (ho : o.lt H.next) (hr : rel P σ 0 o co)
    (hrun : r = .ok (conc (upd σ H.next w.heap.size 0) v) (w.alloc co)) (hv : vlt (H.next + 1) v = true) : OkH P G r σ H w v (H.alloc o) :=
  ⟨_, _, hrun, hR.alloc 0 ho hr, .alloc hR _ _ 0, hv⟩

theorem aRange_ok (hR : R P G σ H w) {t : TypeId} {x v : Value} {H' : AHeap} (h : aRange P t x H = some (v, H')) : OkH P G ((Instr.range t (conc σ x)).run P w) σ H w v H' := by
  unfold aRange at h
  split at h
  · rename_i hu
    simp only [Option.some.injEq, Prod.mk.injEq] at h
    obtain ⟨rfl, rfl⟩ := h
    refine hR.allocPure (co := .mapIter none 0 #[] 0) (by intro r hr; cases hr) (by simp [rel]) ?_ (by simp [vlt, Nat.blt_eq])
    simp [Instr.range, run_underlying hu, renA, upd]
  · rename_i m hu
    split at h
    case h_2 => cases h
    rename_i es clock hb
    simp only [Option.some.injEq, Prod.mk.injEq] at h
    obtain ⟨rfl, rfl⟩ := h
    obtain ⟨hat, hget, _⟩ := hR.map hb
    refine hR.allocPure (co := .mapIter (some (σ.ρ m)) clock #[] clock) (by intro r hr; cases hr; exact hR.lt _ _ hb) (by simp [rel]) ?_ (by simp [vlt, Nat.blt_eq])
    simp [Instr.range, run_underlying hu, hget, renA, upd]
  · cases h

theorem hasN_iff (x : Nat) : ∀ seen : List Nat, hasN x seen = true ↔ x ∈ seen
  | [] => by simp [hasN]
  | a :: r => by
      simp only [hasN, Bool.or_eq_true, Nat.beq_eq, List.mem_cons, hasN_iff x r]
      exact ⟨fun h => h.imp (fun h => h.symm) id, fun h => h.imp (fun h => h.symm) id⟩
theorem hasN_contains (x : Nat) (seen : List Nat) : (⟨seen⟩ : Array Nat).contains x = hasN x seen := by
  rw [Bool.eq_iff_iff, hasN_iff]
  simp

theorem filter_conc (p : MapEntry → Bool) (hp : ∀ e, p (concE σ e) = p e) (es : List MapEntry) : (es.map (concE σ)).filter p = (es.filter p).map (concE σ) := by
  induction es with
  | nil => rfl
  | cons e es ih =>
    simp only [List.map_cons, List.filter_cons, hp, ih]
    split <;> rfl

theorem iter_get (hR : R P G σ H w) {r : Nat} {m : Option Nat} {since stepped : Nat} {seen : List Nat} (h : H.get r = some (.mapIter m since seen stepped)) :
    w.heap[σ.ρ r]? = some (.mapIter (m.map σ.ρ) since ⟨seen⟩ stepped) ∧ (getObj (σ.ρ r)).run P w = .ok (.mapIter (m.map σ.ρ) since ⟨seen⟩ stepped) w := by
  obtain ⟨co, h1, h2⟩ := hR.has r _ h
  simp only [rel] at h2
  subst h2
  exact ⟨h1, by simp [getObj, Sem.run, h1]⟩

theorem mem_leftL {seen : List Nat} {es : List MapEntry} {e : MapEntry} (h : e ∈ leftL seen es) : e ∈ es := (List.mem_filter.1 h).1
theorem mem_cands {since : Nat} {seen : List Nat} {es : List MapEntry} {e : MapEntry} (h : some e ∈ candsL since seen es) : e ∈ es := by
  unfold candsL at h
  rcases List.mem_append.1 h with h | h
  · split at h <;> simp at h
  · obtain ⟨e', he', hs⟩ := List.mem_map.1 h
    cases hs
    rcases List.mem_append.1 he' with h | h <;> exact mem_leftL (List.mem_filter.1 h).1

theorem run_next {r m since last clock : Nat} {seen : List Nat} {es : List MapEntry} (t : TypeId) (hg : (getObj r).run P w = .ok (.mapIter (some m) since ⟨seen⟩ last) w)
    (hm : (getObj m).run P w = .ok (.map ⟨es⟩ clock) w) (hn : gone seen last es = false) :
    ∃ c ∈ candsL since seen es, ∃ w1, (w1 = w ∨ w1 = w.drew) ∧ (Instr.next (.pointer (some ⟨r, 0, none⟩)) false t).run P w =
      (match c with
       | some e => (do setObj r (.mapIter (some m) since ((⟨seen⟩ : Array Nat).push e.born) clock); pure (.tuple #[.bool true, e.key, e.val]) : Sem Value)
       | none => pure (.tuple #[.bool false])).run P w1 := by
  simp only [Instr.next, Sem.run_bind, hg, hm, Result.andThen_ok]
  have hA : ∀ (p : MapEntry → Bool) (l : List MapEntry), (⟨l⟩ : Array MapEntry).filter p = ⟨l.filter p⟩ := fun p l => List.filter_toArray
  have hcond : (!(⟨seen⟩ : Array Nat).isEmpty && !(⟨es⟩ : Array MapEntry).isEmpty && (⟨es⟩ : Array MapEntry).all fun x => decide (x.born ≥ last)) = false := by
    rw [← hn]
    unfold gone
    rw [← List.all_toArray]
    simp
  have hC : ((if (Array.filter (fun x : MapEntry => decide (x.born < since)) (Array.filter (fun e : MapEntry => !(⟨seen⟩ : Array Nat).contains e.born) ⟨es⟩)).isEmpty = true then #[none] else #[]) ++
      Array.map some (Array.filter (fun x : MapEntry => decide (x.born < since)) (Array.filter (fun e : MapEntry => !(⟨seen⟩ : Array Nat).contains e.born) ⟨es⟩) ++
        Array.filter (fun x : MapEntry => decide (x.born ≥ since)) (Array.filter (fun e : MapEntry => !(⟨seen⟩ : Array Nat).contains e.born) ⟨es⟩))) = ⟨candsL since seen es⟩ := by
    simp only [hA, hasN_contains]
    unfold candsL leftL
    have hE : ∀ l : List MapEntry, (⟨l⟩ : Array MapEntry).isEmpty = l.isEmpty := fun l => by cases l <;> rfl
    simp only [hE]
    apply Array.ext'
    split <;> simp only [Array.toList_append, Array.toList_map]
  rw [if_neg (by rw [hcond]; simp), hC]
  generalize hL : candsL since seen es = L
  have hpos : 0 < L.length := by
    rw [← hL]
    unfold candsL
    split
    · simp
    · rename_i hh
      simp only [List.nil_append, List.length_map, List.length_append]
      have : 0 < ((leftL seen es).filter fun e => decide (e.born < since)).length := by
        rcases Nat.eq_zero_or_pos ((leftL seen es).filter fun e => decide (e.born < since)).length with h0 | h0
        · exact absurd (by rw [List.eq_nil_of_length_eq_zero h0]; rfl) hh
        · exact h0
      omega
  have hsz : (⟨L⟩ : Array (Option MapEntry)).size = L.length := rfl
  rw [hsz]
  have pick : ∃ (i : Nat) (w1 : World), i < L.length ∧ (w1 = w ∨ w1 = w.drew) ∧ (choose (.mapNext L.length)).run P w = .ok i w1 := by
    rw [run_choose]
    by_cases hf : (Question.mapNext L.length).forced = true
    · exact ⟨0, w, hpos, .inl rfl, by rw [if_pos hf]⟩
    · exact ⟨w.tape w.drawn (.mapNext L.length) % L.length, w.drew, Nat.mod_lt _ hpos, .inr rfl, by rw [if_neg hf]; rfl⟩
  obtain ⟨i, w1, hi, hw1, hch⟩ := pick
  refine ⟨L[i], List.getElem_mem hi, w1, hw1, ?_⟩
  simp only [Sem.run_bind, hch, Result.andThen_ok]
  have : (⟨L⟩ : Array (Option MapEntry))[i]? = some L[i] := by simp [hi]
  rw [this]
  cases L[i] with
  | none => rfl
  | some e => rfl

theorem cands_conc (since : Nat) (seen : List Nat) (es : List MapEntry) : candsL since seen (es.map (concE σ)) = (candsL since seen es).map fun c => c.map (concE σ) := by
  have hf1 : leftL seen (es.map (concE σ)) = (leftL seen es).map (concE σ) := filter_conc _ (fun _ => rfl) _
  have hf2 : ∀ l : List MapEntry, (l.map (concE σ)).filter (fun e => decide (e.born < since)) = (l.filter fun e => decide (e.born < since)).map (concE σ) := fun l => filter_conc _ (fun _ => rfl) _
  have hf3 : ∀ l : List MapEntry, (l.map (concE σ)).filter (fun e => decide (e.born ≥ since)) = (l.filter fun e => decide (e.born ≥ since)).map (concE σ) := fun l => filter_conc _ (fun _ => rfl) _
  unfold candsL
  rw [hf1, hf2, hf3]
  simp only [List.isEmpty_map, List.map_append, List.map_map]
  split <;> simp [Function.comp_def]

theorem gone_conc (seen : List Nat) (last : Nat) (es : List MapEntry) : gone seen last (es.map (concE σ)) = gone seen last es := by
  unfold gone
  rw [List.all_map, List.isEmpty_map]
  rfl

theorem aNext_ok (hR : R P G σ H w) {t : TypeId} {v : Value} {l : List (Value × AHeap)} (h : aNext v H = some l) : OkV P G ((Instr.next (conc σ v) false t).run P w) σ H w l := by
  unfold aNext at h
  split at h
  case h_2 => cases h
  rename_i r
  split at h
  · rename_i since seen last hb
    simp only [Option.some.injEq] at h; subst h
    obtain ⟨hat, hget⟩ := iter_get hR hb
    refine OkV.here hR (by simp [vlt, vltA, vltL]) ?_
    simp [Instr.next, renA, hget, conc_tuple]
  · rename_i m since seen last hb
    split at h
    case h_2 => cases h
    rename_i es clock hm
    cases hg : gone seen last es with
    | true => rw [hg, cond_true] at h; cases h
    | false =>
      rw [hg, cond_false] at h
      simp only [Option.some.injEq] at h; subst h
      obtain ⟨hat, hget⟩ := iter_get hR hb
      obtain ⟨hatm, hgetm, hlt⟩ := hR.map hm
      obtain ⟨c, hc, w1, hw1, hrun⟩ := run_next t hget hgetm (by rw [gone_conc]; exact hg)
      rw [cands_conc] at hc
      obtain ⟨c', hc', rfl⟩ := List.mem_map.1 hc
      have hR1 : R P G σ H w1 := by rcases hw1 with rfl | rfl; exact hR; exact hR.drew
      have hE1 : Ext σ H w σ H w1 := by rcases hw1 with rfl | rfl; exact .refl _ _ _ hR.lt; exact (Ext.refl _ _ _ hR.lt).drew
      simp only [conc_ptr, renA]
      cases c' with
      | none =>
        refine ⟨_, H, σ, w1, List.mem_map.2 ⟨none, hc', rfl⟩, ?_, hR1, hE1, by simp [vlt, vltA, vltL]⟩
        rw [hrun]
        simp [conc_tuple]
      | some e =>
        have he := hlt e (mem_cands hc')
        simp only [ltE, Bool.and_eq_true] at he
        obtain ⟨hat1, hget1⟩ := iter_get hR1 hb
        obtain ⟨w', hset, hR', hE⟩ := hR1.setObj (o' := .mapIter (some m) since (seen ++ [e.born]) clock) (co' := .mapIter (some (σ.ρ m)) since ((⟨seen⟩ : Array Nat).push e.born) clock) hb rfl rfl hat1 (by simp)
          (by intro x hx; cases hx; exact hR.lt _ _ hm) (by simp [rel])
        refine ⟨_, _, σ, w', List.mem_map.2 ⟨some e, hc', rfl⟩, ?_, hR', hE1.trans hE, by simp [vlt, vltA, vltL, he]⟩
        rw [hrun]
        simp only [Option.map_some, concE, Sem.run_bind, hset, Result.andThen_ok, Sem.run_pure, conc_tuple]
        simp
  · cases h

theorem lastN_back : ∀ {l : List Nat} {x : Nat}, lastN l = some x → (⟨l⟩ : Array Nat).back? = some x
  | [], x, h => by simp [lastN] at h
  | [a], x, h => by simp [lastN] at h; simp [h]
  | a :: b :: r, x, h => by
      have := lastN_back (l := b :: r) (x := x) (by simpa [lastN] using h)
      simp only [List.back?_toArray] at this ⊢
      rw [List.getLast?_cons_cons]; exact this

theorem findB_ok {n : Nat} : ∀ {es : List MapEntry} {e : MapEntry}, findB n es = some e → (es.map (concE σ)).find? (fun x => x.born == n) = some (concE σ e) ∧ e ∈ es
  | [], e, h => by simp [findB] at h
  | a :: es, e, h => by
      unfold findB at h
      cases hb : Nat.beq a.born n with
      | true =>
        rw [hb, cond_true] at h
        simp only [Option.some.injEq] at h; subst h
        rw [Nat.beq_eq] at hb
        simp [concE, hb]
      | false =>
        rw [hb, cond_false] at h
        have hne : ¬ a.born = n := by
          intro h; rw [← Nat.beq_eq] at h; rw [h] at hb; cases hb
        obtain ⟨h1, h2⟩ := findB_ok h
        refine ⟨?_, by simp [h2]⟩
        simp only [List.map_cons, List.find?_cons]
        have : ((concE σ a).born == n) = false := by simp [concE, hne]
        rw [this]; exact h1

theorem aEntry_ok (hR : R P G σ H w) {v r : Value} (h : aEntry v H = some r) : OkR P ((Instr.entry (conc σ v)).run P w) σ H.next w r := by
  unfold aEntry at h
  split at h
  case h_2 => cases h
  rename_i r'
  split at h
  case h_2 => cases h
  rename_i m since seen stepped hb
  split at h
  case h_2 => cases h
  rename_i stamp es clock hl hm
  cases hc : Nat.beq clock stepped with
  | false => rw [hc, cond_false] at h; cases h
  | true =>
    rw [hc, cond_true] at h
    rw [Nat.beq_eq] at hc; subst hc
    split at h
    case h_2 => cases h
    rename_i e hf
    simp only [Option.some.injEq] at h; subst h
    obtain ⟨hat, hget⟩ := iter_get hR hb
    obtain ⟨hatm, hgetm, hlt⟩ := hR.map hm
    obtain ⟨hfind, hmem⟩ := findB_ok (σ := σ) hf
    have he := hlt e hmem
    simp only [ltE, Bool.and_eq_true] at he
    refine ⟨?_, by simp [vlt, vltA, vltL, he]⟩
    have hfa : (⟨es.map (concE σ)⟩ : Array MapEntry).find? (fun x => x.born == stamp) = some (concE σ e) := by simpa using hfind
    simp only [Instr.entry, conc_ptr, renA, Sem.run_bind, hget, Option.map_some, Result.andThen_ok, lastN_back hl, hgetm, bne_self_eq_false, Bool.false_eq_true, if_false, hfa, Sem.run_pure, conc_tuple]
    simp [concE]

theorem aAssert_ok {n : Nat} {x r : Value} {xt asserted : TypeId} {ok : Bool} (h : aAssert P x asserted ok = some r) (hx : vlt n x = true) :
    OkR P ((Instr.typeAssert (conc σ x) xt asserted ok).run P w) σ n w r := by
  unfold aAssert at h
  split at h
  · cases h
  · rename_i d t v hne hu
    cases hc : Nat.beq t asserted with
    | false => rw [hc, cond_false] at h; cases h
    | true =>
      rw [hc, cond_true] at h
      rw [Nat.beq_eq] at hc; subst hc
      simp only [Option.some.injEq] at h; subst h
      have hv : vlt n v = true := hx
      refine ⟨?_, by cases ok <;> simp [vlt, vltA, vltL, hv]⟩
      cases d <;> first | (exact absurd rfl (hne _)) | (cases ok <;> simp [Instr.typeAssert, run_underlying hu, conc_tuple])
  · cases h

theorem aIface_ok {n : Nat} {x r : Value} {t : TypeId} (h : aIface P t x = some r) (hx : vlt n x = true) : OkR P ((Instr.makeInterface t (conc σ x)).run P w) σ n w r := by
  unfold aIface at h
  split at h
  · cases h
  · rename_i d hne hu
    simp only [Option.some.injEq] at h; subst h
    refine ⟨?_, hx⟩
    cases d <;> first | (exact (hne _ rfl).elim) | simp [Instr.makeInterface, run_underlying hu]
  · cases h

theorem aClone_ok (hR : R P G σ H w) {v r : Value} {H' : AHeap} (h : aClone v H = some (r, H')) : OkH P G ((Extern.MapsClone.clone #[conc σ v]).run P w) σ H w r H' := by
  unfold aClone at h
  split at h
  case h_2 => cases h
  rename_i t r'
  split at h
  case h_2 => cases h
  rename_i es clock hb
  simp only [Option.some.injEq, Prod.mk.injEq] at h
  obtain ⟨rfl, rfl⟩ := h
  obtain ⟨hat, hget, hlt⟩ := hR.map hb
  refine hR.allocPure (co := .map ⟨es.map (concE σ)⟩ clock) hlt (by simp [rel]) ?_ (by simp [vlt, Nat.blt_eq])
  have hcl : ∀ q : Nat, Extern.MapsClone.clone #[.iface t (.map (some q))] = (do
      let .map entries clock ← getObj q | stuck "maps.clone: a map expected"
      pure (.iface t (.map (some (← newObj (.map entries clock)))))) := fun _ => rfl
  simp only [conc_iface, conc_map, hcl, Sem.run_bind, hget, Result.andThen_ok]
  simp [upd]

end
end Go.Abs
