/- Maps: the laws. -/
import Derived.Test.YtgapaaloalfmfaaGreatDoorEngOps9
set_option linter.unusedVariables false
set_option linter.unusedSimpArgs false
set_option linter.unusedSectionVars false
namespace Go.Abs

section
variable {P : Program} {G : Nat} {σ : Ren} {H : AHeap} {w : World}

theorem keyEq_now {d : TypeDesc} {a b : Value} {r : Bool} (h : keyEq d a b = some r) : Instr.sameNow d a b = some r ∧ conc σ a = a ∧ conc σ b = b ∧ (r = true → a = b) ∧ vlt 0 a = true := by
  unfold keyEq at h
  split at h
  · rename_i k k1 x k2 y
    by_cases hk : k1 = k2
    · rw [if_pos hk] at h; subst hk; simp only [Option.some.injEq] at h; subst h
      exact ⟨by simp [Instr.sameNow], rfl, rfl, by simp, rfl⟩
    · rw [if_neg hk] at h; cases h
  · rename_i x y
    simp only [Option.some.injEq] at h; subst h
    rw [bytesEq_eq]
    refine ⟨?_, rfl, rfl, ?_, rfl⟩
    · simp only [Instr.sameNow, Option.some.injEq]
      rw [beq_toListBytes, ByteArray.toList_eq, ByteArray.toList_eq]
    · intro hh
      have : x.data.toList = y.data.toList := by simpa using hh
      have : x = y := by
        apply ByteArray.ext; exact Array.ext' this
      rw [this]
  · simp only [Option.some.injEq] at h; subst h
    exact ⟨by simp [Instr.sameNow], rfl, rfl, by simp, rfl⟩
  · cases h

theorem findA_ok {d : TypeDesc} {k : Value} : ∀ {es : List MapEntry} {i : Nat} {r : Option (Nat × Value)}, findA d k es i = some r →
    Instr.findNow d (conc σ k) (es.map (concE σ)) i = some (r.map fun x => (x.1, conc σ x.2)) ∧
    (∀ j v, r = some (j, v) → i ≤ j ∧ ∃ e, es[j - i]? = some e ∧ e.val = v ∧ e.key = k ∧ vlt 0 k = true)
  | [], i, r, h => by
      simp only [findA, Option.some.injEq] at h; subst h
      exact ⟨rfl, by simp⟩
  | e :: es, i, r, h => by
      unfold findA at h
      split at h
      · rename_i hk
        simp only [Option.some.injEq] at h; subst h
        obtain ⟨h1, h2, h3, h4, h5⟩ := keyEq_now (σ := σ) hk
        refine ⟨?_, ?_⟩
        · simp only [List.map_cons, Instr.findNow, concE, h2, h3, h1, Option.map_some]
        · intro j v hjv
          simp only [Option.some.injEq, Prod.mk.injEq] at hjv
          obtain ⟨rfl, rfl⟩ := hjv
          exact ⟨Nat.le_refl _, e, by simp, rfl, (h4 rfl).symm, h5⟩
      · rename_i hk
        obtain ⟨h1, h2, h3, _⟩ := keyEq_now (σ := σ) hk
        obtain ⟨ih1, ih2⟩ := findA_ok h
        refine ⟨?_, ?_⟩
        · simp only [List.map_cons, Instr.findNow]
          have : Instr.sameNow d (conc σ k) (concE σ e).key = some false := by simp only [concE, h2, h3]; exact h1
          rw [this]
          exact ih1
        · intro j v hjv
          obtain ⟨a, e', b, c⟩ := ih2 j v hjv
          refine ⟨by omega, e', ?_, c⟩
          have : j - i = (j - (i + 1)) + 1 := by omega
          rw [this, List.getElem?_cons_succ]; exact b
      · cases h

theorem run_find {kt : TypeId} {d : TypeDesc} {k : Value} {es : List MapEntry} {r : Option (Nat × Value)} (hu : P.underlying kt = some d) (h : findA d k es 0 = some r) :
    (Instr.findKey kt (conc σ k) (es.map (concE σ))).run P w = .ok (r.map fun x => (x.1, conc σ x.2)) w := by
  simp only [Instr.findKey, Sem.run_bind, run_underlying hu, Result.andThen_ok, (findA_ok (σ := σ) h).1, Sem.run_pure]

theorem run_check {kt : TypeId} {d : TypeDesc} {v : Value} (em : Bool) (hu : P.underlying kt = some d) (hp : plainKey d = true) (n : Nat) :
    (Instr.checkKey em (n + 1) kt v).run P w = .ok () w := by
  cases d <;> first | (cases hp; done) | simp [Instr.checkKey, run_underlying hu]

theorem zeroV_some {t : TypeId} {z : Value} (h : zeroV P t = some z) : (zeroValue t).run P w = .ok z w ∧ vlt 0 z = true := by
  unfold zeroV at h
  cases hi : P.info? t with
  | none => simp [hi] at h
  | some i =>
    simp only [hi] at h
    cases hz : i.zero with
    | none => simp [hz] at h
    | some u =>
      simp only [hz] at h
      cases hl : vlt 0 u with
      | false => rw [hl, cond_false] at h; cases h
      | true =>
        rw [hl, cond_true] at h
        simp only [Option.some.injEq] at h; subst h
        exact ⟨by simp [zeroValue, typeInfo, hi, hz], hl⟩

theorem R.map (hR : R P G σ H w) {r : Nat} {es : List MapEntry} {clock : Nat} (h : H.get r = some (.map es clock)) :
    w.heap[σ.ρ r]? = some (.map ⟨es.map (concE σ)⟩ clock) ∧ (getObj (σ.ρ r)).run P w = .ok (.map ⟨es.map (concE σ)⟩ clock) w ∧ (∀ e ∈ es, ltE H.next e = true) := by
  obtain ⟨co, h1, h2⟩ := hR.has r _ h
  simp only [rel] at h2
  subst h2
  exact ⟨h1, by simp [getObj, Sem.run, h1], hR.olt r _ h⟩

/-- A map, or the steps over one, is turned. -/
theorem R.setObj (hR : R P G σ H w) {r : Nat} {o o' : AObj} {co co' : Obj} (h : H.get r = some o) (hro : o.ro = false) (hro' : o'.ro = false) (hat : w.heap[σ.ρ r]? = some co)
    (hnc : ∀ c e f, co ≠ .cells c e f) (ho : o'.lt H.next) (hr : rel P σ (σ.κ r) o' co') :
    ∃ w', (setObj (σ.ρ r) co').run P w = .ok () w' ∧ R P G σ (H.set r o') w' ∧ Ext σ H w σ (H.set r o') w' := by
  have hlt := lt_of_some hat
  refine ⟨{ w with heap := w.heap.setIfInBounds (σ.ρ r) co' }, ?_, ?_, ?_⟩
  · simp only [Go.setObj, Sem.run, hat]
  · refine hR.turn h ho (by simp) ?_ hr ?_
    · simp [hlt]
    · intro k hk
      have : ¬ σ.ρ r = k := fun e => hk e.symm
      simp [this]
  · refine Ext.turn hR _ h hro hro' (by simp) ?_ rfl rfl rfl
    intro k hk
    have : ¬ σ.ρ r = k := fun e => hk e.symm
    simp [this]

theorem mapOf_cases {m : Value} {es : List MapEntry} {c : Nat} (h : mapOf m H = some (es, c)) : (m = .map none ∧ es = []) ∨ ∃ r, m = .map (some r) ∧ H.get r = some (.map es c) := by
  unfold mapOf at h
  split at h
  · simp only [Option.some.injEq, Prod.mk.injEq] at h
    exact .inl ⟨rfl, h.1.symm⟩
  · split at h
    case h_2 => cases h
    rename_i r es' c' hb
    simp only [Option.some.injEq, Prod.mk.injEq] at h
    obtain ⟨rfl, rfl⟩ := h
    exact .inr ⟨_, rfl, hb⟩
  · cases h

theorem aLookup_ok (hR : R P G σ H w) {t : TypeId} {m k r : Value} {ok : Bool} (h : aLookup P t m k ok H = some r) :
    OkR P ((Instr.lookup t (conc σ m) (conc σ k) ok).run P w) σ H.next w r := by
  unfold aLookup at h
  split at h
  case h_2 => cases h
  rename_i kt et hu
  split at h
  case h_2 => cases h
  rename_i d es cl hd hm
  cases hp : plainKey d with
  | false => rw [hp, cond_false] at h; cases h
  | true =>
    rw [hp, cond_true] at h
    have hck : ∀ em, (Instr.checkKey em 10000 kt (conc σ k)).run P w = .ok () w := fun em => run_check em hd hp 9999
    have key : ∀ (x : Value) (b : Bool), vlt H.next x = true → ((Instr.findKey kt (conc σ k) (es.map (concE σ))).run P w).andThen (fun a w' => Sem.run P (match a with
        | some (_, v) => do
          let __x ← pure (v, true)
          pure (if ok = true then Value.tuple #[__x.fst, Value.bool __x.snd] else __x.fst)
        | none => do
          let __do_lift ← zeroValue et
          let __x ← pure (__do_lift, false)
          pure (if ok = true then Value.tuple #[__x.fst, Value.bool __x.snd] else __x.fst)) w') = .ok (conc σ (if ok then .tuple ⟨[x, .bool b]⟩ else x)) w →
        OkR P ((Instr.lookup t (conc σ m) (conc σ k) ok).run P w) σ H.next w (if ok then .tuple ⟨[x, .bool b]⟩ else x) := by
      intro x b hx hrun
      refine ⟨?_, by cases ok <;> simp [vlt, vltA, vltL, hx]⟩
      rcases mapOf_cases hm with ⟨rfl, rfl⟩ | ⟨r', rfl, hb⟩
      · simp only [Instr.lookup, Sem.run_bind, run_underlying hu, Result.andThen_ok, conc_mapNil, Sem.run_pure, hck]
        exact hrun
      · obtain ⟨h1, h2, h3⟩ := hR.map hb
        simp only [Instr.lookup, Sem.run_bind, run_underlying hu, Result.andThen_ok, conc_map, h2, Sem.run_pure, hck]
        exact hrun
    have hmlt : ∀ e ∈ es, ltE H.next e = true := by
      rcases mapOf_cases hm with ⟨rfl, rfl⟩ | ⟨r', rfl, hb⟩
      · simp
      · exact (hR.map hb).2.2
    split at h
    · rename_i i v hf
      simp only [Option.some.injEq] at h; subst h
      obtain ⟨_, hfe⟩ := findA_ok (σ := σ) hf
      obtain ⟨_, e, he, hev, _⟩ := hfe i v rfl
      have hvl : vlt H.next v = true := by
        have := hmlt e (List.mem_of_getElem? he)
        simp only [ltE, Bool.and_eq_true] at this
        rw [← hev]; exact this.2
      refine key v true hvl ?_
      simp only [run_find hd hf, Option.map_some, Result.andThen_ok, pure_bind, Sem.run_pure]
      cases ok <;> simp [conc_tuple]
    · rename_i hf
      split at h
      case h_2 => cases h
      rename_i z hz
      simp only [Option.some.injEq] at h; subst h
      obtain ⟨hzr, hz0⟩ := zeroV_some (w := w) hz
      have hzl := vlt_mono (Nat.zero_le H.next) z hz0
      refine key z false hzl ?_
      simp only [run_find hd hf, Option.map_none, Result.andThen_ok, Sem.run_bind, hzr, Sem.run_pure]
      have hcz := conc_pure σ z hz0
      cases ok <;> simp [conc_tuple, hcz]
    · cases h

theorem erase_map {α β : Type} (f : α → β) : ∀ (l : List α) (i : Nat), (l.map f).eraseIdx i = (l.eraseIdx i).map f
  | [], i => by simp
  | x :: r, 0 => by simp
  | x :: r, i + 1 => by simp [erase_map f r i]

theorem modify_map (f g : MapEntry → MapEntry) (hfg : ∀ e, concE σ (f e) = g (concE σ e)) (es : List MapEntry) (i : Nat) :
    (⟨es.map (concE σ)⟩ : Array MapEntry).modify i g = ⟨(es.modify i f).map (concE σ)⟩ := by
  apply Array.ext'
  simp only [Array.toList_modify]
  apply List.ext_getElem?
  intro j
  simp only [List.getElem?_modify, List.getElem?_map]
  by_cases h : i = j
  · subst h
    cases es[i]? <;> simp [hfg]
  · cases es[j]? <;> simp [h]

theorem stays {k : Value} {d : TypeDesc} (hk : vlt 0 k = true) (hb : Instr.sameBits 10000 k k = true) : (Instr.keyThatStays k k).run P w = .ok k w := by
  simp [Instr.keyThatStays, hb]

theorem sameBits_key {d : TypeDesc} {a b : Value} {r : Bool} (h : keyEq d a b = some r) : Instr.sameBits 10000 a a = true := by
  unfold keyEq at h
  split at h
  · simp [Instr.sameBits]
  · simp only [Instr.sameBits]; rw [beq_toListBytes]; simp
  · simp [Instr.sameBits]
  · cases h

theorem findA_bits {d : TypeDesc} {k : Value} : ∀ {es : List MapEntry} {i : Nat} {x : Nat × Value}, findA d k es i = some (some x) → Instr.sameBits 10000 k k = true
  | [], i, x, h => by simp [findA] at h
  | e :: es, i, x, h => by
      unfold findA at h
      split at h
      · rename_i hk; exact sameBits_key hk
      · rename_i hk; exact sameBits_key hk
      · cases h

theorem ltE_modify {n : Nat} {es : List MapEntry} (h : ∀ e ∈ es, ltE n e = true) (f : MapEntry → MapEntry) (hf : ∀ e, ltE n e = true → ltE n (f e) = true) (i : Nat) :
    ∀ e ∈ es.modify i f, ltE n e = true := by
  intro e he
  obtain ⟨j, hj⟩ := List.getElem?_of_mem he
  rw [List.getElem?_modify] at hj
  cases hx : es[j]? with
  | none => simp [hx] at hj
  | some e' =>
    have h' := h e' (List.mem_of_getElem? hx)
    by_cases hij : i = j
    · simp [hx, hij] at hj; rw [← hj]; exact hf _ h'
    · simp [hx, hij] at hj; rw [← hj]; exact h'

theorem aMapUpdate_ok (hR : R P G σ H w) {t : TypeId} {m k x : Value} {H' : AHeap} (h : aMapUpdate P t m k x H = some H') (hk : vlt H.next k = true) (hx : vlt H.next x = true) :
    ∃ w', (Instr.mapUpdate t (conc σ m) (conc σ k) (conc σ x)).run P w = .ok () w' ∧ R P G σ H' w' ∧ Ext σ H w σ H' w' ∧ H'.next = H.next := by
  unfold aMapUpdate at h
  split at h
  case h_2 => cases h
  rename_i kt et r hu
  split at h
  case h_2 => cases h
  rename_i d es clock hd hb
  cases hp : plainKey d with
  | false => rw [hp, cond_false] at h; cases h
  | true =>
    rw [hp, cond_true] at h
    obtain ⟨hat, hget, hlt⟩ := hR.map hb
    have hck : ∀ em, (Instr.checkKey em 10000 kt (conc σ k)).run P w = .ok () w := fun em => run_check em hd hp 9999
    split at h
    · rename_i i v hf
      simp only [Option.some.injEq] at h; subst h
      obtain ⟨_, hfe⟩ := findA_ok (σ := σ) hf
      obtain ⟨_, e, he, hev, hek, hk0⟩ := hfe i v rfl
      have hck0 : conc σ k = k := conc_pure σ k hk0
      have hst : (Instr.keyThatStays k k).run P w = .ok k w := stays (d := d) hk0 (findA_bits hf)
      obtain ⟨w', hset, hR', hE⟩ := hR.setObj (o' := .map (es.modify i fun e => { e with key := k, val := x }) clock) (co' := .map ((⟨es.map (concE σ)⟩ : Array MapEntry).modify i fun e => { e with key := k, val := conc σ x }) clock)
        hb rfl rfl hat (by simp) (ltE_modify hlt _ (fun e he => by simp [ltE, hk, hx]) i) (by
          simp only [rel]; rw [modify_map (fun e => { e with key := k, val := x }) _ (fun e => by simp [concE, hck0])])
      refine ⟨w', ?_, hR', hE, rfl⟩
      have hkey : (((⟨es.map (concE σ)⟩ : Array MapEntry)[i]?).map (·.key)).getD k = k := by
        have he' : es[i]? = some e := by simpa using he
        simp [he', concE, hek, hck0]
      simp only [Instr.mapUpdate, Sem.run_bind, run_underlying hu, Result.andThen_ok, conc_map, hget, hck, run_find hd hf, Option.map_some]
      rw [hck0, hkey]
      simp only [hst, Result.andThen_ok]
      exact hset
    · rename_i hf
      simp only [Option.some.injEq] at h; subst h
      obtain ⟨w', hset, hR', hE⟩ := hR.setObj (o' := .map (es ++ [⟨k, x, clock⟩]) (clock + 1)) (co' := .map ((⟨es.map (concE σ)⟩ : Array MapEntry).push ⟨conc σ k, conc σ x, clock⟩) (clock + 1))
        hb rfl rfl hat (by simp) (by
          intro e he
          rcases List.mem_append.1 he with he | he
          · exact hlt e he
          · simp at he; subst he; simp [ltE, hk, hx]) (by simp [rel, concE])
      refine ⟨w', ?_, hR', hE, rfl⟩
      simp only [Instr.mapUpdate, Sem.run_bind, run_underlying hu, Result.andThen_ok, conc_map, hget, hck, run_find hd hf, Option.map_none]
      exact hset
    · cases h

theorem aMapEntry_ok (hR : R P G σ H w) {t : TypeId} {m k v : Value} {H' : AHeap} (h : aMapEntry P t m k H = some (v, H')) (hk : vlt H.next k = true) :
    OkH P G ((Instr.mapEntry t (conc σ m) (conc σ k)).run P w) σ H w v H' := by
  unfold aMapEntry at h
  split at h
  case h_2 => cases h
  rename_i kt et r hu
  split at h
  case h_2 => cases h
  rename_i d es clock hd hb
  cases hp : plainKey d with
  | false => rw [hp, cond_false] at h; cases h
  | true =>
    rw [hp, cond_true] at h
    obtain ⟨hat, hget, hlt⟩ := hR.map hb
    have hck : ∀ em, (Instr.checkKey em 10000 kt (conc σ k)).run P w = .ok () w := fun em => run_check em hd hp 9999
    split at h
    · rename_i i u hf
      simp only [Option.some.injEq, Prod.mk.injEq] at h
      obtain ⟨rfl, rfl⟩ := h
      obtain ⟨_, hfe⟩ := findA_ok (σ := σ) hf
      obtain ⟨_, e, he, hev, hek, hk0⟩ := hfe i u rfl
      have he' : es[i]? = some e := by simpa using he
      have hck0 : conc σ k = k := conc_pure σ k hk0
      have hst : (Instr.keyThatStays k k).run P w = .ok k w := stays (d := d) hk0 (findA_bits hf)
      obtain ⟨w', hset, hR', hE⟩ := hR.setObj (o' := .map (es.modify i fun e => { e with key := k }) clock) (co' := .map ((⟨es.map (concE σ)⟩ : Array MapEntry).modify i fun e => { e with key := k }) clock)
        hb rfl rfl hat (by simp) (ltE_modify hlt _ (fun e he => by simp only [ltE, Bool.and_eq_true] at he ⊢; exact ⟨hk, he.2⟩) i) (by
          simp only [rel]; rw [modify_map (fun e => { e with key := k }) _ (fun e => by simp [concE, hck0])])
      have hul : vlt H.next u = true := by
        have := hlt e (List.mem_of_getElem? he')
        simp only [ltE, Bool.and_eq_true] at this
        rw [← hev]; exact this.2
      refine ⟨σ, w', ?_, hR', hE, by simp [vlt, vltA, vltL, hul]⟩
      have hkey : (((⟨es.map (concE σ)⟩ : Array MapEntry)[i]?).map (·.key)).getD k = k := by
        simp [he', concE, hek, hck0]
      simp only [Instr.mapEntry, Sem.run_bind, run_underlying hu, Result.andThen_ok, conc_map, hget, hck, run_find hd hf, Option.map_some]
      rw [hck0, hkey]
      simp only [hst, Result.andThen_ok, hset, Sem.run_pure, goInt]
      simp [conc_tuple, he', concE, bornAt]
    · rename_i hf
      split at h
      case h_2 => cases h
      rename_i z hz
      simp only [Option.some.injEq, Prod.mk.injEq] at h
      obtain ⟨rfl, rfl⟩ := h
      obtain ⟨hzr, hz0⟩ := zeroV_some (w := w) hz
      have hzl := vlt_mono (Nat.zero_le H.next) z hz0
      have hcz := conc_pure σ z hz0
      obtain ⟨w', hset, hR', hE⟩ := hR.setObj (o' := .map (es ++ [⟨k, z, clock⟩]) (clock + 1)) (co' := .map ((⟨es.map (concE σ)⟩ : Array MapEntry).push ⟨conc σ k, z, clock⟩) (clock + 1))
        hb rfl rfl hat (by simp) (by
          intro e he
          rcases List.mem_append.1 he with he | he
          · exact hlt e he
          · simp at he; subst he; simp [ltE, hk, hzl]) (by simp [rel, concE, hcz])
      refine ⟨σ, w', ?_, hR', hE, by simp [vlt, vltA, vltL, hzl]⟩
      simp only [Instr.mapEntry, Sem.run_bind, run_underlying hu, Result.andThen_ok, conc_map, hget, hck, run_find hd hf, Option.map_none, hzr, hset, Sem.run_pure, goInt]
      simp [conc_tuple, hcz]
    · cases h

theorem findBorn_ok {n : Int} : ∀ {es : List MapEntry} {i j : Nat}, findBorn n es i = some j → ∃ k, j = i + k ∧ (es.map (concE σ)).findIdx? (fun e => (e.born : Int) == n) = some k
  | [], i, j, h => by simp [findBorn] at h
  | e :: es, i, j, h => by
      unfold findBorn at h
      cases hb : ((e.born : Int) == n) with
      | true =>
        rw [hb] at h
        simp only [if_true, Option.some.injEq] at h; subst h
        refine ⟨0, by simp, ?_⟩
        simp only [List.map_cons, List.findIdx?_cons]
        have : ((concE σ e).born : Int) == n := hb
        simp [this]
      | false =>
        rw [hb] at h
        simp only [Bool.false_eq_true, if_false] at h
        obtain ⟨k, rfl, hk⟩ := findBorn_ok h
        refine ⟨k + 1, by omega, ?_⟩
        simp only [List.map_cons, List.findIdx?_cons]
        have hb' : (((concE σ e).born : Int) == n) = false := hb
        simp [hb', hk]

theorem aEntryStore_ok (hR : R P G σ H w) {t : TypeId} {m s x : Value} {H' : AHeap} (h : aEntryStore m s x H = some H') (hx : vlt H.next x = true) :
    ∃ w', (Instr.entryStore t (conc σ m) (conc σ s) (conc σ x)).run P w = .ok () w' ∧ R P G σ H' w' ∧ Ext σ H w σ H' w' ∧ H'.next = H.next := by
  unfold aEntryStore at h
  split at h
  case h_2 => cases h
  rename_i r k n
  split at h
  case h_2 => cases h
  rename_i es clock hb
  obtain ⟨hat, hget, hlt⟩ := hR.map hb
  split at h
  case h_2 => cases h
  rename_i i hf
  simp only [Option.some.injEq] at h; subst h
  obtain ⟨j, rfl, hj⟩ := findBorn_ok (σ := σ) hf
  rw [Nat.zero_add] at *
  obtain ⟨w', hset, hR', hE⟩ := hR.setObj (o' := .map (es.modify j fun e => { e with val := x }) clock) (co' := .map ((⟨es.map (concE σ)⟩ : Array MapEntry).modify j fun e => { e with val := conc σ x }) clock)
    hb rfl rfl hat (by simp) (ltE_modify hlt _ (fun e he => by simp only [ltE, Bool.and_eq_true] at he ⊢; exact ⟨he.1, hx⟩) j) (by
      simp only [rel]; rw [modify_map (fun e => { e with val := x }) _ (fun e => by simp [concE])])
  refine ⟨w', ?_, hR', hE, rfl⟩
  have hfi : (⟨es.map (concE σ)⟩ : Array MapEntry).findIdx? (fun e => (e.born : Int) == n) = some j := by simpa using hj
  simp only [Instr.entryStore, conc_map, conc_int, Sem.run_bind, hget, Result.andThen_ok, asInt, asIntOf, Sem.run_map, Sem.run_pure, hfi]
  exact hset

theorem aDelete_ok (hR : R P G σ H w) {t u ty : TypeId} {m k : Value} {H' : AHeap} (h : aDelete P t m k H = some H') :
    ∃ w', (Builtin.delete_ #[t, u] ty #[conc σ m, conc σ k]).run P w = .ok (.tuple #[]) w' ∧ R P G σ H' w' ∧ Ext σ H w σ H' w' ∧ H'.next = H.next := by
  unfold aDelete at h
  split at h
  case h_2 => cases h
  rename_i kt et r hu
  split at h
  case h_2 => cases h
  rename_i d es clock hd hb
  cases hp : plainKey d with
  | false => rw [hp, cond_false] at h; cases h
  | true =>
    rw [hp, cond_true] at h
    obtain ⟨hat, hget, hlt⟩ := hR.map hb
    have hck : ∀ em, (Instr.checkKey em 10000 kt (conc σ k)).run P w = .ok () w := fun em => run_check em hd hp 9999
    split at h
    · rename_i i v hf
      simp only [Option.some.injEq] at h; subst h
      obtain ⟨w', hset, hR', hE⟩ := hR.setObj (o' := .map (es.eraseIdx i) clock) (co' := .map ((⟨es.map (concE σ)⟩ : Array MapEntry).eraseIdxIfInBounds i) clock)
        hb rfl rfl hat (by simp) (fun e he => hlt e (List.mem_of_mem_eraseIdx he)) (by
          simp only [rel]; congr 1
          apply Array.ext'
          simp [erase_map])
      refine ⟨w', ?_, hR', hE, rfl⟩
      simp only [Builtin.delete_, List.getElem?_toArray, List.getElem?_cons_zero, List.getElem?_cons_succ, Sem.run_bind, run_underlying hu, Result.andThen_ok, conc_map, hget, hck, run_find hd hf, Option.map_some,
        hset, Sem.run_pure]
    · rename_i hf
      simp only [Option.some.injEq] at h; subst h
      obtain ⟨w', hset, hR', hE⟩ := hR.setObj (o' := .map es clock) (co' := .map ⟨es.map (concE σ)⟩ clock) hb rfl rfl hat (by simp) hlt rfl
      refine ⟨w', ?_, hR', hE, rfl⟩
      simp only [Builtin.delete_, List.getElem?_toArray, List.getElem?_cons_zero, List.getElem?_cons_succ, Sem.run_bind, run_underlying hu, Result.andThen_ok, conc_map, hget, hck, run_find hd hf, Option.map_none,
        hset, Sem.run_pure]
    · cases h

end
end Go.Abs
