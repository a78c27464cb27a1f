/- The program's library bodies that stand in the model; which types are compared part by part. -/
import Derived.Test.YtgapaaloalfmfaaGreatDoorEngRun2
import Derived.Test.YtgapaaloalfmfaaGreatDoorProg
import Derived.KernelRfl
set_option linter.unusedVariables false
set_option linter.unusedSimpArgs false
set_option linter.unusedSectionVars false
namespace Go.Proofs.YtgapaaloalfmfaaGreatDoor
open Go Go.Abs
set_option maxRecDepth 100000

def eqsT : List TypeId := [2, 3, 4, 5, 6, 7, 9, 10, 11, 12, 21, 22, 23, 24, 42, 66, 67, 95, 96, 99, 100, 101, 104, 108, 109, 112, 119, 120, 150, 151, 165, 166, 167, 168, 190, 191, 197, 198, 230, 231, 308, 309, 343, 367, 373, 374, 375, 400, 426, 430, 434, 440, 444, 457, 458, 459, 460, 469, 470, 481, 482, 489, 490, 492, 493]

theorem eqsT_all : (eqsT.all fun t => !(Tryz.prog.eqGuardType Tryz.prog.depth t) && Tryz.prog.keyTypeAt 10 t) = true := by kernel_rfl
theorem namedT_all : (Tryz.prog.funcs.toList.all fun fn => fn.body.isNone || !(fn.name == "runtime.NumGoroutine")) = true := by kernel_rfl

theorem ext318 : ∃ fn, Tryz.prog.funcs[318]? = some fn ∧ (fn.name == "runtime.NumGoroutine") = false ∧ fn.body = none ∧ Extern.findNext fn = none ∧ Extern.find fn = some Extern.MapsClone.clone :=
  ⟨Tryz.f318, Tryz.func318, by kernel_rfl, by kernel_rfl, by kernel_rfl, by kernel_rfl⟩
theorem ext351 : ∃ fn, Tryz.prog.funcs[351]? = some fn ∧ (fn.name == "runtime.NumGoroutine") = false ∧ fn.body = none ∧ Extern.findNext fn = none ∧ Extern.find fn = some Ext1.count.fn :=
  ⟨Tryz.f351, Tryz.func351, by kernel_rfl, by kernel_rfl, by kernel_rfl, by kernel_rfl⟩
theorem ext408 : ∃ fn, Tryz.prog.funcs[408]? = some fn ∧ (fn.name == "runtime.NumGoroutine") = false ∧ fn.body = none ∧ Extern.findNext fn = none ∧ Extern.find fn = some Ext1.indexByte.fn :=
  ⟨Tryz.f408, Tryz.func408, by kernel_rfl, by kernel_rfl, by kernel_rfl, by kernel_rfl⟩
theorem ext278 : ∃ fn, Tryz.prog.funcs[278]? = some fn ∧ (fn.name == "runtime.NumGoroutine") = false ∧ fn.body = none ∧ Extern.findNext fn = none ∧ Extern.find fn = some Ext1.same.fn :=
  ⟨Tryz.f278, Tryz.func278, by kernel_rfl, by kernel_rfl, by kernel_rfl, by kernel_rfl⟩

def KT : Known Tryz.prog where
  eqs := eqsT
  ok := by
    intro t ht
    have h := List.all_eq_true.1 eqsT_all t ht
    simp only [Bool.and_eq_true, Bool.not_eq_true'] at h
    exact ⟨h.1, 10, by omega, h.2⟩
  G := 15
  clones := [318]
  isClone := by
    intro f hf
    simp only [List.mem_singleton] at hf
    subst hf
    exact ext318
  exts := [(351, .count), (408, .indexByte), (278, .same)]
  isExt := by
    intro p hp
    simp only [List.mem_cons, List.not_mem_nil, or_false] at hp
    rcases hp with rfl | rfl | rfl
    · exact ext351
    · exact ext408
    · exact ext278
  named := by
    intro f fn hf hb
    have h := List.all_eq_true.1 namedT_all fn (Array.mem_toList_iff.2 (Array.mem_of_getElem? hf))
    cases hq : fn.body with
    | none => rw [hq] at hb; cases hb
    | some c => rw [hq] at h; simpa using h

theorem KT_ok : KT.Ok := ⟨by kernel_rfl⟩

end Go.Proofs.YtgapaaloalfmfaaGreatDoor
