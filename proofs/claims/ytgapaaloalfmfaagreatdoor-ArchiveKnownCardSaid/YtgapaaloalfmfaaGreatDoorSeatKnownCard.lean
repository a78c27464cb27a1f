/- caravanlaw19.ArchiveKnown returns true, whatever the world in which it is called (a closed statement: it has no input). Conditions: those of its row alone (the listed tables of the library hold what the program's text lays; the card ties them). -/
import Derived.Test.YtgapaaloalfmfaaGreatDoorSeatKnownRun
import Derived.Test.YtgapaaloalfmfaaGreatDoorSeatKnownFacts
import Derived.Test.YtgapaaloalfmfaaGreatDoorCards
import Derived.Test.YtgapaaloalfmfaaGreatDoorTie
import Derived.WalkKit
import Derived.ProofKit
import Derived.OpenShut
import Derived.SizedLaws
import Derived.Lay
import Derived.MakeChecks
set_option linter.unusedVariables false
set_option linter.unusedSimpArgs false
set_option linter.unusedSectionVars false
namespace Go.Proofs.YtgapaaloalfmfaaGreatDoor
open Go Go.Abs Go.ChangeShapes Go.WideShapes Go.ChangeAt Go.RowKit
set_option maxRecDepth 100000

theorem own : ownKnob Tryz.prog.godebug = none := by kernel_rfl
theorem globals_le : Nat.ble Tryz.prog.globals.size 14 = true := by kernel_rfl
theorem start_ge : Nat.ble 15 (begin Tryz.prog (fun _ _ => 0) default).world.heap.size = true := by kernel_rfl
theorem heap_size {W : World} (h : W.ShapedOpen Tryz.prog) : 15 ≤ W.heap.size := by
  obtain ⟨o, _, ho, _⟩ := h.2 14 (Nat.le_of_ble_eq_true globals_le) (Nat.le_of_ble_eq_true start_ge)
  have := (Array.getElem?_eq_some_iff.1 ho).1
  omega

theorem archiveKnown_lifted (os : Os) (started : os.Started) (H : Type) (enc : TypeId × Value → H) :
    ReturnsInHanded {} Tryz.checked os 10 .any (fun w args => (Rows.archiveKnownSpec.pre enc Tryz.prog Tryz.f10 [] false w args ∧ laidMetH Tryz.prog Rows.archiveKnownRow.laid w) ∧ sizedMet enc Tryz.prog Tryz.f10 (OpenSpec.ofChange Rows.archiveKnownSpec) false w args)
      (Rows.archiveKnownSpec.post enc Tryz.prog Tryz.f10 false true false false) := by
  refine returnsInHanded_of_calls own started (by kernel_rfl)
    (ChangeSpec.witness_shaped (enc := enc) (C := Tryz.checked) (os := os) (X := fun w _ => laidMetH Tryz.prog Rows.archiveKnownRow.laid w) false (World.laidAll Tryz.prog os Rows.archiveKnownRow.laid) #[] 8 (World.laidAll_os _ _ _)
      (World.shaped_of_ZipB (by kernel_rfl) (by kernel_rfl)) (by kernel_rfl) (by kernel_rfl) (by kernel_rfl)
      (by rw [MakeChecks.laidMetH_plain _ _ _ (by kernel_rfl)]; exact laidMet_laidAll _ (by kernel_rfl) (by kernel_rfl))) ?_
  intro w tape i _ hsh _ hok hpre _
  obtain ⟨⟨⟨ds, gs, before, hw, _⟩, _⟩, _⟩ := hpre
  have hW := DataW.Whole.of_heap (w' := w.forCall tape i) (by rfl) hw
  generalize w.forCall tape i = W at hsh hW
  generalize i.args = args at hW
  have hW' := hW
  obtain ⟨p, q, hA0, hV, rfl, _, _⟩ := hW
  have hA : DataW.TrodAll enc Tryz.prog W 0 (fun _ => true) true Tryz.f10.params.toList args.toList ds p := hA0
  rw [Tryz.params10] at hA
  obtain ⟨hargs, rfl, rfl⟩ := trodAll_nil hA
  obtain rfl : args = #[] := by cases args; simp_all
  obtain ⟨rfl, rfl⟩ := trodVars_none hV
  refine (archiveKnown_fact.run W (heap_size hsh)).mono ?_
  rintro e W' ⟨rfl, hb⟩
  refine ChangeSpec.post_blind ?_
  exact ⟨_, _, _, [], [], [], hW', trodAll_cons_mk (shut_bool Tryz.underlying4 _) trodAll_mk0, trodAll_mk0, rfl, hb.frame _, fun h => by cases h⟩

theorem archiveKnown_said : Rows.ArchiveKnownSaid :=
  OpenClaim.holds_of_wide 10 Tryz.f10 rfl rfl rfl rfl rfl rfl rfl ⟨rfl, rfl, rfl, rfl, rfl⟩ rfl rfl rfl rfl rfl archiveKnownFacts.named Tryz.func10 archiveKnownFacts.closed
    archiveKnownFacts.inst archiveKnownFacts.wrap (fun os started H enc _ => archiveKnown_lifted os started H enc)

theorem archiveKnown_plain (f : FuncId) (fn : Func) (hf : Tryz.pinned.checked.prog.funcNamed "caravan/caravanlaw19.ArchiveKnown" = some f) (hfn : Tryz.pinned.checked.prog.funcs[f]? = some fn) :
    true = Tryz.pinned.checked.prog.looks [] ∧ ∀ (j : Nat) t, fn.params[j]? = some t → Tryz.pinned.checked.prog.wantsStandIn t = false := by
  obtain rfl : f = 10 := Option.some.inj (archiveKnownFacts.named.symm.trans hf) |>.symm
  obtain rfl : fn = Tryz.f10 := (Option.some.inj (Tryz.func10.symm.trans hfn)).symm
  refine ⟨archiveKnownFacts.looks, fun j t ht => ?_⟩
  rw [Tryz.params10] at ht
  simp at ht

/-- THE CARD. -/
theorem archiveKnown_card : Rows.ArchiveKnownCardSaid :=
  Claim7.holds_tied_plain_at .later [] _ _ _ _ archiveKnown_said (fun _ h => by cases h) archiveKnownFacts.wfText (fun _ h => by cases h) archiveKnown_row_tie rfl ⟨rfl, rfl⟩ (by kernel_rfl) rfl archiveKnown_plain archiveKnownFacts.goes
end Go.Proofs.YtgapaaloalfmfaaGreatDoor
