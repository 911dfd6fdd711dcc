/- JournalFull holds: called in any memory in which the listed package-level variables hold what the program's text lays, it returns true, and changes nothing that was there. There is no further condition. -/
import Derived.Test.YtcbkglclienegaaGreatDoorTie
import Derived.Test.YtcbkglclienegaaGreatDoorCards
import Derived.Test.YtcbkglclienegaaGreatDoorJH
import Derived.Test.YtcbkglclienegaaGreatDoorJournalFullFacts
import Derived.Test.YtcbkglclienegaaGreatDoorJournalFullFactsB
import Derived.Test.YtcbkglclienegaaGreatDoorJournalFullFactsC
import Derived.SevenTiedAt
set_option linter.all false
namespace Go.Proofs.YtcbkglclienegaaGreatDoor
open Go.ChangeShapes Go.WideShapes Go.ChangeAt Go.RowKit Go.RX

namespace JournalFullProof
theorem own : ownKnob Tryz.prog.godebug = none := by kernel_rfl
theorem laidOut : laidOutB Tryz.prog = true := by kernel_rfl
theorem bool4 : Tryz.prog.underlying 4 = some .bool := by kernel_rfl

/-- What the row's list gives: the variables' cells lie in the world. -/
theorem lies (σ : Sig) {W : World} (h : laidMetH Tryz.prog Rows.journalFullRow.laid W) : Lies (env σ) W := by
  rw [MakeChecks.laidMetH_plain _ _ _ (by kernel_rfl)] at h
  obtain ⟨ps, hL, -, -⟩ := h
  refine ⟨fun g cs hg => ?_, fun a ks h => by cases h⟩
  have hg : globals g = some cs := hg
  unfold globals at hg
  split at hg
  · simp only [Option.some.injEq] at hg
    subst hg
    obtain ⟨arr, el, fz, h1, h2⟩ := laid_cells (n := 1) (s := "math/bits.deBruijn64tab") (d := Rows.laid_math_bits_deBruijn64tab) hL (by kernel_rfl) 5 612 4 tabVals (by kernel_rfl) (by kernel_rfl) (by kernel_rfl)
    exact ⟨arr, el, fz, h1, cells_known (by kernel_rfl) h2⟩
  · simp only [Option.some.injEq] at hg
    subst hg
    obtain ⟨arr, el, fz, h1, h2⟩ := laid_cells (n := 4) (s := "wakeman/mix.steps") (d := Rows.laid_wakeman_mix_steps) hL (by kernel_rfl) 0 467 4 stepsVals (by kernel_rfl) (by kernel_rfl) (by kernel_rfl)
    exact ⟨arr, el, fz, h1, cells_known (by kernel_rfl) h2⟩
  · cases hg

theorem laid_met (os : Os) (args : Array Value) : laidMetH Tryz.prog Rows.journalFullRow.laid ((World.laidAll Tryz.prog os Rows.journalFullRow.laid).forCall (fun _ _ => 0) ⟨#[], args, []⟩).memory := by
  rw [MakeChecks.laidMetH_plain _ _ _ (by kernel_rfl)]
  exact laidMet_laidAll _ (by kernel_rfl) (by kernel_rfl)

set_option maxRecDepth 100000 in
theorem lifted (os : Os) (started : os.Started) (H : Type) (enc : TypeId × Value → H) :
    ReturnsInHanded {} Tryz.checked os 3 .any (fun w args => (Rows.journalFullSpec.pre enc Tryz.prog Tryz.f3 Rows.journalFullRow.domain false w args ∧ laidMetH Tryz.prog Rows.journalFullRow.laid w) ∧ sizedMet enc Tryz.prog Tryz.f3 (OpenSpec.ofChange Rows.journalFullSpec) false w args)
      (Rows.journalFullSpec.post enc Tryz.prog Tryz.f3 false true false false) := by
  refine returnsInHanded_of_change_and (C := Tryz.checked) (X := fun w _ => laidMetH Tryz.prog Rows.journalFullRow.laid w) (fun _ _ _ hh h => h.of_heap hh) own started (by kernel_rfl) Tryz.func3
    (ChangeSpec.witness_shaped (enc := enc) (C := Tryz.checked) (os := os) (X := fun w _ => laidMetH Tryz.prog Rows.journalFullRow.laid w) false (World.laidAll Tryz.prog os Rows.journalFullRow.laid) #[] 8 (World.laidAll_os _ _ _)
      (World.shaped_of_ZipB (by kernel_rfl) (by kernel_rfl)) (by kernel_rfl) (by kernel_rfl) (by kernel_rfl) (laid_met os _)) ?_
  intro W base args ds gs before hval0 hW _ _ hL _
  have hW' := hW
  obtain ⟨p, q, hA0, hV, rfl, hfz, hnd⟩ := hW
  have hA : DataW.TrodAll enc Tryz.prog W 0 (fun _ => true) true [] args.toList ds p := hA0
  obtain ⟨hargs, rfl, rfl⟩ := trodAll_nil hA
  obtain ⟨rfl, rfl⟩ := trodVars_none hV
  obtain rfl : args = #[] := by cases args; simp_all
  refine (law_calls (fun σ => lies σ hL)).mono fun e W' ⟨he, ho⟩ => ?_
  subst he
  exact ⟨_, rfl, law_post laidOut rfl rfl bool4 (by kernel_rfl) hW' rfl ho⟩

theorem said : Rows.JournalFullSaid :=
  OpenClaim.holds_of_wide 3 Tryz.f3 rfl rfl rfl rfl rfl rfl rfl ⟨rfl, rfl, rfl, rfl, rfl⟩ rfl rfl rfl rfl rfl JournalFullFacts.funcNo Tryz.func3 JournalFullFacts.closed
    (of_decide_eq_true (by kernel_rfl)) (by unfold Func.isWrapper; first | (rw [if_pos (by decide +kernel)]; kernel_rfl) | (rw [if_neg (by decide +kernel)]; exact ⟨rfl, rfl⟩))
    (fun os started H enc _ => lifted os started H enc)
theorem plain (f : FuncId) (fn : Func) (hf : Tryz.pinned.checked.prog.funcNamed "wakeman/wakemanlaw42.JournalFull" = some f) (hfn : Tryz.pinned.checked.prog.funcs[f]? = some fn) :
    true = Tryz.pinned.checked.prog.looks [] ∧ ∀ (j : Nat) t, fn.params[j]? = some t → Tryz.pinned.checked.prog.wantsStandIn t = false := by
  obtain rfl : f = 3 := Option.some.inj (JournalFullFacts.funcNo.symm.trans hf) |>.symm
  obtain rfl : fn = Tryz.f3 := (Option.some.inj (Tryz.func3.symm.trans hfn)).symm
  refine ⟨JournalFullFacts.looks, fun j t ht => ?_⟩
  have hall : (Tryz.f3.params.toList.all fun u => !Tryz.prog.wantsStandIn u) = true := by kernel_rfl
  have hm : t ∈ Tryz.f3.params.toList := by simpa using Array.mem_of_getElem? ht
  exact (show Tryz.prog.wantsStandIn t = false by simpa using List.all_eq_true.1 hall t hm)
end JournalFullProof

theorem journalFull_card : Rows.JournalFullCardSaid :=
  Claim7.holds_tied_plain_at .later [] _ _ _ _ JournalFullProof.said (fun _ h => by cases h) JournalFullFacts.wfText (fun _ h => by cases h) journalFull_row_tie rfl ⟨rfl, rfl⟩ JournalFullFacts.mainIs rfl JournalFullProof.plain JournalFullFacts.goes
end Go.Proofs.YtcbkglclienegaaGreatDoor
