/- WitnessKnown holds: called in any memory in which the listed package-level variables hold what the program's text lays, it returns true, and changes nothing that was there. There is no argument and no further condition. -/
import Derived.Test.YthblcnkmhnpgiaaGreatDoorTie
import Derived.Test.YthblcnkmhnpgiaaGreatDoorCards
import Derived.Test.YthblcnkmhnpgiaaGreatDoorBase
import Derived.Test.YthblcnkmhnpgiaaGreatDoorRunK
import Derived.Test.YthblcnkmhnpgiaaGreatDoorWitnessKnownFacts
import Derived.Test.YthblcnkmhnpgiaaGreatDoorWitnessKnownFactsB
import Derived.Test.YthblcnkmhnpgiaaGreatDoorWitnessKnownFactsC
set_option linter.all false
namespace Go.Proofs.YthblcnkmhnpgiaaGreatDoor
open Go.ChangeShapes Go.WideShapes Go.ChangeAt Go.RowKit Go.RX

namespace WitnessKnownProof
theorem laid_met (os : Os) (args : Array Value) : laidMetH Tryz.prog Rows.witnessKnownRow.laid ((World.laidAll Tryz.prog os Rows.witnessKnownRow.laid).forCall (fun _ _ => 0) ⟨#[], args, []⟩).memory := by
  rw [MakeChecks.laidMetH_plain _ _ _ (by kernel_rfl)]
  exact laidMet_laidAll _ (by kernel_rfl) (by kernel_rfl)
theorem law_calls {W : World} (h : laidMetH Tryz.prog Rows.witnessKnownRow.laid W) : Calls Tryz.prog 4 #[] W fun e w' => e = .returned (.bool true) ∧ On W w' := by
  obtain ⟨S', hr⟩ := isBool_some (known_run sig0)
  have hk : Known (env sig0) (knowK sig0) := known_bool (E := env sig0) works_name (works_calls sig0) (kkd_known sig0 (kkc_known sig0 (kkb_known sig0 (kka_known sig0 (knows sig0)))))
  have := run_bool (E := env sig0) hk hr .nil (num sig0) (lies_laid _ rfl rfl h)
  exact this

set_option maxRecDepth 100000 in
theorem lifted (os : Os) (started : os.Started) (H : Type) (enc : TypeId × Value → H) :
    ReturnsInHanded {} Tryz.checked os 4 .any (fun w args => (Rows.witnessKnownSpec.pre enc Tryz.prog Tryz.f4 Rows.witnessKnownRow.domain false w args ∧ laidMetH Tryz.prog Rows.witnessKnownRow.laid w) ∧ sizedMet enc Tryz.prog Tryz.f4 (OpenSpec.ofChange Rows.witnessKnownSpec) false w args)
      (Rows.witnessKnownSpec.post enc Tryz.prog Tryz.f4 false true false false) := by
  refine returnsInHanded_of_change_and (C := Tryz.checked) (X := fun w _ => laidMetH Tryz.prog Rows.witnessKnownRow.laid w) (fun _ _ _ hh h => h.of_heap hh) ownKnobs started (by kernel_rfl) Tryz.func4
    (ChangeSpec.witness_shaped (enc := enc) (C := Tryz.checked) (os := os) (X := fun w _ => laidMetH Tryz.prog Rows.witnessKnownRow.laid w) false (World.laidAll Tryz.prog os Rows.witnessKnownRow.laid) #[] 8 (World.laidAll_os _ _ _)
      (World.shaped_of_ZipB (by kernel_rfl) (by kernel_rfl)) (by kernel_rfl) (by kernel_rfl) (by kernel_rfl) (laid_met os _)) ?_
  intro W base args ds gs before hval0 hW _ _ hL _
  have hW' := hW
  obtain ⟨p, q, hA0, hV, rfl, hfz, hnd⟩ := hW
  have hA : DataW.TrodAll enc Tryz.prog W 0 (fun _ => true) true [] args.toList ds p := hA0
  obtain ⟨hargs, rfl, rfl⟩ := trodAll_nil hA
  obtain ⟨rfl, rfl⟩ := trodVars_none hV
  obtain rfl : args = #[] := by cases args; simp_all
  refine (law_calls hL).mono fun e W' ⟨he, ho⟩ => ?_
  subst he
  exact ⟨_, rfl, law_post laidOut rfl rfl bool4 (by kernel_rfl) hW' rfl ho⟩

theorem said : Rows.WitnessKnownSaid :=
  OpenClaim.holds_of_wide 4 Tryz.f4 rfl rfl rfl rfl rfl rfl rfl ⟨rfl, rfl, rfl, rfl, rfl⟩ rfl rfl rfl rfl rfl WitnessKnownFacts.funcNo Tryz.func4 WitnessKnownFacts.closed
    (of_decide_eq_true (by kernel_rfl)) (by unfold Func.isWrapper; first | (rw [if_pos (by decide +kernel)]; kernel_rfl) | (rw [if_neg (by decide +kernel)]; exact ⟨rfl, rfl⟩))
    (fun os started H enc _ => lifted os started H enc)
theorem plain (f : FuncId) (fn : Func) (hf : Tryz.pinned.checked.prog.funcNamed "wakeman/wakemanlaw44.WitnessKnown" = some f) (hfn : Tryz.pinned.checked.prog.funcs[f]? = some fn) :
    false = Tryz.pinned.checked.prog.looks [] ∧ ∀ (j : Nat) t, fn.params[j]? = some t → Tryz.pinned.checked.prog.wantsStandIn t = false := by
  obtain rfl : f = 4 := Option.some.inj (WitnessKnownFacts.funcNo.symm.trans hf) |>.symm
  obtain rfl : fn = Tryz.f4 := (Option.some.inj (Tryz.func4.symm.trans hfn)).symm
  refine ⟨WitnessKnownFacts.looks, fun j t ht => ?_⟩
  have hall : (Tryz.f4.params.toList.all fun u => !Tryz.prog.wantsStandIn u) = true := by kernel_rfl
  have hm : t ∈ Tryz.f4.params.toList := by simpa using Array.mem_of_getElem? ht
  exact (show Tryz.prog.wantsStandIn t = false by simpa using List.all_eq_true.1 hall t hm)
end WitnessKnownProof

theorem witnessKnown_card : Rows.WitnessKnownCardSaid :=
  Claim7.holds_tied_plain_at .later [] _ _ _ _ WitnessKnownProof.said (fun _ h => by cases h) WitnessKnownFacts.wfText (fun _ h => by cases h) witnessKnown_row_tie rfl ⟨rfl, rfl⟩ WitnessKnownFacts.mainIs rfl WitnessKnownProof.plain WitnessKnownFacts.goes
end Go.Proofs.YthblcnkmhnpgiaaGreatDoor
