/- BoundKnown holds: called in any memory in which the listed package-level variables hold what the program's text lays, it returns true, and changes nothing that was there. There is no argument and no further condition. -/
import Derived.Test.YtenkdblhfejiaaaGreatDoorTie
import Derived.Test.YtenkdblhfejiaaaGreatDoorCards
import Derived.Test.YtenkdblhfejiaaaGreatDoorRunA
import Derived.Test.YtenkdblhfejiaaaGreatDoorRunB
import Derived.Test.YtenkdblhfejiaaaGreatDoorFacts
import Derived.Test.YtenkdblhfejiaaaGreatDoorFactsB
import Derived.Test.YtenkdblhfejiaaaGreatDoorFactsC
import Derived.SevenTiedAt
set_option linter.all false
namespace Go.Proofs.YtenkdblhfejiaaaGreatDoor
open Go.ChangeShapes Go.WideShapes Go.ChangeAt Go.RowKit Go.RX

namespace BoundKnownProof
theorem own : ownKnob Tryz.prog.godebug = none := by kernel_rfl
theorem laidOut : laidOutB Tryz.prog = true := by kernel_rfl
theorem bool4 : Tryz.prog.underlying 4 = some .bool := by kernel_rfl

/-- What the row's list gives: the variable's cells lie in the world. -/
theorem lies {W : World} (h : laidMetH Tryz.prog Rows.boundKnownRow.laid W) : Lies env W := by
  rw [MakeChecks.laidMetH_plain _ _ _ (by kernel_rfl)] at h
  obtain ⟨ps, hL, -, -⟩ := h
  refine ⟨fun g cs hg => ?_, fun a ks h => by simp [env] at h⟩
  have hg0 : g = 0 ∧ cs = stepsCells := by
    simp only [env] at hg
    split at hg
    · simp only [Option.some.injEq] at hg
      exact ⟨rfl, hg.symm⟩
    · cases hg
  obtain ⟨rfl, rfl⟩ := hg0
  obtain ⟨arr, el, fz, h1, h2⟩ := laid_cells (n := 2) (s := "wakeman/mix.steps") (d := Rows.laid_wakeman_mix_steps) hL (by kernel_rfl) 0 401 4
    [.int .i64 30, .int .u64 13787848793156543929, .int .i64 27, .int .u64 10723151780598845931, .int .i64 31, .int .u64 1] (by kernel_rfl) (by kernel_rfl) (by kernel_rfl)
  exact ⟨arr, el, fz, h1, cells_known (by kernel_rfl) h2⟩

theorem works_name (vals : Array Value) (w : World) : (callFunc 12 vals).run env.P w = .ok (.enter 12 vals) w := by kernel_rfl
theorem works_calls (w : World) (h : Lies env w) : Calls env.P 12 #[] w fun e w' => e = .returned (.bool true) ∧ On w w' := by
  obtain ⟨S', hr⟩ := isBool_some works_run
  exact run_bool (known_nothing env) hr .nil (num_nothing rfl rfl rfl) h
theorem known : Known env knowWorks := known_bool works_name works_calls (known_nothing env)
theorem law_calls (w : World) (h : Lies env w) : Calls env.P 3 #[] w fun e w' => e = .returned (.bool true) ∧ On w w' := by
  obtain ⟨S', hr⟩ := isBool_some known_run
  exact run_bool known hr .nil (num_nothing rfl rfl rfl) h

set_option maxRecDepth 100000 in
theorem lifted (os : Os) (started : os.Started) (H : Type) (enc : TypeId × Value → H) :
    ReturnsInHanded {} Tryz.checked os 3 .any (fun w args => (Rows.boundKnownSpec.pre enc Tryz.prog Tryz.f3 Rows.boundKnownRow.domain false w args ∧ laidMetH Tryz.prog Rows.boundKnownRow.laid w) ∧ sizedMet enc Tryz.prog Tryz.f3 (OpenSpec.ofChange Rows.boundKnownSpec) false w args)
      (Rows.boundKnownSpec.post enc Tryz.prog Tryz.f3 false true false false) := by
  refine returnsInHanded_of_change_and (C := Tryz.checked) (X := fun w _ => laidMetH Tryz.prog Rows.boundKnownRow.laid w) (fun _ _ _ hh h => h.of_heap hh) own started (by kernel_rfl) Tryz.func3
    (ChangeSpec.witness_shaped (enc := enc) (C := Tryz.checked) (os := os) (X := fun w _ => laidMetH Tryz.prog Rows.boundKnownRow.laid w) false (World.laidAll Tryz.prog os Rows.boundKnownRow.laid) #[] 8 (World.laidAll_os _ _ _)
      (World.shaped_of_ZipB (by kernel_rfl) (by kernel_rfl)) (by kernel_rfl) (by kernel_rfl) (by kernel_rfl)
      (by rw [MakeChecks.laidMetH_plain _ _ _ (by kernel_rfl)]; exact laidMet_laidAll _ (by kernel_rfl) (by kernel_rfl))) ?_
  intro W base args ds gs before hval0 hW _ _ hL _
  have hW' := hW
  obtain ⟨p, q, hA0, hV, rfl, hfz, hnd⟩ := hW
  have hA : DataW.TrodAll enc Tryz.prog W 0 (fun _ => true) true [] args.toList ds p := hA0
  obtain ⟨hargs, rfl, rfl⟩ := trodAll_nil hA
  obtain ⟨rfl, rfl⟩ := trodVars_none hV
  obtain rfl : args = #[] := by cases args; simp_all
  refine (law_calls W (lies hL)).mono fun e W' ⟨he, ho⟩ => ?_
  subst he
  exact ⟨_, rfl, law_post laidOut rfl rfl bool4 (by kernel_rfl) hW' rfl ho⟩

theorem said : Rows.BoundKnownSaid :=
  OpenClaim.holds_of_wide 3 Tryz.f3 rfl rfl rfl rfl rfl rfl rfl ⟨rfl, rfl, rfl, rfl, rfl⟩ rfl rfl rfl rfl rfl BoundKnownFacts.funcNo Tryz.func3 BoundKnownFacts.closed
    (of_decide_eq_true (by kernel_rfl)) (by unfold Func.isWrapper; first | (rw [if_pos (by decide +kernel)]; kernel_rfl) | (rw [if_neg (by decide +kernel)]; exact ⟨rfl, rfl⟩))
    (fun os started H enc _ => lifted os started H enc)
theorem plain (f : FuncId) (fn : Func) (hf : Tryz.pinned.checked.prog.funcNamed "wakeman/wakemanlaw43.BoundKnown" = some f) (hfn : Tryz.pinned.checked.prog.funcs[f]? = some fn) :
    false = Tryz.pinned.checked.prog.looks [] ∧ ∀ (j : Nat) t, fn.params[j]? = some t → Tryz.pinned.checked.prog.wantsStandIn t = false := by
  obtain rfl : f = 3 := Option.some.inj (BoundKnownFacts.funcNo.symm.trans hf) |>.symm
  obtain rfl : fn = Tryz.f3 := (Option.some.inj (Tryz.func3.symm.trans hfn)).symm
  refine ⟨BoundKnownFacts.looks, fun j t ht => ?_⟩
  have hall : (Tryz.f3.params.toList.all fun u => !Tryz.prog.wantsStandIn u) = true := by kernel_rfl
  have hm : t ∈ Tryz.f3.params.toList := by simpa using Array.mem_of_getElem? ht
  exact (show Tryz.prog.wantsStandIn t = false by simpa using List.all_eq_true.1 hall t hm)
end BoundKnownProof

theorem boundKnown_card : Rows.BoundKnownCardSaid :=
  Claim7.holds_tied_plain_at .later [] _ _ _ _ BoundKnownProof.said (fun _ h => by cases h) BoundKnownFacts.wfText (fun _ h => by cases h) boundKnown_row_tie rfl ⟨rfl, rfl⟩ BoundKnownFacts.mainIs rfl BoundKnownProof.plain BoundKnownFacts.goes
end Go.Proofs.YtenkdblhfejiaaaGreatDoor
