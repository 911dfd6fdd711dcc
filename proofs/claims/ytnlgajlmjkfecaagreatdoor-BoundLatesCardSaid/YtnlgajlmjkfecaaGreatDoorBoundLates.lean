/- BoundLates holds: called with any list of events (none, or events that lie in memory, as the row's precondition says), it returns true, and changes nothing that was there. There is no further condition. -/
import Derived.Test.YtnlgajlmjkfecaaGreatDoorTie
import Derived.Test.YtnlgajlmjkfecaaGreatDoorCards
import Derived.Test.YtnlgajlmjkfecaaGreatDoorOpen
import Derived.Test.YtnlgajlmjkfecaaGreatDoorFacts
import Derived.Test.YtnlgajlmjkfecaaGreatDoorFactsB
import Derived.Test.YtnlgajlmjkfecaaGreatDoorFactsC
import Derived.SevenTiedAt
set_option linter.all false
namespace Go.Proofs.YtnlgajlmjkfecaaGreatDoor
open Go.ChangeShapes Go.WideShapes Go.ChangeAt Go.RowKit Go.RX

namespace BoundLatesProof
theorem own : ownKnob Tryz.prog.godebug = none := by kernel_rfl
theorem laidOut : laidOutB Tryz.prog = true := by kernel_rfl
theorem bool4 : Tryz.prog.underlying 4 = some .bool := by kernel_rfl
theorem laid_met (os : Os) (args : Array Value) : laidMetH Tryz.prog Rows.boundLatesRow.laid ((World.laidAll Tryz.prog os Rows.boundLatesRow.laid).forCall (fun _ _ => 0) ⟨#[], args, []⟩).memory := by
  rw [MakeChecks.laidMetH_plain _ _ _ (by kernel_rfl)]
  exact laidMet_laidAll _ (by kernel_rfl) (by kernel_rfl)
theorem param : Tryz.f8.params[0]? = some 77 := by kernel_rfl

theorem law_calls {W : World} {v : Value} (h : v = .slice none 0 0 ∨ ∃ (e : Evs) (cap : Nat), v = .slice (some ⟨e.b, e.x, none⟩) e.n cap ∧ e.Fits W) : Calls Tryz.prog 8 #[v] W fun e w' => e = .returned (.bool true) ∧ On W w' := by
  rcases h with rfl | ⟨e, cap, rfl, he⟩
  · exact law_nil W
  · exact law_row he cap

set_option maxRecDepth 100000 in
theorem lifted (os : Os) (started : os.Started) (H : Type) (enc : TypeId × Value → H) :
    ReturnsInHanded {} Tryz.checked os 8 .any (fun w args => (Rows.boundLatesSpec.pre enc Tryz.prog Tryz.f8 Rows.boundLatesRow.domain false w args ∧ laidMetH Tryz.prog Rows.boundLatesRow.laid w) ∧ sizedMet enc Tryz.prog Tryz.f8 (OpenSpec.ofChange Rows.boundLatesSpec) false w args)
      (Rows.boundLatesSpec.post enc Tryz.prog Tryz.f8 false true false false) := by
  refine returnsInHanded_of_change_and (C := Tryz.checked) (X := fun w _ => laidMetH Tryz.prog Rows.boundLatesRow.laid w) (fun _ _ _ hh h => h.of_heap hh) own started (by kernel_rfl) Tryz.func8
    (ChangeSpec.witness_shaped (enc := enc) (C := Tryz.checked) (os := os) (X := fun w _ => laidMetH Tryz.prog Rows.boundLatesRow.laid w) false (World.laidAll Tryz.prog os Rows.boundLatesRow.laid) #[.slice none 0 0] 8 (World.laidAll_os _ _ _)
      (World.shaped_of_ZipB (by kernel_rfl) (by kernel_rfl)) (by kernel_rfl) (by kernel_rfl) (by kernel_rfl) (laid_met os _)) ?_
  intro W base args ds gs before hval0 hW _ _ hL _
  have hW' := hW
  obtain ⟨p, q, hA0, hV, rfl, hfz, hnd⟩ := hW
  have hA : DataW.TrodAll enc Tryz.prog W 0 (fun _ => true) true [77] args.toList ds p := hA0
  obtain ⟨v, vs, d, ds1, pa, pb, hvs, rfl, rfl, ⟨fuel, h1⟩, h2⟩ := trodAll_cons hA
  obtain ⟨rfl, rfl, rfl⟩ := trodAll_nil h2
  obtain ⟨rfl, rfl⟩ := trodVars_none hV
  obtain rfl : args = #[v] := by cases args; simp_all
  have hval : Value.okWide Tryz.prog W .any base 77 v := hval0 0 77 v param rfl
  obtain ⟨a, len, cap, rfl⟩ := okWide_slice event_slice hval
  have h1' : DataW.trod enc Tryz.prog W 0 (fun _ => true) true fuel 77 [.slice a len cap] = some (d, pa) := h1
  refine (law_calls (opened hval h1')).mono fun e W' ⟨he, ho⟩ => ?_
  subst he
  exact ⟨_, rfl, law_post laidOut rfl rfl bool4 (by kernel_rfl) hW' rfl ho⟩

theorem said : Rows.BoundLatesSaid :=
  OpenClaim.holds_of_wide 8 Tryz.f8 rfl rfl rfl rfl rfl rfl rfl ⟨rfl, rfl, rfl, rfl, rfl⟩ rfl rfl rfl rfl rfl BoundLatesFacts.funcNo Tryz.func8 BoundLatesFacts.closed
    (of_decide_eq_true (by kernel_rfl)) (by unfold Func.isWrapper; first | (rw [if_pos (by decide +kernel)]; kernel_rfl) | (rw [if_neg (by decide +kernel)]; exact ⟨rfl, rfl⟩))
    (fun os started H enc _ => lifted os started H enc)
theorem plain (f : FuncId) (fn : Func) (hf : Tryz.pinned.checked.prog.funcNamed "wakeman/wakemanlaw43.BoundLates" = some f) (hfn : Tryz.pinned.checked.prog.funcs[f]? = some fn) :
    false = Tryz.pinned.checked.prog.looks [] ∧ ∀ (j : Nat) t, fn.params[j]? = some t → Tryz.pinned.checked.prog.wantsStandIn t = false := by
  obtain rfl : f = 8 := Option.some.inj (BoundLatesFacts.funcNo.symm.trans hf) |>.symm
  obtain rfl : fn = Tryz.f8 := (Option.some.inj (Tryz.func8.symm.trans hfn)).symm
  refine ⟨BoundLatesFacts.looks, fun j t ht => ?_⟩
  have hall : (Tryz.f8.params.toList.all fun u => !Tryz.prog.wantsStandIn u) = true := by kernel_rfl
  have hm : t ∈ Tryz.f8.params.toList := by simpa using Array.mem_of_getElem? ht
  exact (show Tryz.prog.wantsStandIn t = false by simpa using List.all_eq_true.1 hall t hm)
end BoundLatesProof

theorem boundLates_card : Rows.BoundLatesCardSaid :=
  Claim7.holds_tied_plain_at .later [] _ _ _ _ BoundLatesProof.said (fun _ h => by cases h) BoundLatesFacts.wfText (fun _ h => by cases h) boundLates_row_tie rfl ⟨rfl, rfl⟩ BoundLatesFacts.mainIs rfl BoundLatesProof.plain BoundLatesFacts.goes
end Go.Proofs.YtnlgajlmjkfecaaGreatDoor
