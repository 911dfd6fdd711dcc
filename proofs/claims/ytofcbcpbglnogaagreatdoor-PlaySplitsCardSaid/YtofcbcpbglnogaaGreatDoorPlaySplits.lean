/- PlaySplits holds: called with any list of operations (none, or operations that lie in memory, as the row's precondition says), in any memory in which the listed package-level variables hold what the program's text lays, it returns true, and changes nothing that was there. There is no further condition. -/
import Derived.Test.YtofcbcpbglnogaaGreatDoorTie
import Derived.Test.YtofcbcpbglnogaaGreatDoorCards
import Derived.Test.YtofcbcpbglnogaaGreatDoorLawA
import Derived.Test.YtofcbcpbglnogaaGreatDoorOpen
import Derived.Test.YtofcbcpbglnogaaGreatDoorPlaySplitsFacts
import Derived.Test.YtofcbcpbglnogaaGreatDoorPlaySplitsFactsB
import Derived.Test.YtofcbcpbglnogaaGreatDoorPlaySplitsFactsC
import Derived.SevenTiedAt
set_option linter.all false
namespace Go.Proofs.YtofcbcpbglnogaaGreatDoor
open Go.ChangeShapes Go.WideShapes Go.ChangeAt Go.RowKit Go.RX

namespace PlaySplitsProof
theorem ownKnobs : ownKnob Tryz.prog.godebug = none := by kernel_rfl
theorem laidOut : laidOutB Tryz.prog = true := by kernel_rfl
theorem bool4 : Tryz.prog.underlying 4 = some .bool := by kernel_rfl
theorem param0 : Tryz.f3.params[0]? = some 22 := by kernel_rfl
theorem laid_met (os : Os) (args : Array Value) : laidMetH Tryz.prog Rows.playSplitsRow.laid ((World.laidAll Tryz.prog os Rows.playSplitsRow.laid).forCall (fun _ _ => 0) ⟨#[], args, []⟩).memory := by
  rw [MakeChecks.laidMetH_plain _ _ _ (by kernel_rfl)]
  exact laidMet_laidAll _ (by kernel_rfl) (by kernel_rfl)
/-- What the row's list gives: the variables' cells lie in the world. -/
theorem lies (σ : Sig) {W : World} (h : laidMetH Tryz.prog Rows.playSplitsRow.laid W) : RX.Lies (env σ) W := by
  rw [MakeChecks.laidMetH_plain _ _ _ (by kernel_rfl)] at h
  obtain ⟨ps, hL, -, -⟩ := h
  refine ⟨fun g cs hg => ?_, fun a ks h => by cases h⟩
  have hg : globals g = some cs := hg
  unfold globals at hg
  split at hg
  · simp only [Option.some.injEq] at hg
    subst hg
    obtain ⟨arr, el, fz, h1, h2⟩ := laid_cells (n := 1) (s := "math/bits.deBruijn64tab") (d := Rows.laid_math_bits_deBruijn64tab) hL (by kernel_rfl) 5 476 4 tabVals (by kernel_rfl) (by kernel_rfl) (by kernel_rfl)
    exact ⟨arr, el, fz, h1, cells_known (by kernel_rfl) h2⟩
  · simp only [Option.some.injEq] at hg
    subst hg
    obtain ⟨arr, el, fz, h1, h2⟩ := laid_cells (n := 4) (s := "wakeman/mix.steps") (d := Rows.laid_wakeman_mix_steps) hL (by kernel_rfl) 1 362 4 stepsVals (by kernel_rfl) (by kernel_rfl) (by kernel_rfl)
    exact ⟨arr, el, fz, h1, cells_known (by kernel_rfl) h2⟩
  · cases hg

set_option maxRecDepth 100000 in
theorem lifted (os : Os) (started : os.Started) (H : Type) (enc : TypeId × Value → H) :
    ReturnsInHanded {} Tryz.checked os 3 .any (fun w args => (Rows.playSplitsSpec.pre enc Tryz.prog Tryz.f3 Rows.playSplitsRow.domain false w args ∧ laidMetH Tryz.prog Rows.playSplitsRow.laid w) ∧ sizedMet enc Tryz.prog Tryz.f3 (OpenSpec.ofChange Rows.playSplitsSpec) false w args)
      (Rows.playSplitsSpec.post enc Tryz.prog Tryz.f3 false true false false) := by
  refine returnsInHanded_of_change_and (C := Tryz.checked) (X := fun w _ => laidMetH Tryz.prog Rows.playSplitsRow.laid w) (fun _ _ _ hh h => h.of_heap hh) ownKnobs started (by kernel_rfl) Tryz.func3
    (ChangeSpec.witness_shaped (enc := enc) (C := Tryz.checked) (os := os) (X := fun w _ => laidMetH Tryz.prog Rows.playSplitsRow.laid w) false (World.laidAll Tryz.prog os Rows.playSplitsRow.laid) #[.slice none 0 0] 8 (World.laidAll_os _ _ _)
      (World.shaped_of_ZipB (by kernel_rfl) (by kernel_rfl)) (by kernel_rfl) (by kernel_rfl) (by kernel_rfl) (laid_met os _)) ?_
  intro W base args ds gs before hval0 hW _ _ hL _
  have hW' := hW
  obtain ⟨p, q, hA0, hV, rfl, hfz, hnd⟩ := hW
  have hA : DataW.TrodAll enc Tryz.prog W 0 (fun _ => true) true [22] args.toList ds p := hA0
  obtain ⟨v, vs, d, ds1, pa, pb, hvs, rfl, rfl, h1, h2⟩ := trodAll_cons hA
  obtain ⟨rfl, rfl, rfl⟩ := trodAll_nil h2
  obtain ⟨rfl, rfl⟩ := trodVars_none hV
  obtain rfl : args = #[v] := by cases args; simp_all
  have hval : Value.okWide Tryz.prog W .any base 22 v := hval0 0 22 v param0 rfl
  obtain ⟨fuel, h1⟩ := h1
  obtain ⟨a, len, n, rfl⟩ := okWide_slice ops_slice hval
  have h1' : DataW.trod enc Tryz.prog W 0 (fun _ => true) true fuel 22 [.slice a len n] = some (d, pa) := h1
  rcases opened hval h1' with hv0 | ⟨l, cap, hv0, hc, hlie⟩
  · rw [hv0] at hW' ⊢
    refine (law_nil (lies sig0 hL)).mono fun e W' ⟨he, ho⟩ => ?_
    subst he
    exact ⟨_, rfl, law_post laidOut rfl rfl bool4 (by kernel_rfl) hW' rfl ho⟩
  · rw [hv0] at hW' ⊢
    refine (law_row hlie (lies sig0 hL) hc).mono fun e W' ⟨he, ho⟩ => ?_
    subst he
    exact ⟨_, rfl, law_post laidOut rfl rfl bool4 (by kernel_rfl) hW' rfl ho⟩

theorem said : Rows.PlaySplitsSaid :=
  OpenClaim.holds_of_wide 3 Tryz.f3 rfl rfl rfl rfl rfl rfl rfl ⟨rfl, rfl, rfl, rfl, rfl⟩ rfl rfl rfl rfl rfl PlaySplitsFacts.funcNo Tryz.func3 PlaySplitsFacts.closed
    (of_decide_eq_true (by kernel_rfl)) (by unfold Func.isWrapper; first | (rw [if_pos (by decide +kernel)]; kernel_rfl) | (rw [if_neg (by decide +kernel)]; exact ⟨rfl, rfl⟩))
    (fun os started H enc _ => lifted os started H enc)
theorem plain (f : FuncId) (fn : Func) (hf : Tryz.pinned.checked.prog.funcNamed "wakeman/wakemanlaw40.PlaySplits" = some f) (hfn : Tryz.pinned.checked.prog.funcs[f]? = some fn) :
    false = Tryz.pinned.checked.prog.looks [] ∧ ∀ (j : Nat) t, fn.params[j]? = some t → Tryz.pinned.checked.prog.wantsStandIn t = false := by
  obtain rfl : f = 3 := Option.some.inj (PlaySplitsFacts.funcNo.symm.trans hf) |>.symm
  obtain rfl : fn = Tryz.f3 := (Option.some.inj (Tryz.func3.symm.trans hfn)).symm
  refine ⟨PlaySplitsFacts.looks, fun j t ht => ?_⟩
  have hall : (Tryz.f3.params.toList.all fun u => !Tryz.prog.wantsStandIn u) = true := by kernel_rfl
  have hm : t ∈ Tryz.f3.params.toList := by simpa using Array.mem_of_getElem? ht
  exact (show Tryz.prog.wantsStandIn t = false by simpa using List.all_eq_true.1 hall t hm)
end PlaySplitsProof

theorem playSplits_card : Rows.PlaySplitsCardSaid :=
  Claim7.holds_tied_plain_at .later [] _ _ _ _ PlaySplitsProof.said (fun _ h => by cases h) PlaySplitsFacts.wfText (fun _ h => by cases h) playSplits_row_tie rfl ⟨rfl, rfl⟩ PlaySplitsFacts.mainIs rfl PlaySplitsProof.plain PlaySplitsFacts.goes
end Go.Proofs.YtofcbcpbglnogaaGreatDoor
