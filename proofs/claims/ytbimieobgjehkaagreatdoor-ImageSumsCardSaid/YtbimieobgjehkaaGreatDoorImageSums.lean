/- ImageSums holds: called with any bytes, in any memory in which the listed package-level variables hold what the program's text lays, it returns true, and changes nothing that was there. There is no further condition. -/
import Derived.Test.YtbimieobgjehkaaGreatDoorTie
import Derived.Test.YtbimieobgjehkaaGreatDoorCards
import Derived.Test.YtbimieobgjehkaaGreatDoorBase
import Derived.Test.YtbimieobgjehkaaGreatDoorSumsLaw
import Derived.Test.YtbimieobgjehkaaGreatDoorSumsFacts
import Derived.Test.YtbimieobgjehkaaGreatDoorSumsFactsB
import Derived.Test.YtbimieobgjehkaaGreatDoorSumsFactsC
import Derived.SevenTiedAt
set_option linter.all false
namespace Go.Proofs.YtbimieobgjehkaaGreatDoor
open Go.ChangeShapes Go.WideShapes Go.ChangeAt Go.RowKit Go.RX Go.Deep

namespace ImageSumsProof
theorem own : ownKnob Tryz.prog.godebug = none := by kernel_rfl
theorem laidOut : laidOutB Tryz.prog = true := by kernel_rfl
theorem bool4 : Tryz.prog.underlying 4 = some .bool := by kernel_rfl
theorem byte_u8 : Tryz.prog.underlying 5 = some (.int .u8) := by kernel_rfl
theorem byte_cells : Tryz.prog.cellsOf 5 = 1 := by kernel_rfl
theorem param : Tryz.f3.params[0]? = some 22 := by kernel_rfl

/-- What the row's list gives: the variables' cells lie in the world. -/
theorem lies (σ : Sig) {W : World} (h : laidMetH Tryz.prog Rows.imageSumsRow.laid W) : Lies (env σ) W := by
  rw [MakeChecks.laidMetH_plain _ _ _ (by kernel_rfl)] at h
  obtain ⟨ps, hL, -, -⟩ := h
  refine ⟨fun g cs hg => ?_, fun a ks h => by cases h⟩
  have hg : globals g = some cs := hg
  unfold globals at hg
  split at hg
  · simp only [Option.some.injEq] at hg
    subst hg
    obtain ⟨arr, el, fz, h1, h2⟩ := laid_cells (n := 2) (s := "wakeman/mix.steps") (d := Rows.laid_wakeman_mix_steps) hL (by kernel_rfl) 0 321 4 stepsVals (by kernel_rfl) (by kernel_rfl) (by kernel_rfl)
    exact ⟨arr, el, fz, h1, cells_known (by kernel_rfl) h2⟩
  · simp only [Option.some.injEq] at hg
    subst hg
    obtain ⟨arr, el, fz, h1, h2⟩ := laid_cells (n := 0) (s := "math/bits.deBruijn64tab") (d := Rows.laid_math_bits_deBruijn64tab) hL (by kernel_rfl) 2 446 4 tabVals (by kernel_rfl) (by kernel_rfl) (by kernel_rfl)
    exact ⟨arr, el, fz, h1, cells_known (by kernel_rfl) h2⟩
  · cases hg

theorem laid_met (os : Os) (args : Array Value) : laidMetH Tryz.prog Rows.imageSumsRow.laid ((World.laidAll Tryz.prog os Rows.imageSumsRow.laid).forCall (fun _ _ => 0) ⟨#[], args, []⟩).memory := by
  rw [MakeChecks.laidMetH_plain _ _ _ (by kernel_rfl)]
  exact laidMet_laidAll _ (by kernel_rfl) (by kernel_rfl)

set_option maxRecDepth 100000 in
theorem lifted (os : Os) (started : os.Started) (H : Type) (enc : TypeId × Value → H) :
    ReturnsInHanded {} Tryz.checked os 3 .any (fun w args => (Rows.imageSumsSpec.pre enc Tryz.prog Tryz.f3 Rows.imageSumsRow.domain false w args ∧ laidMetH Tryz.prog Rows.imageSumsRow.laid w) ∧ sizedMet enc Tryz.prog Tryz.f3 (OpenSpec.ofChange Rows.imageSumsSpec) false w args)
      (Rows.imageSumsSpec.post enc Tryz.prog Tryz.f3 false true false false) := by
  refine returnsInHanded_of_change_and (C := Tryz.checked) (X := fun w _ => laidMetH Tryz.prog Rows.imageSumsRow.laid w) (fun _ _ _ hh h => h.of_heap hh) own started (by kernel_rfl) Tryz.func3
    (ChangeSpec.witness_shaped (enc := enc) (C := Tryz.checked) (os := os) (X := fun w _ => laidMetH Tryz.prog Rows.imageSumsRow.laid w) false (World.laidAll Tryz.prog os Rows.imageSumsRow.laid) #[.slice none 0 0] 8 (World.laidAll_os _ _ _)
      (World.shaped_of_ZipB (by kernel_rfl) (by kernel_rfl)) (by kernel_rfl) (by kernel_rfl) (by kernel_rfl) (laid_met os _)) ?_
  intro W base args ds gs before hval0 hW _ _ hL _
  have hW' := hW
  obtain ⟨p, q, hA0, hV, rfl, hfz, hnd⟩ := hW
  have hA : DataW.TrodAll enc Tryz.prog W 0 (fun _ => true) true [22] args.toList ds p := hA0
  obtain ⟨v, vs, d, ds1, pa, pb, hvs, rfl, rfl, ⟨fuel, h1⟩, h2⟩ := trodAll_cons hA
  obtain ⟨rfl, rfl, rfl⟩ := trodAll_nil h2
  obtain ⟨rfl, rfl⟩ := trodVars_none hV
  obtain rfl : args = #[v] := by cases args; simp_all
  have hval : Value.okWide Tryz.prog W .any base 22 v := hval0 0 22 v param rfl
  obtain ⟨a, len, cap, rfl⟩ := okWide_slice bytes_slice hval
  have h1' : DataW.trod enc Tryz.prog W 0 (fun _ => true) true fuel 22 [.slice a len cap] = some (d, pa) := h1
  refine (sums_calls (bytes_full bytes_slice byte_u8 byte_cells hval h1') (fun σ => lies σ hL)).mono fun e W' ⟨he, ho⟩ => ?_
  subst he
  exact ⟨_, rfl, law_post laidOut rfl rfl bool4 (by kernel_rfl) hW' rfl ho⟩

theorem said : Rows.ImageSumsSaid :=
  OpenClaim.holds_of_wide 3 Tryz.f3 rfl rfl rfl rfl rfl rfl rfl ⟨rfl, rfl, rfl, rfl, rfl⟩ rfl rfl rfl rfl rfl ImageSumsFacts.funcNo Tryz.func3 ImageSumsFacts.closed
    (of_decide_eq_true (by kernel_rfl)) (by unfold Func.isWrapper; first | (rw [if_pos (by decide +kernel)]; kernel_rfl) | (rw [if_neg (by decide +kernel)]; exact ⟨rfl, rfl⟩))
    (fun os started H enc _ => lifted os started H enc)
theorem plain (f : FuncId) (fn : Func) (hf : Tryz.pinned.checked.prog.funcNamed "wakeman/wakemanlaw41.ImageSums" = some f) (hfn : Tryz.pinned.checked.prog.funcs[f]? = some fn) :
    true = Tryz.pinned.checked.prog.looks [] ∧ ∀ (j : Nat) t, fn.params[j]? = some t → Tryz.pinned.checked.prog.wantsStandIn t = false := by
  obtain rfl : f = 3 := Option.some.inj (ImageSumsFacts.funcNo.symm.trans hf) |>.symm
  obtain rfl : fn = Tryz.f3 := (Option.some.inj (Tryz.func3.symm.trans hfn)).symm
  refine ⟨ImageSumsFacts.looks, fun j t ht => ?_⟩
  have hall : (Tryz.f3.params.toList.all fun u => !Tryz.prog.wantsStandIn u) = true := by kernel_rfl
  have hm : t ∈ Tryz.f3.params.toList := by simpa using Array.mem_of_getElem? ht
  exact (show Tryz.prog.wantsStandIn t = false by simpa using List.all_eq_true.1 hall t hm)
end ImageSumsProof

theorem imageSums_card : Rows.ImageSumsCardSaid :=
  Claim7.holds_tied_plain_at .later [] _ _ _ _ ImageSumsProof.said (fun _ h => by cases h) ImageSumsFacts.wfText (fun _ h => by cases h) imageSums_row_tie rfl ⟨rfl, rfl⟩ ImageSumsFacts.mainIs rfl ImageSumsProof.plain ImageSumsFacts.goes
end Go.Proofs.YtbimieobgjehkaaGreatDoor
