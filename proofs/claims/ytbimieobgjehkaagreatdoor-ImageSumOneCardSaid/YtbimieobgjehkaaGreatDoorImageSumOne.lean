/- ImageSumOne holds: called with any bytes, in any memory in which the listed package-level variables hold what the program's text lays, it returns true, and changes nothing that was there. There is no further condition. -/
import Derived.Test.YtbimieobgjehkaaGreatDoorTie
import Derived.Test.YtbimieobgjehkaaGreatDoorCards
import Derived.Test.YtbimieobgjehkaaGreatDoorBase
import Derived.Test.YtbimieobgjehkaaGreatDoorOneLaw
import Derived.Test.YtbimieobgjehkaaGreatDoorOneFacts
import Derived.Test.YtbimieobgjehkaaGreatDoorOneFactsB
import Derived.Test.YtbimieobgjehkaaGreatDoorOneFactsC
import Derived.SevenTiedAt
set_option linter.all false
namespace Go.Proofs.YtbimieobgjehkaaGreatDoor
open Go.ChangeShapes Go.WideShapes Go.ChangeAt Go.RowKit Go.RX Go.Deep

namespace ImageSumOneProof
theorem own : ownKnob Tryz.prog.godebug = none := by kernel_rfl
theorem laidOut : laidOutB Tryz.prog = true := by kernel_rfl
theorem bool4 : Tryz.prog.underlying 4 = some .bool := by kernel_rfl
theorem byte_u8 : Tryz.prog.underlying 5 = some (.int .u8) := by kernel_rfl
theorem byte_cells : Tryz.prog.cellsOf 5 = 1 := by kernel_rfl
theorem at_u16 : Tryz.prog.underlying 59 = some (.int .u16) := by kernel_rfl
theorem param1 : Tryz.f5.params[1]? = some 59 := by kernel_rfl
theorem param2 : Tryz.f5.params[2]? = some 5 := by kernel_rfl
theorem param : Tryz.f5.params[0]? = some 22 := by kernel_rfl

/-- What the row's list gives: the variables' cells lie in the world. -/
theorem lies (σ : Sig) {W : World} (h : laidMetH Tryz.prog Rows.imageSumOneRow.laid W) : Lies (env σ) W := by
  rw [MakeChecks.laidMetH_plain _ _ _ (by kernel_rfl)] at h
  obtain ⟨ps, hL, -, -⟩ := h
  refine ⟨fun g cs hg => ?_, fun a ks h => by cases h⟩
  have hg : globals g = some cs := hg
  unfold globals at hg
  split at hg
  · simp only [Option.some.injEq] at hg
    subst hg
    obtain ⟨arr, el, fz, h1, h2⟩ := laid_cells (n := 2) (s := "wakeman/mix.steps") (d := Rows.laid_wakeman_mix_steps) hL (by kernel_rfl) 0 321 4 stepsVals (by kernel_rfl) (by kernel_rfl) (by kernel_rfl)
    exact ⟨arr, el, fz, h1, cells_known (by kernel_rfl) h2⟩
  · simp only [Option.some.injEq] at hg
    subst hg
    obtain ⟨arr, el, fz, h1, h2⟩ := laid_cells (n := 0) (s := "math/bits.deBruijn64tab") (d := Rows.laid_math_bits_deBruijn64tab) hL (by kernel_rfl) 2 446 4 tabVals (by kernel_rfl) (by kernel_rfl) (by kernel_rfl)
    exact ⟨arr, el, fz, h1, cells_known (by kernel_rfl) h2⟩
  · cases hg

theorem laid_met (os : Os) (args : Array Value) : laidMetH Tryz.prog Rows.imageSumOneRow.laid ((World.laidAll Tryz.prog os Rows.imageSumOneRow.laid).forCall (fun _ _ => 0) ⟨#[], args, []⟩).memory := by
  rw [MakeChecks.laidMetH_plain _ _ _ (by kernel_rfl)]
  exact laidMet_laidAll _ (by kernel_rfl) (by kernel_rfl)

set_option maxRecDepth 100000 in
theorem lifted (os : Os) (started : os.Started) (H : Type) (enc : TypeId × Value → H) :
    ReturnsInHanded {} Tryz.checked os 5 .any (fun w args => (Rows.imageSumOneSpec.pre enc Tryz.prog Tryz.f5 Rows.imageSumOneRow.domain false w args ∧ laidMetH Tryz.prog Rows.imageSumOneRow.laid w) ∧ sizedMet enc Tryz.prog Tryz.f5 (OpenSpec.ofChange Rows.imageSumOneSpec) false w args)
      (Rows.imageSumOneSpec.post enc Tryz.prog Tryz.f5 false true false false) := by
  refine returnsInHanded_of_change_and (C := Tryz.checked) (X := fun w _ => laidMetH Tryz.prog Rows.imageSumOneRow.laid w) (fun _ _ _ hh h => h.of_heap hh) own started (by kernel_rfl) Tryz.func5
    (ChangeSpec.witness_shaped (enc := enc) (C := Tryz.checked) (os := os) (X := fun w _ => laidMetH Tryz.prog Rows.imageSumOneRow.laid w) false (World.laidAll Tryz.prog os Rows.imageSumOneRow.laid) #[.slice none 0 0, .int .u16 0, .int .u8 0] 8 (World.laidAll_os _ _ _)
      (World.shaped_of_ZipB (by kernel_rfl) (by kernel_rfl)) (by kernel_rfl) (by kernel_rfl) (by kernel_rfl) (laid_met os _)) ?_
  intro W base args ds gs before hval0 hW _ _ hL _
  have hW' := hW
  obtain ⟨p, q, hA0, hV, rfl, hfz, hnd⟩ := hW
  have hA : DataW.TrodAll enc Tryz.prog W 0 (fun _ => true) true [22, 59, 5] args.toList ds p := hA0
  obtain ⟨v, vs, d, ds1, pa, pb, hvs, rfl, rfl, ⟨fuel, h1⟩, h2⟩ := trodAll_cons hA
  obtain ⟨v1, vs1, d1, ds2, pc, pd, hvs1, rfl, rfl, ⟨fuel1, k1⟩, h3⟩ := trodAll_cons h2
  obtain ⟨v2, vs2, d2, ds3, pe, pf, hvs2, rfl, rfl, ⟨fuel2, k2⟩, h4⟩ := trodAll_cons h3
  obtain ⟨rfl, rfl, rfl⟩ := trodAll_nil h4
  obtain ⟨rfl, rfl⟩ := trodVars_none hV
  obtain rfl : args = #[v, v1, v2] := by cases args; simp_all
  have hval : Value.okWide Tryz.prog W .any base 22 v := hval0 0 22 v param rfl
  obtain ⟨a, len, cap, rfl⟩ := okWide_slice bytes_slice hval
  have h1' : DataW.trod enc Tryz.prog W 0 (fun _ => true) true fuel 22 [.slice a len cap] = some (d, pa) := h1
  obtain ⟨y1, rfl⟩ := okWide_int at_u16 (hval0 1 59 v1 param1 rfl)
  obtain ⟨y2, rfl⟩ := okWide_int byte_u8 (hval0 2 5 v2 param2 rfl)
  obtain ⟨z1, e1, -, w1⟩ := DataW.trod_int at_u16 k1
  obtain ⟨z2, e2, -, w2⟩ := DataW.trod_int byte_u8 k2
  obtain rfl : y1 = z1 := by simpa [Value.cells] using e1
  obtain rfl : y2 = z2 := by simpa [Value.cells] using e2
  have m1 : 0 ≤ y1 ∧ y1 ≤ 65535 := by
    have g1 : IntKind.u16.max = 65535 := by decide
    have g2 : IntKind.u16.min = 0 := by decide
    simp only [Lit.wf, Bool.and_eq_true, decide_eq_true_eq] at w1
    omega
  have m2 : 0 ≤ y2 ∧ y2 ≤ 255 := by
    have g1 : IntKind.u8.max = 255 := by decide
    have g2 : IntKind.u8.min = 0 := by decide
    simp only [Lit.wf, Bool.and_eq_true, decide_eq_true_eq] at w2
    omega
  obtain ⟨x, rfl⟩ := Int.eq_ofNat_of_zero_le m1.1
  obtain ⟨y, rfl⟩ := Int.eq_ofNat_of_zero_le m2.1
  refine (one_calls (by omega) (by omega) (bytes_full bytes_slice byte_u8 byte_cells hval h1') (fun σ => lies σ hL)).mono fun e W' ⟨he, ho⟩ => ?_
  subst he
  exact ⟨_, rfl, law_post laidOut rfl rfl bool4 (by kernel_rfl) hW' rfl ho⟩

theorem said : Rows.ImageSumOneSaid :=
  OpenClaim.holds_of_wide 5 Tryz.f5 rfl rfl rfl rfl rfl rfl rfl ⟨rfl, rfl, rfl, rfl, rfl⟩ rfl rfl rfl rfl rfl ImageSumOneFacts.funcNo Tryz.func5 ImageSumOneFacts.closed
    (of_decide_eq_true (by kernel_rfl)) (by unfold Func.isWrapper; first | (rw [if_pos (by decide +kernel)]; kernel_rfl) | (rw [if_neg (by decide +kernel)]; exact ⟨rfl, rfl⟩))
    (fun os started H enc _ => lifted os started H enc)
theorem plain (f : FuncId) (fn : Func) (hf : Tryz.pinned.checked.prog.funcNamed "wakeman/wakemanlaw41.ImageSumOne" = some f) (hfn : Tryz.pinned.checked.prog.funcs[f]? = some fn) :
    true = Tryz.pinned.checked.prog.looks [] ∧ ∀ (j : Nat) t, fn.params[j]? = some t → Tryz.pinned.checked.prog.wantsStandIn t = false := by
  obtain rfl : f = 5 := Option.some.inj (ImageSumOneFacts.funcNo.symm.trans hf) |>.symm
  obtain rfl : fn = Tryz.f5 := (Option.some.inj (Tryz.func5.symm.trans hfn)).symm
  refine ⟨ImageSumOneFacts.looks, fun j t ht => ?_⟩
  have hall : (Tryz.f5.params.toList.all fun u => !Tryz.prog.wantsStandIn u) = true := by kernel_rfl
  have hm : t ∈ Tryz.f5.params.toList := by simpa using Array.mem_of_getElem? ht
  exact (show Tryz.prog.wantsStandIn t = false by simpa using List.all_eq_true.1 hall t hm)
end ImageSumOneProof

theorem imageSumOne_card : Rows.ImageSumOneCardSaid :=
  Claim7.holds_tied_plain_at .later [] _ _ _ _ ImageSumOneProof.said (fun _ h => by cases h) ImageSumOneFacts.wfText (fun _ h => by cases h) imageSumOne_row_tie rfl ⟨rfl, rfl⟩ ImageSumOneFacts.mainIs rfl ImageSumOneProof.plain ImageSumOneFacts.goes
end Go.Proofs.YtbimieobgjehkaaGreatDoor
