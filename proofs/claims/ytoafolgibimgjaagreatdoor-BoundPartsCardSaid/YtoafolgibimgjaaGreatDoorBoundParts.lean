/- BoundParts holds: called with any setup (no tasks, or tasks that lie in memory, as the row's precondition says) and any two numbers, it returns true, and changes nothing that was there. There is no further condition. -/
import Derived.Test.YtoafolgibimgjaaGreatDoorTie
import Derived.Test.YtoafolgibimgjaaGreatDoorCards
import Derived.Test.YtoafolgibimgjaaGreatDoorGOpen
import Derived.Test.YtoafolgibimgjaaGreatDoorQ5
import Derived.Test.YtoafolgibimgjaaGreatDoorBoundPartsFacts
import Derived.Test.YtoafolgibimgjaaGreatDoorBoundPartsFactsB
import Derived.Test.YtoafolgibimgjaaGreatDoorBoundPartsFactsC
import Derived.SevenTiedAt
set_option linter.all false
namespace Go.Proofs.YtoafolgibimgjaaGreatDoor
open Go.ChangeShapes Go.WideShapes Go.ChangeAt Go.RowKit Go.RX

namespace BoundPartsProof
theorem own : ownKnob Tryz.prog.godebug = none := by kernel_rfl
theorem laidOut : laidOutB Tryz.prog = true := by kernel_rfl
theorem bool4 : Tryz.prog.underlying 4 = some .bool := by kernel_rfl
theorem u8T : Tryz.prog.underlying 5 = some (.int .u8) := by kernel_rfl
theorem u16T : Tryz.prog.underlying 26 = some (.int .u16) := by kernel_rfl
theorem param0 : Tryz.f3.params[0]? = some 25 := by kernel_rfl
theorem param1 : Tryz.f3.params[1]? = some 5 := by kernel_rfl
theorem param2 : Tryz.f3.params[2]? = some 26 := by kernel_rfl
theorem laid_met (os : Os) (args : Array Value) : laidMetH Tryz.prog Rows.boundPartsRow.laid ((World.laidAll Tryz.prog os Rows.boundPartsRow.laid).forCall (fun _ _ => 0) ⟨#[], args, []⟩).memory := by
  rw [MakeChecks.laidMetH_plain _ _ _ (by kernel_rfl)]
  exact laidMet_laidAll _ (by kernel_rfl) (by kernel_rfl)

theorem law_calls {W : World} {l : Value} {z0 z1 z2 z3 z4 z5 z6 z7 : Int} (hl : TasksAt W l) (r0 : 0 ≤ z0 ∧ z0 ≤ 255) (r1 : 0 ≤ z1 ∧ z1 ≤ 255) (r2 : 0 ≤ z2 ∧ z2 ≤ 255) (r3 : 0 ≤ z3 ∧ z3 ≤ 255) (r4 : 0 ≤ z4 ∧ z4 ≤ 255) (r5 : 0 ≤ z5 ∧ z5 ≤ 18446744073709551615) (r6 : 0 ≤ z6 ∧ z6 ≤ 255) (r7 : 0 ≤ z7 ∧ z7 ≤ 65535) :
    Calls Tryz.prog 3 #[.agg #[l, .int .u8 z0, .int .u8 z1, .int .u8 z2, .int .u8 z3, .int .u8 z4, .int .u64 z5], .int .u8 z6, .int .u16 z7] W fun e w' => e = .returned (.bool true) ∧ On W w' := by
  have small : ∀ (b x n : Nat) (cell : Nat → Nat → Int), (∀ i c, 0 ≤ cell i c ∧ cell i c ≤ 255) → n ≤ 9223372036854775807 →
      (Setup.mk b x n cell (fun i => match i with | 0 => z0 | 1 => z1 | 2 => z2 | 3 => z3 | 4 => z4 | 5 => z5 | 6 => z6 | 7 => z7 | _ => 0)).Small := fun b x n cell hc hn =>
    ⟨hc, r5, ⟨r6.1, Int.le_trans r6.2 (by decide)⟩, r7, fun i h5 h6 h7 => by
      match i, h5, h6, h7 with
      | 0, _, _, _ => exact r0
      | 1, _, _, _ => exact r1
      | 2, _, _, _ => exact r2
      | 3, _, _, _ => exact r3
      | 4, _, _, _ => exact r4
      | 5, h, _, _ => exact absurd rfl h
      | 6, _, h, _ => exact absurd rfl h
      | 7, _, _, h => exact absurd rfl h
      | i + 8, _, _, _ => exact ⟨Int.le_refl _, by show (0 : Int) ≤ 255; omega⟩, hn⟩
  rcases hl with rfl | ⟨b, x, n, cap, cell, rfl, hc, hn, hcell, hlie⟩
  · exact parts_nil (small 0 0 0 (fun _ _ => 0) (fun _ _ => ⟨by omega, by omega⟩) (by omega)) r6 rfl W
  · exact parts_calls (u := Setup.mk b x n cell (fun i => match i with | 0 => z0 | 1 => z1 | 2 => z2 | 3 => z3 | 4 => z4 | 5 => z5 | 6 => z6 | 7 => z7 | _ => 0)) (small b x n cell hcell hn) r6 hlie hc

set_option maxRecDepth 100000 in
theorem lifted (os : Os) (started : os.Started) (H : Type) (enc : TypeId × Value → H) :
    ReturnsInHanded {} Tryz.checked os 3 .any (fun w args => (Rows.boundPartsSpec.pre enc Tryz.prog Tryz.f3 Rows.boundPartsRow.domain false w args ∧ laidMetH Tryz.prog Rows.boundPartsRow.laid w) ∧ sizedMet enc Tryz.prog Tryz.f3 (OpenSpec.ofChange Rows.boundPartsSpec) false w args)
      (Rows.boundPartsSpec.post enc Tryz.prog Tryz.f3 false true false false) := by
  refine returnsInHanded_of_change_and (C := Tryz.checked) (X := fun w _ => laidMetH Tryz.prog Rows.boundPartsRow.laid w) (fun _ _ _ hh h => h.of_heap hh) own started (by kernel_rfl) Tryz.func3
    (ChangeSpec.witness_shaped (enc := enc) (C := Tryz.checked) (os := os) (X := fun w _ => laidMetH Tryz.prog Rows.boundPartsRow.laid w) false (World.laidAll Tryz.prog os Rows.boundPartsRow.laid) #[.agg #[.slice none 0 0, .int .u8 0, .int .u8 0, .int .u8 0, .int .u8 0, .int .u8 0, .int .u64 0], .int .u8 0, .int .u16 0] 8 (World.laidAll_os _ _ _)
      (World.shaped_of_ZipB (by kernel_rfl) (by kernel_rfl)) (by kernel_rfl) (by kernel_rfl) (by kernel_rfl) (laid_met os _)) ?_
  intro W base args ds gs before hval0 hW _ _ hL _
  have hW' := hW
  obtain ⟨p, q, hA0, hV, rfl, hfz, hnd⟩ := hW
  have hA : DataW.TrodAll enc Tryz.prog W 0 (fun _ => true) true [25, 5, 26] args.toList ds p := hA0
  obtain ⟨v, vs, d, ds1, pa, pb, hvs, rfl, rfl, h1, h2⟩ := trodAll_cons hA
  obtain ⟨v2, vs2, d2, ds2, pa2, pb2, rfl, rfl, rfl, h3, h4⟩ := trodAll_cons h2
  obtain ⟨v3, vs3, d3, ds3, pa3, pb3, rfl, rfl, rfl, h5, h6⟩ := trodAll_cons h4
  obtain ⟨rfl, rfl, rfl⟩ := trodAll_nil h6
  obtain ⟨rfl, rfl⟩ := trodVars_none hV
  obtain rfl : args = #[v, v2, v3] := by cases args; simp_all
  have hval : Value.okWide Tryz.prog W .any base 25 v := hval0 0 25 v param0 rfl
  have hval2 : Value.okWide Tryz.prog W .any base 5 v2 := hval0 1 5 v2 param1 rfl
  have hval3 : Value.okWide Tryz.prog W .any base 26 v3 := hval0 2 26 v3 param2 rfl
  obtain ⟨l, z0, z1, z2, z3, z4, z5, rfl, hl, r0, r1, r2, r3, r4, r5⟩ := setup_open hval h1
  obtain ⟨z6, rfl, rfl, -, w6⟩ := open_int u8T hval2 h3
  obtain ⟨z7, rfl, rfl, -, w7⟩ := open_int u16T hval3 h5
  refine (law_calls hl r0 r1 r2 r3 r4 r5 (u8_range w6) (u16_range w7)).mono fun e W' ⟨he, ho⟩ => ?_
  subst he
  exact ⟨_, rfl, law_post laidOut rfl rfl bool4 (by kernel_rfl) hW' rfl ho⟩

theorem said : Rows.BoundPartsSaid :=
  OpenClaim.holds_of_wide 3 Tryz.f3 rfl rfl rfl rfl rfl rfl rfl ⟨rfl, rfl, rfl, rfl, rfl⟩ rfl rfl rfl rfl rfl BoundPartsFacts.funcNo Tryz.func3 BoundPartsFacts.closed
    (of_decide_eq_true (by kernel_rfl)) (by unfold Func.isWrapper; first | (rw [if_pos (by decide +kernel)]; kernel_rfl) | (rw [if_neg (by decide +kernel)]; exact ⟨rfl, rfl⟩))
    (fun os started H enc _ => lifted os started H enc)
theorem plain (f : FuncId) (fn : Func) (hf : Tryz.pinned.checked.prog.funcNamed "wakeman/wakemanlaw43.BoundParts" = some f) (hfn : Tryz.pinned.checked.prog.funcs[f]? = some fn) :
    false = Tryz.pinned.checked.prog.looks [] ∧ ∀ (j : Nat) t, fn.params[j]? = some t → Tryz.pinned.checked.prog.wantsStandIn t = false := by
  obtain rfl : f = 3 := Option.some.inj (BoundPartsFacts.funcNo.symm.trans hf) |>.symm
  obtain rfl : fn = Tryz.f3 := (Option.some.inj (Tryz.func3.symm.trans hfn)).symm
  refine ⟨BoundPartsFacts.looks, fun j t ht => ?_⟩
  have hall : (Tryz.f3.params.toList.all fun u => !Tryz.prog.wantsStandIn u) = true := by kernel_rfl
  have hm : t ∈ Tryz.f3.params.toList := by simpa using Array.mem_of_getElem? ht
  exact (show Tryz.prog.wantsStandIn t = false by simpa using List.all_eq_true.1 hall t hm)
end BoundPartsProof

theorem boundParts_card : Rows.BoundPartsCardSaid :=
  Claim7.holds_tied_plain_at .later [] _ _ _ _ BoundPartsProof.said (fun _ h => by cases h) BoundPartsFacts.wfText (fun _ h => by cases h) boundParts_row_tie rfl ⟨rfl, rfl⟩ BoundPartsFacts.mainIs rfl BoundPartsProof.plain BoundPartsFacts.goes
end Go.Proofs.YtoafolgibimgjaaGreatDoor
