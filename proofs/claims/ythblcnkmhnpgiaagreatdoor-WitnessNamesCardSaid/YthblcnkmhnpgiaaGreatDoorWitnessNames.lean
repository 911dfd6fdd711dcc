/- WitnessNames holds: called with any number of 8 bits, in any memory in which the listed package-level variables hold what the program's text lays, it returns true, and changes nothing that was there. There is no further condition. -/
import Derived.Test.YthblcnkmhnpgiaaGreatDoorTie
import Derived.Test.YthblcnkmhnpgiaaGreatDoorCards
import Derived.Test.YthblcnkmhnpgiaaGreatDoorBase
import Derived.Test.YthblcnkmhnpgiaaGreatDoorRunN
import Derived.Test.YthblcnkmhnpgiaaGreatDoorWitnessNamesFacts
import Derived.Test.YthblcnkmhnpgiaaGreatDoorWitnessNamesFactsB
import Derived.Test.YthblcnkmhnpgiaaGreatDoorWitnessNamesFactsC
set_option linter.all false
namespace Go.Proofs.YthblcnkmhnpgiaaGreatDoor
open Go.ChangeShapes Go.WideShapes Go.ChangeAt Go.RowKit Go.RX

namespace WitnessNamesProof
theorem param0 : Tryz.f3.params[0]? = some 5 := by kernel_rfl
theorem laid_met (os : Os) (args : Array Value) : laidMetH Tryz.prog Rows.witnessNamesRow.laid ((World.laidAll Tryz.prog os Rows.witnessNamesRow.laid).forCall (fun _ _ => 0) ⟨#[], args, []⟩).memory := by
  rw [MakeChecks.laidMetH_plain _ _ _ (by kernel_rfl)]
  exact laidMet_laidAll _ (by kernel_rfl) (by kernel_rfl)
theorem u8_range {z : Int} (h : (Lit.int .u8 z).wf = true) : 0 ≤ z ∧ z ≤ 255 := by
  have h1 : IntKind.u8.min = 0 := by decide
  have h2 : IntKind.u8.max = 255 := by decide
  simp only [Lit.wf, Bool.and_eq_true, decide_eq_true_eq, h1, h2] at h
  exact h

def sigN (z : Int) : Sig := ⟨fun _ => z, fun _ _ => 0, fun _ => (0, 0, 0, 0), fun _ _ _ => .bool false⟩
theorem pts {z k : Int} (h0 : 0 ≤ z) (hk : z % 16 = k) : Pts (sigN z) (ptB k) := fun e v hm => by
  simp only [ptB, List.mem_cons, List.mem_nil_iff, or_false, Prod.mk.injEq] at hm
  obtain ⟨rfl, rfl⟩ := hm
  simp only [IE.val, sigN]
  have : opVal .rem .u8 z 16 = z.tmod 16 := opVal_int (op := .rem) (k := .u8) (by simp) (by simp) (by simp only [Sym.intOp, eqb_eq, int_eq]; rfl)
  rw [this, Int.tmod_eq_emod_of_nonneg h0]
  exact hk
theorem knownN {σ : Sig} {B : List (IE × Int)} (hB : Pts σ B) : Known (envB σ B) (knowN σ B) :=
  known_bool (E := envB σ B) works_name (fun w h => works_calls σ w (lies_of (E := envB σ B) (E' := env σ) rfl rfl rfl rfl h)) (known_conc (E := envB σ B) hB (kn_known σ B (knowsB σ B)))

theorem one {z k : Int} (h0 : 0 ≤ z) (hk : z % 16 = k) (hr : isBool true ((semK (envB (sigN z) (ptB k)) (knowN (sigN z) (ptB k)) 40).call 3 [.sint .u8 (.var 0)] ⟨.nil, 0, 0⟩) = true) {W : World} (h : laidMetH Tryz.prog Rows.witnessKnownRow.laid W) :
    Calls Tryz.prog 3 #[.int .u8 z] W fun e w' => e = .returned (.bool true) ∧ On W w' := by
  obtain ⟨S', hr⟩ := isBool_some hr
  have hv : VRels (.nil (sigN z)) [.sint .u8 (.var 0)] [.int .u8 z] := .cons (VRel.sint (ρ := .nil (sigN z)) .u8 (.var 0)) .nil
  exact run_bool (E := envB (sigN z) (ptB k)) (knownN (pts h0 hk)) hr hv (numB (pts h0 hk)) (lies_laid _ rfl rfl h)
theorem law_calls {z : Int} (h0 : 0 ≤ z) {W : World} (h : laidMetH Tryz.prog Rows.witnessKnownRow.laid W) : Calls Tryz.prog 3 #[.int .u8 z] W fun e w' => e = .returned (.bool true) ∧ On W w' := by
  have : z % 16 = 0 ∨ z % 16 = 1 ∨ z % 16 = 2 ∨ z % 16 = 3 ∨ z % 16 = 4 ∨ z % 16 = 5 ∨ z % 16 = 6 ∨ z % 16 = 7 ∨ z % 16 = 8 ∨ z % 16 = 9 ∨ z % 16 = 10 ∨ z % 16 = 11 ∨ z % 16 = 12 ∨ z % 16 = 13 ∨ z % 16 = 14 ∨ z % 16 = 15 := by omega
  rcases this with e | e | e | e | e | e | e | e | e | e | e | e | e | e | e | e
  · exact one h0 e (names_run0 _) h
  · exact one h0 e (names_run1 _) h
  · exact one h0 e (names_run2 _) h
  · exact one h0 e (names_run3 _) h
  · exact one h0 e (names_run4 _) h
  · exact one h0 e (names_run5 _) h
  · exact one h0 e (names_run6 _) h
  · exact one h0 e (names_run7 _) h
  · exact one h0 e (names_run8 _) h
  · exact one h0 e (names_run9 _) h
  · exact one h0 e (names_run10 _) h
  · exact one h0 e (names_run11 _) h
  · exact one h0 e (names_run12 _) h
  · exact one h0 e (names_run13 _) h
  · exact one h0 e (names_run14 _) h
  · exact one h0 e (names_run15 _) h

set_option maxRecDepth 100000 in
theorem lifted (os : Os) (started : os.Started) (H : Type) (enc : TypeId × Value → H) :
    ReturnsInHanded {} Tryz.checked os 3 .any (fun w args => (Rows.witnessNamesSpec.pre enc Tryz.prog Tryz.f3 Rows.witnessNamesRow.domain false w args ∧ laidMetH Tryz.prog Rows.witnessNamesRow.laid w) ∧ sizedMet enc Tryz.prog Tryz.f3 (OpenSpec.ofChange Rows.witnessNamesSpec) false w args)
      (Rows.witnessNamesSpec.post enc Tryz.prog Tryz.f3 false true false false) := by
  refine returnsInHanded_of_change_and (C := Tryz.checked) (X := fun w _ => laidMetH Tryz.prog Rows.witnessNamesRow.laid w) (fun _ _ _ hh h => h.of_heap hh) ownKnobs started (by kernel_rfl) Tryz.func3
    (ChangeSpec.witness_shaped (enc := enc) (C := Tryz.checked) (os := os) (X := fun w _ => laidMetH Tryz.prog Rows.witnessNamesRow.laid w) false (World.laidAll Tryz.prog os Rows.witnessNamesRow.laid) #[.int .u8 0] 8 (World.laidAll_os _ _ _)
      (World.shaped_of_ZipB (by kernel_rfl) (by kernel_rfl)) (by kernel_rfl) (by kernel_rfl) (by kernel_rfl) (laid_met os _)) ?_
  intro W base args ds gs before hval0 hW _ _ hL _
  have hW' := hW
  obtain ⟨p, q, hA0, hV, rfl, hfz, hnd⟩ := hW
  have hA : DataW.TrodAll enc Tryz.prog W 0 (fun _ => true) true [5] args.toList ds p := hA0
  obtain ⟨v, vs, d, ds1, pa, pb, hvs, rfl, rfl, h1, h2⟩ := trodAll_cons hA
  obtain ⟨rfl, rfl, rfl⟩ := trodAll_nil h2
  obtain ⟨rfl, rfl⟩ := trodVars_none hV
  obtain rfl : args = #[v] := by cases args; simp_all
  have hval : Value.okWide Tryz.prog W .any base 5 v := hval0 0 5 v param0 rfl
  obtain ⟨z, rfl, rfl, -, w6⟩ := open_int u8T hval h1
  refine (law_calls (u8_range w6).1 hL).mono fun e W' ⟨he, ho⟩ => ?_
  subst he
  exact ⟨_, rfl, law_post laidOut rfl rfl bool4 (by kernel_rfl) hW' rfl ho⟩

theorem said : Rows.WitnessNamesSaid :=
  OpenClaim.holds_of_wide 3 Tryz.f3 rfl rfl rfl rfl rfl rfl rfl ⟨rfl, rfl, rfl, rfl, rfl⟩ rfl rfl rfl rfl rfl WitnessNamesFacts.funcNo Tryz.func3 WitnessNamesFacts.closed
    (of_decide_eq_true (by kernel_rfl)) (by unfold Func.isWrapper; first | (rw [if_pos (by decide +kernel)]; kernel_rfl) | (rw [if_neg (by decide +kernel)]; exact ⟨rfl, rfl⟩))
    (fun os started H enc _ => lifted os started H enc)
theorem plain (f : FuncId) (fn : Func) (hf : Tryz.pinned.checked.prog.funcNamed "wakeman/wakemanlaw44.WitnessNames" = some f) (hfn : Tryz.pinned.checked.prog.funcs[f]? = some fn) :
    false = Tryz.pinned.checked.prog.looks [] ∧ ∀ (j : Nat) t, fn.params[j]? = some t → Tryz.pinned.checked.prog.wantsStandIn t = false := by
  obtain rfl : f = 3 := Option.some.inj (WitnessNamesFacts.funcNo.symm.trans hf) |>.symm
  obtain rfl : fn = Tryz.f3 := (Option.some.inj (Tryz.func3.symm.trans hfn)).symm
  refine ⟨WitnessNamesFacts.looks, fun j t ht => ?_⟩
  have hall : (Tryz.f3.params.toList.all fun u => !Tryz.prog.wantsStandIn u) = true := by kernel_rfl
  have hm : t ∈ Tryz.f3.params.toList := by simpa using Array.mem_of_getElem? ht
  exact (show Tryz.prog.wantsStandIn t = false by simpa using List.all_eq_true.1 hall t hm)
end WitnessNamesProof

theorem witnessNames_card : Rows.WitnessNamesCardSaid :=
  Claim7.holds_tied_plain_at .later [] _ _ _ _ WitnessNamesProof.said (fun _ h => by cases h) WitnessNamesFacts.wfText (fun _ h => by cases h) witnessNames_row_tie rfl ⟨rfl, rfl⟩ WitnessNamesFacts.mainIs rfl WitnessNamesProof.plain WitnessNamesFacts.goes
end Go.Proofs.YthblcnkmhnpgiaaGreatDoor
