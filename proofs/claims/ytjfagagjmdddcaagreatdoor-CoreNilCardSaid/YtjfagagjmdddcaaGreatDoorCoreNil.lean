/- CoreNil holds: called with any operation and any job, in any memory in which the listed package-level variables hold what the program's text lays, it returns true, and changes nothing that was there. There is no further condition. -/
import Derived.Test.YtjfagagjmdddcaaGreatDoorTie
import Derived.Test.YtjfagagjmdddcaaGreatDoorCards
import Derived.Test.YtjfagagjmdddcaaGreatDoorRunA
import Derived.Test.YtjfagagjmdddcaaGreatDoorOpen
import Derived.Test.YtjfagagjmdddcaaGreatDoorRxOver
import Derived.Test.YtjfagagjmdddcaaGreatDoorFacts
import Derived.Test.YtjfagagjmdddcaaGreatDoorFactsB
import Derived.Test.YtjfagagjmdddcaaGreatDoorFactsC
import Derived.SevenTiedAt
set_option linter.all false
namespace Go.Proofs.YtjfagagjmdddcaaGreatDoor
open Go.ChangeShapes Go.WideShapes Go.ChangeAt Go.RowKit Go.RX

namespace CoreNilProof
theorem own : ownKnob Tryz.prog.godebug = none := by kernel_rfl
theorem laidOut : laidOutB Tryz.prog = true := by kernel_rfl
theorem bool4 : Tryz.prog.underlying 4 = some .bool := by kernel_rfl
theorem int3 : Tryz.prog.underlying 3 = some (.int .i64) := by kernel_rfl
theorem param0 : Tryz.f3.params[0]? = some 23 := by kernel_rfl
theorem param1 : Tryz.f3.params[1]? = some 3 := by kernel_rfl

/-- What the row's list gives: the variables' cells lie in the world. -/
theorem lies (σ : Sig) {W : World} (h : laidMetH Tryz.prog Rows.coreNilRow.laid W) : Lies (env σ) W := by
  rw [MakeChecks.laidMetH_plain _ _ _ (by kernel_rfl)] at h
  obtain ⟨ps, hL, -, -⟩ := h
  refine ⟨fun g cs hg => ?_, fun a ks h => by cases h⟩
  have hg : globals g = some cs := hg
  unfold globals at hg
  split at hg
  · simp only [Option.some.injEq] at hg
    subst hg
    obtain ⟨arr, el, fz, h1, h2⟩ := laid_cells (n := 0) (s := "math/bits.deBruijn64tab") (d := Rows.laid_math_bits_deBruijn64tab) hL (by kernel_rfl) 0 396 4 tabVals (by kernel_rfl) (by kernel_rfl) (by kernel_rfl)
    exact ⟨arr, el, fz, h1, cells_known (by kernel_rfl) h2⟩
  · simp only [Option.some.injEq] at hg
    subst hg
    obtain ⟨arr, el, fz, h1, h2⟩ := laid_cells (n := 2) (s := "wakeman/mix.steps") (d := Rows.laid_wakeman_mix_steps) hL (by kernel_rfl) 1 439 4 stepsVals (by kernel_rfl) (by kernel_rfl) (by kernel_rfl)
    exact ⟨arr, el, fz, h1, cells_known (by kernel_rfl) h2⟩
  · cases hg

theorem over1 : OverOk Tryz.prog 315 := over_ok (tS := 107) (tR := 4) (e := 110) Tryz.func315 (by kernel_rfl) (by kernel_rfl) (by kernel_rfl) (by kernel_rfl) (by kernel_rfl) (fun w => sizeOf_run (E := env sig0) (n := 4) (by kernel_rfl) w)
theorem over2 : OverOk Tryz.prog 317 := over_ok (tS := 119) (tR := 4) (e := 3) Tryz.func317 (by kernel_rfl) (by kernel_rfl) (by kernel_rfl) (by kernel_rfl) (by kernel_rfl) (fun w => sizeOf_run (E := env sig0) (n := 1) (by kernel_rfl) w)
theorem num (σ : Sig) : NumOk (env σ) := num_nothing rfl rfl rfl rfl (fun f h => by
  simp only [env, List.mem_cons, List.mem_nil_iff, or_false] at h
  rcases h with rfl | rfl
  · exact over1
  · exact over2)
theorem both (σ : Sig) : CalleeMono (insC σ) ∧ CalleeSound (env σ) (insC σ) := semK_both (known_nothing (env σ)) 4
theorem knows (σ : Sig) : Known (env σ) (know σ) := known_ins (both σ).2 (both σ).1 _ (known_nothing (env σ))

theorem works_name (vals : Array Value) (w : World) : (callFunc 4 vals).run Tryz.prog w = .ok (.enter 4 vals) w := by kernel_rfl
theorem works_calls (σ : Sig) (F : List Fact) (w : World) (h : Lies (envF σ F) w) : Calls (envF σ F).P 4 #[] w fun e w' => e = .returned (.bool true) ∧ On w w' := by
  obtain ⟨S', hr⟩ := isBool_some (works_run σ)
  exact run_bool (E := env σ) (knows σ) hr .nil (num σ) ⟨h.cells, h.rows⟩
theorem known (σ : Sig) (F : List Fact) : Known (envF σ F) knowWorks := known_bool (E := envF σ F) works_name (works_calls σ F) (known_nothing _)

/-- The numbers handed in: the operation's, the length of its job's name, the job. -/
def sigOf (z0 z1 z2 z3 n j : Int) : Sig := ⟨fun i => match i with | 0 => z0 | 1 => z1 | 2 => z2 | 3 => z3 | 5 => n | 6 => j | _ => 0, fun _ _ => 0, fun _ => (0, 0, 0, 0), fun _ _ _ => .bool false⟩

theorem args_rel (z0 z1 z2 z3 : Int) (b : Bool) (s : ByteArray) (j : Int) : VRels (Ren.nil (sigOf z0 z1 z2 z3 s.size j)) argK [.agg #[.int .i64 z0, .int .i64 z1, .int .i64 z2, .int .i64 z3, .bool b, .string s], .int .i64 j] :=
  .cons (.agg (.cons (.sint .i64 (.var 0)) (.cons (.sint .i64 (.var 1)) (.cons (.sint .i64 (.var 2)) (.cons (.sint .i64 (.var 3)) (.cons (.blur (.bool b) rfl) (.cons (.sstr rfl) .nil))))))) (.cons (.sint .i64 (.var 6)) .nil)

theorem law_calls (z0 z1 z2 z3 : Int) (b : Bool) (s : ByteArray) (j : Int) (w : World) (h : ∀ σ, Lies (env σ) w) :
    Calls Tryz.prog 3 #[.agg #[.int .i64 z0, .int .i64 z1, .int .i64 z2, .int .i64 z3, .bool b, .string s], .int .i64 j] w fun e w' => e = .returned (.bool true) ∧ On w w' := by
  have hl : ∀ F, Lies (envF (sigOf z0 z1 z2 z3 s.size j) F) w := fun F => ⟨(h (sigOf z0 z1 z2 z3 s.size j)).cells, (h (sigOf z0 z1 z2 z3 s.size j)).rows⟩
  by_cases hs : (100 : Int) < s.size
  · obtain ⟨S', hr⟩ := isBool_some (long_run (sigOf z0 z1 z2 z3 s.size j))
    exact run_bool (known _ _) hr (args_rel z0 z1 z2 z3 b s j) (fact_num rfl rfl (fun f hf => by
      simp only [List.mem_cons, List.mem_nil_iff, or_false] at hf
      subst hf
      exact ⟨fun _ => rfl, fun _ => hs⟩) (fun a ks h => by cases h)) (hl _)
  · obtain ⟨S', hr⟩ := isBool_some (short_run (sigOf z0 z1 z2 z3 s.size j))
    exact run_bool (known _ _) hr (args_rel z0 z1 z2 z3 b s j) (fact_num rfl rfl (fun f hf => by
      simp only [List.mem_cons, List.mem_nil_iff, or_false] at hf
      subst hf
      exact ⟨fun hh => absurd hh hs, fun hh => by cases hh⟩) (fun a ks h => by cases h)) (hl _)

theorem laid_met (os : Os) (args : Array Value) : laidMetH Tryz.prog Rows.coreNilRow.laid ((World.laidAll Tryz.prog os Rows.coreNilRow.laid).forCall (fun _ _ => 0) ⟨#[], args, []⟩).memory := by
  rw [MakeChecks.laidMetH_plain _ _ _ (by kernel_rfl)]
  exact laidMet_laidAll _ (by kernel_rfl) (by kernel_rfl)

set_option maxRecDepth 100000 in
theorem lifted (os : Os) (started : os.Started) (H : Type) (enc : TypeId × Value → H) :
    ReturnsInHanded {} Tryz.checked os 3 .any (fun w args => (Rows.coreNilSpec.pre enc Tryz.prog Tryz.f3 Rows.coreNilRow.domain false w args ∧ laidMetH Tryz.prog Rows.coreNilRow.laid w) ∧ sizedMet enc Tryz.prog Tryz.f3 (OpenSpec.ofChange Rows.coreNilSpec) false w args)
      (Rows.coreNilSpec.post enc Tryz.prog Tryz.f3 false true false false) := by
  refine returnsInHanded_of_change_and (C := Tryz.checked) (X := fun w _ => laidMetH Tryz.prog Rows.coreNilRow.laid w) (fun _ _ _ hh h => h.of_heap hh) own started (by kernel_rfl) Tryz.func3
    (ChangeSpec.witness_shaped (enc := enc) (C := Tryz.checked) (os := os) (X := fun w _ => laidMetH Tryz.prog Rows.coreNilRow.laid w) false (World.laidAll Tryz.prog os Rows.coreNilRow.laid) #[.agg #[.int .i64 0, .int .i64 0, .int .i64 0, .int .i64 0, .bool false, .string ⟨#[]⟩], .int .i64 0] 8 (World.laidAll_os _ _ _)
      (World.shaped_of_ZipB (by kernel_rfl) (by kernel_rfl)) (by kernel_rfl) (by kernel_rfl) (by kernel_rfl) (laid_met os _)) ?_
  intro W base args ds gs before hval0 hW _ _ hL _
  have hW' := hW
  obtain ⟨p, q, hA0, hV, rfl, hfz, hnd⟩ := hW
  have hA : DataW.TrodAll enc Tryz.prog W 0 (fun _ => true) true [23, 3] args.toList ds p := hA0
  obtain ⟨v, vs, d, ds1, pa, pb, hvs, rfl, rfl, h1, h2⟩ := trodAll_cons hA
  obtain ⟨v2, vs2, d2, ds2, pa2, pb2, rfl, rfl, rfl, h3, h4⟩ := trodAll_cons h2
  obtain ⟨rfl, rfl, rfl⟩ := trodAll_nil h4
  obtain ⟨rfl, rfl⟩ := trodVars_none hV
  obtain rfl : args = #[v, v2] := by cases args; simp_all
  have hval : Value.okWide Tryz.prog W .any base 23 v := hval0 0 23 v param0 rfl
  have hval2 : Value.okWide Tryz.prog W .any base 3 v2 := hval0 1 3 v2 param1 rfl
  obtain ⟨z0, z1, z2, z3, b, s, rfl⟩ := op_open hval h1
  obtain ⟨j, rfl, rfl, -, -⟩ := open_int int3 hval2 h3
  refine (law_calls z0 z1 z2 z3 b s j W (fun σ => lies σ hL)).mono fun e W' ⟨he, ho⟩ => ?_
  subst he
  exact ⟨_, rfl, law_post laidOut rfl rfl bool4 (by kernel_rfl) hW' rfl ho⟩

theorem said : Rows.CoreNilSaid :=
  OpenClaim.holds_of_wide 3 Tryz.f3 rfl rfl rfl rfl rfl rfl rfl ⟨rfl, rfl, rfl, rfl, rfl⟩ rfl rfl rfl rfl rfl CoreNilFacts.funcNo Tryz.func3 CoreNilFacts.closed
    (of_decide_eq_true (by kernel_rfl)) (by unfold Func.isWrapper; first | (rw [if_pos (by decide +kernel)]; kernel_rfl) | (rw [if_neg (by decide +kernel)]; exact ⟨rfl, rfl⟩))
    (fun os started H enc _ => lifted os started H enc)
theorem plain (f : FuncId) (fn : Func) (hf : Tryz.pinned.checked.prog.funcNamed "wakeman/wakemanlaw39.CoreNil" = some f) (hfn : Tryz.pinned.checked.prog.funcs[f]? = some fn) :
    false = Tryz.pinned.checked.prog.looks [] ∧ ∀ (j : Nat) t, fn.params[j]? = some t → Tryz.pinned.checked.prog.wantsStandIn t = false := by
  obtain rfl : f = 3 := Option.some.inj (CoreNilFacts.funcNo.symm.trans hf) |>.symm
  obtain rfl : fn = Tryz.f3 := (Option.some.inj (Tryz.func3.symm.trans hfn)).symm
  refine ⟨CoreNilFacts.looks, fun j t ht => ?_⟩
  have hall : (Tryz.f3.params.toList.all fun u => !Tryz.prog.wantsStandIn u) = true := by kernel_rfl
  have hm : t ∈ Tryz.f3.params.toList := by simpa using Array.mem_of_getElem? ht
  exact (show Tryz.prog.wantsStandIn t = false by simpa using List.all_eq_true.1 hall t hm)
end CoreNilProof

theorem coreNil_card : Rows.CoreNilCardSaid :=
  Claim7.holds_tied_plain_at .later [] _ _ _ _ CoreNilProof.said (fun _ h => by cases h) CoreNilFacts.wfText (fun _ h => by cases h) coreNil_row_tie rfl ⟨rfl, rfl⟩ CoreNilFacts.mainIs rfl CoreNilProof.plain CoreNilFacts.goes
end Go.Proofs.YtjfagagjmdddcaaGreatDoor
