/- JournalNil holds: called with any operation, in any memory in which the listed package-level variables hold what the program's text lays, it returns true, and changes nothing that was there. There is no further condition. -/
import Derived.Test.YtgnblahckpipiaaGreatDoorTie
import Derived.Test.YtgnblahckpipiaaGreatDoorCards
import Derived.Test.YtgnblahckpipiaaGreatDoorRunA
import Derived.Test.YtgnblahckpipiaaGreatDoorRunP
import Derived.Test.YtgnblahckpipiaaGreatDoorOpen
import Derived.Test.YtgnblahckpipiaaGreatDoorJournalNilFacts
import Derived.Test.YtgnblahckpipiaaGreatDoorJournalNilFactsB
import Derived.Test.YtgnblahckpipiaaGreatDoorJournalNilFactsC
import Derived.SevenTiedAt
set_option linter.all false
namespace Go.Proofs.YtgnblahckpipiaaGreatDoor
open Go.ChangeShapes Go.WideShapes Go.ChangeAt Go.RowKit Go.RX

namespace JournalNilProof
theorem own : ownKnob Tryz.prog.godebug = none := by kernel_rfl
theorem laidOut : laidOutB Tryz.prog = true := by kernel_rfl
theorem bool4 : Tryz.prog.underlying 4 = some .bool := by kernel_rfl
theorem param0 : Tryz.f3.params[0]? = some 23 := by kernel_rfl

/-- What the row's list gives: the variables' cells lie in the world. -/
theorem lies (σ : Sig) {W : World} (h : laidMetH Tryz.prog Rows.journalNilRow.laid W) : Lies (env σ) W := by
  rw [MakeChecks.laidMetH_plain _ _ _ (by kernel_rfl)] at h
  obtain ⟨ps, hL, -, -⟩ := h
  refine ⟨fun g cs hg => ?_, fun a ks h => by cases h⟩
  have hg : globals g = some cs := hg
  unfold globals at hg
  split at hg
  · simp only [Option.some.injEq] at hg
    subst hg
    obtain ⟨arr, el, fz, h1, h2⟩ := laid_cells (n := 1) (s := "math/bits.deBruijn64tab") (d := Rows.laid_math_bits_deBruijn64tab) hL (by kernel_rfl) 5 616 4 tabVals (by kernel_rfl) (by kernel_rfl) (by kernel_rfl)
    exact ⟨arr, el, fz, h1, cells_known (by kernel_rfl) h2⟩
  · simp only [Option.some.injEq] at hg
    subst hg
    obtain ⟨arr, el, fz, h1, h2⟩ := laid_cells (n := 4) (s := "wakeman/mix.steps") (d := Rows.laid_wakeman_mix_steps) hL (by kernel_rfl) 1 571 4 stepsVals (by kernel_rfl) (by kernel_rfl) (by kernel_rfl)
    exact ⟨arr, el, fz, h1, cells_known (by kernel_rfl) h2⟩
  · cases hg

theorem over1 : OverOk Tryz.prog 351 := over_ok (tS := 143) (tR := 4) (e := 146) Tryz.func351 (by kernel_rfl) (by kernel_rfl) (by kernel_rfl) (by kernel_rfl) (by kernel_rfl) (fun w => sizeOf_run (E := env sig0) (n := 4) (by kernel_rfl) w)
theorem over2 : OverOk Tryz.prog 353 := over_ok (tS := 156) (tR := 4) (e := 3) Tryz.func353 (by kernel_rfl) (by kernel_rfl) (by kernel_rfl) (by kernel_rfl) (by kernel_rfl) (fun w => sizeOf_run (E := env sig0) (n := 1) (by kernel_rfl) w)
theorem idx1 : IdxOk Tryz.prog 443 := idx_ok Tryz.func443 (by kernel_rfl) (by kernel_rfl) (by kernel_rfl) (by kernel_rfl)
theorem num (σ : Sig) : NumOk (env σ) := num_nothing rfl rfl rfl rfl (fun f h => by
  simp only [env, List.mem_cons, List.mem_nil_iff, or_false] at h
  rcases h with rfl | rfl
  · exact over1
  · exact over2) (fun f h => by
  simp only [env, List.mem_cons, List.mem_nil_iff, or_false] at h
  subst h
  exact idx1)
theorem both0 (σ : Sig) : CalleeMono (insC σ) ∧ CalleeSound (env σ) (insC σ) := semK_both (known_nothing (env σ)) 4
theorem knows1 (σ : Sig) : Known (env σ) (know1 σ) := known_ins (both0 σ).2 (both0 σ).1 _ (known_nothing (env σ))
theorem both1 (σ : Sig) : CalleeMono (dfrC σ) ∧ CalleeSound (env σ) (dfrC σ) := semK_both (knows1 σ) 20
theorem knows2 (σ : Sig) : Known (env σ) (know2 σ) := known_dfr (both1 σ).2 (both1 σ).1 _ (knows1 σ)
theorem both2 (σ : Sig) : CalleeMono (pickC σ) ∧ CalleeSound (env σ) (pickC σ) := semK_both (known_nothing (env σ)) 20
theorem knows3 (σ : Sig) : Known (env σ) (know3 σ) := by
  obtain ⟨h1, h2⟩ := pickRun_calls (both2 σ).2 (both2 σ).1 (num σ) (tick_run σ)
  exact known_pure rfl rfl h1 h2 (knows2 σ)
theorem knows (σ : Sig) : Known (env σ) (know σ) := by
  obtain ⟨h1, h2⟩ := pickRun_calls (both2 σ).2 (both2 σ).1 (num σ) (finish_run σ)
  exact known_pure rfl rfl h1 h2 (knows3 σ)

theorem works_name (vals : Array Value) (w : World) : (callFunc 9 vals).run Tryz.prog w = .ok (.enter 9 vals) w := by kernel_rfl
theorem works_calls (σ : Sig) (w : World) (h : Lies (env σ) w) : Calls (env σ).P 9 #[] w fun e w' => e = .returned (.bool true) ∧ On w w' := by
  obtain ⟨S', hr⟩ := isBool_some (works_run σ)
  exact run_bool (E := env σ) (knows σ) hr .nil (num σ) h
theorem known (σ : Sig) : Known (env σ) knowWorks := known_bool (E := env σ) works_name (works_calls σ) (known_nothing _)

/-- The numbers handed in: the operation's, the length of its job's name. -/
def sigOf (z0 z1 z2 z3 n : Int) : Sig := { var := fun i => match i with | 0 => z0 | 1 => z1 | 2 => z2 | 3 => z3 | 5 => n | _ => 0, fn := fun _ _ => 0, row := fun _ => (0, 0, 0, 0), cell := fun _ _ _ => .bool false }
theorem args_rel (z0 z1 z2 z3 : Int) (b : Bool) (s : ByteArray) : VRels (Ren.nil (sigOf z0 z1 z2 z3 s.size)) argK [.agg #[.int .i64 z0, .int .i64 z1, .int .i64 z2, .int .i64 z3, .bool b, .string s]] :=
  .cons (.agg (.cons (.sint .i64 (.var 0)) (.cons (.sint .i64 (.var 1)) (.cons (.sint .i64 (.var 2)) (.cons (.sint .i64 (.var 3)) (.cons (.blur (.bool b) rfl) (.cons (.sstr rfl) .nil))))))) .nil
theorem law_calls (z0 z1 z2 z3 : Int) (b : Bool) (s : ByteArray) (w : World) (h : ∀ σ, Lies (env σ) w) :
    Calls Tryz.prog 3 #[.agg #[.int .i64 z0, .int .i64 z1, .int .i64 z2, .int .i64 z3, .bool b, .string s]] w fun e w' => e = .returned (.bool true) ∧ On w w' := by
  obtain ⟨S', hr⟩ := isBool_some (law_run (sigOf z0 z1 z2 z3 s.size))
  exact run_bool (known _) hr (args_rel z0 z1 z2 z3 b s) (num _) (h _)

theorem laid_met (os : Os) (args : Array Value) : laidMetH Tryz.prog Rows.journalNilRow.laid ((World.laidAll Tryz.prog os Rows.journalNilRow.laid).forCall (fun _ _ => 0) ⟨#[], args, []⟩).memory := by
  rw [MakeChecks.laidMetH_plain _ _ _ (by kernel_rfl)]
  exact laidMet_laidAll _ (by kernel_rfl) (by kernel_rfl)

set_option maxRecDepth 100000 in
theorem lifted (os : Os) (started : os.Started) (H : Type) (enc : TypeId × Value → H) :
    ReturnsInHanded {} Tryz.checked os 3 .any (fun w args => (Rows.journalNilSpec.pre enc Tryz.prog Tryz.f3 Rows.journalNilRow.domain false w args ∧ laidMetH Tryz.prog Rows.journalNilRow.laid w) ∧ sizedMet enc Tryz.prog Tryz.f3 (OpenSpec.ofChange Rows.journalNilSpec) false w args)
      (Rows.journalNilSpec.post enc Tryz.prog Tryz.f3 false true false false) := by
  refine returnsInHanded_of_change_and (C := Tryz.checked) (X := fun w _ => laidMetH Tryz.prog Rows.journalNilRow.laid w) (fun _ _ _ hh h => h.of_heap hh) own started (by kernel_rfl) Tryz.func3
    (ChangeSpec.witness_shaped (enc := enc) (C := Tryz.checked) (os := os) (X := fun w _ => laidMetH Tryz.prog Rows.journalNilRow.laid w) false (World.laidAll Tryz.prog os Rows.journalNilRow.laid) #[.agg #[.int .i64 0, .int .i64 0, .int .i64 0, .int .i64 0, .bool false, .string ⟨#[]⟩]] 8 (World.laidAll_os _ _ _)
      (World.shaped_of_ZipB (by kernel_rfl) (by kernel_rfl)) (by kernel_rfl) (by kernel_rfl) (by kernel_rfl) (laid_met os _)) ?_
  intro W base args ds gs before hval0 hW _ _ hL _
  have hW' := hW
  obtain ⟨p, q, hA0, hV, rfl, hfz, hnd⟩ := hW
  have hA : DataW.TrodAll enc Tryz.prog W 0 (fun _ => true) true [23] args.toList ds p := hA0
  obtain ⟨v, vs, d, ds1, pa, pb, hvs, rfl, rfl, h1, h2⟩ := trodAll_cons hA
  obtain ⟨rfl, rfl, rfl⟩ := trodAll_nil h2
  obtain ⟨rfl, rfl⟩ := trodVars_none hV
  obtain rfl : args = #[v] := by cases args; simp_all
  have hval : Value.okWide Tryz.prog W .any base 23 v := hval0 0 23 v param0 rfl
  obtain ⟨z0, z1, z2, z3, b, s, rfl⟩ := op_open hval h1
  refine (law_calls z0 z1 z2 z3 b s W (fun σ => lies σ hL)).mono fun e W' ⟨he, ho⟩ => ?_
  subst he
  exact ⟨_, rfl, law_post laidOut rfl rfl bool4 (by kernel_rfl) hW' rfl ho⟩

theorem said : Rows.JournalNilSaid :=
  OpenClaim.holds_of_wide 3 Tryz.f3 rfl rfl rfl rfl rfl rfl rfl ⟨rfl, rfl, rfl, rfl, rfl⟩ rfl rfl rfl rfl rfl JournalNilFacts.funcNo Tryz.func3 JournalNilFacts.closed
    (of_decide_eq_true (by kernel_rfl)) (by unfold Func.isWrapper; first | (rw [if_pos (by decide +kernel)]; kernel_rfl) | (rw [if_neg (by decide +kernel)]; exact ⟨rfl, rfl⟩))
    (fun os started H enc _ => lifted os started H enc)
theorem plain (f : FuncId) (fn : Func) (hf : Tryz.pinned.checked.prog.funcNamed "wakeman/wakemanlaw42.JournalNil" = some f) (hfn : Tryz.pinned.checked.prog.funcs[f]? = some fn) :
    true = Tryz.pinned.checked.prog.looks [] ∧ ∀ (j : Nat) t, fn.params[j]? = some t → Tryz.pinned.checked.prog.wantsStandIn t = false := by
  obtain rfl : f = 3 := Option.some.inj (JournalNilFacts.funcNo.symm.trans hf) |>.symm
  obtain rfl : fn = Tryz.f3 := (Option.some.inj (Tryz.func3.symm.trans hfn)).symm
  refine ⟨JournalNilFacts.looks, fun j t ht => ?_⟩
  have hall : (Tryz.f3.params.toList.all fun u => !Tryz.prog.wantsStandIn u) = true := by kernel_rfl
  have hm : t ∈ Tryz.f3.params.toList := by simpa using Array.mem_of_getElem? ht
  exact (show Tryz.prog.wantsStandIn t = false by simpa using List.all_eq_true.1 hall t hm)
end JournalNilProof

theorem journalNil_card : Rows.JournalNilCardSaid :=
  Claim7.holds_tied_plain_at .later [] _ _ _ _ JournalNilProof.said (fun _ h => by cases h) JournalNilFacts.wfText (fun _ h => by cases h) journalNil_row_tie rfl ⟨rfl, rfl⟩ JournalNilFacts.mainIs rfl JournalNilProof.plain JournalNilFacts.goes
end Go.Proofs.YtgnblahckpipiaaGreatDoor
