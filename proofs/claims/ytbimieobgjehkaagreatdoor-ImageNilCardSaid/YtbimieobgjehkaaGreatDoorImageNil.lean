/- ImageNil holds: called with any bytes, in any memory in which the listed package-level variables hold what the program's text lays, it returns true, and changes nothing that was there. There is no further condition. -/
import Derived.Test.YtbimieobgjehkaaGreatDoorTie
import Derived.Test.YtbimieobgjehkaaGreatDoorCards
import Derived.Test.YtbimieobgjehkaaGreatDoorBase
import Derived.Test.YtbimieobgjehkaaGreatDoorRunB
import Derived.Test.YtbimieobgjehkaaGreatDoorFacts
import Derived.Test.YtbimieobgjehkaaGreatDoorFactsB
import Derived.Test.YtbimieobgjehkaaGreatDoorFactsC
import Derived.SevenTiedAt
set_option linter.all false
namespace Go.Proofs.YtbimieobgjehkaaGreatDoor
open Go.ChangeShapes Go.WideShapes Go.ChangeAt Go.RowKit Go.RX Go.Deep

namespace ImageNilProof
theorem own : ownKnob Tryz.prog.godebug = none := by kernel_rfl
theorem laidOut : laidOutB Tryz.prog = true := by kernel_rfl
theorem bool4 : Tryz.prog.underlying 4 = some .bool := by kernel_rfl
theorem param : Tryz.f4.params[0]? = some 22 := by kernel_rfl

/-- What the row's list gives: the variables' cells lie in the world. -/
theorem lies (σ : Sig) {W : World} (h : laidMetH Tryz.prog Rows.imageNilRow.laid W) : Lies (env σ) W := by
  rw [MakeChecks.laidMetH_plain _ _ _ (by kernel_rfl)] at h
  obtain ⟨ps, hL, -, -⟩ := h
  refine ⟨fun g cs hg => ?_, fun a ks h => by cases h⟩
  have hg : globals g = some cs := hg
  unfold globals at hg
  split at hg
  · simp only [Option.some.injEq] at hg
    subst hg
    obtain ⟨arr, el, fz, h1, h2⟩ := laid_cells (n := 2) (s := "wakeman/mix.steps") (d := Rows.laid_wakeman_mix_steps) hL (by kernel_rfl) 0 321 4 stepsVals (by kernel_rfl) (by kernel_rfl) (by kernel_rfl)
    exact ⟨arr, el, fz, h1, cells_known (by kernel_rfl) h2⟩
  · simp only [Option.some.injEq] at hg
    subst hg
    obtain ⟨arr, el, fz, h1, h2⟩ := laid_cells (n := 0) (s := "math/bits.deBruijn64tab") (d := Rows.laid_math_bits_deBruijn64tab) hL (by kernel_rfl) 2 446 4 tabVals (by kernel_rfl) (by kernel_rfl) (by kernel_rfl)
    exact ⟨arr, el, fz, h1, cells_known (by kernel_rfl) h2⟩
  · cases hg

theorem known (σ : Sig) (F : List Fact) : Known (envL σ F) knowWorks := known_bool (E := envL σ F) works_name (fun w h => works_calls σ w ⟨h.cells, h.rows⟩) (known_nothing _)

/-- The bytes handed in: row 0; the first seven of them at most: row 1. -/
def sigOf (b x n : Nat) : Sig := ⟨fun _ => 0, fun _ _ => 0, fun a => match a with | 0 => (b, x, 1, n) | 1 => (b, x, 1, if 7 < n then 7 else n) | _ => (0, 0, 0, 0), fun _ _ _ => .bool false⟩

theorem pre_ok (b x n : Nat) (a : Nat) (e : IE) (a' : Nat) (h : preB a e = some a') : ∃ b1 x1 sz n1 m : Nat, (sigOf b x n).row a = (b1, x1, sz, n1) ∧ (sigOf b x n).row a' = (b1, x1, sz, m) ∧ e.val (sigOf b x n) = m ∧ m ≤ n1 := by
  unfold preB at h
  split at h
  · split at h
    · rename_i hs
      simp only [Option.some.injEq] at h
      subst h
      have := IE.same_eq hs
      subst this
      refine ⟨b, x, 1, n, if 7 < n then 7 else n, rfl, rfl, ?_, ?_⟩
      · simp only [cutB, IE.val, sigOf]
        by_cases h7 : 7 < n
        · rw [if_pos (by omega), if_pos h7]; rfl
        · rw [if_neg (by omega), if_neg h7]
      · split <;> omega
    · cases h
  · cases h

theorem short_val : ∀ m : Nat, m < 8 → opVal .sub .i64 (m : Int) 4 < 4 := by decide +kernel
theorem short_ok (b x n : Nat) : Fact.holds (sigOf b x n) short := by
  refine ⟨fun _ => rfl, fun _ => ?_⟩
  show opVal .sub .i64 (((if 7 < n then 7 else n : Nat)) : Int) 4 < 4
  exact short_val _ (by split <;> omega)

theorem law_calls {v : Value} (hv : v = .slice none 0 0 ∨ ∃ (b x n cap : Nat), v = .slice (some ⟨b, x, none⟩) n cap ∧ n ≤ cap) (w : World) (h : ∀ σ, Lies (env σ) w) :
    Calls Tryz.prog 4 #[v] w fun e w' => e = .returned (.bool true) ∧ On w w' := by
  rcases hv with rfl | ⟨b, x, n, cap, rfl, hc⟩
  · obtain ⟨S', hr⟩ := isBool_some (nil_run (sigOf 0 0 0))
    exact run_bool (known _ _) hr (.cons .nilslice .nil) (fact_num rfl rfl (fun f hf => by cases hf) (fun a ks h => by cases h) (pre_ok 0 0 0)) ⟨(h (sigOf 0 0 0)).cells, (h (sigOf 0 0 0)).rows⟩
  · obtain ⟨S', hr⟩ := isBool_some (row_run (sigOf b x n))
    exact run_bool (known _ _) hr (.cons (.row rfl hc) .nil) (fact_num rfl rfl (fun f hf => by
      simp only [List.mem_cons, List.mem_nil_iff, or_false] at hf
      subst hf
      exact short_ok b x n) (fun a ks h => by cases h) (pre_ok b x n)) ⟨(h (sigOf b x n)).cells, (h (sigOf b x n)).rows⟩

theorem laid_met (os : Os) (args : Array Value) : laidMetH Tryz.prog Rows.imageNilRow.laid ((World.laidAll Tryz.prog os Rows.imageNilRow.laid).forCall (fun _ _ => 0) ⟨#[], args, []⟩).memory := by
  rw [MakeChecks.laidMetH_plain _ _ _ (by kernel_rfl)]
  exact laidMet_laidAll _ (by kernel_rfl) (by kernel_rfl)

set_option maxRecDepth 100000 in
theorem lifted (os : Os) (started : os.Started) (H : Type) (enc : TypeId × Value → H) :
    ReturnsInHanded {} Tryz.checked os 4 .any (fun w args => (Rows.imageNilSpec.pre enc Tryz.prog Tryz.f4 Rows.imageNilRow.domain false w args ∧ laidMetH Tryz.prog Rows.imageNilRow.laid w) ∧ sizedMet enc Tryz.prog Tryz.f4 (OpenSpec.ofChange Rows.imageNilSpec) false w args)
      (Rows.imageNilSpec.post enc Tryz.prog Tryz.f4 false true false false) := by
  refine returnsInHanded_of_change_and (C := Tryz.checked) (X := fun w _ => laidMetH Tryz.prog Rows.imageNilRow.laid w) (fun _ _ _ hh h => h.of_heap hh) own started (by kernel_rfl) Tryz.func4
    (ChangeSpec.witness_shaped (enc := enc) (C := Tryz.checked) (os := os) (X := fun w _ => laidMetH Tryz.prog Rows.imageNilRow.laid w) false (World.laidAll Tryz.prog os Rows.imageNilRow.laid) #[.slice none 0 0] 8 (World.laidAll_os _ _ _)
      (World.shaped_of_ZipB (by kernel_rfl) (by kernel_rfl)) (by kernel_rfl) (by kernel_rfl) (by kernel_rfl) (laid_met os _)) ?_
  intro W base args ds gs before hval0 hW _ _ hL _
  have hW' := hW
  obtain ⟨p, q, hA0, hV, rfl, hfz, hnd⟩ := hW
  have hA : DataW.TrodAll enc Tryz.prog W 0 (fun _ => true) true [22] args.toList ds p := hA0
  obtain ⟨v, vs, d, ds1, pa, pb, hvs, rfl, rfl, ⟨fuel, h1⟩, h2⟩ := trodAll_cons hA
  obtain ⟨rfl, rfl, rfl⟩ := trodAll_nil h2
  obtain ⟨rfl, rfl⟩ := trodVars_none hV
  obtain rfl : args = #[v] := by cases args; simp_all
  have hval : Value.okWide Tryz.prog W .any base 22 v := hval0 0 22 v param rfl
  obtain ⟨a, len, cap, rfl⟩ := okWide_slice bytes_slice hval
  have h1' : DataW.trod enc Tryz.prog W 0 (fun _ => true) true fuel 22 [.slice a len cap] = some (d, pa) := h1
  refine (law_calls (bytes_open hval h1') W (fun σ => lies σ hL)).mono fun e W' ⟨he, ho⟩ => ?_
  subst he
  exact ⟨_, rfl, law_post laidOut rfl rfl bool4 (by kernel_rfl) hW' rfl ho⟩

theorem said : Rows.ImageNilSaid :=
  OpenClaim.holds_of_wide 4 Tryz.f4 rfl rfl rfl rfl rfl rfl rfl ⟨rfl, rfl, rfl, rfl, rfl⟩ rfl rfl rfl rfl rfl ImageNilFacts.funcNo Tryz.func4 ImageNilFacts.closed
    (of_decide_eq_true (by kernel_rfl)) (by unfold Func.isWrapper; first | (rw [if_pos (by decide +kernel)]; kernel_rfl) | (rw [if_neg (by decide +kernel)]; exact ⟨rfl, rfl⟩))
    (fun os started H enc _ => lifted os started H enc)
theorem plain (f : FuncId) (fn : Func) (hf : Tryz.pinned.checked.prog.funcNamed "wakeman/wakemanlaw41.ImageNil" = some f) (hfn : Tryz.pinned.checked.prog.funcs[f]? = some fn) :
    true = Tryz.pinned.checked.prog.looks [] ∧ ∀ (j : Nat) t, fn.params[j]? = some t → Tryz.pinned.checked.prog.wantsStandIn t = false := by
  obtain rfl : f = 4 := Option.some.inj (ImageNilFacts.funcNo.symm.trans hf) |>.symm
  obtain rfl : fn = Tryz.f4 := (Option.some.inj (Tryz.func4.symm.trans hfn)).symm
  refine ⟨ImageNilFacts.looks, fun j t ht => ?_⟩
  have hall : (Tryz.f4.params.toList.all fun u => !Tryz.prog.wantsStandIn u) = true := by kernel_rfl
  have hm : t ∈ Tryz.f4.params.toList := by simpa using Array.mem_of_getElem? ht
  exact (show Tryz.prog.wantsStandIn t = false by simpa using List.all_eq_true.1 hall t hm)
end ImageNilProof

theorem imageNil_card : Rows.ImageNilCardSaid :=
  Claim7.holds_tied_plain_at .later [] _ _ _ _ ImageNilProof.said (fun _ h => by cases h) ImageNilFacts.wfText (fun _ h => by cases h) imageNil_row_tie rfl ⟨rfl, rfl⟩ ImageNilFacts.mainIs rfl ImageNilProof.plain ImageNilFacts.goes
end Go.Proofs.YtbimieobgjehkaaGreatDoor
