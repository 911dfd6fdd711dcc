/- What both laws share: the variables in the row's list, the contracts, works(). -/
import Derived.Test.YthblcnkmhnpgiaaGreatDoorRunA
import Derived.Test.YthblcnkmhnpgiaaGreatDoorEnvB
import Derived.Test.YthblcnkmhnpgiaaGreatDoorRows
import Derived.SevenTiedAt
set_option linter.all false
namespace Go.Proofs.YthblcnkmhnpgiaaGreatDoor
open Go.ChangeShapes Go.WideShapes Go.ChangeAt Go.RowKit Go.RX

theorem ownKnobs : ownKnob Tryz.prog.godebug = none := by kernel_rfl
theorem laidOut : laidOutB Tryz.prog = true := by kernel_rfl
theorem bool4 : Tryz.prog.underlying 4 = some .bool := by kernel_rfl
theorem u8T : Tryz.prog.underlying 5 = some (.int .u8) := by kernel_rfl

theorem lies_laid (E : Env) (hG : E.G = globals) (hR : E.rows = fun _ => none) {W : World} (h : laidMetH Tryz.prog Rows.witnessKnownRow.laid W) : Lies E W := by
  rw [MakeChecks.laidMetH_plain _ _ _ (by kernel_rfl)] at h
  obtain ⟨ps, hL, -, -⟩ := h
  refine ⟨fun g cs hg => ?_, fun a ks h => by rw [hR] at h; cases h⟩
  rw [hG] at hg
  unfold globals at hg
  split at hg
  · simp only [Option.some.injEq] at hg
    subst hg
    obtain ⟨arr, el, fz, h1, h2⟩ := laid_cells (n := 1) (s := "math/bits.deBruijn64tab") (d := Rows.laid_math_bits_deBruijn64tab) hL (by kernel_rfl) 3 448 4 tabVals (by kernel_rfl) (by kernel_rfl) (by kernel_rfl)
    exact ⟨arr, el, fz, h1, cells_known (by kernel_rfl) h2⟩
  · simp only [Option.some.injEq] at hg
    subst hg
    obtain ⟨arr, el, fz, h1, h2⟩ := laid_cells (n := 4) (s := "wakeman/mix.steps") (d := Rows.laid_wakeman_mix_steps) hL (by kernel_rfl) 1 399 4 stepsVals (by kernel_rfl) (by kernel_rfl) (by kernel_rfl)
    exact ⟨arr, el, fz, h1, cells_known (by kernel_rfl) h2⟩
  · cases hg
theorem lies_of {E E' : Env} (hG : E'.G = E.G) (hs : E'.sig = E.sig) (hR : E.rows = fun _ => none) (hR' : E'.rows = fun _ => none) {W : World} (h : Lies E W) : Lies E' W :=
  ⟨fun g cs hg => by rw [hG] at hg; rw [hs]; exact h.cells g cs hg, fun a ks h => by rw [hR'] at h; cases h⟩

theorem over1 : OverOk Tryz.prog 384 := over_ok (tS := 185) (tR := 4) (e := 219) Tryz.func384 (by kernel_rfl) (by kernel_rfl) (by kernel_rfl) (by kernel_rfl) (by kernel_rfl) (fun w => sizeOf_run (E := env sig0) (n := 4) (by kernel_rfl) w)
theorem over2 : OverOk Tryz.prog 386 := over_ok (tS := 162) (tR := 4) (e := 3) Tryz.func386 (by kernel_rfl) (by kernel_rfl) (by kernel_rfl) (by kernel_rfl) (by kernel_rfl) (fun w => sizeOf_run (E := env sig0) (n := 1) (by kernel_rfl) w)
theorem overs (f : Nat) (h : f ∈ [384, 386]) : OverOk Tryz.prog f := by
  simp only [List.mem_cons, List.mem_nil_iff, or_false] at h
  rcases h with rfl | rfl
  · exact over1
  · exact over2
theorem num (σ : Sig) : NumOk (env σ) := num_nothing rfl rfl rfl rfl overs (fun f h => by cases h) (fun f h => by cases h) (fun f t h => by cases h)
theorem numB {σ : Sig} {B : List (IE × Int)} (hB : Pts σ B) : NumOk (envB σ B) where
  lt _ _ _ h := ltPt_val hB h
  eq _ _ _ h := eqPt_val hB h
  rows _ _ h := by cases h
  pre _ _ _ h := by cases h
  overs := overs
  idxs _ h := by cases h
  sames _ h := by cases h
  mkzs _ _ h := by cases h
theorem knows (σ : Sig) : Known (env σ) (know σ) := by
  obtain ⟨hM, hC⟩ := semK_both (known_nothing (env σ)) 4
  exact known_ins hC hM _ (known_nothing (env σ))
theorem knowsB (σ : Sig) (B : List (IE × Int)) : Known (envB σ B) (knowB σ B) := by
  obtain ⟨hM, hC⟩ := semK_both (known_nothing (envB σ B)) 4
  exact known_ins hC hM _ (known_nothing (envB σ B))
theorem plays (σ : Sig) : Known (env σ) (kpl σ) := kpl_known σ (kdo_known σ (knows σ))

theorem works_calls (σ : Sig) (w : World) (h : Lies (env σ) w) : Calls Tryz.prog 6 #[] w fun e w' => e = .returned (.bool true) ∧ On w w' := by
  obtain ⟨S', hr⟩ := isBool_some (works_run σ)
  exact run_bool (E := env σ) (plays σ) hr .nil (num σ) h
end Go.Proofs.YthblcnkmhnpgiaaGreatDoor
