/- PlayKnown holds: called in any memory in which the listed package-level variables hold what the program's text lays, it returns true, and changes nothing that was there. There is no argument and no further condition. -/
import Derived.Test.YtgjolaclhdpfaaaGreatDoorTie
import Derived.Test.YtgjolaclhdpfaaaGreatDoorCards
import Derived.Test.YtgjolaclhdpfaaaGreatDoorRunA
import Derived.Test.YtgjolaclhdpfaaaGreatDoorRunB
import Derived.Test.YtgjolaclhdpfaaaGreatDoorFacts
import Derived.Test.YtgjolaclhdpfaaaGreatDoorFactsB
import Derived.Test.YtgjolaclhdpfaaaGreatDoorFactsC
import Derived.SevenTiedAt
set_option linter.all false
namespace Go.Proofs.YtgjolaclhdpfaaaGreatDoor
open Go.ChangeShapes Go.WideShapes Go.ChangeAt Go.RowKit Go.RX

namespace PlayKnownProof
theorem own : ownKnob Tryz.prog.godebug = none := by kernel_rfl
theorem laidOut : laidOutB Tryz.prog = true := by kernel_rfl
theorem bool4 : Tryz.prog.underlying 4 = some .bool := by kernel_rfl

/-- What the row's list gives: the variables' cells lie in the world. -/
theorem lies (σ : Sig) {W : World} (h : laidMetH Tryz.prog Rows.playKnownRow.laid W) : Lies (env σ) W := by
  rw [MakeChecks.laidMetH_plain _ _ _ (by kernel_rfl)] at h
  obtain ⟨ps, hL, -, -⟩ := h
  refine ⟨fun g cs hg => ?_, fun a ks h => by cases h⟩
  have hg : globals g = some cs := hg
  unfold globals at hg
  split at hg
  · simp only [Option.some.injEq] at hg
    subst hg
    obtain ⟨arr, el, fz, h1, h2⟩ := laid_cells (n := 1) (s := "math/bits.deBruijn64tab") (d := Rows.laid_math_bits_deBruijn64tab) hL (by kernel_rfl) 5 478 4 tabVals (by kernel_rfl) (by kernel_rfl) (by kernel_rfl)
    exact ⟨arr, el, fz, h1, cells_known (by kernel_rfl) h2⟩
  · simp only [Option.some.injEq] at hg
    subst hg
    obtain ⟨arr, el, fz, h1, h2⟩ := laid_cells (n := 4) (s := "wakeman/mix.steps") (d := Rows.laid_wakeman_mix_steps) hL (by kernel_rfl) 1 364 4 stepsVals (by kernel_rfl) (by kernel_rfl) (by kernel_rfl)
    exact ⟨arr, el, fz, h1, cells_known (by kernel_rfl) h2⟩
  · cases hg

theorem over1 : OverOk Tryz.prog 356 := over_ok (tS := 169) (tR := 4) (e := 205) Tryz.func356 (by kernel_rfl) (by kernel_rfl) (by kernel_rfl) (by kernel_rfl) (by kernel_rfl) (fun w => sizeOf_run (E := env sig0) (n := 4) (by kernel_rfl) w)
theorem over2 : OverOk Tryz.prog 358 := over_ok (tS := 67) (tR := 4) (e := 3) Tryz.func358 (by kernel_rfl) (by kernel_rfl) (by kernel_rfl) (by kernel_rfl) (by kernel_rfl) (fun w => sizeOf_run (E := env sig0) (n := 1) (by kernel_rfl) w)
theorem same1 : SameOk Tryz.prog 106 := same_ok Tryz.func106 (by kernel_rfl) (by kernel_rfl) (by kernel_rfl) (by kernel_rfl)
theorem mkz1 : MkzOk Tryz.prog 227 5 := mkz_ok (tp := 3) (tr := 89) Tryz.func227 (by kernel_rfl) (by kernel_rfl) (by kernel_rfl) (by kernel_rfl) (by kernel_rfl)
theorem num (σ : Sig) : NumOk (env σ) := num_nothing rfl rfl rfl rfl (fun f h => by
  simp only [env, List.mem_cons, List.mem_nil_iff, or_false] at h
  rcases h with rfl | rfl
  · exact over1
  · exact over2) (fun f h => by cases h) (fun f h => by
  simp only [env, List.mem_cons, List.mem_nil_iff, or_false] at h
  subst h
  exact same1) (fun f t h => by
  simp only [env, Sym.assocN] at h
  split at h
  · rename_i hb
    have := Nat.eq_of_beq_eq_true hb
    subst this
    simp only [Option.some.injEq] at h
    subst h
    exact mkz1
  · cases h)
theorem both0 (σ : Sig) : CalleeMono (insC σ) ∧ CalleeSound (env σ) (insC σ) := semK_both (known_nothing (env σ)) 4
theorem knows (σ : Sig) : Known (env σ) (know σ) := known_ins (both0 σ).2 (both0 σ).1 _ (known_nothing (env σ))

theorem works_name (vals : Array Value) (w : World) : (callFunc 5 vals).run Tryz.prog w = .ok (.enter 5 vals) w := by kernel_rfl
theorem works_calls (σ : Sig) (w : World) (h : Lies (env σ) w) : Calls (env σ).P 5 #[] w fun e w' => e = .returned (.bool true) ∧ On w w' := by
  obtain ⟨hM, hC⟩ := semK_both (knows σ) 60
  refine callsIn_wide.1 (CallsIn.mono (callsIn_wide.2 (parts_call (E := env σ) (C := wkC σ) hC hM (num σ) Tryz.func5 wk_body (wk_leads σ hC hM) (wk_end σ) h)) (n := 0) ?_)
  rintro e w' ⟨u, ρ, rfl, -, hv, ho⟩
  cases hv
  exact ⟨rfl, ho⟩
theorem known (σ : Sig) : Known (env σ) (knowW σ) := known_bool (E := env σ) works_name (works_calls σ) (knows σ)
theorem law_calls (w : World) (h : Lies (env sig0) w) : Calls Tryz.prog 4 #[] w fun e w' => e = .returned (.bool true) ∧ On w w' := by
  obtain ⟨hM, hC⟩ := semK_both (known sig0) 60
  refine callsIn_wide.1 (CallsIn.mono (callsIn_wide.2 (parts_call (E := env sig0) (C := pkC sig0) hC hM (num sig0) Tryz.func4 pk_body (pk_leads sig0 hC hM) (pk_end sig0) h)) (n := 0) ?_)
  rintro e w' ⟨u, ρ, rfl, -, hv, ho⟩
  cases hv
  exact ⟨rfl, ho⟩

set_option maxRecDepth 100000 in
theorem lifted (os : Os) (started : os.Started) (H : Type) (enc : TypeId × Value → H) :
    ReturnsInHanded {} Tryz.checked os 4 .any (fun w args => (Rows.playKnownSpec.pre enc Tryz.prog Tryz.f4 Rows.playKnownRow.domain false w args ∧ laidMetH Tryz.prog Rows.playKnownRow.laid w) ∧ sizedMet enc Tryz.prog Tryz.f4 (OpenSpec.ofChange Rows.playKnownSpec) false w args)
      (Rows.playKnownSpec.post enc Tryz.prog Tryz.f4 false true false false) := by
  refine returnsInHanded_of_change_and (C := Tryz.checked) (X := fun w _ => laidMetH Tryz.prog Rows.playKnownRow.laid w) (fun _ _ _ hh h => h.of_heap hh) own started (by kernel_rfl) Tryz.func4
    (ChangeSpec.witness_shaped (enc := enc) (C := Tryz.checked) (os := os) (X := fun w _ => laidMetH Tryz.prog Rows.playKnownRow.laid w) false (World.laidAll Tryz.prog os Rows.playKnownRow.laid) #[] 8 (World.laidAll_os _ _ _)
      (World.shaped_of_ZipB (by kernel_rfl) (by kernel_rfl)) (by kernel_rfl) (by kernel_rfl) (by kernel_rfl)
      (by rw [MakeChecks.laidMetH_plain _ _ _ (by kernel_rfl)]; exact laidMet_laidAll _ (by kernel_rfl) (by kernel_rfl))) ?_
  intro W base args ds gs before hval0 hW _ _ hL _
  have hW' := hW
  obtain ⟨p, q, hA0, hV, rfl, hfz, hnd⟩ := hW
  have hA : DataW.TrodAll enc Tryz.prog W 0 (fun _ => true) true [] args.toList ds p := hA0
  obtain ⟨hargs, rfl, rfl⟩ := trodAll_nil hA
  obtain ⟨rfl, rfl⟩ := trodVars_none hV
  obtain rfl : args = #[] := by cases args; simp_all
  refine (law_calls W (lies sig0 hL)).mono fun e W' ⟨he, ho⟩ => ?_
  subst he
  exact ⟨_, rfl, law_post laidOut rfl rfl bool4 (by kernel_rfl) hW' rfl ho⟩

theorem said : Rows.PlayKnownSaid :=
  OpenClaim.holds_of_wide 4 Tryz.f4 rfl rfl rfl rfl rfl rfl rfl ⟨rfl, rfl, rfl, rfl, rfl⟩ rfl rfl rfl rfl rfl PlayKnownFacts.funcNo Tryz.func4 PlayKnownFacts.closed
    (of_decide_eq_true (by kernel_rfl)) (by unfold Func.isWrapper; first | (rw [if_pos (by decide +kernel)]; kernel_rfl) | (rw [if_neg (by decide +kernel)]; exact ⟨rfl, rfl⟩))
    (fun os started H enc _ => lifted os started H enc)
theorem plain (f : FuncId) (fn : Func) (hf : Tryz.pinned.checked.prog.funcNamed "wakeman/wakemanlaw40.PlayKnown" = some f) (hfn : Tryz.pinned.checked.prog.funcs[f]? = some fn) :
    false = Tryz.pinned.checked.prog.looks [] ∧ ∀ (j : Nat) t, fn.params[j]? = some t → Tryz.pinned.checked.prog.wantsStandIn t = false := by
  obtain rfl : f = 4 := Option.some.inj (PlayKnownFacts.funcNo.symm.trans hf) |>.symm
  obtain rfl : fn = Tryz.f4 := (Option.some.inj (Tryz.func4.symm.trans hfn)).symm
  refine ⟨PlayKnownFacts.looks, fun j t ht => ?_⟩
  have hall : (Tryz.f4.params.toList.all fun u => !Tryz.prog.wantsStandIn u) = true := by kernel_rfl
  have hm : t ∈ Tryz.f4.params.toList := by simpa using Array.mem_of_getElem? ht
  exact (show Tryz.prog.wantsStandIn t = false by simpa using List.all_eq_true.1 hall t hm)
end PlayKnownProof

theorem playKnown_card : Rows.PlayKnownCardSaid :=
  Claim7.holds_tied_plain_at .later [] _ _ _ _ PlayKnownProof.said (fun _ h => by cases h) PlayKnownFacts.wfText (fun _ h => by cases h) playKnown_row_tie rfl ⟨rfl, rfl⟩ PlayKnownFacts.mainIs rfl PlayKnownProof.plain PlayKnownFacts.goes
end Go.Proofs.YtgjolaclhdpfaaaGreatDoor
