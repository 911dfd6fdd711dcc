/- The whole sets of the fields of an expression: closed runs, as a contract. -/
import Derived.Test.YtmcmagheiijnhaaGreatDoorV1
set_option linter.all false
set_option maxRecDepth 100000
namespace Go.Proofs.YtmcmagheiijnhaaGreatDoor
open Go.RX Go.RX.Sym

theorem isVal_some {E : Env} {K : Nat → List SV → SW → Option (SV × SW)} {d f : Nat} {args : List SV} {r : SV} (h : callIs (fun _ => E) (fun _ => K) d f args r [] = true) : ∃ S, (semK E K d).call f args ⟨.nil, 0, 0⟩ = some (r, S) := callIs_run h
theorem full_0 (σ : Sig) : callIs (fun _ => envF σ []) (fun _ => noC) 40 159 [.int .i64 0] (.int .u64 1152921504606846975) [] = true := by kernel_rfl
theorem full_1 (σ : Sig) : callIs (fun _ => envF σ []) (fun _ => noC) 40 159 [.int .i64 1] (.int .u64 1152921504606846975) [] = true := by kernel_rfl
theorem full_2 (σ : Sig) : callIs (fun _ => envF σ []) (fun _ => noC) 40 159 [.int .i64 2] (.int .u64 16777215) [] = true := by kernel_rfl
theorem full_3 (σ : Sig) : callIs (fun _ => envF σ []) (fun _ => noC) 40 159 [.int .i64 3] (.int .u64 4294967294) [] = true := by kernel_rfl
theorem full_4 (σ : Sig) : callIs (fun _ => envF σ []) (fun _ => noC) 40 159 [.int .i64 4] (.int .u64 8190) [] = true := by kernel_rfl
theorem full_5 (σ : Sig) : callIs (fun _ => envF σ []) (fun _ => noC) 40 159 [.int .i64 5] (.int .u64 127) [] = true := by kernel_rfl
def fullOf : List SV → Option SV
  | [.int .i64 (.ofNat n)] => (match n with | 0 => some (.int .u64 1152921504606846975) | 1 => some (.int .u64 1152921504606846975) | 2 => some (.int .u64 16777215) | 3 => some (.int .u64 4294967294) | 4 => some (.int .u64 8190) | 5 => some (.int .u64 127) | _ => none)
  | _ => none
noncomputable def fullK : Nat → List SV → SW → Option (SV × SW) := plainK 159 fullOf noC
theorem name_full (vals : Array Value) (w : World) : (callFunc 159 vals).run Tryz.prog w = .ok (.enter 159 vals) w := by kernel_rfl
theorem lit_calls {f : Nat} {args : List SV} {k : IntKind} {z : Int} {σ : Sig} (h : callIs (fun _ => envF σ []) (fun _ => noC) 40 f args (.int k z) [] = true) {W : World} (hW : Spaces W) {vals : List Value} (hv : VRels (.nil σ) args vals) : Calls Tryz.prog f vals.toArray W fun e w' => e = .returned (.int k z) ∧ On W w' := by
  obtain ⟨S, hr⟩ := callIs_run h
  refine callsIn_wide.1 (CallsIn.mono (callsIn_wide.2 (run_empty (E := envF σ []) (K := noC) (d := 40) (f := f) (args := args) (known_nothing _) hr hv (numF σ (fun f hf => by cases hf)) (liesF σ [] hW))) (n := 0) ?_)
  rintro e w' ⟨u, ρ, rfl, he, hu, ho⟩
  cases hu
  exact ⟨rfl, ho⟩
theorem full_calls (σ : Sig) {n : Nat} {x : SV} (h : fullOf [.int .i64 (.ofNat n)] = some x) {W : World} (hW : Spaces W) : Calls Tryz.prog 159 #[.int .i64 n] W fun e w' => ∃ k z, x = .int k z ∧ e = .returned (.int k z) ∧ On W w' := by
  have hv : ∀ m : Nat, VRels (.nil σ) [.int .i64 (.ofNat m)] [.int .i64 m] := fun m => .cons (.int _ _) .nil
  simp only [fullOf] at h
  split at h
  · simp only [Option.some.injEq] at h; subst h; exact callsIn_wide.1 (CallsIn.mono (callsIn_wide.2 (lit_calls (full_0 σ) hW (hv 0))) (n := 0) fun e w' ⟨h1, h2⟩ => ⟨_, _, rfl, h1, h2⟩)
  · simp only [Option.some.injEq] at h; subst h; exact callsIn_wide.1 (CallsIn.mono (callsIn_wide.2 (lit_calls (full_1 σ) hW (hv 1))) (n := 0) fun e w' ⟨h1, h2⟩ => ⟨_, _, rfl, h1, h2⟩)
  · simp only [Option.some.injEq] at h; subst h; exact callsIn_wide.1 (CallsIn.mono (callsIn_wide.2 (lit_calls (full_2 σ) hW (hv 2))) (n := 0) fun e w' ⟨h1, h2⟩ => ⟨_, _, rfl, h1, h2⟩)
  · simp only [Option.some.injEq] at h; subst h; exact callsIn_wide.1 (CallsIn.mono (callsIn_wide.2 (lit_calls (full_3 σ) hW (hv 3))) (n := 0) fun e w' ⟨h1, h2⟩ => ⟨_, _, rfl, h1, h2⟩)
  · simp only [Option.some.injEq] at h; subst h; exact callsIn_wide.1 (CallsIn.mono (callsIn_wide.2 (lit_calls (full_4 σ) hW (hv 4))) (n := 0) fun e w' ⟨h1, h2⟩ => ⟨_, _, rfl, h1, h2⟩)
  · simp only [Option.some.injEq] at h; subst h; exact callsIn_wide.1 (CallsIn.mono (callsIn_wide.2 (lit_calls (full_5 σ) hW (hv 5))) (n := 0) fun e w' ⟨h1, h2⟩ => ⟨_, _, rfl, h1, h2⟩)
  · cases h
theorem known_full (σ : Sig) (F : List Fact) : ∀ {W : World}, Spaces W → Known (envF σ F) fullK := fun {W} hW => known_plain name_full (fun args x hg ρ vals w S hok hv => by
  have hsp : Spaces w := by
    have := hok.glob.lies
    refine ⟨fun g cs hg => ?_, fun _ _ h => by cases h⟩
    obtain ⟨arr, el, fz, h1, h2⟩ := this.cells g cs hg
    refine ⟨arr, el, fz, h1, fun k x hk => ?_⟩
    obtain ⟨v, q1, q2⟩ := h2 k x hk
    refine ⟨v, q1, ofValue_rel q2 ?_⟩
    have hg : globals g = some cs := hg
    unfold globals at hg
    split at hg
    · simp only [Option.some.injEq] at hg; subst hg; exact space_int k x hk
    · cases hg
  have hsh : ∃ n : Nat, args = [.int .i64 (.ofNat n)] := by
    unfold fullOf at hg
    split at hg
    · exact ⟨_, rfl⟩
    · cases hg
  obtain ⟨n, rfl⟩ := hsh
  cases hv with
  | cons h1 h2 =>
    cases h1; cases h2
    refine callsIn_wide.1 (CallsIn.mono (callsIn_wide.2 (full_calls σ hg hsp)) (n := 0) ?_)
    rintro e w' ⟨k, z, rfl, h1, h2⟩
    exact ⟨_, h1, .int k z, h2⟩) (known_nothing _)
end Go.Proofs.YtmcmagheiijnhaaGreatDoor
