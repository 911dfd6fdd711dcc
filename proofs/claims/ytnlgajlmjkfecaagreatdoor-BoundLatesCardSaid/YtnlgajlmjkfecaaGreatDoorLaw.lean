/- The law's function answers true: with no events in memory, and with events in memory. -/
import Derived.Test.YtnlgajlmjkfecaaGreatDoorLoopB
import Derived.Test.YtnlgajlmjkfecaaGreatDoorRunA
set_option linter.all false
namespace Go.Proofs.YtnlgajlmjkfecaaGreatDoor
open Go.RX
open Go.RX.Sym

theorem name10 : named 10 = true := by kernel_rfl
theorem name23 : named 23 = true := by kernel_rfl
theorem name24 : named 24 = true := by kernel_rfl
theorem lies_C (W : World) : Lies envC W := ⟨fun _ _ h => by simp [envC] at h, fun _ _ h => by simp [envC] at h⟩
theorem works_calls (W : World) : Calls Tryz.prog 10 #[] W fun e w' => e = .returned (.bool true) ∧ On W w' := by
  obtain ⟨S', hr⟩ := isBool_some works_run
  exact run_bool (E := envC) (known_nothing _) hr .nil (num_nothing rfl rfl rfl) (lies_C W)

/-! ### No events -/
def knowWorks (f : Nat) (args : List SV) : Option SV := match Nat.beq f 10, args with | true, [] => some (.bool true) | _, _ => none
theorem known_C : Known envC knowWorks := known_bool (E := envC) (nameF name10) (fun w _ => works_calls w) (known_nothing _)
theorem nil_run : isBool true ((semK envC knowWorks 40).call 8 [.nilslice] ⟨.nil, 0, 0⟩) = true := by kernel_rfl
theorem law_nil (W : World) : Calls Tryz.prog 8 #[.slice none 0 0] W fun e w' => e = .returned (.bool true) ∧ On W w' := by
  obtain ⟨S', hr⟩ := isBool_some nil_run
  exact run_bool (E := envC) known_C hr (vals := [.slice none 0 0]) (.cons .nilslice .nil) (num_nothing rfl rfl rfl) (lies_C W)

/-! ### Events -/
noncomputable def sigL (v : Evs) : Sig :=
  { var := fun k => match k with | 0 => (walkE v v.n 0 0).1 | 1 => (walkE v v.n 0 0).2 | _ => 0
    fn := fun _ _ => 0
    row := fun _ => (v.b, v.x, 8, v.n)
    cell := fun _ i c => .int .i64 (v.ev i c) }
def KL1 : List SV → Option SV
  | [.row a] => (match Nat.beq a 0 with | true => some (.tuple [.sint .i64 (.var 0), .sint .i64 (.var 1)]) | false => none)
  | _ => none
def KL0 (f : Nat) (args : List SV) : Option SV := match Nat.beq f 23, Nat.beq f 24 with
  | false, false => none
  | _, _ => KL1 args
def KL (f : Nat) (args : List SV) : Option SV := match Nat.beq f 10, args with | true, [] => some (.bool true) | _, _ => KL0 f args

theorem KL1_some {args : List SV} {x : SV} (h : KL1 args = some x) : args = [.row 0] ∧ x = .tuple [.sint .i64 (.var 0), .sint .i64 (.var 1)] := by
  unfold KL1 at h
  split at h
  · split at h
    · rename_i a ha
      have := Nat.eq_of_beq_eq_true ha
      subst this
      simp only [Option.some.injEq] at h
      exact ⟨rfl, h.symm⟩
    · cases h
  · cases h
theorem KL0_some {f : Nat} {args : List SV} {x : SV} (h : KL0 f args = some x) : (f = 23 ∨ f = 24) ∧ args = [.row 0] ∧ x = .tuple [.sint .i64 (.var 0), .sint .i64 (.var 1)] := by
  unfold KL0 at h
  split at h
  · cases h
  · rename_i hne
    refine ⟨?_, KL1_some h⟩
    cases h1 : Nat.beq f 23 with
    | true => exact .inl (Nat.eq_of_beq_eq_true h1)
    | false =>
      cases h2 : Nat.beq f 24 with
      | true => exact .inr (Nat.eq_of_beq_eq_true h2)
      | false => exact absurd h2 (hne h1)

theorem fits_of_lies {v : Evs} {F : List Fact} {w : World} (h5 : ∀ i, v.ev i 5 ≤ 9223372036854775807) (hf : v.n ≤ 9223372036854775807) (h : Lies (envE (sigL v) F) w) : v.Fits w := by
  refine ⟨h5, hf, ?_⟩
  obtain ⟨b, x, n, arr, el, fz, e1, e2, e3⟩ := h.rows 0 evKinds rfl
  have e1' : ((v.b, v.x, 8, v.n) : Nat × Nat × Nat × Nat) = (b, x, evKinds.length, n) := e1
  simp only [Prod.mk.injEq] at e1'
  obtain ⟨rfl, rfl, -, rfl⟩ := e1'
  refine ⟨arr, el, fz, e2, fun i c hi hc => ?_⟩
  have : ∀ c < 8, evKinds[c]? = some (some .i64) := by decide
  exact (e3 i c (some .i64) hi (this c hc)).1

theorem known_L0 {v : Evs} {F : List Fact} (h5 : ∀ i, v.ev i 5 ≤ 9223372036854775807) (hf : v.n ≤ 9223372036854775807) : Known (envE (sigL v) F) KL0 where
  name f args x h vals w := by
    rcases (KL0_some h).1 with rfl | rfl
    · exact nameF name23 vals w
    · exact nameF name24 vals w
  call f args x h ρ S vals w hok hv := by
    obtain ⟨hff, rfl, rfl⟩ := KL0_some h
    cases hv with
    | cons h1 h2 =>
      cases h2
      obtain ⟨b, x, sz, n, cap, e1, rfl⟩ := h1.row_inv
      have hsig : ρ.sig = sigL v := hok.num.sig
      rw [hsig] at e1
      have e1' : ((v.b, v.x, 8, v.n) : Nat × Nat × Nat × Nat) = (b, x, sz, n) := e1
      simp only [Prod.mk.injEq] at e1'
      obtain ⟨rfl, rfl, -, rfl⟩ := e1'
      have hfit := fits_of_lies h5 hf hok.glob.lies
      have key : Calls Tryz.prog f #[.slice (some ⟨v.b, v.x, none⟩) v.n cap] w fun e w' => e = .returned (.tuple #[.int .i64 (walkE v v.n 0 0).1, .int .i64 (walkE v v.n 0 0).2]) ∧ On w w' := by
        rcases hff with rfl | rfl
        · exact late23 hfit cap
        · exact late24 hfit cap
      refine callsIn_wide.1 (CallsIn.mono (callsIn_wide.2 key) (n := 0) ?_)
      rintro e w' ⟨rfl, o⟩
      have g0 : VRel ρ (.sint .i64 (.var 0)) (.int .i64 (walkE v v.n 0 0).1) := by
        have := VRel.sint (ρ := ρ) .i64 (.var 0)
        rw [hsig] at this
        exact this
      have g1 : VRel ρ (.sint .i64 (.var 1)) (.int .i64 (walkE v v.n 0 0).2) := by
        have := VRel.sint (ρ := ρ) .i64 (.var 1)
        rw [hsig] at this
        exact this
      exact ⟨_, ρ, rfl, ext_on hok.wrel hok.tidy o, .tuple (.cons g0 (.cons g1 .nil))⟩
theorem known_L {v : Evs} {F : List Fact} (h5 : ∀ i, v.ev i 5 ≤ 9223372036854775807) (hf : v.n ≤ 9223372036854775807) : Known (envE (sigL v) F) KL :=
  known_bool (E := envE (sigL v) F) (nameF name10) (fun w _ => works_calls w) (known_L0 h5 hf)

theorem long_run (σ : Sig) : isBool true ((semK (envE σ [⟨true, .lit 300, .len 0, true⟩]) KL 40).call 8 [.row 0] ⟨.nil, 0, 0⟩) = true := by kernel_rfl
theorem short_run (σ : Sig) : isBool true ((semK (envE σ [⟨true, .lit 300, .len 0, false⟩, ⟨false, .var 0, .var 0, true⟩, ⟨false, .var 1, .var 1, true⟩]) KL 40).call 8 [.row 0] ⟨.nil, 0, 0⟩) = true := by kernel_rfl

theorem num_L {v : Evs} {F : List Fact} (hF : ∀ f ∈ F, f.holds (sigL v)) : NumOk (envE (sigL v) F) := fact_num rfl rfl hF fun a ks h => by
  cases a with
  | zero => simp only [envE, Option.some.injEq] at h; subst h; rfl
  | succ a => simp [envE] at h
theorem lies_L {v : Evs} {F : List Fact} {W : World} (h : v.Fits W) : Lies (envE (sigL v) F) W where
  cells g cs hg := by simp [envE] at hg
  rows a ks ha := by
    cases a with
    | succ a => simp [envE] at ha
    | zero =>
      simp only [envE, Option.some.injEq] at ha
      subst ha
      obtain ⟨arr, el, fz, h1, h2⟩ := h.lies
      refine ⟨v.b, v.x, v.n, arr, el, fz, rfl, h1, fun i c k hi hc => ?_⟩
      have hc8 : c < 8 := (List.getElem?_eq_some_iff.1 hc).1
      refine ⟨h2 i c hi hc8, ?_⟩
      have : k = some .i64 := by
        have : ∀ c < 8, evKinds[c]? = some (some .i64) := by decide
        rw [this c hc8] at hc
        simpa using hc.symm
      subst this
      exact ⟨_, rfl⟩

theorem law_row {v : Evs} {W : World} (hv : v.Fits W) (cap : Nat) : Calls Tryz.prog 8 #[.slice (some ⟨v.b, v.x, none⟩) v.n cap] W fun e w' => e = .returned (.bool true) ∧ On W w' := by
  have hrow : VRel (.nil (sigL v)) (.row 0) (.slice (some ⟨v.b, v.x, none⟩) v.n cap) := .row (sz := 8) rfl
  by_cases h : IE.val (sigL v) (.lit 300) < IE.val (sigL v) (.len 0)
  · obtain ⟨S', hr⟩ := isBool_some (long_run (sigL v))
    exact run_bool (E := envE (sigL v) _) (known_L hv.run hv.few) hr (vals := [.slice (some ⟨v.b, v.x, none⟩) v.n cap]) (.cons hrow .nil) (num_L (fcons (ltT h) fnil)) (lies_L hv)
  · obtain ⟨S', hr⟩ := isBool_some (short_run (sigL v))
    exact run_bool (E := envE (sigL v) _) (known_L hv.run hv.few) hr (vals := [.slice (some ⟨v.b, v.x, none⟩) v.n cap]) (.cons hrow .nil) (num_L (fcons (ltF h) (fcons (eqT rfl) (fcons (eqT rfl) fnil)))) (lies_L hv)
end Go.Proofs.YtnlgajlmjkfecaaGreatDoor
