/- Events: what a check of one answers; how the runs of its ways are used. -/
import Derived.Test.YtnlgajlmjkfecaaGreatDoorProg
import Derived.Test.YtnlgajlmjkfecaaGreatDoorRxSteps
set_option linter.all false
namespace Go.Proofs.YtnlgajlmjkfecaaGreatDoor
open Go.RX

def evSpec (kind at_ job due attempt run why when_ : Int) : Int :=
  if kind < 1 ∨ 8 < kind then 2
  else if at_ < 0 ∨ 253402300799 < at_ ∨ (kind ≤ 5 ∧ (due < 0 ∨ 253402300799 < due)) then 14
  else if (kind ≠ 6 → 0 ≤ job ∧ job ≤ 63) ∧ (kind = 6 → job = 0) ∧ (kind ≤ 5 → due ≤ at_ ∧ 1 ≤ attempt ∧ attempt ≤ 21) ∧ (5 < kind → due = 0 ∧ attempt = 0) ∧
      (kind ≤ 3 → 1 ≤ run) ∧ (3 < kind → run = 0) ∧ (kind = 4 → 2 ≤ attempt) ∧ (kind = 4 ∨ kind = 7 → at_ < when_ ∧ when_ ≤ 4611686018427387904) ∧ (kind ≠ 4 ∧ kind ≠ 7 → when_ = 0) ∧
      (kind = 5 → 1 ≤ why ∧ why ≤ 6) ∧ (kind = 6 → 1 ≤ why ∧ why ≤ 16) ∧ (kind ≠ 5 ∧ kind ≠ 6 → why = 0) then 0
  else 2

noncomputable def envF (σ : Sig) (F : List Fact) : Env := { P := Tryz.prog, G := fun _ => none, lt := factLt F, eq := factEq F, sig := σ }
def isI (c : Int) (r : Option (SV × SW)) : Bool := match r with
  | some (.int .i64 n, _) => Sym.eqb n c
  | _ => false
def evRest : List SV := [.sint .i64 (.var 1), .sint .i64 (.var 2), .sint .i64 (.var 3), .sint .i64 (.var 4), .sint .i64 (.var 5), .sint .i64 (.var 6), .sint .i64 (.var 7)]
def evK (k : Int) : List SV := [.agg (.int .i64 k :: evRest)]
def evS : List SV := [.agg (.sint .i64 (.var 0) :: evRest)]
def evVal (σ : Sig) (k : Int) : Value := .agg #[.int .i64 k, .int .i64 (σ.var 1), .int .i64 (σ.var 2), .int .i64 (σ.var 3), .int .i64 (σ.var 4), .int .i64 (σ.var 5), .int .i64 (σ.var 6), .int .i64 (σ.var 7)]
def CallsI (f : Nat) (v : Value) (W : World) (s : Int) : Prop := Calls Tryz.prog f #[v] W fun e w' => e = .returned (.int .i64 s) ∧ On W w'

theorem fnil {σ : Sig} : ∀ f ∈ ([] : List Fact), f.holds σ := fun f h => by simp at h
theorem fcons {σ : Sig} {g : Fact} {F : List Fact} (h : g.holds σ) (k : ∀ f ∈ F, f.holds σ) : ∀ f ∈ g :: F, f.holds σ := fun f hf => by
  rcases List.mem_cons.1 hf with rfl | hf
  · exact h
  · exact k f hf
theorem ltT {σ : Sig} {a b : IE} (h : IE.val σ a < IE.val σ b) : (Fact.mk true a b true).holds σ := ⟨fun _ => rfl, fun _ => h⟩
theorem ltF {σ : Sig} {a b : IE} (h : ¬ IE.val σ a < IE.val σ b) : (Fact.mk true a b false).holds σ := ⟨fun k => absurd k h, fun k => by cases k⟩
theorem eqT {σ : Sig} {a b : IE} (h : IE.val σ a = IE.val σ b) : (Fact.mk false a b true).holds σ := ⟨fun _ => rfl, fun _ => h⟩
theorem eqF {σ : Sig} {a b : IE} (h : ¬ IE.val σ a = IE.val σ b) : (Fact.mk false a b false).holds σ := ⟨fun k => absurd k h, fun k => by cases k⟩

theorem envF_num {σ : Sig} {F : List Fact} (hF : ∀ f ∈ F, f.holds σ) : NumOk (envF σ F) := fact_num rfl rfl hF (fun _ _ h => by cases h)
theorem envF_lies {σ : Sig} {F : List Fact} (W : World) : Lies (envF σ F) W := ⟨fun _ _ h => (by cases h), fun _ _ h => (by cases h)⟩
theorem isI_some {c : Int} {r : Option (SV × SW)} (h : isI c r = true) : ∃ S', r = some (.int .i64 c, S') := by
  unfold isI at h
  split at h
  · rename_i n S'
    rw [eqb_eq] at h
    have := of_decide_eq_true h
    subst this
    exact ⟨S', rfl⟩
  · cases h

theorem rest_rel (σ : Sig) : VRels (.nil σ) evRest [.int .i64 (σ.var 1), .int .i64 (σ.var 2), .int .i64 (σ.var 3), .int .i64 (σ.var 4), .int .i64 (σ.var 5), .int .i64 (σ.var 6), .int .i64 (σ.var 7)] := by
  have key : ∀ i, VRel (.nil σ) (.sint .i64 (.var i)) (.int .i64 (σ.var i)) := fun i => by
    have := VRel.sint (ρ := .nil σ) .i64 (.var i)
    simpa [IE.val, Ren.nil] using this
  exact .cons (key 1) (.cons (key 2) (.cons (key 3) (.cons (key 4) (.cons (key 5) (.cons (key 6) (.cons (key 7) .nil))))))

theorem leaf_any {σ : Sig} {W : World} {f : Nat} {c s : Int} {F : List Fact} {args : List SV} {vals : List Value} (hr : isI c ((semK (envF σ F) (fun _ _ => none) 20).call f args ⟨.nil, 0, 0⟩) = true) (hF : ∀ f ∈ F, f.holds σ) (hs : s = c)
    (hv : VRels (.nil σ) args vals) : Calls Tryz.prog f vals.toArray W fun e w' => e = .returned (.int .i64 s) ∧ On W w' := by
  subst hs
  obtain ⟨S', hr'⟩ := isI_some hr
  have := run_empty (E := envF σ F) (known_nothing _) hr' hv (envF_num hF) (envF_lies W)
  refine callsIn_wide.1 (CallsIn.mono (callsIn_wide.2 this) (n := 0) ?_)
  rintro e w' ⟨v, ρ, rfl, -, hv', ho⟩
  cases hv'
  exact ⟨rfl, ho⟩
theorem leafK {σ : Sig} {W : World} {f : Nat} {k c s : Int} {F : List Fact} (hr : isI c ((semK (envF σ F) (fun _ _ => none) 20).call f (evK k) ⟨.nil, 0, 0⟩) = true) (hF : ∀ f ∈ F, f.holds σ) (hs : s = c) : CallsI f (evVal σ k) W s :=
  leaf_any (vals := [evVal σ k]) hr hF hs (.cons (.agg (.cons (.int _ _) (rest_rel σ))) .nil)
theorem leafS {σ : Sig} {W : World} {f : Nat} {c s : Int} {F : List Fact} (hr : isI c ((semK (envF σ F) (fun _ _ => none) 20).call f evS ⟨.nil, 0, 0⟩) = true) (hF : ∀ f ∈ F, f.holds σ) (hs : s = c) : CallsI f (evVal σ (σ.var 0)) W s := by
  have h0 : VRel (.nil σ) (.sint .i64 (.var 0)) (.int .i64 (σ.var 0)) := by
    have := VRel.sint (ρ := .nil σ) .i64 (.var 0)
    simpa [IE.val, Ren.nil] using this
  exact leaf_any (vals := [evVal σ (σ.var 0)]) hr hF hs (.cons (.agg (.cons h0 (rest_rel σ))) .nil)

theorem add_small {x y : Int} (h1 : -9223372036854775808 ≤ x + y) (h2 : x + y ≤ 9223372036854775807) : opVal .add .i64 x y = x + y := by
  have hw : IntKind.i64.wrap (x + y) = x + y := by
    simp only [IntKind.wrap, IntKind.bits, IntKind.signed]
    simp
    omega
  have := opVal_int (op := .add) (k := .i64) (x := x) (y := y) (n := x + y) (by simp) (by simp) (by simp only [Sym.intOp]; rw [wrapped_eq, show Int.add x y = x + y from rfl, hw])
  exact this
end Go.Proofs.YtnlgajlmjkfecaaGreatDoor
