/- No function of the program starts a goroutine: then no call does. -/
import Derived.Test.YtjfagagjmdddcaaGreatDoorRxShut
import GoSem.ClaimGoes
set_option linter.all false
namespace Go.RX

theorem goes_false {P : Program} (h : P.funcs.any Func.goes = false) (f : FuncId) : P.goes f = false := by
  have one : ∀ g : Nat, (P.funcs[g]?).any Func.goes = false := fun g => by
    cases e : P.funcs[g]? with
    | none => rfl
    | some fn =>
      simp only [Option.any_some]
      cases hg : fn.goes with
      | false => rfl
      | true =>
        exfalso
        have hm : fn ∈ P.funcs := Array.mem_of_getElem? e
        have : P.funcs.any Func.goes = true := Array.any_eq_true'.2 ⟨fn, hm, hg⟩
        rw [h] at this; cases this
  unfold Program.goes
  rw [h, Bool.and_false, Bool.or_false]
  rw [List.any_eq_false]
  intro g _
  simp [one g]

theorem goesBy_false {c : OpenClaim} {P : Program} (hs : c.start = .entering) (h : P.funcs.any Func.goes = false) : false = c.goesBy P := by
  unfold OpenClaim.goesBy Program.goesAt Program.goesFrom
  rw [hs]
  cases e : P.funcNamed c.func with
  | none => rfl
  | some f => simp [goes_false h f]
end Go.RX
