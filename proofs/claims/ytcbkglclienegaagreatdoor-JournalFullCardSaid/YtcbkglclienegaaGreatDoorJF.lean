/- The chapter's examples hold: a closed run of the program, reckoned by the evaluator. -/
import Derived.Test.YtcbkglclienegaaGreatDoorJA
set_option linter.all false
namespace Go.Proofs.YtcbkglclienegaaGreatDoor
open Go.RX
theorem works_run (σ : Sig) : isBool true ((semK (env σ) (know σ) 60).call 11 [] ⟨.nil, 0, 0⟩) = true := by kernel_rfl
end Go.Proofs.YtcbkglclienegaaGreatDoor
