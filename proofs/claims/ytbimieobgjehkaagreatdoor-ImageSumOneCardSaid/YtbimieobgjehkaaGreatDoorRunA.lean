/- The chapter's examples hold: a closed run of the program, reckoned by the evaluator. -/
import Derived.Test.YtbimieobgjehkaaGreatDoorEnv
import Derived.KernelRfl
set_option linter.all false
namespace Go.Proofs.YtbimieobgjehkaaGreatDoor
open Go.RX
theorem works_run (σ : Sig) : isBool true ((semK (env σ) (know σ) 40).call 6 [] ⟨.nil, 0, 0⟩) = true := by kernel_rfl
end Go.Proofs.YtbimieobgjehkaaGreatDoor
