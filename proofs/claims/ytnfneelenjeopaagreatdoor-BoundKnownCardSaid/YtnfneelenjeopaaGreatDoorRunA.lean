/- The chapter's examples hold: a closed run of the program, reckoned by the evaluator. -/
import Derived.Test.YtnfneelenjeopaaGreatDoorEnv
import Derived.KernelRfl
set_option linter.all false
namespace Go.Proofs.YtnfneelenjeopaaGreatDoor
open Go.RX
theorem works_run : isBool true ((semK env (fun _ _ => none) 40).call 14 [] ⟨.nil, 0, 0⟩) = true := by kernel_rfl
end Go.Proofs.YtnfneelenjeopaaGreatDoor
