/- The chapter's examples hold: a closed run of the program, reckoned by the evaluator. -/
import Derived.Test.YtenkdblhfejiaaaGreatDoorEnv
import Derived.KernelRfl
set_option linter.all false
namespace Go.Proofs.YtenkdblhfejiaaaGreatDoor
open Go.RX
theorem works_run : isBool true ((semK env (fun _ _ => none) 40).call 12 [] ⟨.nil, 0, 0⟩) = true := by kernel_rfl
end Go.Proofs.YtenkdblhfejiaaaGreatDoor
