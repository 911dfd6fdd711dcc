/- The law is true: a closed run of the program, but for the examples, reckoned by the evaluator. -/
import Derived.Test.YtenkdblhfejiaaaGreatDoorEnv
import Derived.KernelRfl
set_option linter.all false
namespace Go.Proofs.YtenkdblhfejiaaaGreatDoor
open Go.RX
theorem known_run : isBool true ((semK env knowWorks 40).call 3 [] ⟨.nil, 0, 0⟩) = true := by kernel_rfl
end Go.Proofs.YtenkdblhfejiaaaGreatDoor
