/- The chapter's examples hold: a closed run of the program, reckoned by the evaluator. -/
import Derived.Test.YtdabjinnlagdgaaGreatDoorEnv
namespace Go.Proofs.YtdabjinnlagdgaaGreatDoor
open Go.RX
theorem works_run : isBool true ((semK envC (fun _ _ _ => none) 40).call 8 [] ⟨.nil, 0, 0⟩) = true := by kernel_rfl
end Go.Proofs.YtdabjinnlagdgaaGreatDoor
