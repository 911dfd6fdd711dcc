/- works(): the example holds (a closed run, with the dispatcher's steps and the greater parts known). -/
import Derived.Test.YthblcnkmhnpgiaaGreatDoorMfK
set_option linter.all false
set_option maxRecDepth 100000
namespace Go.Proofs.YthblcnkmhnpgiaaGreatDoor
open Go.RX
theorem works_run (σ : Sig) : isBool true ((semK (env σ) (kpl σ) 60).call 6 [] ⟨.nil, 0, 0⟩) = true := by kernel_rfl
theorem works_name (vals : Array Value) (w : World) : (callFunc 6 vals).run Tryz.prog w = .ok (.enter 6 vals) w := by kernel_rfl
end Go.Proofs.YthblcnkmhnpgiaaGreatDoor
