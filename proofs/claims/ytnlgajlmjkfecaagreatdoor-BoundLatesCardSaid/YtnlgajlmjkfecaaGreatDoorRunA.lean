/- The chapter's examples hold: a closed run of the program, reckoned by the evaluator. -/
import Derived.Test.YtnlgajlmjkfecaaGreatDoorProg
import Derived.Test.YtnlgajlmjkfecaaGreatDoorRxLoops
import Derived.KernelRfl
set_option linter.all false
namespace Go.Proofs.YtnlgajlmjkfecaaGreatDoor
open Go.RX
noncomputable def envC : Env := { P := Tryz.prog, G := fun _ => none }
theorem works_run : isBool true ((semK envC (fun _ _ => none) 40).call 10 [] ⟨.nil, 0, 0⟩) = true := by kernel_rfl
end Go.Proofs.YtnlgajlmjkfecaaGreatDoor
