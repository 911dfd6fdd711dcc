/- WitnessKnown, a closed run, with works() and the greater parts known. -/
import Derived.Test.YthblcnkmhnpgiaaGreatDoorKdK
set_option linter.all false
set_option maxRecDepth 100000
namespace Go.Proofs.YthblcnkmhnpgiaaGreatDoor
open Go.RX
noncomputable def knowK (σ : Sig) (f : Nat) (args : List SV) (S : SW) : Option (SV × SW) := match Nat.beq f 6, args with | true, [] => some (.bool true, S) | _, _ => kkd σ f args S
theorem known_run (σ : Sig) : isBool true ((semK (env σ) (knowK σ) 60).call 4 [] ⟨.nil, 0, 0⟩) = true := by kernel_rfl
end Go.Proofs.YthblcnkmhnpgiaaGreatDoor
