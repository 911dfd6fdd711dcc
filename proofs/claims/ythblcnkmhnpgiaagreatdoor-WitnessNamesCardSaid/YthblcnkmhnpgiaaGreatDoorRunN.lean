/- The law's sixteen runs, one for each rest of its argument modulo 16. -/
import Derived.Test.YthblcnkmhnpgiaaGreatDoorMnK
set_option linter.all false
set_option maxRecDepth 100000
namespace Go.Proofs.YthblcnkmhnpgiaaGreatDoor
open Go.RX
def ptB (k : Int) : List (IE × Int) := [(.bin .rem .u8 (.var 0) (.lit 16), k)]
noncomputable def knowN (σ : Sig) (B : List (IE × Int)) (f : Nat) (args : List SV) (S : SW) : Option (SV × SW) := match Nat.beq f 6, args with | true, [] => some (.bool true, S) | _, _ => concCall B [5] (kn σ B) f args S
theorem names_run0 (σ : Sig) : isBool true ((semK (envB σ (ptB 0)) (knowN σ (ptB 0)) 40).call 3 [.sint .u8 (.var 0)] ⟨.nil, 0, 0⟩) = true := by kernel_rfl
theorem names_run1 (σ : Sig) : isBool true ((semK (envB σ (ptB 1)) (knowN σ (ptB 1)) 40).call 3 [.sint .u8 (.var 0)] ⟨.nil, 0, 0⟩) = true := by kernel_rfl
theorem names_run2 (σ : Sig) : isBool true ((semK (envB σ (ptB 2)) (knowN σ (ptB 2)) 40).call 3 [.sint .u8 (.var 0)] ⟨.nil, 0, 0⟩) = true := by kernel_rfl
theorem names_run3 (σ : Sig) : isBool true ((semK (envB σ (ptB 3)) (knowN σ (ptB 3)) 40).call 3 [.sint .u8 (.var 0)] ⟨.nil, 0, 0⟩) = true := by kernel_rfl
theorem names_run4 (σ : Sig) : isBool true ((semK (envB σ (ptB 4)) (knowN σ (ptB 4)) 40).call 3 [.sint .u8 (.var 0)] ⟨.nil, 0, 0⟩) = true := by kernel_rfl
theorem names_run5 (σ : Sig) : isBool true ((semK (envB σ (ptB 5)) (knowN σ (ptB 5)) 40).call 3 [.sint .u8 (.var 0)] ⟨.nil, 0, 0⟩) = true := by kernel_rfl
theorem names_run6 (σ : Sig) : isBool true ((semK (envB σ (ptB 6)) (knowN σ (ptB 6)) 40).call 3 [.sint .u8 (.var 0)] ⟨.nil, 0, 0⟩) = true := by kernel_rfl
theorem names_run7 (σ : Sig) : isBool true ((semK (envB σ (ptB 7)) (knowN σ (ptB 7)) 40).call 3 [.sint .u8 (.var 0)] ⟨.nil, 0, 0⟩) = true := by kernel_rfl
theorem names_run8 (σ : Sig) : isBool true ((semK (envB σ (ptB 8)) (knowN σ (ptB 8)) 40).call 3 [.sint .u8 (.var 0)] ⟨.nil, 0, 0⟩) = true := by kernel_rfl
theorem names_run9 (σ : Sig) : isBool true ((semK (envB σ (ptB 9)) (knowN σ (ptB 9)) 40).call 3 [.sint .u8 (.var 0)] ⟨.nil, 0, 0⟩) = true := by kernel_rfl
theorem names_run10 (σ : Sig) : isBool true ((semK (envB σ (ptB 10)) (knowN σ (ptB 10)) 40).call 3 [.sint .u8 (.var 0)] ⟨.nil, 0, 0⟩) = true := by kernel_rfl
theorem names_run11 (σ : Sig) : isBool true ((semK (envB σ (ptB 11)) (knowN σ (ptB 11)) 40).call 3 [.sint .u8 (.var 0)] ⟨.nil, 0, 0⟩) = true := by kernel_rfl
theorem names_run12 (σ : Sig) : isBool true ((semK (envB σ (ptB 12)) (knowN σ (ptB 12)) 40).call 3 [.sint .u8 (.var 0)] ⟨.nil, 0, 0⟩) = true := by kernel_rfl
theorem names_run13 (σ : Sig) : isBool true ((semK (envB σ (ptB 13)) (knowN σ (ptB 13)) 40).call 3 [.sint .u8 (.var 0)] ⟨.nil, 0, 0⟩) = true := by kernel_rfl
theorem names_run14 (σ : Sig) : isBool true ((semK (envB σ (ptB 14)) (knowN σ (ptB 14)) 40).call 3 [.sint .u8 (.var 0)] ⟨.nil, 0, 0⟩) = true := by kernel_rfl
theorem names_run15 (σ : Sig) : isBool true ((semK (envB σ (ptB 15)) (knowN σ (ptB 15)) 40).call 3 [.sint .u8 (.var 0)] ⟨.nil, 0, 0⟩) = true := by kernel_rfl
end Go.Proofs.YthblcnkmhnpgiaaGreatDoor
