/- The law's function, run with no task, and with one to four, and with five and more. -/
import Derived.Test.YtdabjinnlagdgaaGreatDoorEnv
namespace Go.Proofs.YtdabjinnlagdgaaGreatDoor
open Go.RX
theorem run0 (σ : Sig) : isBool true ((semK (envN σ) (knowG (bounds 0 0 0)) 40).call 3 (argG .nilslice) ⟨.nil, 0, 0⟩) = true := by kernel_rfl
theorem run00 (σ : Sig) : isBool true ((semK (envG σ 0 0 0) (knowG (bounds 0 0 0)) 40).call 3 (argG (.row 0)) ⟨.nil, 0, 0⟩) = true := by kernel_rfl
theorem run1 (σ : Sig) : isBool true ((semK (envG σ 1 1 1) (knowG (bounds 1 1 1)) 40).call 3 (argG (.row 0)) ⟨.nil, 0, 0⟩) = true := by kernel_rfl
theorem run2 (σ : Sig) : isBool true ((semK (envG σ 2 2 2) (knowG (bounds 2 2 2)) 40).call 3 (argG (.row 0)) ⟨.nil, 0, 0⟩) = true := by kernel_rfl
theorem run3 (σ : Sig) : isBool true ((semK (envG σ 3 3 3) (knowG (bounds 3 3 3)) 40).call 3 (argG (.row 0)) ⟨.nil, 0, 0⟩) = true := by kernel_rfl
theorem run4 (σ : Sig) : isBool true ((semK (envG σ 4 4 4) (knowG (bounds 4 4 4)) 40).call 3 (argG (.row 0)) ⟨.nil, 0, 0⟩) = true := by kernel_rfl
theorem run5 (σ : Sig) : isBool true ((semK (envG σ 5 9223372036854775807 5) (knowG (bounds 5 9223372036854775807 5)) 40).call 3 (argG (.row 0)) ⟨.nil, 0, 0⟩) = true := by kernel_rfl
end Go.Proofs.YtdabjinnlagdgaaGreatDoor
