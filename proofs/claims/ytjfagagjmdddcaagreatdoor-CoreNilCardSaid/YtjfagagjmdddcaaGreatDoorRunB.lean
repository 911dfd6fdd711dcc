/- The law's function, run for every operation and job: names of more than 100 bytes; others. -/
import Derived.Test.YtjfagagjmdddcaaGreatDoorEnv
import Derived.KernelRfl
set_option linter.all false
namespace Go.Proofs.YtjfagagjmdddcaaGreatDoor
open Go.RX
/-- The arguments: an operation (its kind, four numbers' and a truth value's cells, its job's name), a job. -/
def argK : List SV := [.agg [.sint .i64 (.var 0), .sint .i64 (.var 1), .sint .i64 (.var 2), .sint .i64 (.var 3), .blur, .sstr 5], .sint .i64 (.var 6)]
def knowWorks (f : Nat) (args : List SV) (S : SW) : Option (SV × SW) := match Nat.beq f 4, args with | true, [] => some (.bool true, S) | _, _ => none
theorem long_run (σ : Sig) : isBool true ((semK (envF σ [⟨true, .lit 100, .var 5, true⟩]) knowWorks 40).call 3 argK ⟨.nil, 0, 0⟩) = true := by kernel_rfl
theorem short_run (σ : Sig) : isBool true ((semK (envF σ [⟨true, .lit 100, .var 5, false⟩]) knowWorks 40).call 3 argK ⟨.nil, 0, 0⟩) = true := by kernel_rfl
end Go.Proofs.YtjfagagjmdddcaaGreatDoor
