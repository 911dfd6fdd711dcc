/- The law's function, run for every operation. -/
import Derived.Test.YtgnblahckpipiaaGreatDoorEnv
set_option linter.all false
namespace Go.Proofs.YtgnblahckpipiaaGreatDoor
open Go.RX
/-- The argument: an operation (its kind, four numbers' and a truth value's cells, its job's name). -/
def argK : List SV := [.agg [.sint .i64 (.var 0), .sint .i64 (.var 1), .sint .i64 (.var 2), .sint .i64 (.var 3), .blur, .sstr 5]]
def knowWorks (f : Nat) (args : List SV) (S : SW) : Option (SV × SW) := match Nat.beq f 9, args with | true, [] => some (.bool true, S) | _, _ => none
theorem law_run (σ : Sig) : isBool true ((semK (env σ) knowWorks 40).call 3 argK ⟨.nil, 0, 0⟩) = true := by kernel_rfl
end Go.Proofs.YtgnblahckpipiaaGreatDoor
