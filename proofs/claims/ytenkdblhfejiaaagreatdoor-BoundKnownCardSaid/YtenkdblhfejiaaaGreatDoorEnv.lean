/- What the evaluator is run over: the program, and the cells of the one package-level variable that the run reads. -/
import Derived.Test.YtenkdblhfejiaaaGreatDoorProg
import Derived.Test.YtenkdblhfejiaaaGreatDoorRxLaid
set_option linter.all false
namespace Go.Proofs.YtenkdblhfejiaaaGreatDoor
open Go.RX

def stepsCells : List SV := [.int .i64 30, .int .u64 13787848793156543929, .int .i64 27, .int .u64 10723151780598845931, .int .i64 31, .int .u64 1]
noncomputable def env : Env := { P := Tryz.prog, G := fun g => match g with | 0 => some stepsCells | _ + 1 => none }
/-- What is known of a call: that the examples hold. -/
def knowWorks (f : Nat) (args : List SV) : Option SV := match Nat.beq f 12, args with | true, [] => some (.bool true) | _, _ => none
end Go.Proofs.YtenkdblhfejiaaaGreatDoor
