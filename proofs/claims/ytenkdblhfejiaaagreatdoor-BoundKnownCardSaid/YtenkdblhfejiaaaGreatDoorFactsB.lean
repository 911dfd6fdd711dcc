/- The call starts no goroutine: no function of the program does. -/
import Derived.Test.YtenkdblhfejiaaaGreatDoorRows
import Derived.Test.YtenkdblhfejiaaaGreatDoorRxGoes
import Derived.KernelRfl
set_option linter.all false
namespace Go.Proofs.YtenkdblhfejiaaaGreatDoor.BoundKnownFacts
open Go
theorem noneGoes : Tryz.prog.funcs.any Func.goes = false := by kernel_rfl
theorem goes : false = Rows.boundKnownRow.goesBy Tryz.prog := RX.goesBy_false rfl noneGoes
end Go.Proofs.YtenkdblhfejiaaaGreatDoor.BoundKnownFacts
