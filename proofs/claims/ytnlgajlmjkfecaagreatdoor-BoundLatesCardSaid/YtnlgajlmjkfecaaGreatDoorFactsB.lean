/- The call starts no goroutine: no function of the program does. -/
import Derived.Test.YtnlgajlmjkfecaaGreatDoorRows
import Derived.Test.YtnlgajlmjkfecaaGreatDoorRxGoes
import Derived.KernelRfl
set_option linter.all false
namespace Go.Proofs.YtnlgajlmjkfecaaGreatDoor.BoundLatesFacts
open Go
theorem noneGoes : Tryz.prog.funcs.any Func.goes = false := by kernel_rfl
theorem goes : false = Rows.boundLatesRow.goesBy Tryz.prog := RX.goesBy_false rfl noneGoes
end Go.Proofs.YtnlgajlmjkfecaaGreatDoor.BoundLatesFacts
