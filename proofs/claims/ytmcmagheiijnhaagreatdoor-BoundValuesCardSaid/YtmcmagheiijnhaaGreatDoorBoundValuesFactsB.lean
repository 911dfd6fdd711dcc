/- The call starts no goroutine: no function of the program does. -/
import Derived.Test.YtmcmagheiijnhaaGreatDoorRows
import Derived.Test.YtmcmagheiijnhaaGreatDoorRxH
import Derived.KernelRfl
set_option linter.all false
namespace Go.Proofs.YtmcmagheiijnhaaGreatDoor.BoundValuesFacts
open Go
theorem noneGoes : Tryz.prog.funcs.any Func.goes = false := by kernel_rfl
theorem goes : false = Rows.boundValuesRow.goesBy Tryz.prog := RX.goesBy_false rfl noneGoes
end Go.Proofs.YtmcmagheiijnhaaGreatDoor.BoundValuesFacts
