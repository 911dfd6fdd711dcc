/- The call starts no goroutine: no function of the program does. -/
import Derived.Test.YtdabjinnlagdgaaGreatDoorRows
import Derived.Test.YtdabjinnlagdgaaGreatDoorRxH
import Derived.KernelRfl
set_option linter.all false
namespace Go.Proofs.YtdabjinnlagdgaaGreatDoor.BoundGrowsFacts
open Go
theorem noneGoes : Tryz.prog.funcs.any Func.goes = false := by kernel_rfl
theorem goes : false = Rows.boundGrowsRow.goesBy Tryz.prog := RX.goesBy_false rfl noneGoes
end Go.Proofs.YtdabjinnlagdgaaGreatDoor.BoundGrowsFacts
