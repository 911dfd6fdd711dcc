/- The call starts no goroutine: no function of the program does. -/
import Derived.Test.YtoafolgibimgjaaGreatDoorRows
import Derived.Test.YtoafolgibimgjaaGreatDoorRxH
import Derived.KernelRfl
set_option linter.all false
namespace Go.Proofs.YtoafolgibimgjaaGreatDoor.BoundPartsFacts
open Go
theorem noneGoes : Tryz.prog.funcs.any Func.goes = false := by kernel_rfl
theorem goes : false = Rows.boundPartsRow.goesBy Tryz.prog := RX.goesBy_false rfl noneGoes
end Go.Proofs.YtoafolgibimgjaaGreatDoor.BoundPartsFacts
