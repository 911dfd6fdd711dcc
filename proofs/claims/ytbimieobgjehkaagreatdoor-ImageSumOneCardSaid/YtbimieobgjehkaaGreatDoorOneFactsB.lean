/- The call starts no goroutine: no function of the program does. -/
import Derived.Test.YtbimieobgjehkaaGreatDoorRows
import Derived.Test.YtbimieobgjehkaaGreatDoorRxH
import Derived.KernelRfl
set_option linter.all false
namespace Go.Proofs.YtbimieobgjehkaaGreatDoor.ImageSumOneFacts
open Go
theorem noneGoes : Tryz.prog.funcs.any Func.goes = false := by kernel_rfl
theorem goes : false = Rows.imageSumOneRow.goesBy Tryz.prog := RX.goesBy_false rfl noneGoes
end Go.Proofs.YtbimieobgjehkaaGreatDoor.ImageSumOneFacts
