/- The call starts no goroutine: no function of the program does. -/
import Derived.Test.YtgjolaclhdpfaaaGreatDoorRows
import Derived.Test.YtgjolaclhdpfaaaGreatDoorRxH
import Derived.KernelRfl
set_option linter.all false
namespace Go.Proofs.YtgjolaclhdpfaaaGreatDoor.PlayKnownFacts
open Go
theorem noneGoes : Tryz.prog.funcs.any Func.goes = false := by kernel_rfl
theorem goes : false = Rows.playKnownRow.goesBy Tryz.prog := RX.goesBy_false rfl noneGoes
end Go.Proofs.YtgjolaclhdpfaaaGreatDoor.PlayKnownFacts
