/- The call starts no goroutine: no function of the program does. -/
import Derived.Test.YtofcbcpbglnogaaGreatDoorRows
import Derived.Test.YtofcbcpbglnogaaGreatDoorRxH
import Derived.KernelRfl
set_option linter.all false
namespace Go.Proofs.YtofcbcpbglnogaaGreatDoor.PlaySplitsFacts
open Go
theorem noneGoes : Tryz.prog.funcs.any Func.goes = false := by kernel_rfl
theorem goes : false = Rows.playSplitsRow.goesBy Tryz.prog := RX.goesBy_false rfl noneGoes
end Go.Proofs.YtofcbcpbglnogaaGreatDoor.PlaySplitsFacts
