/- The call starts no goroutine: no function of the program does. -/
import Derived.Test.YtgnblahckpipiaaGreatDoorRows
import Derived.Test.YtgnblahckpipiaaGreatDoorRxH
import Derived.KernelRfl
set_option linter.all false
namespace Go.Proofs.YtgnblahckpipiaaGreatDoor.JournalNilFacts
open Go
theorem noneGoes : Tryz.prog.funcs.any Func.goes = false := by kernel_rfl
theorem goes : false = Rows.journalNilRow.goesBy Tryz.prog := RX.goesBy_false rfl noneGoes
end Go.Proofs.YtgnblahckpipiaaGreatDoor.JournalNilFacts
