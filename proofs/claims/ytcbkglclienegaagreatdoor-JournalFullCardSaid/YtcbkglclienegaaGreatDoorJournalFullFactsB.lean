/- The call starts no goroutine: no function of the program does. -/
import Derived.Test.YtcbkglclienegaaGreatDoorRows
import Derived.Test.YtcbkglclienegaaGreatDoorRxH
import Derived.KernelRfl
set_option linter.all false
namespace Go.Proofs.YtcbkglclienegaaGreatDoor.JournalFullFacts
open Go
theorem noneGoes : Tryz.prog.funcs.any Func.goes = false := by kernel_rfl
theorem goes : false = Rows.journalFullRow.goesBy Tryz.prog := RX.goesBy_false rfl noneGoes
end Go.Proofs.YtcbkglclienegaaGreatDoor.JournalFullFacts
