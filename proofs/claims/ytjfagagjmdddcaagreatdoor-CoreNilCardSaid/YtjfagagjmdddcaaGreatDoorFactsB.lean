/- The call starts no goroutine: no function of the program does. -/
import Derived.Test.YtjfagagjmdddcaaGreatDoorRows
import Derived.Test.YtjfagagjmdddcaaGreatDoorRxGoes
import Derived.KernelRfl
set_option linter.all false
namespace Go.Proofs.YtjfagagjmdddcaaGreatDoor.CoreNilFacts
open Go
theorem noneGoes : Tryz.prog.funcs.any Func.goes = false := by kernel_rfl
theorem goes : false = Rows.coreNilRow.goesBy Tryz.prog := RX.goesBy_false rfl noneGoes
end Go.Proofs.YtjfagagjmdddcaaGreatDoor.CoreNilFacts
