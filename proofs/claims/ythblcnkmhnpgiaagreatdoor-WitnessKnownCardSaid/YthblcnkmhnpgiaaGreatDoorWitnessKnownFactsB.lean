/- The call starts no goroutine: no function of the program does. -/
import Derived.Test.YthblcnkmhnpgiaaGreatDoorRows
import Derived.Test.YthblcnkmhnpgiaaGreatDoorRxH
import Derived.KernelRfl
set_option linter.all false
namespace Go.Proofs.YthblcnkmhnpgiaaGreatDoor.WitnessKnownFacts
open Go
theorem noneGoes : Tryz.prog.funcs.any Func.goes = false := by kernel_rfl
theorem goes : false = Rows.witnessKnownRow.goesBy Tryz.prog := RX.goesBy_false rfl noneGoes
end Go.Proofs.YthblcnkmhnpgiaaGreatDoor.WitnessKnownFacts
