/- Further closed facts that the card of BoundGrows asks. -/
import Derived.Test.YtdabjinnlagdgaaGreatDoorRows
import Derived.SevenTiedAt
import Derived.KernelRfl
set_option linter.all false
namespace Go.Proofs.YtdabjinnlagdgaaGreatDoor.BoundGrowsFacts
open Go
theorem wfText : Rows.boundGrowsRow.wfByText (OpenSpec.ofChange Rows.boundGrowsSpec) = true := by kernel_rfl
theorem mainIs : Tryz.prog.mainIs = some (true, "241e5d0ff409d84c8a2432ba391a55822fcc1872f1ede8fd66df9bed34b2e2fc".toList) := by kernel_rfl
theorem looks : false = Tryz.prog.looks [] := by kernel_rfl
theorem funcNo : Tryz.prog.funcNamed "wakeman/wakemanlaw43.BoundGrows" = some 3 := by kernel_rfl
end Go.Proofs.YtdabjinnlagdgaaGreatDoor.BoundGrowsFacts
