/- Further closed facts that the card of BoundParts asks. -/
import Derived.Test.YtoafolgibimgjaaGreatDoorRows
import Derived.SevenTiedAt
import Derived.KernelRfl
set_option linter.all false
namespace Go.Proofs.YtoafolgibimgjaaGreatDoor.BoundPartsFacts
open Go
theorem wfText : Rows.boundPartsRow.wfByText (OpenSpec.ofChange Rows.boundPartsSpec) = true := by kernel_rfl
theorem mainIs : Tryz.prog.mainIs = some (true, "b03f4b6dc4a6c82349dff4ec553a16bf7b211a0b26f1a2d4398857ed6583ab97".toList) := by kernel_rfl
theorem looks : false = Tryz.prog.looks [] := by kernel_rfl
theorem funcNo : Tryz.prog.funcNamed "wakeman/wakemanlaw43.BoundParts" = some 3 := by kernel_rfl
end Go.Proofs.YtoafolgibimgjaaGreatDoor.BoundPartsFacts
