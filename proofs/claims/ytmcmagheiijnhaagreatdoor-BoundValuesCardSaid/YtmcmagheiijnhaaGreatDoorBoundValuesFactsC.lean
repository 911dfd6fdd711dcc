/- Further closed facts that the card of BoundValues asks. -/
import Derived.Test.YtmcmagheiijnhaaGreatDoorRows
import Derived.SevenTiedAt
import Derived.KernelRfl
set_option linter.all false
namespace Go.Proofs.YtmcmagheiijnhaaGreatDoor.BoundValuesFacts
open Go
theorem wfText : Rows.boundValuesRow.wfByText (OpenSpec.ofChange Rows.boundValuesSpec) = true := by kernel_rfl
theorem mainIs : Tryz.prog.mainIs = some (true, "a09d63ba2abf818b8ae44f2b78e5e4c3d9326a1b69232e954b6caef90eea3ec7".toList) := by kernel_rfl
theorem looks : false = Tryz.prog.looks [] := by kernel_rfl
theorem funcNo : Tryz.prog.funcNamed "wakeman/wakemanlaw43.BoundValues" = some 3 := by kernel_rfl
end Go.Proofs.YtmcmagheiijnhaaGreatDoor.BoundValuesFacts
