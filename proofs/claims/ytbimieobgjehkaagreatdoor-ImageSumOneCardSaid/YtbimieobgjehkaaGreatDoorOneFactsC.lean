/- Further closed facts that the card of ImageSumOne asks. -/
import Derived.Test.YtbimieobgjehkaaGreatDoorRows
import Derived.SevenTiedAt
import Derived.KernelRfl
set_option linter.all false
namespace Go.Proofs.YtbimieobgjehkaaGreatDoor.ImageSumOneFacts
open Go
theorem wfText : Rows.imageSumOneRow.wfByText (OpenSpec.ofChange Rows.imageSumOneSpec) = true := by kernel_rfl
theorem mainIs : Tryz.prog.mainIs = some (true, "0d2601a6db694e2857f510b221036de8b374dee3124b90b3a1a325e74856ef00".toList) := by kernel_rfl
theorem looks : true = Tryz.prog.looks [] := by kernel_rfl
theorem funcNo : Tryz.prog.funcNamed "wakeman/wakemanlaw41.ImageSumOne" = some 5 := by kernel_rfl
end Go.Proofs.YtbimieobgjehkaaGreatDoor.ImageSumOneFacts
