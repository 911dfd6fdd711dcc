/- Further closed facts that the card of PlaySplits asks. -/
import Derived.Test.YtofcbcpbglnogaaGreatDoorRows
import Derived.SevenTiedAt
import Derived.KernelRfl
set_option linter.all false
namespace Go.Proofs.YtofcbcpbglnogaaGreatDoor.PlaySplitsFacts
open Go
theorem wfText : Rows.playSplitsRow.wfByText (OpenSpec.ofChange Rows.playSplitsSpec) = true := by kernel_rfl
theorem mainIs : Tryz.prog.mainIs = some (true, "5e26c72d65f53c151cdcd91ae8414b30da3d25f1866ee0ccc69158c8a9f8669c".toList) := by kernel_rfl
theorem looks : false = Tryz.prog.looks [] := by kernel_rfl
theorem funcNo : Tryz.prog.funcNamed "wakeman/wakemanlaw40.PlaySplits" = some 3 := by kernel_rfl
end Go.Proofs.YtofcbcpbglnogaaGreatDoor.PlaySplitsFacts
