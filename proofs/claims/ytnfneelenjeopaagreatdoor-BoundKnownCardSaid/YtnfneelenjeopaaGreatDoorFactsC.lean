/- Further closed facts that the card of BoundKnown asks. -/
import Derived.Test.YtnfneelenjeopaaGreatDoorRows
import Derived.SevenTiedAt
import Derived.KernelRfl
set_option linter.all false
namespace Go.Proofs.YtnfneelenjeopaaGreatDoor.BoundKnownFacts
open Go
theorem wfText : Rows.boundKnownRow.wfByText (OpenSpec.ofChange Rows.boundKnownSpec) = true := by kernel_rfl
theorem mainIs : Tryz.prog.mainIs = some (true, "beeef29969ca7e7ec3a51ea5e2dfb4501a5c0e1cf4a5afbb03b656b5e45c2d95".toList) := by kernel_rfl
theorem looks : false = Tryz.prog.looks [] := by kernel_rfl
theorem funcNo : Tryz.prog.funcNamed "wakeman/wakemanlaw43.BoundKnown" = some 3 := by kernel_rfl
end Go.Proofs.YtnfneelenjeopaaGreatDoor.BoundKnownFacts
