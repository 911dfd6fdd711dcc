/- Further closed facts that the card of BoundKnown asks. -/
import Derived.Test.YtenkdblhfejiaaaGreatDoorRows
import Derived.SevenTiedAt
import Derived.KernelRfl
set_option linter.all false
namespace Go.Proofs.YtenkdblhfejiaaaGreatDoor.BoundKnownFacts
open Go
theorem wfText : Rows.boundKnownRow.wfByText (OpenSpec.ofChange Rows.boundKnownSpec) = true := by kernel_rfl
theorem mainIs : Tryz.prog.mainIs = some (true, "5205c10a9db82e41d992ab745e65a2e7768e69c0a0ca2d9f85a5b186fe5be13f".toList) := by kernel_rfl
theorem looks : false = Tryz.prog.looks [] := by kernel_rfl
theorem funcNo : Tryz.prog.funcNamed "wakeman/wakemanlaw43.BoundKnown" = some 3 := by kernel_rfl
end Go.Proofs.YtenkdblhfejiaaaGreatDoor.BoundKnownFacts
