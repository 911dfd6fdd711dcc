/- Further closed facts that the card of BoundLates asks. -/
import Derived.Test.YtnlgajlmjkfecaaGreatDoorRows
import Derived.SevenTiedAt
import Derived.KernelRfl
set_option linter.all false
namespace Go.Proofs.YtnlgajlmjkfecaaGreatDoor.BoundLatesFacts
open Go
theorem wfText : Rows.boundLatesRow.wfByText (OpenSpec.ofChange Rows.boundLatesSpec) = true := by kernel_rfl
theorem mainIs : Tryz.prog.mainIs = some (true, "569e655534655e8bb13d0b21a8557f6a76b2d1c2e856c640a32d2466c24b80d3".toList) := by kernel_rfl
theorem looks : false = Tryz.prog.looks [] := by kernel_rfl
theorem funcNo : Tryz.prog.funcNamed "wakeman/wakemanlaw43.BoundLates" = some 8 := by kernel_rfl
end Go.Proofs.YtnlgajlmjkfecaaGreatDoor.BoundLatesFacts
