/- Further closed facts that the card of PlayKnown asks. -/
import Derived.Test.YtgjolaclhdpfaaaGreatDoorRows
import Derived.SevenTiedAt
import Derived.KernelRfl
set_option linter.all false
namespace Go.Proofs.YtgjolaclhdpfaaaGreatDoor.PlayKnownFacts
open Go
theorem wfText : Rows.playKnownRow.wfByText (OpenSpec.ofChange Rows.playKnownSpec) = true := by kernel_rfl
theorem mainIs : Tryz.prog.mainIs = some (true, "688857a37bd3156a1254a8803d169a6cdcb93d389eaa53cb3d18eca196a222c1".toList) := by kernel_rfl
theorem looks : false = Tryz.prog.looks [] := by kernel_rfl
theorem funcNo : Tryz.prog.funcNamed "wakeman/wakemanlaw40.PlayKnown" = some 4 := by kernel_rfl
end Go.Proofs.YtgjolaclhdpfaaaGreatDoor.PlayKnownFacts
