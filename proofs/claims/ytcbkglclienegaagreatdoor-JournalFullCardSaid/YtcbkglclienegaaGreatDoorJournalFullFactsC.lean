/- Further closed facts that the card of JournalFull asks. -/
import Derived.Test.YtcbkglclienegaaGreatDoorRows
import Derived.SevenTiedAt
import Derived.KernelRfl
set_option linter.all false
namespace Go.Proofs.YtcbkglclienegaaGreatDoor.JournalFullFacts
open Go
theorem wfText : Rows.journalFullRow.wfByText (OpenSpec.ofChange Rows.journalFullSpec) = true := by kernel_rfl
theorem mainIs : Tryz.prog.mainIs = some (true, "8153b7a9693361c0df44feba32d5e203cb5f9dd7358b8c4f014e0112e4ff1bc1".toList) := by kernel_rfl
theorem looks : true = Tryz.prog.looks [] := by kernel_rfl
theorem funcNo : Tryz.prog.funcNamed "wakeman/wakemanlaw42.JournalFull" = some 3 := by kernel_rfl
end Go.Proofs.YtcbkglclienegaaGreatDoor.JournalFullFacts
