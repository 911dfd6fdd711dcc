/- Further closed facts that the card of JournalNil asks. -/
import Derived.Test.YtgnblahckpipiaaGreatDoorRows
import Derived.SevenTiedAt
import Derived.KernelRfl
set_option linter.all false
namespace Go.Proofs.YtgnblahckpipiaaGreatDoor.JournalNilFacts
open Go
theorem wfText : Rows.journalNilRow.wfByText (OpenSpec.ofChange Rows.journalNilSpec) = true := by kernel_rfl
theorem mainIs : Tryz.prog.mainIs = some (true, "3bff3ba9d0dc7078757c5172fc67ccdeb8ccbe66e62503d8e9225a2b940232c4".toList) := by kernel_rfl
theorem looks : true = Tryz.prog.looks [] := by kernel_rfl
theorem funcNo : Tryz.prog.funcNamed "wakeman/wakemanlaw42.JournalNil" = some 3 := by kernel_rfl
end Go.Proofs.YtgnblahckpipiaaGreatDoor.JournalNilFacts
