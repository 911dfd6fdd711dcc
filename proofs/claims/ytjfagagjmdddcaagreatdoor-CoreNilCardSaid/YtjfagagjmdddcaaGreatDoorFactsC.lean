/- Further closed facts that the card of CoreNil asks. -/
import Derived.Test.YtjfagagjmdddcaaGreatDoorRows
import Derived.SevenTiedAt
import Derived.KernelRfl
set_option linter.all false
namespace Go.Proofs.YtjfagagjmdddcaaGreatDoor.CoreNilFacts
open Go
theorem wfText : Rows.coreNilRow.wfByText (OpenSpec.ofChange Rows.coreNilSpec) = true := by kernel_rfl
theorem mainIs : Tryz.prog.mainIs = some (true, "8585c52f91726107d0b22a47d7a6d7a43627103cab87b19b66975076913d4853".toList) := by kernel_rfl
theorem looks : false = Tryz.prog.looks [] := by kernel_rfl
theorem funcNo : Tryz.prog.funcNamed "wakeman/wakemanlaw39.CoreNil" = some 3 := by kernel_rfl
end Go.Proofs.YtjfagagjmdddcaaGreatDoor.CoreNilFacts
