/- Further closed facts that the card of WitnessNames asks. -/
import Derived.Test.YthblcnkmhnpgiaaGreatDoorRows
import Derived.SevenTiedAt
import Derived.KernelRfl
set_option linter.all false
namespace Go.Proofs.YthblcnkmhnpgiaaGreatDoor.WitnessNamesFacts
open Go
theorem wfText : Rows.witnessNamesRow.wfByText (OpenSpec.ofChange Rows.witnessNamesSpec) = true := by kernel_rfl
theorem mainIs : Tryz.prog.mainIs = some (true, "2410436e23b2518dd52b491da9f84dd65dd60c83fed2e0f74b5b1bbeaf8ab205".toList) := by kernel_rfl
theorem looks : false = Tryz.prog.looks [] := by kernel_rfl
theorem funcNo : Tryz.prog.funcNamed "wakeman/wakemanlaw44.WitnessNames" = some 3 := by kernel_rfl
end Go.Proofs.YthblcnkmhnpgiaaGreatDoor.WitnessNamesFacts
