/- The chapter's examples hold: a closed run. -/
import Derived.Test.YtmcmagheiijnhaaGreatDoorVJ
import Derived.Test.YtmcmagheiijnhaaGreatDoorRxI
set_option linter.all false
set_option maxRecDepth 100000
namespace Go.Proofs.YtmcmagheiijnhaaGreatDoor
open Go.RX Go.RX.Sym
theorem works_ok (σ : Sig) : (DT.leaf (.bool true)).ok (callIs (envF σ) (fun _ => noC) 40 6 []) [] = true := by kernel_rfl
end Go.Proofs.YtmcmagheiijnhaaGreatDoor
