/- bound.Window, for 20 and more jobs. -/
import Derived.Test.YtmcmagheiijnhaaGreatDoorVF
import Derived.Test.YtmcmagheiijnhaaGreatDoorRxI
set_option linter.all false
set_option maxRecDepth 100000
namespace Go.Proofs.YtmcmagheiijnhaaGreatDoor
open Go.RX Go.RX.Sym
theorem win_E (σ : Sig) : allR (winB σ) 20 14 = true := by kernel_rfl
end Go.Proofs.YtmcmagheiijnhaaGreatDoor

/- bound.Window, for 34 and more jobs. -/
set_option linter.all false
set_option maxRecDepth 100000
namespace Go.Proofs.YtmcmagheiijnhaaGreatDoor
open Go.RX Go.RX.Sym
theorem win_F (σ : Sig) : allR (winB σ) 34 11 = true := by kernel_rfl
end Go.Proofs.YtmcmagheiijnhaaGreatDoor
