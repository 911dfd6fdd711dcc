/- bound.Window, for 45 and more jobs. -/
import Derived.Test.YtmcmagheiijnhaaGreatDoorVF
import Derived.Test.YtmcmagheiijnhaaGreatDoorRxI
set_option linter.all false
set_option maxRecDepth 100000
namespace Go.Proofs.YtmcmagheiijnhaaGreatDoor
open Go.RX Go.RX.Sym
theorem win_G (σ : Sig) : allR (winB σ) 45 10 = true := by kernel_rfl
end Go.Proofs.YtmcmagheiijnhaaGreatDoor

/- bound.Window, for 55 and more jobs. -/
set_option linter.all false
set_option maxRecDepth 100000
namespace Go.Proofs.YtmcmagheiijnhaaGreatDoor
open Go.RX Go.RX.Sym
theorem win_H (σ : Sig) : allR (winB σ) 55 9 = true := by kernel_rfl
end Go.Proofs.YtmcmagheiijnhaaGreatDoor
