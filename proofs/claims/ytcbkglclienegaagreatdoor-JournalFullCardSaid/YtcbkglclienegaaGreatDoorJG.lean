/- op.Print at the operations of the examples, in all orders of its map. -/
import Derived.Test.YtcbkglclienegaaGreatDoorJA
set_option linter.all false
namespace Go.Proofs.YtcbkglclienegaaGreatDoor
open Go.RX
theorem tick_run (σ : Sig) : pickRun (env σ) (pickC σ) 16 tickArg tickOut = true := by kernel_rfl
theorem finish_run (σ : Sig) : pickRun (env σ) (pickC σ) 16 finishArg finishOut = true := by kernel_rfl
end Go.Proofs.YtcbkglclienegaaGreatDoor
