/- op.Print at the operations of the examples, in all orders of its map. -/
import Derived.Test.YtgnblahckpipiaaGreatDoorEnv
set_option linter.all false
namespace Go.Proofs.YtgnblahckpipiaaGreatDoor
open Go.RX
theorem tick_run (σ : Sig) : pickRun (env σ) (pickC σ) 11 tickArg tickOut = true := by kernel_rfl
theorem finish_run (σ : Sig) : pickRun (env σ) (pickC σ) 11 finishArg finishOut = true := by kernel_rfl
end Go.Proofs.YtgnblahckpipiaaGreatDoor
