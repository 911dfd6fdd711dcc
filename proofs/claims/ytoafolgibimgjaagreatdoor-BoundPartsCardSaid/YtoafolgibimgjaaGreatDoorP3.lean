/- The round, all its cases, with 1 at one time. -/
import Derived.Test.YtoafolgibimgjaaGreatDoorP2
set_option linter.all false
set_option maxRecDepth 100000
namespace Go.Proofs.YtoafolgibimgjaaGreatDoor
open Go.RX
theorem z_1A (σ : Sig) : zAll σ (combos 1 jsA) = zYes (combos 1 jsA) := by kernel_rfl
theorem z_1B (σ : Sig) : zAll σ (combos 1 jsB) = zYes (combos 1 jsB) := by kernel_rfl
theorem z_1C (σ : Sig) : zAll σ (combos 1 jsC) = zYes (combos 1 jsC) := by kernel_rfl
end Go.Proofs.YtoafolgibimgjaaGreatDoor

/- The round, all its cases, with 2 at one time. -/
set_option linter.all false
set_option maxRecDepth 100000
namespace Go.Proofs.YtoafolgibimgjaaGreatDoor
open Go.RX
theorem z_2A (σ : Sig) : zAll σ (combos 2 jsA) = zYes (combos 2 jsA) := by kernel_rfl
theorem z_2B (σ : Sig) : zAll σ (combos 2 jsB) = zYes (combos 2 jsB) := by kernel_rfl
theorem z_2C (σ : Sig) : zAll σ (combos 2 jsC) = zYes (combos 2 jsC) := by kernel_rfl
end Go.Proofs.YtoafolgibimgjaaGreatDoor

/- The round, all its cases, with 3 at one time. -/
set_option linter.all false
set_option maxRecDepth 100000
namespace Go.Proofs.YtoafolgibimgjaaGreatDoor
open Go.RX
theorem z_3A (σ : Sig) : zAll σ (combos 3 jsA) = zYes (combos 3 jsA) := by kernel_rfl
theorem z_3B (σ : Sig) : zAll σ (combos 3 jsB) = zYes (combos 3 jsB) := by kernel_rfl
theorem z_3C (σ : Sig) : zAll σ (combos 3 jsC) = zYes (combos 3 jsC) := by kernel_rfl
end Go.Proofs.YtoafolgibimgjaaGreatDoor
