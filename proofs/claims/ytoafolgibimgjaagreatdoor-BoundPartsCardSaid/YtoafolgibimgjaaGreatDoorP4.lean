/- The round, all its cases, with 4 at one time. -/
import Derived.Test.YtoafolgibimgjaaGreatDoorP2
set_option linter.all false
set_option maxRecDepth 100000
namespace Go.Proofs.YtoafolgibimgjaaGreatDoor
open Go.RX
theorem z_4A (σ : Sig) : zAll σ (combos 4 jsA) = zYes (combos 4 jsA) := by kernel_rfl
theorem z_4B (σ : Sig) : zAll σ (combos 4 jsB) = zYes (combos 4 jsB) := by kernel_rfl
theorem z_4C (σ : Sig) : zAll σ (combos 4 jsC) = zYes (combos 4 jsC) := by kernel_rfl
end Go.Proofs.YtoafolgibimgjaaGreatDoor

/- The round, all its cases, with 5 at one time. -/
set_option linter.all false
set_option maxRecDepth 100000
namespace Go.Proofs.YtoafolgibimgjaaGreatDoor
open Go.RX
theorem z_5A (σ : Sig) : zAll σ (combos 5 jsA) = zYes (combos 5 jsA) := by kernel_rfl
theorem z_5B (σ : Sig) : zAll σ (combos 5 jsB) = zYes (combos 5 jsB) := by kernel_rfl
theorem z_5C (σ : Sig) : zAll σ (combos 5 jsC) = zYes (combos 5 jsC) := by kernel_rfl
end Go.Proofs.YtoafolgibimgjaaGreatDoor

/- The round, all its cases, with 6 at one time. -/
set_option linter.all false
set_option maxRecDepth 100000
namespace Go.Proofs.YtoafolgibimgjaaGreatDoor
open Go.RX
theorem z_6A (σ : Sig) : zAll σ (combos 6 jsA) = zYes (combos 6 jsA) := by kernel_rfl
theorem z_6B (σ : Sig) : zAll σ (combos 6 jsB) = zYes (combos 6 jsB) := by kernel_rfl
theorem z_6C (σ : Sig) : zAll σ (combos 6 jsC) = zYes (combos 6 jsC) := by kernel_rfl
end Go.Proofs.YtoafolgibimgjaaGreatDoor
