/- BoundParts, its case 0, with one to five jobs, and with none. -/
import Derived.Test.YtoafolgibimgjaaGreatDoorQ2
set_option linter.all false
set_option maxRecDepth 100000
namespace Go.Proofs.YtoafolgibimgjaaGreatDoor
open Go.RX Go.RX.Sym
theorem pa_10 (σ : Sig) : paRun σ 1 1 0 = true := by kernel_rfl
theorem pa_20 (σ : Sig) : paRun σ 2 2 0 = true := by kernel_rfl
theorem pa_30 (σ : Sig) : paRun σ 3 3 0 = true := by kernel_rfl
theorem pa_40 (σ : Sig) : paRun σ 4 4 0 = true := by kernel_rfl
theorem pa_50 (σ : Sig) : paRun σ 9223372036854775807 5 0 = true := by kernel_rfl
theorem pz_n0 (σ : Sig) : zRunP (fun _ => none) σ .nilslice 0 = true := by kernel_rfl
theorem pz_r0 (σ : Sig) : zRunP rowsT σ (.row 0) 0 = true := by kernel_rfl
end Go.Proofs.YtoafolgibimgjaaGreatDoor

/- BoundParts, its case 1, with one to five jobs, and with none. -/
set_option linter.all false
set_option maxRecDepth 100000
namespace Go.Proofs.YtoafolgibimgjaaGreatDoor
open Go.RX Go.RX.Sym
theorem pa_11 (σ : Sig) : paRun σ 1 1 1 = true := by kernel_rfl
theorem pa_21 (σ : Sig) : paRun σ 2 2 1 = true := by kernel_rfl
theorem pa_31 (σ : Sig) : paRun σ 3 3 1 = true := by kernel_rfl
theorem pa_41 (σ : Sig) : paRun σ 4 4 1 = true := by kernel_rfl
theorem pa_51 (σ : Sig) : paRun σ 9223372036854775807 5 1 = true := by kernel_rfl
theorem pz_n1 (σ : Sig) : zRunP (fun _ => none) σ .nilslice 1 = true := by kernel_rfl
theorem pz_r1 (σ : Sig) : zRunP rowsT σ (.row 0) 1 = true := by kernel_rfl
end Go.Proofs.YtoafolgibimgjaaGreatDoor

/- BoundParts, its case 2, with one to five jobs, and with none. -/
set_option linter.all false
set_option maxRecDepth 100000
namespace Go.Proofs.YtoafolgibimgjaaGreatDoor
open Go.RX Go.RX.Sym
theorem pa_12 (σ : Sig) : paRun σ 1 1 2 = true := by kernel_rfl
theorem pa_22 (σ : Sig) : paRun σ 2 2 2 = true := by kernel_rfl
theorem pa_32 (σ : Sig) : paRun σ 3 3 2 = true := by kernel_rfl
theorem pa_42 (σ : Sig) : paRun σ 4 4 2 = true := by kernel_rfl
theorem pa_52 (σ : Sig) : paRun σ 9223372036854775807 5 2 = true := by kernel_rfl
theorem pz_n2 (σ : Sig) : zRunP (fun _ => none) σ .nilslice 2 = true := by kernel_rfl
theorem pz_r2 (σ : Sig) : zRunP rowsT σ (.row 0) 2 = true := by kernel_rfl
end Go.Proofs.YtoafolgibimgjaaGreatDoor
