/- BoundParts, its case 3, with one to five jobs, and with none. -/
import Derived.Test.YtoafolgibimgjaaGreatDoorQ2
set_option linter.all false
set_option maxRecDepth 100000
namespace Go.Proofs.YtoafolgibimgjaaGreatDoor
open Go.RX Go.RX.Sym
theorem pa_13 (σ : Sig) : paRun σ 1 1 3 = true := by kernel_rfl
theorem pa_23 (σ : Sig) : paRun σ 2 2 3 = true := by kernel_rfl
theorem pa_33 (σ : Sig) : paRun σ 3 3 3 = true := by kernel_rfl
theorem pa_43 (σ : Sig) : paRun σ 4 4 3 = true := by kernel_rfl
theorem pa_53 (σ : Sig) : paRun σ 9223372036854775807 5 3 = true := by kernel_rfl
theorem pz_n3 (σ : Sig) : zRunP (fun _ => none) σ .nilslice 3 = true := by kernel_rfl
theorem pz_r3 (σ : Sig) : zRunP rowsT σ (.row 0) 3 = true := by kernel_rfl
end Go.Proofs.YtoafolgibimgjaaGreatDoor

/- BoundParts, its case 4, with one to five jobs, and with none. -/
set_option linter.all false
set_option maxRecDepth 100000
namespace Go.Proofs.YtoafolgibimgjaaGreatDoor
open Go.RX Go.RX.Sym
theorem pa_14 (σ : Sig) : paRun σ 1 1 4 = true := by kernel_rfl
theorem pa_24 (σ : Sig) : paRun σ 2 2 4 = true := by kernel_rfl
theorem pa_34 (σ : Sig) : paRun σ 3 3 4 = true := by kernel_rfl
theorem pa_44 (σ : Sig) : paRun σ 4 4 4 = true := by kernel_rfl
theorem pa_54 (σ : Sig) : paRun σ 9223372036854775807 5 4 = true := by kernel_rfl
theorem pz_n4 (σ : Sig) : zRunP (fun _ => none) σ .nilslice 4 = true := by kernel_rfl
theorem pz_r4 (σ : Sig) : zRunP rowsT σ (.row 0) 4 = true := by kernel_rfl
end Go.Proofs.YtoafolgibimgjaaGreatDoor

/- BoundParts, its case 5, with one to five jobs, and with none. -/
set_option linter.all false
set_option maxRecDepth 100000
namespace Go.Proofs.YtoafolgibimgjaaGreatDoor
open Go.RX Go.RX.Sym
theorem pa_15 (σ : Sig) : paRun σ 1 1 5 = true := by kernel_rfl
theorem pa_25 (σ : Sig) : paRun σ 2 2 5 = true := by kernel_rfl
theorem pa_35 (σ : Sig) : paRun σ 3 3 5 = true := by kernel_rfl
theorem pa_45 (σ : Sig) : paRun σ 4 4 5 = true := by kernel_rfl
theorem pa_55 (σ : Sig) : paRun σ 9223372036854775807 5 5 = true := by kernel_rfl
theorem pz_n5 (σ : Sig) : zRunP (fun _ => none) σ .nilslice 5 = true := by kernel_rfl
theorem pz_r5 (σ : Sig) : zRunP rowsT σ (.row 0) 5 = true := by kernel_rfl
end Go.Proofs.YtoafolgibimgjaaGreatDoor
