/- All of them, as contracts. -/
import Derived.Test.YthblcnkmhnpgiaaGreatDoorMf1
import Derived.Test.YthblcnkmhnpgiaaGreatDoorMf2
set_option linter.all false
set_option maxRecDepth 100000
namespace Go.Proofs.YthblcnkmhnpgiaaGreatDoor
open Go.RX
open Ab
noncomputable def MfK0 (σ : Sig) : Nat → List SV → SW → Option (SV × SW) := memoCall 19 Mf0a Mf0o 1 Mf0x Mf0u 3539 (kdo σ)
theorem MfK0_known (σ : Sig) (h : Known (env σ) (kdo σ)) : Known (env σ) (MfK0 σ) := known_memo (T' := ⟨heapOf (after Mf0o Mf0u), 3539, 0⟩) (callsT_of_run (E := env σ) (sl := MfSl19) Tryz.func19 MfB19_body MfB19_name (Nat.le_of_ble_eq_true (by kernel_rfl)) (Nat.le_of_ble_eq_true (by kernel_rfl)) (fun ρ0 S0 w0 => end_holds (semK_sound h 60) (semK_both h 60).1 (Mf0r σ))) Mf0p Mf0k (h)
noncomputable def MfK1 (σ : Sig) : Nat → List SV → SW → Option (SV × SW) := memoCall 22 Mf1a Mf1o 2 Mf1x Mf1u 3373 (MfK0 σ)
theorem MfK1_known (σ : Sig) (h : Known (env σ) (kdo σ)) : Known (env σ) (MfK1 σ) := known_memo (T' := ⟨heapOf (after Mf1o Mf1u), 3373, 0⟩) (callsT_of_run (E := env σ) (sl := MfSl22) Tryz.func22 MfB22_body MfB22_name (Nat.le_of_ble_eq_true (by kernel_rfl)) (Nat.le_of_ble_eq_true (by kernel_rfl)) (fun ρ0 S0 w0 => end_holds (semK_sound h 60) (semK_both h 60).1 (Mf1r σ))) Mf1p Mf1k (MfK0_known σ h)
noncomputable def MfK2 (σ : Sig) : Nat → List SV → SW → Option (SV × SW) := memoCall 34 Mf2a Mf2o 1 Mf2x Mf2u 828 (MfK1 σ)
theorem MfK2_known (σ : Sig) (h : Known (env σ) (kdo σ)) : Known (env σ) (MfK2 σ) := known_memo (T' := ⟨heapOf (after Mf2o Mf2u), 828, 0⟩) (callsT_of_run (E := env σ) (sl := MfSl34) Tryz.func34 MfB34_body MfB34_name (Nat.le_of_ble_eq_true (by kernel_rfl)) (Nat.le_of_ble_eq_true (by kernel_rfl)) (fun ρ0 S0 w0 => end_holds (semK_sound h 60) (semK_both h 60).1 (Mf2r σ))) Mf2p Mf2k (MfK1_known σ h)
noncomputable def MfK3 (σ : Sig) : Nat → List SV → SW → Option (SV × SW) := memoCall 36 Mf3a Mf3o 2 Mf3x Mf3u 3457 (MfK2 σ)
theorem MfK3_known (σ : Sig) (h : Known (env σ) (kdo σ)) : Known (env σ) (MfK3 σ) := known_memo (T' := ⟨heapOf (after Mf3o Mf3u), 3457, 0⟩) (callsT_of_run (E := env σ) (sl := MfSl36) Tryz.func36 MfB36_body MfB36_name (Nat.le_of_ble_eq_true (by kernel_rfl)) (Nat.le_of_ble_eq_true (by kernel_rfl)) (fun ρ0 S0 w0 => end_holds (semK_sound h 60) (semK_both h 60).1 (Mf3r σ))) Mf3p Mf3k (MfK2_known σ h)
noncomputable def kpl (σ : Sig) : Nat → List SV → SW → Option (SV × SW) := MfK3 σ
theorem kpl_known (σ : Sig) (h : Known (env σ) (kdo σ)) : Known (env σ) (kpl σ) := MfK3_known σ h
end Go.Proofs.YthblcnkmhnpgiaaGreatDoor
