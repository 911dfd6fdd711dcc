/- All of them, as contracts. -/
import Derived.Test.YtofcbcpbglnogaaGreatDoorMa1
set_option linter.all false
set_option maxRecDepth 100000
namespace Go.Proofs.YtofcbcpbglnogaaGreatDoor
open Go.RX
open Ab
noncomputable def MaK0 (σ : Sig) : Nat → List SV → SW → Option (SV × SW) := memoCall 19 Ma0a Ma0o 1 Ma0x Ma0u 153 (know σ)
theorem MaK0_known (σ : Sig) (h : Known (env σ) (know σ)) : Known (env σ) (MaK0 σ) := known_memo (T' := ⟨heapOf (after Ma0o Ma0u), 153, 0⟩) (callsT_of_run (E := env σ) (sl := MaSl19) Tryz.func19 MaB19_body MaB19_name (Nat.le_of_ble_eq_true (by kernel_rfl)) (Nat.le_of_ble_eq_true (by kernel_rfl)) (fun ρ0 S0 w0 => end_holds (semK_sound h 60) (semK_both h 60).1 (Ma0r σ))) Ma0p Ma0k (h)
noncomputable def MaK1 (σ : Sig) : Nat → List SV → SW → Option (SV × SW) := memoCall 21 Ma1a Ma1o 23 Ma1x Ma1u 205 (MaK0 σ)
theorem MaK1_known (σ : Sig) (h : Known (env σ) (know σ)) : Known (env σ) (MaK1 σ) := known_memo (T' := ⟨heapOf (after Ma1o Ma1u), 205, 0⟩) (callsT_of_run (E := env σ) (sl := MaSl21) Tryz.func21 MaB21_body MaB21_name (Nat.le_of_ble_eq_true (by kernel_rfl)) (Nat.le_of_ble_eq_true (by kernel_rfl)) (fun ρ0 S0 w0 => end_holds (semK_sound h 60) (semK_both h 60).1 (Ma1r σ))) Ma1p Ma1k (MaK0_known σ h)
noncomputable def MaK2 (σ : Sig) : Nat → List SV → SW → Option (SV × SW) := memoCall 21 Ma2a Ma2o 26 Ma2x Ma2u 96 (MaK1 σ)
theorem MaK2_known (σ : Sig) (h : Known (env σ) (know σ)) : Known (env σ) (MaK2 σ) := known_memo (T' := ⟨heapOf (after Ma2o Ma2u), 96, 0⟩) (callsT_of_run (E := env σ) (sl := MaSl21) Tryz.func21 MaB21_body MaB21_name (Nat.le_of_ble_eq_true (by kernel_rfl)) (Nat.le_of_ble_eq_true (by kernel_rfl)) (fun ρ0 S0 w0 => end_holds (semK_sound h 60) (semK_both h 60).1 (Ma2r σ))) Ma2p Ma2k (MaK1_known σ h)
noncomputable def MaK3 (σ : Sig) : Nat → List SV → SW → Option (SV × SW) := memoCall 21 Ma3a Ma3o 26 Ma3x Ma3u 45 (MaK2 σ)
theorem MaK3_known (σ : Sig) (h : Known (env σ) (know σ)) : Known (env σ) (MaK3 σ) := known_memo (T' := ⟨heapOf (after Ma3o Ma3u), 45, 0⟩) (callsT_of_run (E := env σ) (sl := MaSl21) Tryz.func21 MaB21_body MaB21_name (Nat.le_of_ble_eq_true (by kernel_rfl)) (Nat.le_of_ble_eq_true (by kernel_rfl)) (fun ρ0 S0 w0 => end_holds (semK_sound h 60) (semK_both h 60).1 (Ma3r σ))) Ma3p Ma3k (MaK2_known σ h)
noncomputable def MaK4 (σ : Sig) : Nat → List SV → SW → Option (SV × SW) := memoCall 21 Ma4a Ma4o 26 Ma4x Ma4u 36 (MaK3 σ)
theorem MaK4_known (σ : Sig) (h : Known (env σ) (know σ)) : Known (env σ) (MaK4 σ) := known_memo (T' := ⟨heapOf (after Ma4o Ma4u), 36, 0⟩) (callsT_of_run (E := env σ) (sl := MaSl21) Tryz.func21 MaB21_body MaB21_name (Nat.le_of_ble_eq_true (by kernel_rfl)) (Nat.le_of_ble_eq_true (by kernel_rfl)) (fun ρ0 S0 w0 => end_holds (semK_sound h 60) (semK_both h 60).1 (Ma4r σ))) Ma4p Ma4k (MaK3_known σ h)
noncomputable def MaK5 (σ : Sig) : Nat → List SV → SW → Option (SV × SW) := memoCall 21 Ma5a Ma5o 26 Ma5x Ma5u 108 (MaK4 σ)
theorem MaK5_known (σ : Sig) (h : Known (env σ) (know σ)) : Known (env σ) (MaK5 σ) := known_memo (T' := ⟨heapOf (after Ma5o Ma5u), 108, 0⟩) (callsT_of_run (E := env σ) (sl := MaSl21) Tryz.func21 MaB21_body MaB21_name (Nat.le_of_ble_eq_true (by kernel_rfl)) (Nat.le_of_ble_eq_true (by kernel_rfl)) (fun ρ0 S0 w0 => end_holds (semK_sound h 60) (semK_both h 60).1 (Ma5r σ))) Ma5p Ma5k (MaK4_known σ h)
noncomputable def MaK6 (σ : Sig) : Nat → List SV → SW → Option (SV × SW) := memoCall 21 Ma6a Ma6o 26 Ma6x Ma6u 96 (MaK5 σ)
theorem MaK6_known (σ : Sig) (h : Known (env σ) (know σ)) : Known (env σ) (MaK6 σ) := known_memo (T' := ⟨heapOf (after Ma6o Ma6u), 96, 0⟩) (callsT_of_run (E := env σ) (sl := MaSl21) Tryz.func21 MaB21_body MaB21_name (Nat.le_of_ble_eq_true (by kernel_rfl)) (Nat.le_of_ble_eq_true (by kernel_rfl)) (fun ρ0 S0 w0 => end_holds (semK_sound h 60) (semK_both h 60).1 (Ma6r σ))) Ma6p Ma6k (MaK5_known σ h)
noncomputable def MaK7 (σ : Sig) : Nat → List SV → SW → Option (SV × SW) := memoCall 21 Ma7a Ma7o 26 Ma7x Ma7u 89 (MaK6 σ)
theorem MaK7_known (σ : Sig) (h : Known (env σ) (know σ)) : Known (env σ) (MaK7 σ) := known_memo (T' := ⟨heapOf (after Ma7o Ma7u), 89, 0⟩) (callsT_of_run (E := env σ) (sl := MaSl21) Tryz.func21 MaB21_body MaB21_name (Nat.le_of_ble_eq_true (by kernel_rfl)) (Nat.le_of_ble_eq_true (by kernel_rfl)) (fun ρ0 S0 w0 => end_holds (semK_sound h 60) (semK_both h 60).1 (Ma7r σ))) Ma7p Ma7k (MaK6_known σ h)
noncomputable def MaK8 (σ : Sig) : Nat → List SV → SW → Option (SV × SW) := memoCall 21 Ma8a Ma8o 26 Ma8x Ma8u 45 (MaK7 σ)
theorem MaK8_known (σ : Sig) (h : Known (env σ) (know σ)) : Known (env σ) (MaK8 σ) := known_memo (T' := ⟨heapOf (after Ma8o Ma8u), 45, 0⟩) (callsT_of_run (E := env σ) (sl := MaSl21) Tryz.func21 MaB21_body MaB21_name (Nat.le_of_ble_eq_true (by kernel_rfl)) (Nat.le_of_ble_eq_true (by kernel_rfl)) (fun ρ0 S0 w0 => end_holds (semK_sound h 60) (semK_both h 60).1 (Ma8r σ))) Ma8p Ma8k (MaK7_known σ h)
noncomputable def kdo (σ : Sig) : Nat → List SV → SW → Option (SV × SW) := MaK8 σ
theorem kdo_known (σ : Sig) (h : Known (env σ) (know σ)) : Known (env σ) (kdo σ) := MaK8_known σ h
end Go.Proofs.YtofcbcpbglnogaaGreatDoor
