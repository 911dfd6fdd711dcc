/- All of them, as contracts. -/
import Derived.Test.YthblcnkmhnpgiaaGreatDoorKd1
import Derived.Test.YthblcnkmhnpgiaaGreatDoorKd2
set_option linter.all false
set_option maxRecDepth 100000
namespace Go.Proofs.YthblcnkmhnpgiaaGreatDoor
open Go.RX
open Ab
noncomputable def KdK0 (σ : Sig) : Nat → List SV → SW → Option (SV × SW) := memoCall 8 Kd0a Kd0o 0 Kd0x Kd0u 4 (kkc σ)
theorem KdK0_known (σ : Sig) (h : Known (env σ) (kkc σ)) : Known (env σ) (KdK0 σ) := known_memo (T' := ⟨heapOf (after Kd0o Kd0u), 4, 0⟩) (callsT_of_run (E := env σ) (sl := KdSl8) Tryz.func8 KdB8_body KdB8_name (Nat.le_of_ble_eq_true (by kernel_rfl)) (Nat.le_of_ble_eq_true (by kernel_rfl)) (fun ρ0 S0 w0 => end_holds (semK_sound h 60) (semK_both h 60).1 (Kd0r σ))) Kd0p Kd0k (h)
noncomputable def KdK1 (σ : Sig) : Nat → List SV → SW → Option (SV × SW) := memoCall 8 Kd1a Kd1o 0 Kd1x Kd1u 13237 (KdK0 σ)
theorem KdK1_known (σ : Sig) (h : Known (env σ) (kkc σ)) : Known (env σ) (KdK1 σ) := known_memo (T' := ⟨heapOf (after Kd1o Kd1u), 13237, 0⟩) (callsT_of_run (E := env σ) (sl := KdSl8) Tryz.func8 KdB8_body KdB8_name (Nat.le_of_ble_eq_true (by kernel_rfl)) (Nat.le_of_ble_eq_true (by kernel_rfl)) (fun ρ0 S0 w0 => end_holds (semK_sound h 60) (semK_both h 60).1 (Kd1r σ))) Kd1p Kd1k (KdK0_known σ h)
noncomputable def KdK2 (σ : Sig) : Nat → List SV → SW → Option (SV × SW) := memoCall 9 Kd2a Kd2o 2 Kd2x Kd2u 28080 (KdK1 σ)
theorem KdK2_known (σ : Sig) (h : Known (env σ) (kkc σ)) : Known (env σ) (KdK2 σ) := known_memo (T' := ⟨heapOf (after Kd2o Kd2u), 28080, 0⟩) (callsT_of_run (E := env σ) (sl := KdSl9) Tryz.func9 KdB9_body KdB9_name (Nat.le_of_ble_eq_true (by kernel_rfl)) (Nat.le_of_ble_eq_true (by kernel_rfl)) (fun ρ0 S0 w0 => end_holds (semK_sound h 60) (semK_both h 60).1 (Kd2r σ))) Kd2p Kd2k (KdK1_known σ h)
noncomputable def KdK3 (σ : Sig) : Nat → List SV → SW → Option (SV × SW) := memoCall 9 Kd3a Kd3o 1 Kd3x Kd3u 800 (KdK2 σ)
theorem KdK3_known (σ : Sig) (h : Known (env σ) (kkc σ)) : Known (env σ) (KdK3 σ) := known_memo (T' := ⟨heapOf (after Kd3o Kd3u), 800, 0⟩) (callsT_of_run (E := env σ) (sl := KdSl9) Tryz.func9 KdB9_body KdB9_name (Nat.le_of_ble_eq_true (by kernel_rfl)) (Nat.le_of_ble_eq_true (by kernel_rfl)) (fun ρ0 S0 w0 => end_holds (semK_sound h 60) (semK_both h 60).1 (Kd3r σ))) Kd3p Kd3k (KdK2_known σ h)
noncomputable def KdK4 (σ : Sig) : Nat → List SV → SW → Option (SV × SW) := memoCall 9 Kd4a Kd4o 2 Kd4x Kd4u 13444 (KdK3 σ)
theorem KdK4_known (σ : Sig) (h : Known (env σ) (kkc σ)) : Known (env σ) (KdK4 σ) := known_memo (T' := ⟨heapOf (after Kd4o Kd4u), 13444, 0⟩) (callsT_of_run (E := env σ) (sl := KdSl9) Tryz.func9 KdB9_body KdB9_name (Nat.le_of_ble_eq_true (by kernel_rfl)) (Nat.le_of_ble_eq_true (by kernel_rfl)) (fun ρ0 S0 w0 => end_holds (semK_sound h 60) (semK_both h 60).1 (Kd4r σ))) Kd4p Kd4k (KdK3_known σ h)
noncomputable def KdK5 (σ : Sig) : Nat → List SV → SW → Option (SV × SW) := memoCall 9 Kd5a Kd5o 2 Kd5x Kd5u 132 (KdK4 σ)
theorem KdK5_known (σ : Sig) (h : Known (env σ) (kkc σ)) : Known (env σ) (KdK5 σ) := known_memo (T' := ⟨heapOf (after Kd5o Kd5u), 132, 0⟩) (callsT_of_run (E := env σ) (sl := KdSl9) Tryz.func9 KdB9_body KdB9_name (Nat.le_of_ble_eq_true (by kernel_rfl)) (Nat.le_of_ble_eq_true (by kernel_rfl)) (fun ρ0 S0 w0 => end_holds (semK_sound h 60) (semK_both h 60).1 (Kd5r σ))) Kd5p Kd5k (KdK4_known σ h)
noncomputable def KdK6 (σ : Sig) : Nat → List SV → SW → Option (SV × SW) := memoCall 9 Kd6a Kd6o 2 Kd6x Kd6u 14 (KdK5 σ)
theorem KdK6_known (σ : Sig) (h : Known (env σ) (kkc σ)) : Known (env σ) (KdK6 σ) := known_memo (T' := ⟨heapOf (after Kd6o Kd6u), 14, 0⟩) (callsT_of_run (E := env σ) (sl := KdSl9) Tryz.func9 KdB9_body KdB9_name (Nat.le_of_ble_eq_true (by kernel_rfl)) (Nat.le_of_ble_eq_true (by kernel_rfl)) (fun ρ0 S0 w0 => end_holds (semK_sound h 60) (semK_both h 60).1 (Kd6r σ))) Kd6p Kd6k (KdK5_known σ h)
noncomputable def KdK7 (σ : Sig) : Nat → List SV → SW → Option (SV × SW) := memoCall 9 Kd7a Kd7o 2 Kd7x Kd7u 821 (KdK6 σ)
theorem KdK7_known (σ : Sig) (h : Known (env σ) (kkc σ)) : Known (env σ) (KdK7 σ) := known_memo (T' := ⟨heapOf (after Kd7o Kd7u), 821, 0⟩) (callsT_of_run (E := env σ) (sl := KdSl9) Tryz.func9 KdB9_body KdB9_name (Nat.le_of_ble_eq_true (by kernel_rfl)) (Nat.le_of_ble_eq_true (by kernel_rfl)) (fun ρ0 S0 w0 => end_holds (semK_sound h 60) (semK_both h 60).1 (Kd7r σ))) Kd7p Kd7k (KdK6_known σ h)
noncomputable def kkd (σ : Sig) : Nat → List SV → SW → Option (SV × SW) := KdK7 σ
theorem kkd_known (σ : Sig) (h : Known (env σ) (kkc σ)) : Known (env σ) (kkd σ) := KdK7_known σ h
end Go.Proofs.YthblcnkmhnpgiaaGreatDoor
