/- All of them, as contracts. -/
import Derived.Test.YthblcnkmhnpgiaaGreatDoorKb1
import Derived.Test.YthblcnkmhnpgiaaGreatDoorKb2
import Derived.Test.YthblcnkmhnpgiaaGreatDoorKb3
import Derived.Test.YthblcnkmhnpgiaaGreatDoorKb4
import Derived.Test.YthblcnkmhnpgiaaGreatDoorKb5
set_option linter.all false
set_option maxRecDepth 100000
namespace Go.Proofs.YthblcnkmhnpgiaaGreatDoor
open Go.RX
open Ab
noncomputable def KbK0 (σ : Sig) : Nat → List SV → SW → Option (SV × SW) := memoCall 19 Kb0a Kb0o 1 Kb0x Kb0u 13217 (kka σ)
theorem KbK0_known (σ : Sig) (h : Known (env σ) (kka σ)) : Known (env σ) (KbK0 σ) := known_memo (T' := ⟨heapOf (after Kb0o Kb0u), 13217, 0⟩) (callsT_of_run (E := env σ) (sl := KbSl19) Tryz.func19 KbB19_body KbB19_name (Nat.le_of_ble_eq_true (by kernel_rfl)) (Nat.le_of_ble_eq_true (by kernel_rfl)) (fun ρ0 S0 w0 => end_holds (semK_sound h 60) (semK_both h 60).1 (Kb0r σ))) Kb0p Kb0k (h)
noncomputable def KbK1 (σ : Sig) : Nat → List SV → SW → Option (SV × SW) := memoCall 22 Kb1a Kb1o 2 Kb1x Kb1u 12732 (KbK0 σ)
theorem KbK1_known (σ : Sig) (h : Known (env σ) (kka σ)) : Known (env σ) (KbK1 σ) := known_memo (T' := ⟨heapOf (after Kb1o Kb1u), 12732, 0⟩) (callsT_of_run (E := env σ) (sl := KbSl22) Tryz.func22 KbB22_body KbB22_name (Nat.le_of_ble_eq_true (by kernel_rfl)) (Nat.le_of_ble_eq_true (by kernel_rfl)) (fun ρ0 S0 w0 => end_holds (semK_sound h 60) (semK_both h 60).1 (Kb1r σ))) Kb1p Kb1k (KbK0_known σ h)
noncomputable def KbK2 (σ : Sig) : Nat → List SV → SW → Option (SV × SW) := memoCall 33 Kb2a Kb2o 1 Kb2x Kb2u 446 (KbK1 σ)
theorem KbK2_known (σ : Sig) (h : Known (env σ) (kka σ)) : Known (env σ) (KbK2 σ) := known_memo (T' := ⟨heapOf (after Kb2o Kb2u), 446, 0⟩) (callsT_of_run (E := env σ) (sl := KbSl33) Tryz.func33 KbB33_body KbB33_name (Nat.le_of_ble_eq_true (by kernel_rfl)) (Nat.le_of_ble_eq_true (by kernel_rfl)) (fun ρ0 S0 w0 => end_holds (semK_sound h 60) (semK_both h 60).1 (Kb2r σ))) Kb2p Kb2k (KbK1_known σ h)
noncomputable def KbK3 (σ : Sig) : Nat → List SV → SW → Option (SV × SW) := memoCall 62 Kb3a Kb3o 1 Kb3x Kb3u 322 (KbK2 σ)
theorem KbK3_known (σ : Sig) (h : Known (env σ) (kka σ)) : Known (env σ) (KbK3 σ) := known_memo (T' := ⟨heapOf (after Kb3o Kb3u), 322, 0⟩) (callsT_of_run (E := env σ) (sl := KbSl62) Tryz.func62 KbB62_body KbB62_name (Nat.le_of_ble_eq_true (by kernel_rfl)) (Nat.le_of_ble_eq_true (by kernel_rfl)) (fun ρ0 S0 w0 => end_holds (semK_sound h 60) (semK_both h 60).1 (Kb3r σ))) Kb3p Kb3k (KbK2_known σ h)
noncomputable def KbK4 (σ : Sig) : Nat → List SV → SW → Option (SV × SW) := memoCall 65 Kb4a Kb4o 1 Kb4x Kb4u 907 (KbK3 σ)
theorem KbK4_known (σ : Sig) (h : Known (env σ) (kka σ)) : Known (env σ) (KbK4 σ) := known_memo (T' := ⟨heapOf (after Kb4o Kb4u), 907, 0⟩) (callsT_of_run (E := env σ) (sl := KbSl65) Tryz.func65 KbB65_body KbB65_name (Nat.le_of_ble_eq_true (by kernel_rfl)) (Nat.le_of_ble_eq_true (by kernel_rfl)) (fun ρ0 S0 w0 => end_holds (semK_sound h 60) (semK_both h 60).1 (Kb4r σ))) Kb4p Kb4k (KbK3_known σ h)
noncomputable def KbK5 (σ : Sig) : Nat → List SV → SW → Option (SV × SW) := memoCall 36 Kb5a Kb5o 2 Kb5x Kb5u 12900 (KbK4 σ)
theorem KbK5_known (σ : Sig) (h : Known (env σ) (kka σ)) : Known (env σ) (KbK5 σ) := known_memo (T' := ⟨heapOf (after Kb5o Kb5u), 12900, 0⟩) (callsT_of_run (E := env σ) (sl := KbSl36) Tryz.func36 KbB36_body KbB36_name (Nat.le_of_ble_eq_true (by kernel_rfl)) (Nat.le_of_ble_eq_true (by kernel_rfl)) (fun ρ0 S0 w0 => end_holds (semK_sound h 60) (semK_both h 60).1 (Kb5r σ))) Kb5p Kb5k (KbK4_known σ h)
noncomputable def KbK6 (σ : Sig) : Nat → List SV → SW → Option (SV × SW) := memoCall 22 Kb6a Kb6o 1 Kb6x Kb6u 460 (KbK5 σ)
theorem KbK6_known (σ : Sig) (h : Known (env σ) (kka σ)) : Known (env σ) (KbK6 σ) := known_memo (T' := ⟨heapOf (after Kb6o Kb6u), 460, 0⟩) (callsT_of_run (E := env σ) (sl := KbSl22) Tryz.func22 KbB22_body KbB22_name (Nat.le_of_ble_eq_true (by kernel_rfl)) (Nat.le_of_ble_eq_true (by kernel_rfl)) (fun ρ0 S0 w0 => end_holds (semK_sound h 60) (semK_both h 60).1 (Kb6r σ))) Kb6p Kb6k (KbK5_known σ h)
noncomputable def KbK7 (σ : Sig) : Nat → List SV → SW → Option (SV × SW) := memoCall 33 Kb7a Kb7o 0 Kb7x Kb7u 0 (KbK6 σ)
theorem KbK7_known (σ : Sig) (h : Known (env σ) (kka σ)) : Known (env σ) (KbK7 σ) := known_memo (T' := ⟨heapOf (after Kb7o Kb7u), 0, 0⟩) (callsT_of_run (E := env σ) (sl := KbSl33) Tryz.func33 KbB33_body KbB33_name (Nat.le_of_ble_eq_true (by kernel_rfl)) (Nat.le_of_ble_eq_true (by kernel_rfl)) (fun ρ0 S0 w0 => end_holds (semK_sound h 60) (semK_both h 60).1 (Kb7r σ))) Kb7p Kb7k (KbK6_known σ h)
noncomputable def KbK8 (σ : Sig) : Nat → List SV → SW → Option (SV × SW) := memoCall 36 Kb8a Kb8o 1 Kb8x Kb8u 333 (KbK7 σ)
theorem KbK8_known (σ : Sig) (h : Known (env σ) (kka σ)) : Known (env σ) (KbK8 σ) := known_memo (T' := ⟨heapOf (after Kb8o Kb8u), 333, 0⟩) (callsT_of_run (E := env σ) (sl := KbSl36) Tryz.func36 KbB36_body KbB36_name (Nat.le_of_ble_eq_true (by kernel_rfl)) (Nat.le_of_ble_eq_true (by kernel_rfl)) (fun ρ0 S0 w0 => end_holds (semK_sound h 60) (semK_both h 60).1 (Kb8r σ))) Kb8p Kb8k (KbK7_known σ h)
noncomputable def KbK9 (σ : Sig) : Nat → List SV → SW → Option (SV × SW) := memoCall 22 Kb9a Kb9o 2 Kb9x Kb9u 12862 (KbK8 σ)
theorem KbK9_known (σ : Sig) (h : Known (env σ) (kka σ)) : Known (env σ) (KbK9 σ) := known_memo (T' := ⟨heapOf (after Kb9o Kb9u), 12862, 0⟩) (callsT_of_run (E := env σ) (sl := KbSl22) Tryz.func22 KbB22_body KbB22_name (Nat.le_of_ble_eq_true (by kernel_rfl)) (Nat.le_of_ble_eq_true (by kernel_rfl)) (fun ρ0 S0 w0 => end_holds (semK_sound h 60) (semK_both h 60).1 (Kb9r σ))) Kb9p Kb9k (KbK8_known σ h)
noncomputable def KbK10 (σ : Sig) : Nat → List SV → SW → Option (SV × SW) := memoCall 33 Kb10a Kb10o 1 Kb10x Kb10u 451 (KbK9 σ)
theorem KbK10_known (σ : Sig) (h : Known (env σ) (kka σ)) : Known (env σ) (KbK10 σ) := known_memo (T' := ⟨heapOf (after Kb10o Kb10u), 451, 0⟩) (callsT_of_run (E := env σ) (sl := KbSl33) Tryz.func33 KbB33_body KbB33_name (Nat.le_of_ble_eq_true (by kernel_rfl)) (Nat.le_of_ble_eq_true (by kernel_rfl)) (fun ρ0 S0 w0 => end_holds (semK_sound h 60) (semK_both h 60).1 (Kb10r σ))) Kb10p Kb10k (KbK9_known σ h)
noncomputable def KbK11 (σ : Sig) : Nat → List SV → SW → Option (SV × SW) := memoCall 62 Kb11a Kb11o 1 Kb11x Kb11u 122 (KbK10 σ)
theorem KbK11_known (σ : Sig) (h : Known (env σ) (kka σ)) : Known (env σ) (KbK11 σ) := known_memo (T' := ⟨heapOf (after Kb11o Kb11u), 122, 0⟩) (callsT_of_run (E := env σ) (sl := KbSl62) Tryz.func62 KbB62_body KbB62_name (Nat.le_of_ble_eq_true (by kernel_rfl)) (Nat.le_of_ble_eq_true (by kernel_rfl)) (fun ρ0 S0 w0 => end_holds (semK_sound h 60) (semK_both h 60).1 (Kb11r σ))) Kb11p Kb11k (KbK10_known σ h)
noncomputable def KbK12 (σ : Sig) : Nat → List SV → SW → Option (SV × SW) := memoCall 22 Kb12a Kb12o 2 Kb12x Kb12u 128 (KbK11 σ)
theorem KbK12_known (σ : Sig) (h : Known (env σ) (kka σ)) : Known (env σ) (KbK12 σ) := known_memo (T' := ⟨heapOf (after Kb12o Kb12u), 128, 0⟩) (callsT_of_run (E := env σ) (sl := KbSl22) Tryz.func22 KbB22_body KbB22_name (Nat.le_of_ble_eq_true (by kernel_rfl)) (Nat.le_of_ble_eq_true (by kernel_rfl)) (fun ρ0 S0 w0 => end_holds (semK_sound h 60) (semK_both h 60).1 (Kb12r σ))) Kb12p Kb12k (KbK11_known σ h)
noncomputable def KbK13 (σ : Sig) : Nat → List SV → SW → Option (SV × SW) := memoCall 22 Kb13a Kb13o 2 Kb13x Kb13u 10 (KbK12 σ)
theorem KbK13_known (σ : Sig) (h : Known (env σ) (kka σ)) : Known (env σ) (KbK13 σ) := known_memo (T' := ⟨heapOf (after Kb13o Kb13u), 10, 0⟩) (callsT_of_run (E := env σ) (sl := KbSl22) Tryz.func22 KbB22_body KbB22_name (Nat.le_of_ble_eq_true (by kernel_rfl)) (Nat.le_of_ble_eq_true (by kernel_rfl)) (fun ρ0 S0 w0 => end_holds (semK_sound h 60) (semK_both h 60).1 (Kb13r σ))) Kb13p Kb13k (KbK12_known σ h)
noncomputable def KbK14 (σ : Sig) : Nat → List SV → SW → Option (SV × SW) := memoCall 22 Kb14a Kb14o 2 Kb14x Kb14u 472 (KbK13 σ)
theorem KbK14_known (σ : Sig) (h : Known (env σ) (kka σ)) : Known (env σ) (KbK14 σ) := known_memo (T' := ⟨heapOf (after Kb14o Kb14u), 472, 0⟩) (callsT_of_run (E := env σ) (sl := KbSl22) Tryz.func22 KbB22_body KbB22_name (Nat.le_of_ble_eq_true (by kernel_rfl)) (Nat.le_of_ble_eq_true (by kernel_rfl)) (fun ρ0 S0 w0 => end_holds (semK_sound h 60) (semK_both h 60).1 (Kb14r σ))) Kb14p Kb14k (KbK13_known σ h)
noncomputable def KbK15 (σ : Sig) : Nat → List SV → SW → Option (SV × SW) := memoCall 33 Kb15a Kb15o 1 Kb15x Kb15u 6 (KbK14 σ)
theorem KbK15_known (σ : Sig) (h : Known (env σ) (kka σ)) : Known (env σ) (KbK15 σ) := known_memo (T' := ⟨heapOf (after Kb15o Kb15u), 6, 0⟩) (callsT_of_run (E := env σ) (sl := KbSl33) Tryz.func33 KbB33_body KbB33_name (Nat.le_of_ble_eq_true (by kernel_rfl)) (Nat.le_of_ble_eq_true (by kernel_rfl)) (fun ρ0 S0 w0 => end_holds (semK_sound h 60) (semK_both h 60).1 (Kb15r σ))) Kb15p Kb15k (KbK14_known σ h)
noncomputable def KbK16 (σ : Sig) : Nat → List SV → SW → Option (SV × SW) := memoCall 36 Kb16a Kb16o 2 Kb16x Kb16u 338 (KbK15 σ)
theorem KbK16_known (σ : Sig) (h : Known (env σ) (kka σ)) : Known (env σ) (KbK16 σ) := known_memo (T' := ⟨heapOf (after Kb16o Kb16u), 338, 0⟩) (callsT_of_run (E := env σ) (sl := KbSl36) Tryz.func36 KbB36_body KbB36_name (Nat.le_of_ble_eq_true (by kernel_rfl)) (Nat.le_of_ble_eq_true (by kernel_rfl)) (fun ρ0 S0 w0 => end_holds (semK_sound h 60) (semK_both h 60).1 (Kb16r σ))) Kb16p Kb16k (KbK15_known σ h)
noncomputable def kkb (σ : Sig) : Nat → List SV → SW → Option (SV × SW) := KbK16 σ
theorem kkb_known (σ : Sig) (h : Known (env σ) (kka σ)) : Known (env σ) (kkb σ) := KbK16_known σ h
end Go.Proofs.YthblcnkmhnpgiaaGreatDoor
