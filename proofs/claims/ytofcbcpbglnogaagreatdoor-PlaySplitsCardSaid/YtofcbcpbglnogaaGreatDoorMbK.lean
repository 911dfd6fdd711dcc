/- All of them, as contracts. -/
import Derived.Test.YtofcbcpbglnogaaGreatDoorMb1
set_option linter.all false
set_option maxRecDepth 100000
namespace Go.Proofs.YtofcbcpbglnogaaGreatDoor
open Go.RX
open Ab
noncomputable def MbK0 (σ : Sig) : Nat → List SV → SW → Option (SV × SW) := memoCall 8 Mb0a Mb0o 2 Mb0x Mb0u 572 (kdo σ)
theorem MbK0_known (σ : Sig) (h : Known (env σ) (kdo σ)) : Known (env σ) (MbK0 σ) := known_memo (T' := ⟨heapOf (after Mb0o Mb0u), 572, 0⟩) (callsT_of_run (E := env σ) (sl := MbSl8) Tryz.func8 MbB8_body MbB8_name (Nat.le_of_ble_eq_true (by kernel_rfl)) (Nat.le_of_ble_eq_true (by kernel_rfl)) (fun ρ0 S0 w0 => end_holds (semK_sound h 60) (semK_both h 60).1 (Mb0r σ))) Mb0p Mb0k (h)
noncomputable def MbK1 (σ : Sig) : Nat → List SV → SW → Option (SV × SW) := memoCall 14 Mb1a Mb1o 2 Mb1x Mb1u 495 (MbK0 σ)
theorem MbK1_known (σ : Sig) (h : Known (env σ) (kdo σ)) : Known (env σ) (MbK1 σ) := known_memo (T' := ⟨heapOf (after Mb1o Mb1u), 495, 0⟩) (callsT_of_run (E := env σ) (sl := MbSl14) Tryz.func14 MbB14_body MbB14_name (Nat.le_of_ble_eq_true (by kernel_rfl)) (Nat.le_of_ble_eq_true (by kernel_rfl)) (fun ρ0 S0 w0 => end_holds (semK_sound h 60) (semK_both h 60).1 (Mb1r σ))) Mb1p Mb1k (MbK0_known σ h)
noncomputable def MbK2 (σ : Sig) : Nat → List SV → SW → Option (SV × SW) := memoCall 10 Mb2a Mb2o 2 Mb2x Mb2u 490 (MbK1 σ)
theorem MbK2_known (σ : Sig) (h : Known (env σ) (kdo σ)) : Known (env σ) (MbK2 σ) := known_memo (T' := ⟨heapOf (after Mb2o Mb2u), 490, 0⟩) (callsT_of_run (E := env σ) (sl := MbSl10) Tryz.func10 MbB10_body MbB10_name (Nat.le_of_ble_eq_true (by kernel_rfl)) (Nat.le_of_ble_eq_true (by kernel_rfl)) (fun ρ0 S0 w0 => end_holds (semK_sound h 60) (semK_both h 60).1 (Mb2r σ))) Mb2p Mb2k (MbK1_known σ h)
noncomputable def MbK3 (σ : Sig) : Nat → List SV → SW → Option (SV × SW) := memoCall 11 Mb3a Mb3o 1 Mb3x Mb3u 660 (MbK2 σ)
theorem MbK3_known (σ : Sig) (h : Known (env σ) (kdo σ)) : Known (env σ) (MbK3 σ) := known_memo (T' := ⟨heapOf (after Mb3o Mb3u), 660, 0⟩) (callsT_of_run (E := env σ) (sl := MbSl11) Tryz.func11 MbB11_body MbB11_name (Nat.le_of_ble_eq_true (by kernel_rfl)) (Nat.le_of_ble_eq_true (by kernel_rfl)) (fun ρ0 S0 w0 => end_holds (semK_sound h 60) (semK_both h 60).1 (Mb3r σ))) Mb3p Mb3k (MbK2_known σ h)
noncomputable def kpl (σ : Sig) : Nat → List SV → SW → Option (SV × SW) := MbK3 σ
theorem kpl_known (σ : Sig) (h : Known (env σ) (kdo σ)) : Known (env σ) (kpl σ) := MbK3_known σ h
end Go.Proofs.YtofcbcpbglnogaaGreatDoor
