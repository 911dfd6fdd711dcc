/- All of them, as contracts. -/
import Derived.Test.YthblcnkmhnpgiaaGreatDoorKc1
set_option linter.all false
set_option maxRecDepth 100000
namespace Go.Proofs.YthblcnkmhnpgiaaGreatDoor
open Go.RX
open Ab
noncomputable def KcK0 (σ : Sig) : Nat → List SV → SW → Option (SV × SW) := memoCall 34 Kc0a Kc0o 1 Kc0x Kc0u 1998 (kkb σ)
theorem KcK0_known (σ : Sig) (h : Known (env σ) (kkb σ)) : Known (env σ) (KcK0 σ) := known_memo (T' := ⟨heapOf (after Kc0o Kc0u), 1998, 0⟩) (callsT_of_run (E := env σ) (sl := KcSl34) Tryz.func34 KcB34_body KcB34_name (Nat.le_of_ble_eq_true (by kernel_rfl)) (Nat.le_of_ble_eq_true (by kernel_rfl)) (fun ρ0 S0 w0 => end_holds (semK_sound h 60) (semK_both h 60).1 (Kc0r σ))) Kc0p Kc0k (h)
noncomputable def KcK1 (σ : Sig) : Nat → List SV → SW → Option (SV × SW) := memoCall 34 Kc1a Kc1o 1 Kc1x Kc1u 127 (KcK0 σ)
theorem KcK1_known (σ : Sig) (h : Known (env σ) (kkb σ)) : Known (env σ) (KcK1 σ) := known_memo (T' := ⟨heapOf (after Kc1o Kc1u), 127, 0⟩) (callsT_of_run (E := env σ) (sl := KcSl34) Tryz.func34 KcB34_body KcB34_name (Nat.le_of_ble_eq_true (by kernel_rfl)) (Nat.le_of_ble_eq_true (by kernel_rfl)) (fun ρ0 S0 w0 => end_holds (semK_sound h 60) (semK_both h 60).1 (Kc1r σ))) Kc1p Kc1k (KcK0_known σ h)
noncomputable def kkc (σ : Sig) : Nat → List SV → SW → Option (SV × SW) := KcK1 σ
theorem kkc_known (σ : Sig) (h : Known (env σ) (kkb σ)) : Known (env σ) (kkc σ) := KcK1_known σ h
end Go.Proofs.YthblcnkmhnpgiaaGreatDoor
