/- Calls, each by one run. -/
import Derived.Test.YthblcnkmhnpgiaaGreatDoorMnO
set_option linter.all false
set_option maxRecDepth 100000
namespace Go.Proofs.YthblcnkmhnpgiaaGreatDoor
open Go.RX
open Ab
def Mn0a : List SV := [n 1]
def Mn0o : List (Nat × SObj) := []
def Mn0x : SV := .tuple [e 5 0 1 1 1, z]
def Mn0u : List (Nat × Option SObj) := [(5, some (C [t #[119, 48]] 21))]
theorem Mn0r (σ : Sig) (B : List (IE × Int)) : endOkS (envB σ B) (MnC σ B) Tryz.f5.ntmps MnSl5 Tryz.f5.results.toList MnB5 (cutSt (Sym.frameOf Mn0a MnSl5) Mn0o 0) Mn0x (after Mn0o Mn0u) 6 = true := by kernel_rfl
theorem Mn0p : updOk ⟨heapOf (after Mn0o Mn0u), 6, 0⟩ Mn0u = true := by kernel_rfl
theorem Mn0k : keptOk ⟨heapOf (after Mn0o Mn0u), 6, 0⟩ Mn0u Mn0o = true := by kernel_rfl
def Mn1a : List SV := [n 2]
def Mn1o : List (Nat × SObj) := []
def Mn1x : SV := .tuple [e 7 0 2 1 2, z]
def Mn1u : List (Nat × Option SObj) := [(7, some (C [t #[119, 48], t #[119, 49]] 21))]
theorem Mn1r (σ : Sig) (B : List (IE × Int)) : endOkS (envB σ B) (MnC σ B) Tryz.f5.ntmps MnSl5 Tryz.f5.results.toList MnB5 (cutSt (Sym.frameOf Mn1a MnSl5) Mn1o 0) Mn1x (after Mn1o Mn1u) 8 = true := by kernel_rfl
theorem Mn1p : updOk ⟨heapOf (after Mn1o Mn1u), 8, 0⟩ Mn1u = true := by kernel_rfl
theorem Mn1k : keptOk ⟨heapOf (after Mn1o Mn1u), 8, 0⟩ Mn1u Mn1o = true := by kernel_rfl
def Mn2a : List SV := [n 3]
def Mn2o : List (Nat × SObj) := []
def Mn2x : SV := .tuple [e 9 0 3 1 3, z]
def Mn2u : List (Nat × Option SObj) := [(9, some (C [t #[119, 48], t #[119, 49], t #[119, 50]] 21))]
theorem Mn2r (σ : Sig) (B : List (IE × Int)) : endOkS (envB σ B) (MnC σ B) Tryz.f5.ntmps MnSl5 Tryz.f5.results.toList MnB5 (cutSt (Sym.frameOf Mn2a MnSl5) Mn2o 0) Mn2x (after Mn2o Mn2u) 10 = true := by kernel_rfl
theorem Mn2p : updOk ⟨heapOf (after Mn2o Mn2u), 10, 0⟩ Mn2u = true := by kernel_rfl
theorem Mn2k : keptOk ⟨heapOf (after Mn2o Mn2u), 10, 0⟩ Mn2u Mn2o = true := by kernel_rfl
def Mn3a : List SV := [n 4]
def Mn3o : List (Nat × SObj) := []
def Mn3x : SV := .tuple [e 11 0 4 1 4, z]
def Mn3u : List (Nat × Option SObj) := [(11, some (C [t #[119, 48], t #[119, 49], t #[119, 50], t #[119, 51]] 21))]
theorem Mn3r (σ : Sig) (B : List (IE × Int)) : endOkS (envB σ B) (MnC σ B) Tryz.f5.ntmps MnSl5 Tryz.f5.results.toList MnB5 (cutSt (Sym.frameOf Mn3a MnSl5) Mn3o 0) Mn3x (after Mn3o Mn3u) 12 = true := by kernel_rfl
theorem Mn3p : updOk ⟨heapOf (after Mn3o Mn3u), 12, 0⟩ Mn3u = true := by kernel_rfl
theorem Mn3k : keptOk ⟨heapOf (after Mn3o Mn3u), 12, 0⟩ Mn3u Mn3o = true := by kernel_rfl
def Mn4a : List SV := [n 5]
def Mn4o : List (Nat × SObj) := []
def Mn4x : SV := .tuple [e 13 0 5 1 5, z]
def Mn4u : List (Nat × Option SObj) := [(13, some (C [t #[119, 48], t #[119, 49], t #[119, 50], t #[119, 51], t #[119, 52]] 21))]
theorem Mn4r (σ : Sig) (B : List (IE × Int)) : endOkS (envB σ B) (MnC σ B) Tryz.f5.ntmps MnSl5 Tryz.f5.results.toList MnB5 (cutSt (Sym.frameOf Mn4a MnSl5) Mn4o 0) Mn4x (after Mn4o Mn4u) 14 = true := by kernel_rfl
theorem Mn4p : updOk ⟨heapOf (after Mn4o Mn4u), 14, 0⟩ Mn4u = true := by kernel_rfl
theorem Mn4k : keptOk ⟨heapOf (after Mn4o Mn4u), 14, 0⟩ Mn4u Mn4o = true := by kernel_rfl
def Mn5a : List SV := [n 6]
def Mn5o : List (Nat × SObj) := []
def Mn5x : SV := .tuple [e 15 0 6 1 6, z]
def Mn5u : List (Nat × Option SObj) := [(15, some (C [t #[119, 48], t #[119, 49], t #[119, 50], t #[119, 51], t #[119, 52], t #[119, 53]] 21))]
theorem Mn5r (σ : Sig) (B : List (IE × Int)) : endOkS (envB σ B) (MnC σ B) Tryz.f5.ntmps MnSl5 Tryz.f5.results.toList MnB5 (cutSt (Sym.frameOf Mn5a MnSl5) Mn5o 0) Mn5x (after Mn5o Mn5u) 16 = true := by kernel_rfl
theorem Mn5p : updOk ⟨heapOf (after Mn5o Mn5u), 16, 0⟩ Mn5u = true := by kernel_rfl
theorem Mn5k : keptOk ⟨heapOf (after Mn5o Mn5u), 16, 0⟩ Mn5u Mn5o = true := by kernel_rfl
def Mn6a : List SV := [n 7]
def Mn6o : List (Nat × SObj) := []
def Mn6x : SV := .tuple [e 17 0 7 1 7, z]
def Mn6u : List (Nat × Option SObj) := [(17, some (C [t #[119, 48], t #[119, 49], t #[119, 50], t #[119, 51], t #[119, 52], t #[119, 53], t #[119, 54]] 21))]
theorem Mn6r (σ : Sig) (B : List (IE × Int)) : endOkS (envB σ B) (MnC σ B) Tryz.f5.ntmps MnSl5 Tryz.f5.results.toList MnB5 (cutSt (Sym.frameOf Mn6a MnSl5) Mn6o 0) Mn6x (after Mn6o Mn6u) 18 = true := by kernel_rfl
theorem Mn6p : updOk ⟨heapOf (after Mn6o Mn6u), 18, 0⟩ Mn6u = true := by kernel_rfl
theorem Mn6k : keptOk ⟨heapOf (after Mn6o Mn6u), 18, 0⟩ Mn6u Mn6o = true := by kernel_rfl
def Mn7a : List SV := [n 8]
def Mn7o : List (Nat × SObj) := []
def Mn7x : SV := .tuple [e 19 0 8 1 8, z]
def Mn7u : List (Nat × Option SObj) := [(19, some (C [t #[119, 48], t #[119, 49], t #[119, 50], t #[119, 51], t #[119, 52], t #[119, 53], t #[119, 54], t #[119, 55]] 21))]
theorem Mn7r (σ : Sig) (B : List (IE × Int)) : endOkS (envB σ B) (MnC σ B) Tryz.f5.ntmps MnSl5 Tryz.f5.results.toList MnB5 (cutSt (Sym.frameOf Mn7a MnSl5) Mn7o 0) Mn7x (after Mn7o Mn7u) 20 = true := by kernel_rfl
theorem Mn7p : updOk ⟨heapOf (after Mn7o Mn7u), 20, 0⟩ Mn7u = true := by kernel_rfl
theorem Mn7k : keptOk ⟨heapOf (after Mn7o Mn7u), 20, 0⟩ Mn7u Mn7o = true := by kernel_rfl
def Mn8a : List SV := [n 9]
def Mn8o : List (Nat × SObj) := []
def Mn8x : SV := .tuple [e 21 0 9 1 9, z]
def Mn8u : List (Nat × Option SObj) := [(21, some (C [t #[119, 48], t #[119, 49], t #[119, 50], t #[119, 51], t #[119, 52], t #[119, 53], t #[119, 54], t #[119, 55], t #[119, 56]] 21))]
theorem Mn8r (σ : Sig) (B : List (IE × Int)) : endOkS (envB σ B) (MnC σ B) Tryz.f5.ntmps MnSl5 Tryz.f5.results.toList MnB5 (cutSt (Sym.frameOf Mn8a MnSl5) Mn8o 0) Mn8x (after Mn8o Mn8u) 22 = true := by kernel_rfl
theorem Mn8p : updOk ⟨heapOf (after Mn8o Mn8u), 22, 0⟩ Mn8u = true := by kernel_rfl
theorem Mn8k : keptOk ⟨heapOf (after Mn8o Mn8u), 22, 0⟩ Mn8u Mn8o = true := by kernel_rfl
def Mn9a : List SV := [n 10]
def Mn9o : List (Nat × SObj) := []
def Mn9x : SV := .tuple [e 23 0 10 1 10, z]
def Mn9u : List (Nat × Option SObj) := [(23, some (C [t #[119, 48], t #[119, 49], t #[119, 50], t #[119, 51], t #[119, 52], t #[119, 53], t #[119, 54], t #[119, 55], t #[119, 56], t #[119, 57]] 21))]
theorem Mn9r (σ : Sig) (B : List (IE × Int)) : endOkS (envB σ B) (MnC σ B) Tryz.f5.ntmps MnSl5 Tryz.f5.results.toList MnB5 (cutSt (Sym.frameOf Mn9a MnSl5) Mn9o 0) Mn9x (after Mn9o Mn9u) 24 = true := by kernel_rfl
theorem Mn9p : updOk ⟨heapOf (after Mn9o Mn9u), 24, 0⟩ Mn9u = true := by kernel_rfl
theorem Mn9k : keptOk ⟨heapOf (after Mn9o Mn9u), 24, 0⟩ Mn9u Mn9o = true := by kernel_rfl
def Mn10a : List SV := [n 11]
def Mn10o : List (Nat × SObj) := []
def Mn10x : SV := .tuple [e 25 0 11 1 11, z]
def Mn10u : List (Nat × Option SObj) := [(25, some (C [t #[119, 48], t #[119, 49], t #[119, 50], t #[119, 51], t #[119, 52], t #[119, 53], t #[119, 54], t #[119, 55], t #[119, 56], t #[119, 57], t #[119, 49, 48]] 21))]
theorem Mn10r (σ : Sig) (B : List (IE × Int)) : endOkS (envB σ B) (MnC σ B) Tryz.f5.ntmps MnSl5 Tryz.f5.results.toList MnB5 (cutSt (Sym.frameOf Mn10a MnSl5) Mn10o 0) Mn10x (after Mn10o Mn10u) 26 = true := by kernel_rfl
theorem Mn10p : updOk ⟨heapOf (after Mn10o Mn10u), 26, 0⟩ Mn10u = true := by kernel_rfl
theorem Mn10k : keptOk ⟨heapOf (after Mn10o Mn10u), 26, 0⟩ Mn10u Mn10o = true := by kernel_rfl
def Mn11a : List SV := [n 12]
def Mn11o : List (Nat × SObj) := []
def Mn11x : SV := .tuple [e 27 0 12 1 12, z]
def Mn11u : List (Nat × Option SObj) := [(27, some (C [t #[119, 48], t #[119, 49], t #[119, 50], t #[119, 51], t #[119, 52], t #[119, 53], t #[119, 54], t #[119, 55], t #[119, 56], t #[119, 57], t #[119, 49, 48], t #[119, 49, 49]] 21))]
theorem Mn11r (σ : Sig) (B : List (IE × Int)) : endOkS (envB σ B) (MnC σ B) Tryz.f5.ntmps MnSl5 Tryz.f5.results.toList MnB5 (cutSt (Sym.frameOf Mn11a MnSl5) Mn11o 0) Mn11x (after Mn11o Mn11u) 28 = true := by kernel_rfl
theorem Mn11p : updOk ⟨heapOf (after Mn11o Mn11u), 28, 0⟩ Mn11u = true := by kernel_rfl
theorem Mn11k : keptOk ⟨heapOf (after Mn11o Mn11u), 28, 0⟩ Mn11u Mn11o = true := by kernel_rfl
def Mn12a : List SV := [n 13]
def Mn12o : List (Nat × SObj) := []
def Mn12x : SV := .tuple [e 29 0 13 1 13, z]
def Mn12u : List (Nat × Option SObj) := [(29, some (C [t #[119, 48], t #[119, 49], t #[119, 50], t #[119, 51], t #[119, 52], t #[119, 53], t #[119, 54], t #[119, 55], t #[119, 56], t #[119, 57], t #[119, 49, 48], t #[119, 49, 49], t #[119, 49, 50]] 21))]
theorem Mn12r (σ : Sig) (B : List (IE × Int)) : endOkS (envB σ B) (MnC σ B) Tryz.f5.ntmps MnSl5 Tryz.f5.results.toList MnB5 (cutSt (Sym.frameOf Mn12a MnSl5) Mn12o 0) Mn12x (after Mn12o Mn12u) 30 = true := by kernel_rfl
theorem Mn12p : updOk ⟨heapOf (after Mn12o Mn12u), 30, 0⟩ Mn12u = true := by kernel_rfl
theorem Mn12k : keptOk ⟨heapOf (after Mn12o Mn12u), 30, 0⟩ Mn12u Mn12o = true := by kernel_rfl
def Mn13a : List SV := [n 14]
def Mn13o : List (Nat × SObj) := []
def Mn13x : SV := .tuple [e 31 0 14 1 14, z]
def Mn13u : List (Nat × Option SObj) := [(31, some (C [t #[119, 48], t #[119, 49], t #[119, 50], t #[119, 51], t #[119, 52], t #[119, 53], t #[119, 54], t #[119, 55], t #[119, 56], t #[119, 57], t #[119, 49, 48], t #[119, 49, 49], t #[119, 49, 50], t #[119, 49, 51]] 21))]
theorem Mn13r (σ : Sig) (B : List (IE × Int)) : endOkS (envB σ B) (MnC σ B) Tryz.f5.ntmps MnSl5 Tryz.f5.results.toList MnB5 (cutSt (Sym.frameOf Mn13a MnSl5) Mn13o 0) Mn13x (after Mn13o Mn13u) 32 = true := by kernel_rfl
theorem Mn13p : updOk ⟨heapOf (after Mn13o Mn13u), 32, 0⟩ Mn13u = true := by kernel_rfl
theorem Mn13k : keptOk ⟨heapOf (after Mn13o Mn13u), 32, 0⟩ Mn13u Mn13o = true := by kernel_rfl
def Mn14a : List SV := [n 15]
def Mn14o : List (Nat × SObj) := []
def Mn14x : SV := .tuple [e 33 0 15 1 15, z]
def Mn14u : List (Nat × Option SObj) := [(33, some (C [t #[119, 48], t #[119, 49], t #[119, 50], t #[119, 51], t #[119, 52], t #[119, 53], t #[119, 54], t #[119, 55], t #[119, 56], t #[119, 57], t #[119, 49, 48], t #[119, 49, 49], t #[119, 49, 50], t #[119, 49, 51], t #[119, 49, 52]] 21))]
theorem Mn14r (σ : Sig) (B : List (IE × Int)) : endOkS (envB σ B) (MnC σ B) Tryz.f5.ntmps MnSl5 Tryz.f5.results.toList MnB5 (cutSt (Sym.frameOf Mn14a MnSl5) Mn14o 0) Mn14x (after Mn14o Mn14u) 34 = true := by kernel_rfl
theorem Mn14p : updOk ⟨heapOf (after Mn14o Mn14u), 34, 0⟩ Mn14u = true := by kernel_rfl
theorem Mn14k : keptOk ⟨heapOf (after Mn14o Mn14u), 34, 0⟩ Mn14u Mn14o = true := by kernel_rfl
def Mn15a : List SV := [n 16]
def Mn15o : List (Nat × SObj) := []
def Mn15x : SV := .tuple [e 35 0 16 1 16, z]
def Mn15u : List (Nat × Option SObj) := [(35, some (C [t #[119, 48], t #[119, 49], t #[119, 50], t #[119, 51], t #[119, 52], t #[119, 53], t #[119, 54], t #[119, 55], t #[119, 56], t #[119, 57], t #[119, 49, 48], t #[119, 49, 49], t #[119, 49, 50], t #[119, 49, 51], t #[119, 49, 52], t #[119, 49, 53]] 21))]
theorem Mn15r (σ : Sig) (B : List (IE × Int)) : endOkS (envB σ B) (MnC σ B) Tryz.f5.ntmps MnSl5 Tryz.f5.results.toList MnB5 (cutSt (Sym.frameOf Mn15a MnSl5) Mn15o 0) Mn15x (after Mn15o Mn15u) 36 = true := by kernel_rfl
theorem Mn15p : updOk ⟨heapOf (after Mn15o Mn15u), 36, 0⟩ Mn15u = true := by kernel_rfl
theorem Mn15k : keptOk ⟨heapOf (after Mn15o Mn15u), 36, 0⟩ Mn15u Mn15o = true := by kernel_rfl
end Go.Proofs.YthblcnkmhnpgiaaGreatDoor
