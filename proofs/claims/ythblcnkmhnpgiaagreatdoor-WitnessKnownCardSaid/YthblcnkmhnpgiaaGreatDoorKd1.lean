/- Calls, each by one run. -/
import Derived.Test.YthblcnkmhnpgiaaGreatDoorKdO
set_option linter.all false
set_option maxRecDepth 100000
namespace Go.Proofs.YthblcnkmhnpgiaaGreatDoor
open Go.RX
open Ab
def Kd0a : List SV := [n 17, uz]
def Kd0o : List (Nat × SObj) := []
def Kd0x : SV := .tuple [.agg [z, z, z, z, uz, z, z, ns, z, ns, z, z], n 2]
def Kd0u : List (Nat × Option SObj) := []
theorem Kd0r (σ : Sig) : endOkS (env σ) (KdC σ) Tryz.f8.ntmps KdSl8 Tryz.f8.results.toList KdB8 (cutSt (Sym.frameOf Kd0a KdSl8) Kd0o 0) Kd0x (after Kd0o Kd0u) 4 = true := by kernel_rfl
theorem Kd0p : updOk ⟨heapOf (after Kd0o Kd0u), 4, 0⟩ Kd0u = true := by kernel_rfl
theorem Kd0k : keptOk ⟨heapOf (after Kd0o Kd0u), 4, 0⟩ Kd0u Kd0o = true := by kernel_rfl
def Kd1a : List SV := [n 5, u 9]
def Kd1o : List (Nat × SObj) := []
def Kd1x : SV := .tuple [.agg [n 1, n 5, n 5, n 1, u 9, n 1, z, e 20 0 5 30 5, n 1000, e 13235 0 90 6 90, n 2, n 5], z]
def Kd1u : List (Nat × Option SObj) := [(20, some (KdS0)), (13235, some (KdS1))]
theorem Kd1r (σ : Sig) : endOkS (env σ) (KdC σ) Tryz.f8.ntmps KdSl8 Tryz.f8.results.toList KdB8 (cutSt (Sym.frameOf Kd1a KdSl8) Kd1o 0) Kd1x (after Kd1o Kd1u) 13237 = true := by kernel_rfl
theorem Kd1p : updOk ⟨heapOf (after Kd1o Kd1u), 13237, 0⟩ Kd1u = true := by kernel_rfl
theorem Kd1k : keptOk ⟨heapOf (after Kd1o Kd1u), 13237, 0⟩ Kd1u Kd1o = true := by kernel_rfl
def Kd2a : List SV := [.agg [n 1, n 5, n 5, n 1, u 9, n 1, z, e 0 0 5 30 5, n 1000, e 1 0 89 6 90, n 2, n 5]]
def Kd2o : List (Nat × SObj) := [(0, KdS0), (1, KdS1)]
def Kd2x : SV := .tuple [tt, z]
def Kd2u : List (Nat × Option SObj) := []
theorem Kd2r (σ : Sig) : endOkS (env σ) (KdC σ) Tryz.f9.ntmps KdSl9 Tryz.f9.results.toList KdB9 (cutSt (Sym.frameOf Kd2a KdSl9) Kd2o 2) Kd2x (after Kd2o Kd2u) 28080 = true := by kernel_rfl
theorem Kd2p : updOk ⟨heapOf (after Kd2o Kd2u), 28080, 0⟩ Kd2u = true := by kernel_rfl
theorem Kd2k : keptOk ⟨heapOf (after Kd2o Kd2u), 28080, 0⟩ Kd2u Kd2o = true := by kernel_rfl
def Kd3a : List SV := [.agg [n 1, n 5, n 5, n 1, u 9, n 1, z, e 0 0 5 30 5, n 1000, ns, n 2, n 5]]
def Kd3o : List (Nat × SObj) := [(0, KdS0)]
def Kd3x : SV := .tuple [tt, z]
def Kd3u : List (Nat × Option SObj) := []
theorem Kd3r (σ : Sig) : endOkS (env σ) (KdC σ) Tryz.f9.ntmps KdSl9 Tryz.f9.results.toList KdB9 (cutSt (Sym.frameOf Kd3a KdSl9) Kd3o 1) Kd3x (after Kd3o Kd3u) 800 = true := by kernel_rfl
theorem Kd3p : updOk ⟨heapOf (after Kd3o Kd3u), 800, 0⟩ Kd3u = true := by kernel_rfl
theorem Kd3k : keptOk ⟨heapOf (after Kd3o Kd3u), 800, 0⟩ Kd3u Kd3o = true := by kernel_rfl
end Go.Proofs.YthblcnkmhnpgiaaGreatDoor
