/- Calls, each by one run. -/
import Derived.Test.YthblcnkmhnpgiaaGreatDoorKdO
set_option linter.all false
set_option maxRecDepth 100000
namespace Go.Proofs.YthblcnkmhnpgiaaGreatDoor
open Go.RX
open Ab
def Kd4a : List SV := [.agg [n 1, n 5, n 5, n 1, u 9, n 1, z, e 0 0 5 30 5, n 1000, e 1 0 90 6 90, z, n 5]]
def Kd4o : List (Nat × SObj) := [(0, KdS0), (1, KdS1)]
def Kd4x : SV := .tuple [ff, n 2]
def Kd4u : List (Nat × Option SObj) := []
theorem Kd4r (σ : Sig) : endOkS (env σ) (KdC σ) Tryz.f9.ntmps KdSl9 Tryz.f9.results.toList KdB9 (cutSt (Sym.frameOf Kd4a KdSl9) Kd4o 2) Kd4x (after Kd4o Kd4u) 13444 = true := by kernel_rfl
theorem Kd4p : updOk ⟨heapOf (after Kd4o Kd4u), 13444, 0⟩ Kd4u = true := by kernel_rfl
theorem Kd4k : keptOk ⟨heapOf (after Kd4o Kd4u), 13444, 0⟩ Kd4u Kd4o = true := by kernel_rfl
def Kd5a : List SV := [.agg [n 1, n 5, n 5, n 1, u 9, n 1, z, e 0 0 5 30 5, mn 0, e 1 0 90 6 90, z, n 5]]
def Kd5o : List (Nat × SObj) := [(0, KdS0), (1, KdS1)]
def Kd5x : SV := .tuple [ff, n 14]
def Kd5u : List (Nat × Option SObj) := []
theorem Kd5r (σ : Sig) : endOkS (env σ) (KdC σ) Tryz.f9.ntmps KdSl9 Tryz.f9.results.toList KdB9 (cutSt (Sym.frameOf Kd5a KdSl9) Kd5o 2) Kd5x (after Kd5o Kd5u) 132 = true := by kernel_rfl
theorem Kd5p : updOk ⟨heapOf (after Kd5o Kd5u), 132, 0⟩ Kd5u = true := by kernel_rfl
theorem Kd5k : keptOk ⟨heapOf (after Kd5o Kd5u), 132, 0⟩ Kd5u Kd5o = true := by kernel_rfl
def Kd6a : List SV := [.agg [z, n 5, n 5, n 1, u 9, n 1, z, e 0 0 5 30 5, mn 0, e 1 0 90 6 90, z, n 5]]
def Kd6o : List (Nat × SObj) := [(0, KdS0), (1, KdS1)]
def Kd6x : SV := .tuple [ff, n 16]
def Kd6u : List (Nat × Option SObj) := []
theorem Kd6r (σ : Sig) : endOkS (env σ) (KdC σ) Tryz.f9.ntmps KdSl9 Tryz.f9.results.toList KdB9 (cutSt (Sym.frameOf Kd6a KdSl9) Kd6o 2) Kd6x (after Kd6o Kd6u) 14 = true := by kernel_rfl
theorem Kd6p : updOk ⟨heapOf (after Kd6o Kd6u), 14, 0⟩ Kd6u = true := by kernel_rfl
theorem Kd6k : keptOk ⟨heapOf (after Kd6o Kd6u), 14, 0⟩ Kd6u Kd6o = true := by kernel_rfl
def Kd7a : List SV := [.agg [n 1, n 5, n 5, n 1, u 9, n 1, z, e 0 0 5 30 5, n 1000, s 1 0 1 1, n 2, n 5]]
def Kd7o : List (Nat × SObj) := [(0, KdS0), (1, C [n 3, z, z, n 5, ff, t #[]] 101)]
def Kd7x : SV := .tuple [ff, z]
def Kd7u : List (Nat × Option SObj) := []
theorem Kd7r (σ : Sig) : endOkS (env σ) (KdC σ) Tryz.f9.ntmps KdSl9 Tryz.f9.results.toList KdB9 (cutSt (Sym.frameOf Kd7a KdSl9) Kd7o 2) Kd7x (after Kd7o Kd7u) 821 = true := by kernel_rfl
theorem Kd7p : updOk ⟨heapOf (after Kd7o Kd7u), 821, 0⟩ Kd7u = true := by kernel_rfl
theorem Kd7k : keptOk ⟨heapOf (after Kd7o Kd7u), 821, 0⟩ Kd7u Kd7o = true := by kernel_rfl
end Go.Proofs.YthblcnkmhnpgiaaGreatDoor
