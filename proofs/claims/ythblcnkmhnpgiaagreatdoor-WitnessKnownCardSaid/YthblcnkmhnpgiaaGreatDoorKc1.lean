/- Calls, each by one run. -/
import Derived.Test.YthblcnkmhnpgiaaGreatDoorKcO
set_option linter.all false
set_option maxRecDepth 100000
namespace Go.Proofs.YthblcnkmhnpgiaaGreatDoor
open Go.RX
open Ab
def Kc0a : List SV := [.agg [n 1, n 5, n 5, n 1, u 9, n 1, z, e 0 0 5 30 5], .agg [n 2, n 5], n 1001, n 1074]
def Kc0o : List (Nat × SObj) := [(0, KcS0)]
def Kc0x : SV := .tuple [z, tt, z]
def Kc0u : List (Nat × Option SObj) := []
theorem Kc0r (σ : Sig) : endOkS (env σ) (KcC σ) Tryz.f34.ntmps KcSl34 Tryz.f34.results.toList KcB34 (cutSt (Sym.frameOf Kc0a KcSl34) Kc0o 1) Kc0x (after Kc0o Kc0u) 1998 = true := by kernel_rfl
theorem Kc0p : updOk ⟨heapOf (after Kc0o Kc0u), 1998, 0⟩ Kc0u = true := by kernel_rfl
theorem Kc0k : keptOk ⟨heapOf (after Kc0o Kc0u), 1998, 0⟩ Kc0u Kc0o = true := by kernel_rfl
def Kc1a : List SV := [.agg [n 1, n 5, n 5, n 1, u 9, n 1, z, e 0 0 5 30 5], .agg [z, n 5], n 1001, n 1075]
def Kc1o : List (Nat × SObj) := [(0, KcS0)]
def Kc1x : SV := .tuple [z, ff, n 2]
def Kc1u : List (Nat × Option SObj) := []
theorem Kc1r (σ : Sig) : endOkS (env σ) (KcC σ) Tryz.f34.ntmps KcSl34 Tryz.f34.results.toList KcB34 (cutSt (Sym.frameOf Kc1a KcSl34) Kc1o 1) Kc1x (after Kc1o Kc1u) 127 = true := by kernel_rfl
theorem Kc1p : updOk ⟨heapOf (after Kc1o Kc1u), 127, 0⟩ Kc1u = true := by kernel_rfl
theorem Kc1k : keptOk ⟨heapOf (after Kc1o Kc1u), 127, 0⟩ Kc1u Kc1o = true := by kernel_rfl
end Go.Proofs.YthblcnkmhnpgiaaGreatDoor
