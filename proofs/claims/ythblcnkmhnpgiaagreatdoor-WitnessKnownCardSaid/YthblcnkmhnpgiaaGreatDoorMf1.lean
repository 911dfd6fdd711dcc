/- Calls, each by one run. -/
import Derived.Test.YthblcnkmhnpgiaaGreatDoorMfO
set_option linter.all false
set_option maxRecDepth 100000
namespace Go.Proofs.YthblcnkmhnpgiaaGreatDoor
open Go.RX
open Ab
def Mf0a : List SV := [.agg [n 1, n 2, n 2, n 1, uz, n 1, z, e 0 0 2 30 2], n 1000, n 39, n 2]
def Mf0o : List (Nat × SObj) := [(0, MfS0)]
def Mf0x : SV := .tuple [e 3537 0 45 6 45, e 3001 0 12 8 12, z]
def Mf0u : List (Nat × Option SObj) := [(3537, some (MfS1)), (3001, some (MfS2))]
theorem Mf0r (σ : Sig) : endOkS (env σ) (MfC σ) Tryz.f19.ntmps MfSl19 Tryz.f19.results.toList MfB19 (cutSt (Sym.frameOf Mf0a MfSl19) Mf0o 1) Mf0x (after Mf0o Mf0u) 3539 = true := by kernel_rfl
theorem Mf0p : updOk ⟨heapOf (after Mf0o Mf0u), 3539, 0⟩ Mf0u = true := by kernel_rfl
theorem Mf0k : keptOk ⟨heapOf (after Mf0o Mf0u), 3539, 0⟩ Mf0u Mf0o = true := by kernel_rfl
def Mf1a : List SV := [.agg [n 1, n 2, n 2, n 1, uz, n 1, z, e 0 0 2 30 2], n 1000, e 1 0 45 6 45]
def Mf1o : List (Nat × SObj) := [(0, MfS0), (1, MfS1)]
def Mf1x : SV := .tuple [e 2860 0 12 8 12, z]
def Mf1u : List (Nat × Option SObj) := [(2860, some (MfS2))]
theorem Mf1r (σ : Sig) : endOkS (env σ) (MfC σ) Tryz.f22.ntmps MfSl22 Tryz.f22.results.toList MfB22 (cutSt (Sym.frameOf Mf1a MfSl22) Mf1o 2) Mf1x (after Mf1o Mf1u) 3373 = true := by kernel_rfl
theorem Mf1p : updOk ⟨heapOf (after Mf1o Mf1u), 3373, 0⟩ Mf1u = true := by kernel_rfl
theorem Mf1k : keptOk ⟨heapOf (after Mf1o Mf1u), 3373, 0⟩ Mf1u Mf1o = true := by kernel_rfl
end Go.Proofs.YthblcnkmhnpgiaaGreatDoor
