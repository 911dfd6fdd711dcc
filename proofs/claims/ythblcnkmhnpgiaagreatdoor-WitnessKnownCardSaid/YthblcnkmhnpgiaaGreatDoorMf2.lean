/- Calls, each by one run. -/
import Derived.Test.YthblcnkmhnpgiaaGreatDoorMfO
set_option linter.all false
set_option maxRecDepth 100000
namespace Go.Proofs.YthblcnkmhnpgiaaGreatDoor
open Go.RX
open Ab
def Mf2a : List SV := [.agg [n 1, n 2, n 2, n 1, uz, n 1, z, e 0 0 2 30 2], .agg [n 2, n 2], n 1001, n 1039]
def Mf2o : List (Nat × SObj) := [(0, MfS0)]
def Mf2x : SV := .tuple [z, tt, z]
def Mf2u : List (Nat × Option SObj) := []
theorem Mf2r (σ : Sig) : endOkS (env σ) (MfC σ) Tryz.f34.ntmps MfSl34 Tryz.f34.results.toList MfB34 (cutSt (Sym.frameOf Mf2a MfSl34) Mf2o 1) Mf2x (after Mf2o Mf2u) 828 = true := by kernel_rfl
theorem Mf2p : updOk ⟨heapOf (after Mf2o Mf2u), 828, 0⟩ Mf2u = true := by kernel_rfl
theorem Mf2k : keptOk ⟨heapOf (after Mf2o Mf2u), 828, 0⟩ Mf2u Mf2o = true := by kernel_rfl
def Mf3a : List SV := [.agg [n 1, n 2, n 2, n 1, uz, n 1, z, e 0 0 2 30 2], .agg [n 2, n 2], n 1000, e 1 0 45 6 45]
def Mf3o : List (Nat × SObj) := [(0, MfS0), (1, MfS1)]
def Mf3x : SV := .tuple [tt, z]
def Mf3u : List (Nat × Option SObj) := []
theorem Mf3r (σ : Sig) : endOkS (env σ) (MfC σ) Tryz.f36.ntmps MfSl36 Tryz.f36.results.toList MfB36 (cutSt (Sym.frameOf Mf3a MfSl36) Mf3o 2) Mf3x (after Mf3o Mf3u) 3457 = true := by kernel_rfl
theorem Mf3p : updOk ⟨heapOf (after Mf3o Mf3u), 3457, 0⟩ Mf3u = true := by kernel_rfl
theorem Mf3k : keptOk ⟨heapOf (after Mf3o Mf3u), 3457, 0⟩ Mf3u Mf3o = true := by kernel_rfl
end Go.Proofs.YthblcnkmhnpgiaaGreatDoor
