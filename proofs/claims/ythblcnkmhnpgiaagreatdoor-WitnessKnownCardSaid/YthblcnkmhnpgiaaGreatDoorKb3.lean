/- Calls, each by one run. -/
import Derived.Test.YthblcnkmhnpgiaaGreatDoorKbO
set_option linter.all false
set_option maxRecDepth 100000
namespace Go.Proofs.YthblcnkmhnpgiaaGreatDoor
open Go.RX
open Ab
def Kb8a : List SV := [.agg [n 1, n 5, n 5, n 1, u 9, n 1, z, e 0 0 5 30 5], .agg [n 2, n 5], n 1000, ns]
def Kb8o : List (Nat × SObj) := [(0, KbS0)]
def Kb8x : SV := .tuple [tt, z]
def Kb8u : List (Nat × Option SObj) := []
theorem Kb8r (σ : Sig) : endOkS (env σ) (KbC σ) Tryz.f36.ntmps KbSl36 Tryz.f36.results.toList KbB36 (cutSt (Sym.frameOf Kb8a KbSl36) Kb8o 1) Kb8x (after Kb8o Kb8u) 333 = true := by kernel_rfl
theorem Kb8p : updOk ⟨heapOf (after Kb8o Kb8u), 333, 0⟩ Kb8u = true := by kernel_rfl
theorem Kb8k : keptOk ⟨heapOf (after Kb8o Kb8u), 333, 0⟩ Kb8u Kb8o = true := by kernel_rfl
def Kb9a : List SV := [.agg [n 1, n 5, n 5, n 1, u 9, n 1, z, e 0 0 5 30 5], n 1000, e 1 0 90 6 90]
def Kb9o : List (Nat × SObj) := [(0, KbS0), (1, KbS1)]
def Kb9x : SV := .tuple [e 11041 0 30 8 30, z]
def Kb9u : List (Nat × Option SObj) := [(11041, some (KbS2))]
theorem Kb9r (σ : Sig) : endOkS (env σ) (KbC σ) Tryz.f22.ntmps KbSl22 Tryz.f22.results.toList KbB22 (cutSt (Sym.frameOf Kb9a KbSl22) Kb9o 2) Kb9x (after Kb9o Kb9u) 12862 = true := by kernel_rfl
theorem Kb9p : updOk ⟨heapOf (after Kb9o Kb9u), 12862, 0⟩ Kb9u = true := by kernel_rfl
theorem Kb9k : keptOk ⟨heapOf (after Kb9o Kb9u), 12862, 0⟩ Kb9u Kb9o = true := by kernel_rfl
def Kb10a : List SV := [e 0 0 90 6 90]
def Kb10o : List (Nat × SObj) := [(0, KbS1)]
def Kb10x : SV := .tuple [n 75, z]
def Kb10u : List (Nat × Option SObj) := []
theorem Kb10r (σ : Sig) : endOkS (env σ) (KbC σ) Tryz.f33.ntmps KbSl33 Tryz.f33.results.toList KbB33 (cutSt (Sym.frameOf Kb10a KbSl33) Kb10o 1) Kb10x (after Kb10o Kb10u) 451 = true := by kernel_rfl
theorem Kb10p : updOk ⟨heapOf (after Kb10o Kb10u), 451, 0⟩ Kb10u = true := by kernel_rfl
theorem Kb10k : keptOk ⟨heapOf (after Kb10o Kb10u), 451, 0⟩ Kb10u Kb10o = true := by kernel_rfl
def Kb11a : List SV := [.agg [n 1, n 5, n 5, n 1, u 9, n 1, z, e 0 0 5 30 5], n 1001, n 1075, n 2]
def Kb11o : List (Nat × SObj) := [(0, KbS0)]
def Kb11x : SV := n 2
def Kb11u : List (Nat × Option SObj) := []
theorem Kb11r (σ : Sig) : endOkS (env σ) (KbC σ) Tryz.f62.ntmps KbSl62 Tryz.f62.results.toList KbB62 (cutSt (Sym.frameOf Kb11a KbSl62) Kb11o 1) Kb11x (after Kb11o Kb11u) 122 = true := by kernel_rfl
theorem Kb11p : updOk ⟨heapOf (after Kb11o Kb11u), 122, 0⟩ Kb11u = true := by kernel_rfl
theorem Kb11k : keptOk ⟨heapOf (after Kb11o Kb11u), 122, 0⟩ Kb11u Kb11o = true := by kernel_rfl
end Go.Proofs.YthblcnkmhnpgiaaGreatDoor
