/- Calls, each by one run. -/
import Derived.Test.YthblcnkmhnpgiaaGreatDoorKbO
set_option linter.all false
set_option maxRecDepth 100000
namespace Go.Proofs.YthblcnkmhnpgiaaGreatDoor
open Go.RX
open Ab
def Kb4a : List SV := [.agg [n 1, n 5, n 5, n 1, u 9, n 1, z, e 0 0 5 30 5], n 4, n 1001, n 1074]
def Kb4o : List (Nat × SObj) := [(0, KbS0)]
def Kb4x : SV := .tuple [n 5, n 1001]
def Kb4u : List (Nat × Option SObj) := []
theorem Kb4r (σ : Sig) : endOkS (env σ) (KbC σ) Tryz.f65.ntmps KbSl65 Tryz.f65.results.toList KbB65 (cutSt (Sym.frameOf Kb4a KbSl65) Kb4o 1) Kb4x (after Kb4o Kb4u) 907 = true := by kernel_rfl
theorem Kb4p : updOk ⟨heapOf (after Kb4o Kb4u), 907, 0⟩ Kb4u = true := by kernel_rfl
theorem Kb4k : keptOk ⟨heapOf (after Kb4o Kb4u), 907, 0⟩ Kb4u Kb4o = true := by kernel_rfl
def Kb5a : List SV := [.agg [n 1, n 5, n 5, n 1, u 9, n 1, z, e 0 0 5 30 5], .agg [n 2, n 5], n 1000, e 1 0 89 6 90]
def Kb5o : List (Nat × SObj) := [(0, KbS0), (1, KbS1)]
def Kb5x : SV := .tuple [tt, z]
def Kb5u : List (Nat × Option SObj) := []
theorem Kb5r (σ : Sig) : endOkS (env σ) (KbC σ) Tryz.f36.ntmps KbSl36 Tryz.f36.results.toList KbB36 (cutSt (Sym.frameOf Kb5a KbSl36) Kb5o 2) Kb5x (after Kb5o Kb5u) 12900 = true := by kernel_rfl
theorem Kb5p : updOk ⟨heapOf (after Kb5o Kb5u), 12900, 0⟩ Kb5u = true := by kernel_rfl
theorem Kb5k : keptOk ⟨heapOf (after Kb5o Kb5u), 12900, 0⟩ Kb5u Kb5o = true := by kernel_rfl
def Kb6a : List SV := [.agg [n 1, n 5, n 5, n 1, u 9, n 1, z, e 0 0 5 30 5], n 1000, ns]
def Kb6o : List (Nat × SObj) := [(0, KbS0)]
def Kb6x : SV := .tuple [ns, z]
def Kb6u : List (Nat × Option SObj) := []
theorem Kb6r (σ : Sig) : endOkS (env σ) (KbC σ) Tryz.f22.ntmps KbSl22 Tryz.f22.results.toList KbB22 (cutSt (Sym.frameOf Kb6a KbSl22) Kb6o 1) Kb6x (after Kb6o Kb6u) 460 = true := by kernel_rfl
theorem Kb6p : updOk ⟨heapOf (after Kb6o Kb6u), 460, 0⟩ Kb6u = true := by kernel_rfl
theorem Kb6k : keptOk ⟨heapOf (after Kb6o Kb6u), 460, 0⟩ Kb6u Kb6o = true := by kernel_rfl
def Kb7a : List SV := [ns]
def Kb7o : List (Nat × SObj) := []
def Kb7x : SV := .tuple [z, z]
def Kb7u : List (Nat × Option SObj) := []
theorem Kb7r (σ : Sig) : endOkS (env σ) (KbC σ) Tryz.f33.ntmps KbSl33 Tryz.f33.results.toList KbB33 (cutSt (Sym.frameOf Kb7a KbSl33) Kb7o 0) Kb7x (after Kb7o Kb7u) 0 = true := by kernel_rfl
theorem Kb7p : updOk ⟨heapOf (after Kb7o Kb7u), 0, 0⟩ Kb7u = true := by kernel_rfl
theorem Kb7k : keptOk ⟨heapOf (after Kb7o Kb7u), 0, 0⟩ Kb7u Kb7o = true := by kernel_rfl
end Go.Proofs.YthblcnkmhnpgiaaGreatDoor
