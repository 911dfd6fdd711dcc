/- Calls, each by one run. -/
import Derived.Test.YthblcnkmhnpgiaaGreatDoorKbO
set_option linter.all false
set_option maxRecDepth 100000
namespace Go.Proofs.YthblcnkmhnpgiaaGreatDoor
open Go.RX
open Ab
def Kb0a : List SV := [.agg [n 1, n 5, n 5, n 1, u 9, n 1, z, e 0 0 5 30 5], n 1000, n 75, n 2]
def Kb0o : List (Nat × SObj) := [(0, KbS0)]
def Kb0x : SV := .tuple [e 13215 0 90 6 90, e 11353 0 30 8 30, z]
def Kb0u : List (Nat × Option SObj) := [(13215, some (KbS1)), (11353, some (KbS2))]
theorem Kb0r (σ : Sig) : endOkS (env σ) (KbC σ) Tryz.f19.ntmps KbSl19 Tryz.f19.results.toList KbB19 (cutSt (Sym.frameOf Kb0a KbSl19) Kb0o 1) Kb0x (after Kb0o Kb0u) 13217 = true := by kernel_rfl
theorem Kb0p : updOk ⟨heapOf (after Kb0o Kb0u), 13217, 0⟩ Kb0u = true := by kernel_rfl
theorem Kb0k : keptOk ⟨heapOf (after Kb0o Kb0u), 13217, 0⟩ Kb0u Kb0o = true := by kernel_rfl
def Kb1a : List SV := [.agg [n 1, n 5, n 5, n 1, u 9, n 1, z, e 0 0 5 30 5], n 1000, e 1 0 89 6 90]
def Kb1o : List (Nat × SObj) := [(0, KbS0), (1, KbS1)]
def Kb1x : SV := .tuple [e 11041 0 30 8 30, z]
def Kb1u : List (Nat × Option SObj) := [(11041, some (KbS2))]
theorem Kb1r (σ : Sig) : endOkS (env σ) (KbC σ) Tryz.f22.ntmps KbSl22 Tryz.f22.results.toList KbB22 (cutSt (Sym.frameOf Kb1a KbSl22) Kb1o 2) Kb1x (after Kb1o Kb1u) 12732 = true := by kernel_rfl
theorem Kb1p : updOk ⟨heapOf (after Kb1o Kb1u), 12732, 0⟩ Kb1u = true := by kernel_rfl
theorem Kb1k : keptOk ⟨heapOf (after Kb1o Kb1u), 12732, 0⟩ Kb1u Kb1o = true := by kernel_rfl
def Kb2a : List SV := [e 0 0 89 6 90]
def Kb2o : List (Nat × SObj) := [(0, KbS1)]
def Kb2x : SV := .tuple [n 74, z]
def Kb2u : List (Nat × Option SObj) := []
theorem Kb2r (σ : Sig) : endOkS (env σ) (KbC σ) Tryz.f33.ntmps KbSl33 Tryz.f33.results.toList KbB33 (cutSt (Sym.frameOf Kb2a KbSl33) Kb2o 1) Kb2x (after Kb2o Kb2u) 446 = true := by kernel_rfl
theorem Kb2p : updOk ⟨heapOf (after Kb2o Kb2u), 446, 0⟩ Kb2u = true := by kernel_rfl
theorem Kb2k : keptOk ⟨heapOf (after Kb2o Kb2u), 446, 0⟩ Kb2u Kb2o = true := by kernel_rfl
def Kb3a : List SV := [.agg [n 1, n 5, n 5, n 1, u 9, n 1, z, e 0 0 5 30 5], n 1001, n 1074, z]
def Kb3o : List (Nat × SObj) := [(0, KbS0)]
def Kb3x : SV := z
def Kb3u : List (Nat × Option SObj) := []
theorem Kb3r (σ : Sig) : endOkS (env σ) (KbC σ) Tryz.f62.ntmps KbSl62 Tryz.f62.results.toList KbB62 (cutSt (Sym.frameOf Kb3a KbSl62) Kb3o 1) Kb3x (after Kb3o Kb3u) 322 = true := by kernel_rfl
theorem Kb3p : updOk ⟨heapOf (after Kb3o Kb3u), 322, 0⟩ Kb3u = true := by kernel_rfl
theorem Kb3k : keptOk ⟨heapOf (after Kb3o Kb3u), 322, 0⟩ Kb3u Kb3o = true := by kernel_rfl
end Go.Proofs.YthblcnkmhnpgiaaGreatDoor
