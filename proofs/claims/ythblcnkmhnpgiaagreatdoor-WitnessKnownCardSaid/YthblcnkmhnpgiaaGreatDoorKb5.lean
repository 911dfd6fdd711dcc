/- Calls, each by one run. -/
import Derived.Test.YthblcnkmhnpgiaaGreatDoorKbO
set_option linter.all false
set_option maxRecDepth 100000
namespace Go.Proofs.YthblcnkmhnpgiaaGreatDoor
open Go.RX
open Ab
def Kb16a : List SV := [.agg [n 1, n 5, n 5, n 1, u 9, n 1, z, e 0 0 5 30 5], .agg [n 2, n 5], n 1000, s 1 0 1 1]
def Kb16o : List (Nat × SObj) := [(0, KbS0), (1, KbS3)]
def Kb16x : SV := .tuple [ff, z]
def Kb16u : List (Nat × Option SObj) := []
theorem Kb16r (σ : Sig) : endOkS (env σ) (KbC σ) Tryz.f36.ntmps KbSl36 Tryz.f36.results.toList KbB36 (cutSt (Sym.frameOf Kb16a KbSl36) Kb16o 2) Kb16x (after Kb16o Kb16u) 338 = true := by kernel_rfl
theorem Kb16p : updOk ⟨heapOf (after Kb16o Kb16u), 338, 0⟩ Kb16u = true := by kernel_rfl
theorem Kb16k : keptOk ⟨heapOf (after Kb16o Kb16u), 338, 0⟩ Kb16u Kb16o = true := by kernel_rfl
end Go.Proofs.YthblcnkmhnpgiaaGreatDoor
