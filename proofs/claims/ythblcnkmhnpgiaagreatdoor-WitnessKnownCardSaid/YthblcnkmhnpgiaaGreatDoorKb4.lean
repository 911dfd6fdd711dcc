/- Calls, each by one run. -/
import Derived.Test.YthblcnkmhnpgiaaGreatDoorKbO
set_option linter.all false
set_option maxRecDepth 100000
namespace Go.Proofs.YthblcnkmhnpgiaaGreatDoor
open Go.RX
open Ab
def Kb12a : List SV := [.agg [n 1, n 5, n 5, n 1, u 9, n 1, z, e 0 0 5 30 5], mn 0, e 1 0 90 6 90]
def Kb12o : List (Nat × SObj) := [(0, KbS0), (1, KbS1)]
def Kb12x : SV := .tuple [ns, n 14]
def Kb12u : List (Nat × Option SObj) := []
theorem Kb12r (σ : Sig) : endOkS (env σ) (KbC σ) Tryz.f22.ntmps KbSl22 Tryz.f22.results.toList KbB22 (cutSt (Sym.frameOf Kb12a KbSl22) Kb12o 2) Kb12x (after Kb12o Kb12u) 128 = true := by kernel_rfl
theorem Kb12p : updOk ⟨heapOf (after Kb12o Kb12u), 128, 0⟩ Kb12u = true := by kernel_rfl
theorem Kb12k : keptOk ⟨heapOf (after Kb12o Kb12u), 128, 0⟩ Kb12u Kb12o = true := by kernel_rfl
def Kb13a : List SV := [.agg [z, n 5, n 5, n 1, u 9, n 1, z, e 0 0 5 30 5], mn 0, e 1 0 90 6 90]
def Kb13o : List (Nat × SObj) := [(0, KbS0), (1, KbS1)]
def Kb13x : SV := .tuple [ns, n 16]
def Kb13u : List (Nat × Option SObj) := []
theorem Kb13r (σ : Sig) : endOkS (env σ) (KbC σ) Tryz.f22.ntmps KbSl22 Tryz.f22.results.toList KbB22 (cutSt (Sym.frameOf Kb13a KbSl22) Kb13o 2) Kb13x (after Kb13o Kb13u) 10 = true := by kernel_rfl
theorem Kb13p : updOk ⟨heapOf (after Kb13o Kb13u), 10, 0⟩ Kb13u = true := by kernel_rfl
theorem Kb13k : keptOk ⟨heapOf (after Kb13o Kb13u), 10, 0⟩ Kb13u Kb13o = true := by kernel_rfl
def Kb14a : List SV := [.agg [n 1, n 5, n 5, n 1, u 9, n 1, z, e 0 0 5 30 5], n 1000, s 1 0 1 1]
def Kb14o : List (Nat × SObj) := [(0, KbS0), (1, KbS3)]
def Kb14x : SV := .tuple [e 471 0 1 8 1, z]
def Kb14u : List (Nat × Option SObj) := [(471, some (C [n 6, n 1000, z, z, z, z, n 5, z] 213))]
theorem Kb14r (σ : Sig) : endOkS (env σ) (KbC σ) Tryz.f22.ntmps KbSl22 Tryz.f22.results.toList KbB22 (cutSt (Sym.frameOf Kb14a KbSl22) Kb14o 2) Kb14x (after Kb14o Kb14u) 472 = true := by kernel_rfl
theorem Kb14p : updOk ⟨heapOf (after Kb14o Kb14u), 472, 0⟩ Kb14u = true := by kernel_rfl
theorem Kb14k : keptOk ⟨heapOf (after Kb14o Kb14u), 472, 0⟩ Kb14u Kb14o = true := by kernel_rfl
def Kb15a : List SV := [s 0 0 1 1]
def Kb15o : List (Nat × SObj) := [(0, KbS3)]
def Kb15x : SV := .tuple [z, z]
def Kb15u : List (Nat × Option SObj) := []
theorem Kb15r (σ : Sig) : endOkS (env σ) (KbC σ) Tryz.f33.ntmps KbSl33 Tryz.f33.results.toList KbB33 (cutSt (Sym.frameOf Kb15a KbSl33) Kb15o 1) Kb15x (after Kb15o Kb15u) 6 = true := by kernel_rfl
theorem Kb15p : updOk ⟨heapOf (after Kb15o Kb15u), 6, 0⟩ Kb15u = true := by kernel_rfl
theorem Kb15k : keptOk ⟨heapOf (after Kb15o Kb15u), 6, 0⟩ Kb15u Kb15o = true := by kernel_rfl
end Go.Proofs.YthblcnkmhnpgiaaGreatDoor
