/- Objects that several states share; short names for cells. -/
import Derived.Test.YthblcnkmhnpgiaaGreatDoorMdK
set_option linter.all false
set_option maxRecDepth 100000
namespace Go.Proofs.YthblcnkmhnpgiaaGreatDoor
open Go.RX
open Ab
def MfS0 : SObj := C [t #[119, 48], n 2, uz, uz, uz, uz, uz, uz, ff, ff, z, n 1001, n 13, n 3, ns, n 1, n 50, n 3, n 11, z, z, z, z, z, z, z, z, z, z, z, t #[119, 49], n 2, uz, uz, uz, uz, uz, uz, ff, ff, z, n 1001, n 13, n 3, ns, n 1, n 50, n 3, n 11, z, z, z, z, z, z, z, z, z, z, z] 147
def MfS1 : SObj := C [n 1, n 1, z, z, ff, t #[], n 1, n 1, z, z, ff, t #[], n 1, n 1, z, z, ff, t #[], n 3, z, z, n 1, tt, t #[], n 1, n 1, z, z, ff, t #[], n 1, n 1, z, z, ff, t #[], n 3, z, z, n 2, tt, t #[], n 1, n 1, z, z, ff, t #[], n 1, n 1, z, z, ff, t #[], n 1, n 1, z, z, ff, t #[], n 1, n 1, z, z, ff, t #[], n 1, n 1, z, z, ff, t #[], n 1, n 1, z, z, ff, t #[], n 1, n 1, z, z, ff, t #[], n 1, n 1, z, z, ff, t #[], n 1, n 1, z, z, ff, t #[], n 1, n 1, z, z, ff, t #[], n 1, n 1, z, z, ff, t #[], n 3, z, z, n 3, tt, t #[], n 1, n 1, z, z, ff, t #[], n 1, n 1, z, z, ff, t #[], n 3, z, z, n 4, tt, t #[], n 1, n 1, z, z, ff, t #[], n 1, n 1, z, z, ff, t #[], n 1, n 1, z, z, ff, t #[], n 1, n 1, z, z, ff, t #[], n 1, n 1, z, z, ff, t #[], n 1, n 1, z, z, ff, t #[], n 1, n 1, z, z, ff, t #[], n 1, n 1, z, z, ff, t #[], n 1, n 1, z, z, ff, t #[], n 1, n 1, z, z, ff, t #[], n 1, n 1, z, z, ff, t #[], n 3, z, z, n 5, tt, t #[], n 1, n 1, z, z, ff, t #[], n 1, n 1, z, z, ff, t #[], n 3, z, z, n 6, tt, t #[], n 1, n 1, z, z, ff, t #[], n 1, n 1, z, z, ff, t #[], n 1, n 1, z, z, ff, t #[], n 1, n 1, z, z, ff, t #[], n 1, n 1, z, z, ff, t #[], n 1, n 1, z, z, ff, t #[], n 1, n 1, z, z, ff, t #[], n 1, n 1, z, z, ff, t #[]] 101
def MfS2 : SObj := C [n 1, n 1001, n 1, n 1001, n 1, n 1, z, z, n 2, n 1003, n 1, n 1001, n 1, n 1, z, z, n 1, n 1003, z, n 1001, n 1, n 2, z, z, n 2, n 1005, z, n 1001, n 1, n 2, z, z, n 1, n 1014, n 1, n 1014, n 1, n 3, z, z, n 2, n 1016, n 1, n 1014, n 1, n 3, z, z, n 1, n 1016, z, n 1014, n 1, n 4, z, z, n 2, n 1018, z, n 1014, n 1, n 4, z, z, n 1, n 1027, n 1, n 1027, n 1, n 5, z, z, n 2, n 1029, n 1, n 1027, n 1, n 5, z, z, n 1, n 1029, z, n 1027, n 1, n 6, z, z, n 2, n 1031, z, n 1027, n 1, n 6, z, z] 213
noncomputable def MfB19 : Code := match Tryz.f19.body with | some c => c | none => .skip
theorem MfB19_body : Tryz.f19.body = some MfB19 := by kernel_rfl
theorem MfB19_name (vals : Array Value) (w : World) : (callFunc 19 vals).run Tryz.prog w = .ok (.enter 19 vals) w := by kernel_rfl
def MfSl19 : List Nat := [80, 78, 72, 64, 59, 58, 57, 54, 42, 27, 25, 19, 18, 17, 16, 15, 14, 13, 12, 11, 10, 9, 8, 4, 3, 2, 1, 0]
noncomputable def MfB22 : Code := match Tryz.f22.body with | some c => c | none => .skip
theorem MfB22_body : Tryz.f22.body = some MfB22 := by kernel_rfl
theorem MfB22_name (vals : Array Value) (w : World) : (callFunc 22 vals).run Tryz.prog w = .ok (.enter 22 vals) w := by kernel_rfl
def MfSl22 : List Nat := [20, 10, 8, 7, 6, 3, 2, 1, 0]
noncomputable def MfB34 : Code := match Tryz.f34.body with | some c => c | none => .skip
theorem MfB34_body : Tryz.f34.body = some MfB34 := by kernel_rfl
theorem MfB34_name (vals : Array Value) (w : World) : (callFunc 34 vals).run Tryz.prog w = .ok (.enter 34 vals) w := by kernel_rfl
def MfSl34 : List Nat := [48, 43, 42, 41, 25, 17, 16, 15, 13, 12, 11, 10, 9, 8, 7, 6, 5, 4, 3, 2, 1, 0]
noncomputable def MfB36 : Code := match Tryz.f36.body with | some c => c | none => .skip
theorem MfB36_body : Tryz.f36.body = some MfB36 := by kernel_rfl
theorem MfB36_name (vals : Array Value) (w : World) : (callFunc 36 vals).run Tryz.prog w = .ok (.enter 36 vals) w := by kernel_rfl
def MfSl36 : List Nat := [129, 119, 118, 117, 116, 113, 96, 79, 78, 77, 76, 74, 71, 41, 40, 39, 38, 34, 30, 26, 19, 16, 15, 13, 11, 10, 9, 8, 5, 4, 3, 2, 1, 0]
noncomputable def MfC (σ : Sig) : Sym.Callee := semK (env σ) (kdo σ) 60
end Go.Proofs.YthblcnkmhnpgiaaGreatDoor
