/- Objects that several states share; short names for cells. -/
import Derived.Test.YthblcnkmhnpgiaaGreatDoorKaK
set_option linter.all false
set_option maxRecDepth 100000
namespace Go.Proofs.YthblcnkmhnpgiaaGreatDoor
open Go.RX
open Ab
def KbS0 : SObj := C [t #[119, 48], n 2, uz, uz, uz, uz, uz, uz, ff, ff, z, n 1001, n 25, n 3, ns, n 1, n 50, n 3, n 23, z, z, z, z, z, z, z, z, z, z, z, t #[119, 49], n 2, uz, uz, uz, uz, uz, uz, ff, ff, z, n 1001, n 25, n 3, ns, n 1, n 50, n 3, n 23, z, z, z, z, z, z, z, z, z, z, z, t #[119, 50], n 2, uz, uz, uz, uz, uz, uz, ff, ff, z, n 1001, n 25, n 3, ns, n 1, n 50, n 3, n 23, z, z, z, z, z, z, z, z, z, z, z, t #[119, 51], n 2, uz, uz, uz, uz, uz, uz, ff, ff, z, n 1001, n 25, n 3, ns, n 1, n 50, n 3, n 23, z, z, z, z, z, z, z, z, z, z, z, t #[119, 52], n 2, uz, uz, uz, uz, uz, uz, ff, ff, z, n 1001, n 25, n 3, ns, n 1, n 50, n 3, n 23, z, z, z, z, z, z, z, z, z, z, z] 147
def KbS1 : SObj := C [n 1, n 1, z, z, ff, t #[], n 1, n 1, z, z, ff, t #[], n 1, n 1, z, z, ff, t #[], n 3, z, z, n 1, tt, t #[], n 1, n 1, z, z, ff, t #[], n 1, n 1, z, z, ff, t #[], n 3, z, z, n 2, tt, t #[], n 1, n 1, z, z, ff, t #[], n 1, n 1, z, z, ff, t #[], n 3, z, z, n 3, tt, t #[], n 1, n 1, z, z, ff, t #[], n 1, n 1, z, z, ff, t #[], n 3, z, z, n 4, tt, t #[], n 1, n 1, z, z, ff, t #[], n 1, n 1, z, z, ff, t #[], n 3, z, z, n 5, tt, t #[], n 1, n 1, z, z, ff, t #[], n 1, n 1, z, z, ff, t #[], n 1, n 1, z, z, ff, t #[], n 1, n 1, z, z, ff, t #[], n 1, n 1, z, z, ff, t #[], n 1, n 1, z, z, ff, t #[], n 1, n 1, z, z, ff, t #[], n 1, n 1, z, z, ff, t #[], n 1, n 1, z, z, ff, t #[], n 1, n 1, z, z, ff, t #[], n 1, n 1, z, z, ff, t #[], n 1, n 1, z, z, ff, t #[], n 1, n 1, z, z, ff, t #[], n 1, n 1, z, z, ff, t #[], n 1, n 1, z, z, ff, t #[], n 1, n 1, z, z, ff, t #[], n 1, n 1, z, z, ff, t #[], n 3, z, z, n 6, tt, t #[], n 1, n 1, z, z, ff, t #[], n 1, n 1, z, z, ff, t #[], n 3, z, z, n 7, tt, t #[], n 1, n 1, z, z, ff, t #[], n 1, n 1, z, z, ff, t #[], n 3, z, z, n 8, tt, t #[], n 1, n 1, z, z, ff, t #[], n 1, n 1, z, z, ff, t #[], n 3, z, z, n 9, tt, t #[], n 1, n 1, z, z, ff, t #[], n 1, n 1, z, z, ff, t #[], n 3, z, z, n 10, tt, t #[], n 1, n 1, z, z, ff, t #[], n 1, n 1, z, z, ff, t #[], n 1, n 1, z, z, ff, t #[], n 1, n 1, z, z, ff, t #[], n 1, n 1, z, z, ff, t #[], n 1, n 1, z, z, ff, t #[], n 1, n 1, z, z, ff, t #[], n 1, n 1, z, z, ff, t #[], n 1, n 1, z, z, ff, t #[], n 1, n 1, z, z, ff, t #[], n 1, n 1, z, z, ff, t #[], n 1, n 1, z, z, ff, t #[], n 1, n 1, z, z, ff, t #[], n 1, n 1, z, z, ff, t #[], n 1, n 1, z, z, ff, t #[], n 1, n 1, z, z, ff, t #[], n 1, n 1, z, z, ff, t #[], n 3, z, z, n 11, tt, t #[], n 1, n 1, z, z, ff, t #[], n 1, n 1, z, z, ff, t #[], n 3, z, z, n 12, tt, t #[], n 1, n 1, z, z, ff, t #[], n 1, n 1, z, z, ff, t #[], n 3, z, z, n 13, tt, t #[], n 1, n 1, z, z, ff, t #[], n 1, n 1, z, z, ff, t #[], n 3, z, z, n 14, tt, t #[], n 1, n 1, z, z, ff, t #[], n 1, n 1, z, z, ff, t #[], n 3, z, z, n 15, tt, t #[], n 1, n 1, z, z, ff, t #[], n 1, n 1, z, z, ff, t #[], n 1, n 1, z, z, ff, t #[], n 1, n 1, z, z, ff, t #[], n 1, n 1, z, z, ff, t #[], n 1, n 1, z, z, ff, t #[], n 1, n 1, z, z, ff, t #[], n 1, n 1, z, z, ff, t #[], n 1, n 1, z, z, ff, t #[], n 1, n 1, z, z, ff, t #[], n 1, n 1, z, z, ff, t #[], n 1, n 1, z, z, ff, t #[], n 1, n 1, z, z, ff, t #[], n 1, n 1, z, z, ff, t #[]] 101
def KbS2 : SObj := C [n 1, n 1001, n 1, n 1001, n 1, n 1, z, z, n 2, n 1003, n 1, n 1001, n 1, n 1, z, z, n 1, n 1003, n 2, n 1001, n 1, n 2, z, z, n 2, n 1005, n 2, n 1001, n 1, n 2, z, z, n 1, n 1005, n 3, n 1001, n 1, n 3, z, z, n 2, n 1007, n 3, n 1001, n 1, n 3, z, z, n 1, n 1007, z, n 1001, n 1, n 4, z, z, n 2, n 1009, z, n 1001, n 1, n 4, z, z, n 1, n 1009, n 4, n 1001, n 1, n 5, z, z, n 2, n 1011, n 4, n 1001, n 1, n 5, z, z, n 1, n 1026, n 1, n 1026, n 1, n 6, z, z, n 2, n 1028, n 1, n 1026, n 1, n 6, z, z, n 1, n 1028, n 2, n 1026, n 1, n 7, z, z, n 2, n 1030, n 2, n 1026, n 1, n 7, z, z, n 1, n 1030, n 3, n 1026, n 1, n 8, z, z, n 2, n 1032, n 3, n 1026, n 1, n 8, z, z, n 1, n 1032, z, n 1026, n 1, n 9, z, z, n 2, n 1034, z, n 1026, n 1, n 9, z, z, n 1, n 1034, n 4, n 1026, n 1, n 10, z, z, n 2, n 1036, n 4, n 1026, n 1, n 10, z, z, n 1, n 1051, n 1, n 1051, n 1, n 11, z, z, n 2, n 1053, n 1, n 1051, n 1, n 11, z, z, n 1, n 1053, n 2, n 1051, n 1, n 12, z, z, n 2, n 1055, n 2, n 1051, n 1, n 12, z, z, n 1, n 1055, n 3, n 1051, n 1, n 13, z, z, n 2, n 1057, n 3, n 1051, n 1, n 13, z, z, n 1, n 1057, z, n 1051, n 1, n 14, z, z, n 2, n 1059, z, n 1051, n 1, n 14, z, z, n 1, n 1059, n 4, n 1051, n 1, n 15, z, z, n 2, n 1061, n 4, n 1051, n 1, n 15, z, z] 213
def KbS3 : SObj := C [n 3, z, z, n 5, ff, t #[]] 101
noncomputable def KbB19 : Code := match Tryz.f19.body with | some c => c | none => .skip
theorem KbB19_body : Tryz.f19.body = some KbB19 := by kernel_rfl
theorem KbB19_name (vals : Array Value) (w : World) : (callFunc 19 vals).run Tryz.prog w = .ok (.enter 19 vals) w := by kernel_rfl
def KbSl19 : List Nat := [80, 78, 72, 64, 59, 58, 57, 54, 42, 27, 25, 19, 18, 17, 16, 15, 14, 13, 12, 11, 10, 9, 8, 4, 3, 2, 1, 0]
noncomputable def KbB22 : Code := match Tryz.f22.body with | some c => c | none => .skip
theorem KbB22_body : Tryz.f22.body = some KbB22 := by kernel_rfl
theorem KbB22_name (vals : Array Value) (w : World) : (callFunc 22 vals).run Tryz.prog w = .ok (.enter 22 vals) w := by kernel_rfl
def KbSl22 : List Nat := [20, 10, 8, 7, 6, 3, 2, 1, 0]
noncomputable def KbB33 : Code := match Tryz.f33.body with | some c => c | none => .skip
theorem KbB33_body : Tryz.f33.body = some KbB33 := by kernel_rfl
theorem KbB33_name (vals : Array Value) (w : World) : (callFunc 33 vals).run Tryz.prog w = .ok (.enter 33 vals) w := by kernel_rfl
def KbSl33 : List Nat := [16, 15, 14, 13, 11, 7, 5, 4, 3, 2, 0]
noncomputable def KbB36 : Code := match Tryz.f36.body with | some c => c | none => .skip
theorem KbB36_body : Tryz.f36.body = some KbB36 := by kernel_rfl
theorem KbB36_name (vals : Array Value) (w : World) : (callFunc 36 vals).run Tryz.prog w = .ok (.enter 36 vals) w := by kernel_rfl
def KbSl36 : List Nat := [129, 119, 118, 117, 116, 113, 96, 79, 78, 77, 76, 74, 71, 41, 40, 39, 38, 34, 30, 26, 19, 16, 15, 13, 11, 10, 9, 8, 5, 4, 3, 2, 1, 0]
noncomputable def KbB62 : Code := match Tryz.f62.body with | some c => c | none => .skip
theorem KbB62_body : Tryz.f62.body = some KbB62 := by kernel_rfl
theorem KbB62_name (vals : Array Value) (w : World) : (callFunc 62 vals).run Tryz.prog w = .ok (.enter 62 vals) w := by kernel_rfl
def KbSl62 : List Nat := [57, 44, 43, 42, 41, 36, 32, 21, 19, 14, 13, 11, 10, 9, 8, 4, 3, 2, 1, 0]
noncomputable def KbB65 : Code := match Tryz.f65.body with | some c => c | none => .skip
theorem KbB65_body : Tryz.f65.body = some KbB65 := by kernel_rfl
theorem KbB65_name (vals : Array Value) (w : World) : (callFunc 65 vals).run Tryz.prog w = .ok (.enter 65 vals) w := by kernel_rfl
def KbSl65 : List Nat := [47, 38, 25, 24, 23, 22, 21, 20, 16, 15, 14, 13, 12, 11, 10, 9, 8, 5, 4, 3, 2, 1, 0]
noncomputable def KbC (σ : Sig) : Sym.Callee := semK (env σ) (kka σ) 60
end Go.Proofs.YthblcnkmhnpgiaaGreatDoor
