/- Objects that several states share; short names for cells. -/
import Derived.Test.YtofcbcpbglnogaaGreatDoorMaK
set_option linter.all false
set_option maxRecDepth 100000
namespace Go.Proofs.YtofcbcpbglnogaaGreatDoor
open Go.RX
open Ab
def MbS0 : SObj := C [t #[97], n 2, uz, uz, uz, uz, uz, uz, ff, ff, z, n 10, n 10, z, ns, n 1, n 50, z, n 100, z, z, z, z, z, z, z, z, z, z, z, t #[98], n 2, uz, uz, uz, uz, uz, uz, ff, ff, z, n 10, n 10, z, ns, n 1, n 50, z, n 100, z, z, z, z, z, z, z, z, z, z, z] 135
def MbS1 : SObj := C [n 1, n 1, z, z, ff, t #[], n 3, z, z, n 1, tt, t #[], n 3, z, z, n 2, tt, t #[]] 63
noncomputable def MbB8 : Code := match Tryz.f8.body with | some c => c | none => .skip
theorem MbB8_body : Tryz.f8.body = some MbB8 := by kernel_rfl
theorem MbB8_name (vals : Array Value) (w : World) : (callFunc 8 vals).run Tryz.prog w = .ok (.enter 8 vals) w := by kernel_rfl
def MbSl8 : List Nat := [27, 26, 25, 24, 21, 12, 10, 9, 8, 7, 6, 3, 2, 1, 0]
noncomputable def MbB10 : Code := match Tryz.f10.body with | some c => c | none => .skip
theorem MbB10_body : Tryz.f10.body = some MbB10 := by kernel_rfl
theorem MbB10_name (vals : Array Value) (w : World) : (callFunc 10 vals).run Tryz.prog w = .ok (.enter 10 vals) w := by kernel_rfl
def MbSl10 : List Nat := [21, 11, 9, 8, 7, 6, 3, 2, 1, 0]
noncomputable def MbB11 : Code := match Tryz.f11.body with | some c => c | none => .skip
theorem MbB11_body : Tryz.f11.body = some MbB11 := by kernel_rfl
theorem MbB11_name (vals : Array Value) (w : World) : (callFunc 11 vals).run Tryz.prog w = .ok (.enter 11 vals) w := by kernel_rfl
def MbSl11 : List Nat := [80, 78, 72, 64, 59, 58, 57, 54, 42, 27, 25, 19, 18, 17, 16, 15, 14, 13, 12, 11, 10, 9, 8, 4, 3, 2, 1, 0]
noncomputable def MbB14 : Code := match Tryz.f14.body with | some c => c | none => .skip
theorem MbB14_body : Tryz.f14.body = some MbB14 := by kernel_rfl
theorem MbB14_name (vals : Array Value) (w : World) : (callFunc 14 vals).run Tryz.prog w = .ok (.enter 14 vals) w := by kernel_rfl
def MbSl14 : List Nat := [20, 10, 8, 7, 6, 3, 2, 1, 0]
noncomputable def MbC (σ : Sig) : Sym.Callee := semK (env σ) (kdo σ) 60
end Go.Proofs.YtofcbcpbglnogaaGreatDoor
