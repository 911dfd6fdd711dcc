/- Objects that several states share; short names for cells. -/
import Derived.Test.YthblcnkmhnpgiaaGreatDoorKbK
set_option linter.all false
set_option maxRecDepth 100000
namespace Go.Proofs.YthblcnkmhnpgiaaGreatDoor
open Go.RX
open Ab
def KcS0 : SObj := C [t #[119, 48], n 2, uz, uz, uz, uz, uz, uz, ff, ff, z, n 1001, n 25, n 3, ns, n 1, n 50, n 3, n 23, z, z, z, z, z, z, z, z, z, z, z, t #[119, 49], n 2, uz, uz, uz, uz, uz, uz, ff, ff, z, n 1001, n 25, n 3, ns, n 1, n 50, n 3, n 23, z, z, z, z, z, z, z, z, z, z, z, t #[119, 50], n 2, uz, uz, uz, uz, uz, uz, ff, ff, z, n 1001, n 25, n 3, ns, n 1, n 50, n 3, n 23, z, z, z, z, z, z, z, z, z, z, z, t #[119, 51], n 2, uz, uz, uz, uz, uz, uz, ff, ff, z, n 1001, n 25, n 3, ns, n 1, n 50, n 3, n 23, z, z, z, z, z, z, z, z, z, z, z, t #[119, 52], n 2, uz, uz, uz, uz, uz, uz, ff, ff, z, n 1001, n 25, n 3, ns, n 1, n 50, n 3, n 23, z, z, z, z, z, z, z, z, z, z, z] 147
noncomputable def KcB34 : Code := match Tryz.f34.body with | some c => c | none => .skip
theorem KcB34_body : Tryz.f34.body = some KcB34 := by kernel_rfl
theorem KcB34_name (vals : Array Value) (w : World) : (callFunc 34 vals).run Tryz.prog w = .ok (.enter 34 vals) w := by kernel_rfl
def KcSl34 : List Nat := [48, 43, 42, 41, 25, 17, 16, 15, 13, 12, 11, 10, 9, 8, 7, 6, 5, 4, 3, 2, 1, 0]
noncomputable def KcC (σ : Sig) : Sym.Callee := semK (env σ) (kkb σ) 60
end Go.Proofs.YthblcnkmhnpgiaaGreatDoor
