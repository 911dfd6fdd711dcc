/- Objects that several states share; short names for cells. -/
import Derived.Test.YthblcnkmhnpgiaaGreatDoorEnvB
set_option linter.all false
set_option maxRecDepth 100000
namespace Go.Proofs.YthblcnkmhnpgiaaGreatDoor
open Go.RX
open Ab
noncomputable def MnB5 : Code := match Tryz.f5.body with | some c => c | none => .skip
theorem MnB5_body : Tryz.f5.body = some MnB5 := by kernel_rfl
theorem MnB5_name (vals : Array Value) (w : World) : (callFunc 5 vals).run Tryz.prog w = .ok (.enter 5 vals) w := by kernel_rfl
def MnSl5 : List Nat := [16, 14, 11, 7, 5, 4, 3, 2, 0]
noncomputable def MnC (σ : Sig) (B : List (IE × Int)) : Sym.Callee := semK (envB σ B) (knowB σ B) 60
end Go.Proofs.YthblcnkmhnpgiaaGreatDoor
