/- The same, where some texts of numbers have known values. -/
import Derived.Test.YthblcnkmhnpgiaaGreatDoorMdO
import Derived.Test.YthblcnkmhnpgiaaGreatDoorRxI
set_option linter.all false
namespace Go.Proofs.YthblcnkmhnpgiaaGreatDoor
open Go.RX
noncomputable def envB (σ : Sig) (B : List (IE × Int)) : Env := { P := Tryz.prog, G := globals, overs := [384, 386], sig := σ, lt := ltPt B, eq := eqPt B }
noncomputable def insB (σ : Sig) (B : List (IE × Int)) : Sym.Callee := semK (envB σ B) (fun _ _ _ => none) 4
noncomputable def knowB (σ : Sig) (B : List (IE × Int)) : Nat → List SV → SW → Option (SV × SW) := insK (insB σ B) [350, 351] (fun _ _ _ => none)
end Go.Proofs.YthblcnkmhnpgiaaGreatDoor
