/- The law's function, run for no bytes, and for a row of bytes. -/
import Derived.Test.YtbimieobgjehkaaGreatDoorEnv
import Derived.KernelRfl
set_option linter.all false
namespace Go.Proofs.YtbimieobgjehkaaGreatDoor
open Go.RX
/-- The first seven of the bytes at most: row 0 cut there is row 1. -/
def cutB : IE := .min (.len 0) (.lit 7)
noncomputable def preB (a : Nat) (e : IE) : Option Nat := match a with | 0 => (match IE.same e cutB with | true => some 1 | false => none) | _ => none
noncomputable def envL (σ : Sig) (F : List Fact) : Env := { P := Tryz.prog, G := globals, lt := factLt F, eq := factEq F, pre := preB, sig := σ }
def short : Fact := ⟨true, .bin .sub .i64 (.len 1) (.lit 4), .lit 4, true⟩
def knowWorks (f : Nat) (args : List SV) (S : SW) : Option (SV × SW) := match Nat.beq f 6, args with | true, [] => some (.bool true, S) | _, _ => none
theorem nil_run (σ : Sig) : isBool true ((semK (envL σ []) knowWorks 40).call 4 [.nilslice] ⟨.nil, 0, 0⟩) = true := by kernel_rfl
theorem row_run (σ : Sig) : isBool true ((semK (envL σ [short]) knowWorks 40).call 4 [.row 0] ⟨.nil, 0, 0⟩) = true := by kernel_rfl
end Go.Proofs.YtbimieobgjehkaaGreatDoor
