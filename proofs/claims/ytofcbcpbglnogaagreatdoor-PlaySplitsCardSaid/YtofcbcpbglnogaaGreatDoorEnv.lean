/- What the evaluator is run over: the program, and the cells of the package-level variables that the runs read. -/
import Derived.Test.YtofcbcpbglnogaaGreatDoorProg
import Derived.Test.YtofcbcpbglnogaaGreatDoorRxI
import Derived.KernelRfl
set_option linter.all false
namespace Go.Proofs.YtofcbcpbglnogaaGreatDoor
open Go.RX

def tabCells : List SV := [.int .u8 0, .int .u8 1, .int .u8 56, .int .u8 2, .int .u8 57, .int .u8 49, .int .u8 28, .int .u8 3, .int .u8 61, .int .u8 58, .int .u8 42, .int .u8 50, .int .u8 38, .int .u8 29, .int .u8 17, .int .u8 4, .int .u8 62, .int .u8 47, .int .u8 59, .int .u8 36, .int .u8 45, .int .u8 43, .int .u8 51, .int .u8 22, .int .u8 53, .int .u8 39, .int .u8 33, .int .u8 30, .int .u8 24, .int .u8 18, .int .u8 12, .int .u8 5, .int .u8 63, .int .u8 55, .int .u8 48, .int .u8 27, .int .u8 60, .int .u8 41, .int .u8 37, .int .u8 16, .int .u8 46, .int .u8 35, .int .u8 44, .int .u8 21, .int .u8 52, .int .u8 32, .int .u8 23, .int .u8 11, .int .u8 54, .int .u8 26, .int .u8 40, .int .u8 15, .int .u8 34, .int .u8 20, .int .u8 31, .int .u8 10, .int .u8 25, .int .u8 14, .int .u8 19, .int .u8 9, .int .u8 13, .int .u8 8, .int .u8 7, .int .u8 6]
def stepsCells : List SV := [.int .i64 30, .int .u64 13787848793156543929, .int .i64 27, .int .u64 10723151780598845931, .int .i64 31, .int .u64 1]
def tabVals : List Value := [.int .u8 0, .int .u8 1, .int .u8 56, .int .u8 2, .int .u8 57, .int .u8 49, .int .u8 28, .int .u8 3, .int .u8 61, .int .u8 58, .int .u8 42, .int .u8 50, .int .u8 38, .int .u8 29, .int .u8 17, .int .u8 4, .int .u8 62, .int .u8 47, .int .u8 59, .int .u8 36, .int .u8 45, .int .u8 43, .int .u8 51, .int .u8 22, .int .u8 53, .int .u8 39, .int .u8 33, .int .u8 30, .int .u8 24, .int .u8 18, .int .u8 12, .int .u8 5, .int .u8 63, .int .u8 55, .int .u8 48, .int .u8 27, .int .u8 60, .int .u8 41, .int .u8 37, .int .u8 16, .int .u8 46, .int .u8 35, .int .u8 44, .int .u8 21, .int .u8 52, .int .u8 32, .int .u8 23, .int .u8 11, .int .u8 54, .int .u8 26, .int .u8 40, .int .u8 15, .int .u8 34, .int .u8 20, .int .u8 31, .int .u8 10, .int .u8 25, .int .u8 14, .int .u8 19, .int .u8 9, .int .u8 13, .int .u8 8, .int .u8 7, .int .u8 6]
def stepsVals : List Value := [.int .i64 30, .int .u64 13787848793156543929, .int .i64 27, .int .u64 10723151780598845931, .int .i64 31, .int .u64 1]
def globals (g : Nat) : Option (List SV) := match g with | 5 => some tabCells | 1 => some stepsCells | _ => none
/-- Closed runs (whatever the texts of numbers stand for). -/
noncomputable def env (σ : Sig) : Env := { P := Tryz.prog, G := globals, overs := [351, 353], sames := [101], mkzs := [(222, 5)], sig := σ }
/-- The calls that are run both ways: slices.Insert at its two types. -/
noncomputable def insC (σ : Sig) : Sym.Callee := semK (env σ) (fun _ _ _ => none) 4
noncomputable def know (σ : Sig) : Nat → List SV → SW → Option (SV × SW) := insK (insC σ) [310, 311] (fun _ _ _ => none)
noncomputable def knowW (σ : Sig) (f : Nat) (args : List SV) (S : SW) : Option (SV × SW) := match Nat.beq f 4, args with | true, [] => some (.bool true, S) | _, _ => know σ f args S
/-- Nothing stands for anything. -/
def sig0 : Sig := ⟨fun _ => 0, fun _ _ => 0, fun _ => (0, 0, 0, 0), fun _ _ _ => .bool false⟩
end Go.Proofs.YtofcbcpbglnogaaGreatDoor
