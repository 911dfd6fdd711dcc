/- What the evaluator is run over: the program, and the cells of the package-level variables that the runs read. -/
import Derived.Test.YtgnblahckpipiaaGreatDoorProg
import Derived.Test.YtgnblahckpipiaaGreatDoorRxH
import Derived.KernelRfl
set_option linter.all false
namespace Go.Proofs.YtgnblahckpipiaaGreatDoor
open Go.RX

def tabCells : List SV := [.int .u8 0, .int .u8 1, .int .u8 56, .int .u8 2, .int .u8 57, .int .u8 49, .int .u8 28, .int .u8 3, .int .u8 61, .int .u8 58, .int .u8 42, .int .u8 50, .int .u8 38, .int .u8 29, .int .u8 17, .int .u8 4, .int .u8 62, .int .u8 47, .int .u8 59, .int .u8 36, .int .u8 45, .int .u8 43, .int .u8 51, .int .u8 22, .int .u8 53, .int .u8 39, .int .u8 33, .int .u8 30, .int .u8 24, .int .u8 18, .int .u8 12, .int .u8 5, .int .u8 63, .int .u8 55, .int .u8 48, .int .u8 27, .int .u8 60, .int .u8 41, .int .u8 37, .int .u8 16, .int .u8 46, .int .u8 35, .int .u8 44, .int .u8 21, .int .u8 52, .int .u8 32, .int .u8 23, .int .u8 11, .int .u8 54, .int .u8 26, .int .u8 40, .int .u8 15, .int .u8 34, .int .u8 20, .int .u8 31, .int .u8 10, .int .u8 25, .int .u8 14, .int .u8 19, .int .u8 9, .int .u8 13, .int .u8 8, .int .u8 7, .int .u8 6]
def stepsCells : List SV := [.int .i64 30, .int .u64 13787848793156543929, .int .i64 27, .int .u64 10723151780598845931, .int .i64 31, .int .u64 1]
def tabVals : List Value := [.int .u8 0, .int .u8 1, .int .u8 56, .int .u8 2, .int .u8 57, .int .u8 49, .int .u8 28, .int .u8 3, .int .u8 61, .int .u8 58, .int .u8 42, .int .u8 50, .int .u8 38, .int .u8 29, .int .u8 17, .int .u8 4, .int .u8 62, .int .u8 47, .int .u8 59, .int .u8 36, .int .u8 45, .int .u8 43, .int .u8 51, .int .u8 22, .int .u8 53, .int .u8 39, .int .u8 33, .int .u8 30, .int .u8 24, .int .u8 18, .int .u8 12, .int .u8 5, .int .u8 63, .int .u8 55, .int .u8 48, .int .u8 27, .int .u8 60, .int .u8 41, .int .u8 37, .int .u8 16, .int .u8 46, .int .u8 35, .int .u8 44, .int .u8 21, .int .u8 52, .int .u8 32, .int .u8 23, .int .u8 11, .int .u8 54, .int .u8 26, .int .u8 40, .int .u8 15, .int .u8 34, .int .u8 20, .int .u8 31, .int .u8 10, .int .u8 25, .int .u8 14, .int .u8 19, .int .u8 9, .int .u8 13, .int .u8 8, .int .u8 7, .int .u8 6]
def stepsVals : List Value := [.int .i64 30, .int .u64 13787848793156543929, .int .i64 27, .int .u64 10723151780598845931, .int .i64 31, .int .u64 1]
def globals (g : Nat) : Option (List SV) := match g with | 5 => some tabCells | 1 => some stepsCells | _ => none
/-- Closed runs (whatever the texts of numbers stand for). -/
noncomputable def env (σ : Sig) : Env := { P := Tryz.prog, G := globals, overs := [351, 353], idxs := [443], sig := σ }
/-- The calls that are run both ways: slices.Insert at its two types. -/
noncomputable def insC (σ : Sig) : Sym.Callee := semK (env σ) (fun _ _ _ => none) 4
noncomputable def know1 (σ : Sig) : Nat → List SV → SW → Option (SV × SW) := insK (insC σ) [253, 254] (fun _ _ _ => none)
/-- image.read defers a call that recovers. -/
noncomputable def dfrC (σ : Sig) : Sym.Callee := semK (env σ) (know1 σ) 20
noncomputable def know2 (σ : Sig) : Nat → List SV → SW → Option (SV × SW) := dfrK (env σ) (dfrC σ) [178] (know1 σ)
/-- op.Print ranges over a map of six: the two operations of the examples. -/
noncomputable def pickC (σ : Sig) : Sym.Callee := semK (env σ) (fun _ _ _ => none) 20
def tickArg : List SV := [.agg [.int .i64 1, .int .i64 1, .int .i64 0, .int .i64 0, .bool false, .string ⟨#[]⟩]]
def tickOut : SV := .tuple [.string ⟨#[116, 105, 99, 107, 32, 49]⟩, .int .i64 0]
def finishArg : List SV := [.agg [.int .i64 3, .int .i64 0, .int .i64 0, .int .i64 7, .bool true, .string ⟨#[]⟩]]
def finishOut : SV := .tuple [.string ⟨#[102, 105, 110, 105, 115, 104, 32, 55, 32, 111, 107]⟩, .int .i64 0]
noncomputable def know3 (σ : Sig) (f : Nat) (args : List SV) (S : SW) : Option (SV × SW) := match Nat.beq f 11, Sym.svsEq args tickArg with | true, true => some (tickOut, S) | _, _ => know2 σ f args S
noncomputable def know (σ : Sig) (f : Nat) (args : List SV) (S : SW) : Option (SV × SW) := match Nat.beq f 11, Sym.svsEq args finishArg with | true, true => some (finishOut, S) | _, _ => know3 σ f args S
/-- Nothing stands for anything. -/
def sig0 : Sig := { var := fun _ => 0, fn := fun _ _ => 0, row := fun _ => (0, 0, 0, 0), cell := fun _ _ _ => .bool false }
end Go.Proofs.YtgnblahckpipiaaGreatDoor
