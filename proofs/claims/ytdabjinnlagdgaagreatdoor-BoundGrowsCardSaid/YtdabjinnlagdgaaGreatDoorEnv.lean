/- What the evaluator is run over: the program; a setup's numbers and their bounds. -/
import Derived.Test.YtdabjinnlagdgaaGreatDoorProg
import Derived.Test.YtdabjinnlagdgaaGreatDoorRxH
import Derived.KernelRfl
set_option linter.all false
namespace Go.Proofs.YtdabjinnlagdgaaGreatDoor
open Go.RX

/-- Closed runs. -/
noncomputable def envC : Env := { P := Tryz.prog, G := fun _ => none }

/-- Of a task: six numbers of eight bits. -/
def taskKinds : List (Option IntKind) := [some .u8, some .u8, some .u8, some .u8, some .u8, some .u8]
/-- The tasks that are handed in; those of them that are looked at. -/
def rowsT (a : Nat) : Option (List (Option IntKind)) := match a with | 0 => some taskKinds | 1 => some taskKinds | _ => none
/-- The bounds of what is handed in: from lo to hi tasks, of which m are looked at. -/
def bounds (lo hi m : Int) (e : IE) : Option (Int × Int) := match e with
  | .len a => (match a with | 0 => some (lo, hi) | 1 => some (m, m) | _ => none)
  | .var i => (match i with | 5 => some (0, 18446744073709551615) | 6 => some (0, 65535) | 7 => some (0, 65535) | _ => some (0, 255))
  | .sel _ _ _ => some (0, 255)
  | .fn f _ => (match f with | 1 => some (0, 5) | 2 => some (0, 11) | _ => none)
  | _ => none
noncomputable def cutT (lo hi m : Int) (a : Nat) (e : IE) : Option Nat := match a with
  | 0 => (match rng (bounds lo hi m) e with
    | some r => (match Sym.eqb r.1 m, Sym.eqb r.2 m with | true, true => some 1 | _, _ => none)
    | none => none)
  | _ => none
noncomputable def envG (σ : Sig) (lo hi m : Int) : Env := { P := Tryz.prog, G := fun _ => none, rows := rowsT, pre := cutT lo hi m, lt := ordLt (bounds lo hi m) [], eq := ordEq (bounds lo hi m) [], sig := σ }
/-- No tasks. -/
noncomputable def envN (σ : Sig) : Env := { P := Tryz.prog, G := fun _ => none, lt := ordLt (bounds 0 0 0) [], eq := ordEq (bounds 0 0 0) [], sig := σ }

/-! ### What is known of calls -/
def sameArgs (a b : List IE) : Bool := IE.same (.fn 0 a) (.fn 0 b)
/-- small: a limit of two small numbers. -/
noncomputable def knowSmall (B : IE → Option (Int × Int)) : List SV → Option SV
  | [.sint .u8 a, .sint .u8 b] => (match loGe B 0 a, loGe B 0 b with
    | true, true => some (.agg [.sint .i64 (.fn 1 [a, b]), .sint .i64 (.fn 2 [a, b])])
    | _, _ => none)
  | _ => none
/-- policy.CheckLimit: such limits are allowed. -/
def knowLimit : List SV → Option SV
  | [.agg [.sint .i64 (.fn 1 l), .sint .i64 (.fn 2 l')]] => (match sameArgs l l' with | true => some (.int .i64 0) | false => none)
  | _ => none
noncomputable def knowG0 (B : IE → Option (Int × Int)) (f : Nat) (args : List SV) (S : SW) : Option (SV × SW) :=
  match Nat.beq f 9 with
  | true => (match knowSmall B args with | some x => some (x, S) | none => none)
  | false => match Nat.beq f 40 with
    | true => (match knowLimit args with | some x => some (x, S) | none => none)
    | false => none
noncomputable def knowG (B : IE → Option (Int × Int)) (f : Nat) (args : List SV) (S : SW) : Option (SV × SW) :=
  match Nat.beq f 8, args with | true, [] => some (.bool true, S) | _, _ => knowG0 B f args S

/-- What the limits' numbers are. -/
def fnG (f : Nat) (l : List Int) : Int := match f with
  | 1 => (match l with | [x, _] => x % 6 | _ => 0)
  | 2 => (match l with | [x, y] => if x % 6 = 0 then 0 else y % 12 | _ => 0)
  | _ => 0

/-- The setup's cells, and the two other numbers. -/
def tail : List SV := [.sint .u8 (.var 0), .sint .u8 (.var 1), .sint .u8 (.var 2), .sint .u8 (.var 3), .sint .u8 (.var 4), .sint .u64 (.var 5)]
def argG (l : SV) : List SV := [.agg (l :: tail), .sint .u16 (.var 6), .sint .u16 (.var 7)]
end Go.Proofs.YtdabjinnlagdgaaGreatDoor
