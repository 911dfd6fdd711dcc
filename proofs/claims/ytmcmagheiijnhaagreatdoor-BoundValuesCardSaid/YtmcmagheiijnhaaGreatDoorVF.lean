/- bound.Window, for each number of jobs. -/
import Derived.Test.YtmcmagheiijnhaaGreatDoorVE
import Derived.Test.YtmcmagheiijnhaaGreatDoorRxI
set_option linter.all false
set_option maxRecDepth 100000
namespace Go.Proofs.YtmcmagheiijnhaaGreatDoor
open Go.RX Go.RX.Sym
open Classical

def lenF : Nat → List Fact
  | 0 => []
  | i + 1 => fl (.lit (i : Int)) (.len 0) true :: lenF i
def lenN (n : Nat) : List Fact := fe (.var 33) (.lit 0) true :: fl (.lit (n : Int)) (.len 0) false :: lenF n
def selL (i k : Nat) : IE := .sel 0 (.lit (i : Int)) k
def loE : Nat → IE
  | 0 => .lit 0
  | 1 => selL 0 16
  | i + 2 => .min (loE (i + 1)) (selL (i + 1) 16)
def hiE : Nat → IE
  | 0 => .lit 0
  | 1 => selL 0 16
  | i + 2 => .max (hiE (i + 1)) (selL (i + 1) 16)
noncomputable def winB (σ : Sig) (n : Nat) : Bool := (DT.leaf (.tuple [.sint .i64 (wnE (loE (n + 1)) (hiE (n + 1))), z0])).ok (callIs (envC σ) (fun _ => kSpl 26 false (kChk 19 false noC)) 40 9 (cfArgs (.row 0))) (lenN (n + 1))
noncomputable def allR (f : Nat → Bool) (a : Nat) : Nat → Bool
  | 0 => true
  | n + 1 => match f (a + n) with | true => allR f a n | false => false
theorem win_0 (σ : Sig) : (DT.leaf (.tuple [.sint .i64 wn0, z0])).ok (callIs (envC σ) (fun _ => kSpl 26 false (kChk 19 false noC)) 40 9 (cfArgs (.row 0))) (lenN 0) = true := by kernel_rfl
theorem win_n (σ : Sig) : (DT.leaf (.tuple [.sint .i64 wn0, z0])).ok (callIs (envC σ) (fun _ => kSpl 26 true (kChk 19 true noC)) 40 9 (cfArgs .nilslice)) [fe (.var 33) (.lit 0) true] = true := by kernel_rfl
theorem win_e (σ : Sig) : (DT.leaf (.tuple [z0, iv 33])).ok (callIs (envC σ) (fun _ => kChk 19 false noC) 40 9 (cfArgs (.row 0))) [fe (.var 33) (.lit 0) false] = true := by kernel_rfl
theorem win_en (σ : Sig) : (DT.leaf (.tuple [z0, iv 33])).ok (callIs (envC σ) (fun _ => kChk 19 true noC) 40 9 (cfArgs .nilslice)) [fe (.var 33) (.lit 0) false] = true := by kernel_rfl
theorem win_a (σ : Sig) : allR (winB σ) 0 20 = true := by kernel_rfl
end Go.Proofs.YtmcmagheiijnhaaGreatDoor
