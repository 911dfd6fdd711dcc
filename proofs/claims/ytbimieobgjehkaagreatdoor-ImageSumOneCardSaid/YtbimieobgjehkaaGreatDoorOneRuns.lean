/- ImageSumOne: pieces of its code, run once each with numbers that are not known. -/
import Derived.Test.YtbimieobgjehkaaGreatDoorSumsLaw
import Derived.Test.YtbimieobgjehkaaGreatDoorRxH
import Derived.KernelRfl
set_option linter.all false
namespace Go.Proofs.YtbimieobgjehkaaGreatDoor
open Go.RX

/-! ### bytes.Clone -/
def sl15 : List Nat := [4, 2, 0, 5, 6, 7]
theorem body15 : Tryz.f15.body = some (.seq (pcs Tryz.f15 [false]) (.seq (pcs Tryz.f15 [true, false]) (.seq (pcs Tryz.f15 [true, true, false]) (pcs Tryz.f15 [true, true, true])))) := by kernel_rfl
theorem f15_at : Tryz.prog.funcs[15]? = some Tryz.f15 := by kernel_rfl
theorem f15_n : Tryz.f15.ntmps = 8 := by kernel_rfl
noncomputable def O15 : Array Oper := opsOf (pcs Tryz.f15 [true, true, false])
theorem R15 : pcs Tryz.f15 [true, true, false] = .region 3 O15 false := by kernel_rfl
theorem O15_size : O15.size = 4 := by kernel_rfl
theorem r15_a (σ : Sig) : outOkV 0 sl15 [(0, .row)] (runCode (eB σ []) noK 20 8 sl15 (pcs Tryz.f15 [false]) (bare (frInV sl15 [(0, .row)]))) = true := by kernel_rfl
theorem r15_b (σ : Sig) : outOkV 0 sl15 [(0, .row)] (runCode (eB σ []) noK 20 8 sl15 (pcs Tryz.f15 [true, false]) (bare (frInV sl15 [(0, .row)]))) = true := by kernel_rfl
theorem r15_c (σ : Sig) : opsBox sl15 [(6, .row)] 5 .u8 [] (opsRun (eB σ []) noK 20 8 sl15 O15 0 2 (frInV sl15 [(0, .row)])) = true := by kernel_rfl
theorem r15_d (σ : Sig) : opsOkV sl15 [(2, .rowN 1)] (opsRun (eB σ []) noK 20 8 sl15 O15 3 1 (frInV sl15 [(7, .rowN 1)])) = true := by kernel_rfl
theorem r15_e (σ : Sig) : outOkV 1 sl15 [(2, .rowN 1)] (runCode (eB σ []) noK 20 8 sl15 (pcs Tryz.f15 [true, true, true]) (bare (frInV sl15 [(2, .rowN 1)]))) = true := by kernel_rfl
theorem p15 (σ : Sig) : isOne (.rowN 1) (resRun (eB σ []) sl15 Tryz.f15.results.toList (frInV sl15 [(2, .rowN 1)])) = true := by kernel_rfl

/-! ### The law -/
def sl5 : List Nat := [38, 35, 11, 8, 7, 6, 2, 1, 0, 15, 16, 28, 29, 40, 41, 42, 47, 52, 53]
def kindsO (a : Nat) : Option (List (Option IntKind)) := match a with | 0 => some [some .u8] | 1 => some [some .u8] | _ => none
def sigO (v u : Bts) (x y z t : Int) : Sig :=
  { var := fun j => match j with | 0 => x | 1 => y | 3 => z | 4 => t | _ => 0
    fn := fun _ _ => 0
    row := fun a => match a with | 0 => (v.b, v.x, 1, v.n) | _ => (u.b, u.x, 1, u.n)
    cell := fun a i _ => match a with | 0 => .int .u8 (v.at_ i) | _ => .int .u8 (u.at_ i) }
noncomputable def envO (σ : Sig) (F : List Fact) : Env := { P := Tryz.prog, G := globals, rows := kindsO, lt := factLt F, eq := factEq F, sig := σ }
def KO1 (args : List SV) (S : SW) : Option (SV × SW) := match args with
  | [.row 0] => some (.sint .u32 (.var 3), S)
  | [.row 1] => some (.sint .u32 (.var 4), S)
  | _ => none
def KOS (f : Nat) (args : List SV) (S : SW) : Option (SV × SW) := match Nat.beq f 7 with
  | false => none
  | true => KO1 args S
def KO (f : Nat) (args : List SV) (S : SW) : Option (SV × SW) := match Nat.beq f 6, args with | true, [] => some (.bool true, S) | _, _ => KOS f args S
def A5 : List (Nat × Want) := [(0, .row), (1, .num .u16 (.var 0)), (2, .num .u8 (.var 1))]
def B5 : List (Nat × Want) := [(0, .row), (1, .num .u16 (.var 0)), (2, .num .u8 (.var 1)), (7, .num .u32 (.var 3))]
theorem body5 : Tryz.f5.body = some (.seq (pcs Tryz.f5 [false]) (.seq (pcs Tryz.f5 [true, false]) (.seq (pcs Tryz.f5 [true, true, false]) (.seq (.seq (pcs Tryz.f5 [true, true, true, false, false]) (pcs Tryz.f5 [true, true, true, false, true])) (.seq (pcs Tryz.f5 [true, true, true, true, false]) (.seq (pcs Tryz.f5 [true, true, true, true, true, false]) (.seq (pcs Tryz.f5 [true, true, true, true, true, true, false]) (pcs Tryz.f5 [true, true, true, true, true, true, true])))))))) := by kernel_rfl
theorem f5_at : Tryz.prog.funcs[5]? = some Tryz.f5 := by kernel_rfl
theorem f5_n : Tryz.f5.ntmps = 61 := by kernel_rfl
noncomputable def O4 : Array Oper := opsOf (pcs Tryz.f5 [true, true, true, false, false])
noncomputable def O8 : Array Oper := opsOf (pcs Tryz.f5 [true, true, true, true, true, false])
noncomputable def O9 : Array Oper := opsOf (pcs Tryz.f5 [true, true, true, true, true, true, false])
theorem R4 : pcs Tryz.f5 [true, true, true, false, false] = .region 4 O4 false := by kernel_rfl
theorem R8 : pcs Tryz.f5 [true, true, true, true, true, false] = .region 8 O8 false := by kernel_rfl
theorem R9 : pcs Tryz.f5 [true, true, true, true, true, true, false] = .region 9 O9 false := by kernel_rfl
theorem O4_size : O4.size = 21 := by kernel_rfl
theorem O8_size : O8.size = 3 := by kernel_rfl
theorem O9_size : O9.size = 13 := by kernel_rfl
theorem o_a (σ : Sig) : outOkV 0 sl5 A5 (runCode (envO σ []) KO 40 61 sl5 (pcs Tryz.f5 [false]) (bare (frInV sl5 A5))) = true := by kernel_rfl
theorem o_b (σ : Sig) : outOkV 0 sl5 A5 (runCode (envO σ [⟨true, .lit 2000, .len 0, false⟩]) KO 40 61 sl5 (pcs Tryz.f5 [true, false]) (bare (frInV sl5 A5))) = true := by kernel_rfl
theorem o_b' (σ : Sig) : outOkV 1 sl5 [(6, .bool true)] (runCode (envO σ [⟨true, .lit 2000, .len 0, true⟩]) KO 40 61 sl5 (pcs Tryz.f5 [true, false]) (bare (frInV sl5 A5))) = true := by kernel_rfl
theorem o_c (σ : Sig) : outOkV 0 sl5 B5 (runCode (envO σ []) KO 40 61 sl5 (pcs Tryz.f5 [true, true, false]) (bare (frInV sl5 A5))) = true := by kernel_rfl
def bytesIE : List IE := [.conv .u8 (.var 3), .conv .u8 (.bin .shr .u32 (.var 3) (.lit 8)), .conv .u8 (.bin .shr .u32 (.var 3) (.lit 16)), .conv .u8 (.bin .shr .u32 (.var 3) (.lit 24))]
theorem o_d (σ : Sig) : opsOkV sl5 ((15, .row) :: B5) (opsRun (envO σ []) KO 40 61 sl5 O4 0 1 (frInV sl5 B5)) = true := by kernel_rfl
theorem o_e (σ : Sig) : opsBox sl5 B5 28 .u8 bytesIE (opsRun (envO σ []) KO 40 61 sl5 O4 2 12 (frInV sl5 B5)) = true := by kernel_rfl
theorem o_f (σ : Sig) : opsOkV sl5 ((35, .bool false) :: B5) (opsRun (envO σ [⟨false, .var 4, .lit 558161692, true⟩]) KO 40 61 sl5 O4 15 6 (frInV sl5 ((29, .rowN 1) :: B5))) = true := by kernel_rfl
theorem o_g (σ : Sig) : outOkV 0 sl5 B5 (runCode (envO σ []) KO 40 61 sl5 (pcs Tryz.f5 [true, true, true, false, true]) (bare (frInV sl5 ((35, .bool false) :: B5)))) = true := by kernel_rfl
theorem o_h (σ : Sig) : outOkV 0 sl5 B5 (runCode (envO σ [⟨false, .len 0, .lit 0, false⟩]) KO 40 61 sl5 (pcs Tryz.f5 [true, true, true, true, false]) (bare (frInV sl5 B5))) = true := by kernel_rfl
theorem o_h' (σ : Sig) : outOkV 1 sl5 [(6, .bool true)] (runCode (envO σ [⟨false, .len 0, .lit 0, true⟩]) KO 40 61 sl5 (pcs Tryz.f5 [true, true, true, true, false]) (bare (frInV sl5 B5))) = true := by kernel_rfl
theorem o_i (σ : Sig) : opsOkV sl5 ((40, .row) :: B5) (opsRun (envO σ []) KO 40 61 sl5 O8 0 1 (frInV sl5 B5)) = true := by kernel_rfl
theorem o_j (σ : Sig) : opsOkV sl5 ((8, .rowN 1) :: B5) (opsRun (envO σ []) KO 40 61 sl5 O8 2 1 (frInV sl5 ((41, .rowN 1) :: B5))) = true := by kernel_rfl
def idxIE : IE := .bin .rem .i64 (.conv .i64 (.var 0)) (.len 1)
def newIE : IE := .bin .xor .u8 (.sel 1 idxIE 0) (.max (.var 1) (.lit 1))
theorem o_k (σ : Sig) : opsOkV sl5 ((8, .rowN 1) :: (52, .num .u8 newIE) :: (53, .rptr 1 idxIE) :: B5) (opsRun (envO σ [⟨false, .len 1, .lit 0, false⟩, ⟨true, idxIE, .lit 0, false⟩, ⟨true, idxIE, .len 1, true⟩]) KO 40 61 sl5 O9 0 12 (frInV sl5 ((8, .rowN 1) :: B5))) = true := by kernel_rfl
theorem o_l (σ : Sig) : outOkV 1 sl5 [(6, .bool true)] (runCode (envO σ [⟨false, .var 4, .var 3, false⟩]) KO 40 61 sl5 (pcs Tryz.f5 [true, true, true, true, true, true, true]) (bare (frInV sl5 ((8, .rowN 1) :: B5)))) = true := by kernel_rfl
theorem p5 (σ : Sig) : isOne (.bool true) (resRun (envO σ []) sl5 Tryz.f5.results.toList (frInV sl5 [(6, .bool true)])) = true := by kernel_rfl
theorem one_nil (σ : Sig) : isBool true ((semK (envN σ) knowN 40).call 5 [.nilslice, .sint .u16 (.var 0), .sint .u8 (.var 1)] ⟨.nil, 0, 0⟩) = true := by kernel_rfl
end Go.Proofs.YtbimieobgjehkaaGreatDoor
