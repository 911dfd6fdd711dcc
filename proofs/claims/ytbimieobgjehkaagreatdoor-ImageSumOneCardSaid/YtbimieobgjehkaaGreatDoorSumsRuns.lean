/- The checksum in both texts: pieces of their code, run once each with numbers that are not known. -/
import Derived.Test.YtbimieobgjehkaaGreatDoorProg
import Derived.Test.YtbimieobgjehkaaGreatDoorRxH
import Derived.KernelRfl
set_option linter.all false
namespace Go.Proofs.YtbimieobgjehkaaGreatDoor
open Go.RX

noncomputable def pcs (fn : Func) (p : List Bool) : Code := go (fn.body.getD .skip) p
where go : Code → List Bool → Code
  | c, [] => c
  | c, false :: p => (match c with | .seq a _ => go a p | .block _ b => go b p | .loop b => go b p | c => c)
  | c, true :: p => (match c with | .seq _ b => go b p | c => c)

noncomputable abbrev eB (σ : Sig) (F : List Fact) : Env := envB Tryz.prog σ F
def incI (i : Nat) : IE := .bin .add .i64 (.var i) (.lit 1)

/-! ### image.Sum -/
def sl7 : List Nat := [17, 16, 9, 8, 7, 6, 5, 3, 2, 0]
def rIE (e : IE) : IE := .bin .xor .u32 (.bin .shr .u32 e (.lit 1)) (.bin .and .u32 (.lit 3988292384) (.neg .u32 (.bin .and .u32 e (.lit 1))))
def inIE : IE := .bin .xor .u32 (.var 1) (.conv .u32 (.sel 0 (.var 0) 0))
def r8IE (e : IE) : IE := rIE (rIE (rIE (rIE (rIE (rIE (rIE (rIE e)))))))
noncomputable def L7 : Code := pcs Tryz.f7 [true, true, false, true, false, false]
def h7 (i r : IE) : List (Nat × Want) := [(8, .num .i64 i), (7, .num .i64 (.len 0)), (6, .row), (3, .num .u32 r)]
theorem body7 : Tryz.f7.body = some (.seq (pcs Tryz.f7 [false]) (.seq (pcs Tryz.f7 [true, false]) (.seq (.seq (pcs Tryz.f7 [true, true, false, false]) (.block 0 (.loop L7))) (pcs Tryz.f7 [true, true, true])))) := by kernel_rfl
theorem f7_at : Tryz.prog.funcs[7]? = some Tryz.f7 := by kernel_rfl
theorem f7_n : Tryz.f7.ntmps = 29 := by kernel_rfl
theorem r7_a (σ : Sig) : outOkV 0 sl7 [(0, .row)] (runCode (eB σ []) noK 20 29 sl7 (pcs Tryz.f7 [false]) (bare (frInV sl7 [(0, .row)]))) = true := by kernel_rfl
theorem r7_b (σ : Sig) : outOkV 0 sl7 [(0, .row), (3, .num .u32 (.lit 4294967295))] (runCode (eB σ []) noK 20 29 sl7 (pcs Tryz.f7 [true, false]) (bare (frInV sl7 [(0, .row)]))) = true := by kernel_rfl
theorem r7_c (σ : Sig) : outOkV 0 sl7 (h7 (.lit 0) (.lit 4294967295)) (runCode (eB σ []) noK 20 29 sl7 (pcs Tryz.f7 [true, true, false, false]) (bare (frInV sl7 [(0, .row), (3, .num .u32 (.lit 4294967295))]))) = true := by kernel_rfl
theorem r7_z (σ : Sig) : outOkV 1 sl7 [(2, .num .u32 (.bin .xor .u32 (.lit 4294967295) (.var 1)))] (runCode (eB σ []) noK 20 29 sl7 (pcs Tryz.f7 [true, true, true]) (bare (frInV sl7 [(3, .num .u32 (.var 1))]))) = true := by kernel_rfl
theorem r7_0 (σ : Sig) : outOkV 2 sl7 [(3, .num .u32 (.var 1))] (runCode (eB σ [⟨true, .var 0, .len 0, false⟩]) noK 20 29 sl7 L7 (bare (frInV sl7 (h7 (.var 0) (.var 1))))) = true := by kernel_rfl
theorem r7_1 (σ : Sig) : outOkV 0 sl7 (h7 (incI 0) (r8IE inIE)) (runCode (eB σ [⟨true, .var 0, .len 0, true⟩, ⟨true, .var 0, .lit 0, false⟩]) noK 20 29 sl7 L7 (bare (frInV sl7 (h7 (.var 0) (.var 1))))) = true := by kernel_rfl
theorem p7 (σ : Sig) : isOne (.num .u32 (.bin .xor .u32 (.lit 4294967295) (.var 1))) (resRun (eB σ []) sl7 Tryz.f7.results.toList (frInV sl7 [(2, .num .u32 (.bin .xor .u32 (.lit 4294967295) (.var 1)))])) = true := by kernel_rfl

/-! ### wakemanref41.Sum -/
def sl8 : List Nat := [29, 21, 10, 6, 5, 4, 3, 2, 0]
noncomputable def L8 : Code := pcs Tryz.f8 [true, true, false, true, false, false]
noncomputable def M8 : Code := pcs Tryz.f8 [true, true, false, true, false, false, true, false, false, true, true, false, false]
def g8 (i r : IE) : List (Nat × Want) := [(4, .num .i64 i), (3, .num .u32 r), (0, .row)]
def k8 (i r k : IE) : List (Nat × Want) := [(5, .num .i64 k), (4, .num .i64 i), (3, .num .u32 r), (0, .row)]
theorem body8 : Tryz.f8.body = some (.seq (pcs Tryz.f8 [false]) (.seq (pcs Tryz.f8 [true, false]) (.seq (.seq (pcs Tryz.f8 [true, true, false, false]) (.block 0 (.loop L8))) (pcs Tryz.f8 [true, true, true])))) := by kernel_rfl
theorem loop8 : L8 = .seq (pcs Tryz.f8 [true, true, false, true, false, false, false]) (.seq (.block 1 (.seq (pcs Tryz.f8 [true, true, false, true, false, false, true, false, false, false]) (.seq (pcs Tryz.f8 [true, true, false, true, false, false, true, false, false, true, false]) (.block 2 (.loop M8))))) (pcs Tryz.f8 [true, true, false, true, false, false, true, true])) := by kernel_rfl
theorem f8_at : Tryz.prog.funcs[8]? = some Tryz.f8 := by kernel_rfl
theorem f8_n : Tryz.f8.ntmps = 34 := by kernel_rfl
theorem r8_a (σ : Sig) : outOkV 0 sl8 [(0, .row)] (runCode (eB σ []) noK 20 34 sl8 (pcs Tryz.f8 [false]) (bare (frInV sl8 [(0, .row)]))) = true := by kernel_rfl
theorem r8_b (σ : Sig) : outOkV 0 sl8 [(0, .row), (3, .num .u32 (.lit 4294967295))] (runCode (eB σ []) noK 20 34 sl8 (pcs Tryz.f8 [true, false]) (bare (frInV sl8 [(0, .row)]))) = true := by kernel_rfl
theorem r8_c (σ : Sig) : outOkV 0 sl8 (g8 (.lit 0) (.lit 4294967295)) (runCode (eB σ []) noK 20 34 sl8 (pcs Tryz.f8 [true, true, false, false]) (bare (frInV sl8 [(0, .row), (3, .num .u32 (.lit 4294967295))]))) = true := by kernel_rfl
theorem r8_z (σ : Sig) : outOkV 1 sl8 [(2, .num .u32 (.bin .sub .u32 (.lit 4294967295) (.var 1)))] (runCode (eB σ []) noK 20 34 sl8 (pcs Tryz.f8 [true, true, true]) (bare (frInV sl8 [(3, .num .u32 (.var 1))]))) = true := by kernel_rfl
theorem r8_0 (σ : Sig) : outOkV 2 sl8 [(3, .num .u32 (.var 1))] (runCode (eB σ [⟨true, .var 0, .len 0, false⟩]) noK 20 34 sl8 L8 (bare (frInV sl8 (g8 (.var 0) (.var 1))))) = true := by kernel_rfl
theorem r8_1 (σ : Sig) : outOkV 0 sl8 (g8 (.var 0) (.var 1)) (runCode (eB σ [⟨true, .var 0, .len 0, true⟩]) noK 20 34 sl8 (pcs Tryz.f8 [true, true, false, true, false, false, false]) (bare (frInV sl8 (g8 (.var 0) (.var 1))))) = true := by kernel_rfl
theorem r8_2 (σ : Sig) : outOkV 0 sl8 (g8 (.var 0) inIE) (runCode (eB σ [⟨true, .var 0, .len 0, true⟩, ⟨true, .var 0, .lit 0, false⟩]) noK 20 34 sl8 (pcs Tryz.f8 [true, true, false, true, false, false, true, false, false, false]) (bare (frInV sl8 (g8 (.var 0) (.var 1))))) = true := by kernel_rfl
theorem r8_3 (σ : Sig) : outOkV 0 sl8 (k8 (.var 0) (.var 1) (.lit 0)) (runCode (eB σ []) noK 20 34 sl8 (pcs Tryz.f8 [true, true, false, true, false, false, true, false, false, true, false]) (bare (frInV sl8 (g8 (.var 0) (.var 1))))) = true := by kernel_rfl
theorem r8_4 (σ : Sig) : outOkV 4 sl8 (g8 (.var 0) (.var 1)) (runCode (eB σ [⟨true, .var 2, .lit 8, false⟩]) noK 20 34 sl8 M8 (bare (frInV sl8 (k8 (.var 0) (.var 1) (.var 2))))) = true := by kernel_rfl
theorem r8_5 (σ : Sig) : outOkV 0 sl8 (k8 (.var 0) (.bin .xor .u32 (.bin .quo .u32 (.var 1) (.lit 2)) (.lit 3988292384)) (incI 2)) (runCode (eB σ [⟨true, .var 2, .lit 8, true⟩, ⟨false, .bin .rem .u32 (.var 1) (.lit 2), .lit 1, true⟩]) noK 20 34 sl8 M8 (bare (frInV sl8 (k8 (.var 0) (.var 1) (.var 2))))) = true := by kernel_rfl
theorem r8_6 (σ : Sig) : outOkV 0 sl8 (k8 (.var 0) (.bin .quo .u32 (.var 1) (.lit 2)) (incI 2)) (runCode (eB σ [⟨true, .var 2, .lit 8, true⟩, ⟨false, .bin .rem .u32 (.var 1) (.lit 2), .lit 1, false⟩]) noK 20 34 sl8 M8 (bare (frInV sl8 (k8 (.var 0) (.var 1) (.var 2))))) = true := by kernel_rfl
theorem r8_7 (σ : Sig) : outOkV 0 sl8 (g8 (incI 0) (.var 1)) (runCode (eB σ []) noK 20 34 sl8 (pcs Tryz.f8 [true, true, false, true, false, false, true, true]) (bare (frInV sl8 (g8 (.var 0) (.var 1))))) = true := by kernel_rfl
theorem p8 (σ : Sig) : isOne (.num .u32 (.bin .sub .u32 (.lit 4294967295) (.var 1))) (resRun (eB σ []) sl8 Tryz.f8.results.toList (frInV sl8 [(2, .num .u32 (.bin .sub .u32 (.lit 4294967295) (.var 1)))])) = true := by kernel_rfl
end Go.Proofs.YtbimieobgjehkaaGreatDoor
