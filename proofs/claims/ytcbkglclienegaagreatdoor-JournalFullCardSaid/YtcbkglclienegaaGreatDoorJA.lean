/- Numbers of 64 bits that do not overflow; facts. -/
import Derived.Test.YtcbkglclienegaaGreatDoorProg
import Derived.Test.YtcbkglclienegaaGreatDoorRxI
import Derived.KernelRfl
set_option linter.all false
namespace Go.Proofs.YtcbkglclienegaaGreatDoor
open Go.RX Go.RX.Sym

theorem holds_eq {σ : Sig} {a b : IE} {y : Bool} (h : a.val σ = b.val σ ↔ y = true) : (Fact.mk false a b y).holds σ := h
theorem holds_lt {σ : Sig} {a b : IE} {y : Bool} (h : a.val σ < b.val σ ↔ y = true) : (Fact.mk true a b y).holds σ := h
theorem hcons {σ : Sig} {f : Fact} {F : List Fact} (h : f.holds σ) (hF : ∀ g ∈ F, g.holds σ) : ∀ g ∈ f :: F, g.holds σ := fun g hg => by
  rcases List.mem_cons.1 hg with rfl | hg
  · exact h
  · exact hF g hg
theorem hnil {σ : Sig} : ∀ g ∈ ([] : List Fact), g.holds σ := fun g hg => by cases hg
theorem yes {p : Prop} (h : p) : p ↔ true = true := ⟨fun _ => rfl, fun _ => h⟩
theorem no {p : Prop} (h : ¬ p) : p ↔ false = true := ⟨fun k => absurd k h, fun k => by cases k⟩

def Fits (z : Int) : Prop := -9223372036854775808 ≤ z ∧ z ≤ 9223372036854775807
theorem Fits.wrap {z : Int} (h : Fits z) : IntKind.i64.wrap z = z := wrap_fits (by simp only [lowOf]; exact h.1) (by simp only [highOf]; exact h.2)
theorem add_op {x y : Int} (h : Fits (x + y)) : opVal .add .i64 x y = x + y :=
  opVal_int (op := .add) (k := .i64) (x := x) (y := y) (n := x + y) (by simp) (by simp) (by simp only [intOp]; rw [wrapped_eq, show Int.add x y = x + y from rfl, h.wrap])
theorem sub_op {x y : Int} (h : Fits (x - y)) : opVal .sub .i64 x y = x - y :=
  opVal_int (op := .sub) (k := .i64) (x := x) (y := y) (n := x - y) (by simp) (by simp) (by simp only [intOp]; rw [wrapped_eq, show Int.sub x y = x - y from rfl, h.wrap])
theorem mul_op {x y : Int} (h : Fits (x * y)) : opVal .mul .i64 x y = x * y :=
  opVal_int (op := .mul) (k := .i64) (x := x) (y := y) (n := x * y) (by simp) (by simp) (by simp only [intOp]; rw [wrapped_eq, show Int.mul x y = x * y from rfl, h.wrap])
theorem quo_op {x y : Int} (hx : 0 ≤ x) (hy : 1 ≤ y) (h : Fits (x / y)) : opVal .quo .i64 x y = x / y := by
  have h1 : Int.tdiv x y = x / y := Int.tdiv_eq_ediv_of_nonneg hx
  have hz : eqb y (.ofNat 0) = false := by
    rw [eqb_eq]
    exact decide_eq_false (by show ¬ (y = 0); omega)
  exact opVal_int (op := .quo) (k := .i64) (x := x) (y := y) (n := x / y) (by simp) (by simp) (by simp only [intOp, hz]; rw [wrapped_eq, h1, h.wrap])
end Go.Proofs.YtcbkglclienegaaGreatDoor

/- What the evaluator is run over: the program, and the cells of the package-level variables that the runs read. -/
set_option linter.all false
namespace Go.Proofs.YtcbkglclienegaaGreatDoor
open Go.RX

def tabCells : List SV := [.int .u8 0, .int .u8 1, .int .u8 56, .int .u8 2, .int .u8 57, .int .u8 49, .int .u8 28, .int .u8 3, .int .u8 61, .int .u8 58, .int .u8 42, .int .u8 50, .int .u8 38, .int .u8 29, .int .u8 17, .int .u8 4, .int .u8 62, .int .u8 47, .int .u8 59, .int .u8 36, .int .u8 45, .int .u8 43, .int .u8 51, .int .u8 22, .int .u8 53, .int .u8 39, .int .u8 33, .int .u8 30, .int .u8 24, .int .u8 18, .int .u8 12, .int .u8 5, .int .u8 63, .int .u8 55, .int .u8 48, .int .u8 27, .int .u8 60, .int .u8 41, .int .u8 37, .int .u8 16, .int .u8 46, .int .u8 35, .int .u8 44, .int .u8 21, .int .u8 52, .int .u8 32, .int .u8 23, .int .u8 11, .int .u8 54, .int .u8 26, .int .u8 40, .int .u8 15, .int .u8 34, .int .u8 20, .int .u8 31, .int .u8 10, .int .u8 25, .int .u8 14, .int .u8 19, .int .u8 9, .int .u8 13, .int .u8 8, .int .u8 7, .int .u8 6]
def stepsCells : List SV := [.int .i64 30, .int .u64 13787848793156543929, .int .i64 27, .int .u64 10723151780598845931, .int .i64 31, .int .u64 1]
def tabVals : List Value := [.int .u8 0, .int .u8 1, .int .u8 56, .int .u8 2, .int .u8 57, .int .u8 49, .int .u8 28, .int .u8 3, .int .u8 61, .int .u8 58, .int .u8 42, .int .u8 50, .int .u8 38, .int .u8 29, .int .u8 17, .int .u8 4, .int .u8 62, .int .u8 47, .int .u8 59, .int .u8 36, .int .u8 45, .int .u8 43, .int .u8 51, .int .u8 22, .int .u8 53, .int .u8 39, .int .u8 33, .int .u8 30, .int .u8 24, .int .u8 18, .int .u8 12, .int .u8 5, .int .u8 63, .int .u8 55, .int .u8 48, .int .u8 27, .int .u8 60, .int .u8 41, .int .u8 37, .int .u8 16, .int .u8 46, .int .u8 35, .int .u8 44, .int .u8 21, .int .u8 52, .int .u8 32, .int .u8 23, .int .u8 11, .int .u8 54, .int .u8 26, .int .u8 40, .int .u8 15, .int .u8 34, .int .u8 20, .int .u8 31, .int .u8 10, .int .u8 25, .int .u8 14, .int .u8 19, .int .u8 9, .int .u8 13, .int .u8 8, .int .u8 7, .int .u8 6]
def stepsVals : List Value := [.int .i64 30, .int .u64 13787848793156543929, .int .i64 27, .int .u64 10723151780598845931, .int .i64 31, .int .u64 1]
def globals (g : Nat) : Option (List SV) := match g with | 5 => some tabCells | 0 => some stepsCells | _ => none
/-- Closed runs (whatever the texts of numbers stand for). -/
noncomputable def env (σ : Sig) : Env := { P := Tryz.prog, G := globals, overs := [447, 449], idxs := [429], sig := σ }
/-- The calls that are run both ways: slices.Insert at its two types. -/
noncomputable def insC (σ : Sig) : Sym.Callee := semK (env σ) (fun _ _ _ => none) 4
noncomputable def know1 (σ : Sig) : Nat → List SV → SW → Option (SV × SW) := insK (insC σ) [404, 405] (fun _ _ _ => none)
/-- image.read defers a call that recovers. -/
noncomputable def dfrC (σ : Sig) : Sym.Callee := semK (env σ) (know1 σ) 20
noncomputable def know2 (σ : Sig) : Nat → List SV → SW → Option (SV × SW) := dfrK (env σ) (dfrC σ) [112] (know1 σ)
/-- op.Print ranges over a map of six: the two operations of the examples. -/
noncomputable def pickC (σ : Sig) : Sym.Callee := semK (env σ) (fun _ _ _ => none) 20
def tickArg : List SV := [.agg [.int .i64 1, .int .i64 1, .int .i64 0, .int .i64 0, .bool false, .string ⟨#[]⟩]]
def tickOut : SV := .tuple [.string ⟨#[116, 105, 99, 107, 32, 49]⟩, .int .i64 0]
def finishArg : List SV := [.agg [.int .i64 3, .int .i64 0, .int .i64 0, .int .i64 7, .bool true, .string ⟨#[]⟩]]
def finishOut : SV := .tuple [.string ⟨#[102, 105, 110, 105, 115, 104, 32, 55, 32, 111, 107]⟩, .int .i64 0]
noncomputable def know3 (σ : Sig) (f : Nat) (args : List SV) (S : SW) : Option (SV × SW) := match Nat.beq f 16, Sym.svsEq args tickArg with | true, true => some (tickOut, S) | _, _ => know2 σ f args S
noncomputable def know (σ : Sig) (f : Nat) (args : List SV) (S : SW) : Option (SV × SW) := match Nat.beq f 16, Sym.svsEq args finishArg with | true, true => some (finishOut, S) | _, _ => know3 σ f args S
def resetArg : List SV := [.agg [.int .i64 6, .int .i64 0, .int .i64 0, .int .i64 0, .bool false, .string ⟨#[120]⟩]]
def resetOut : SV := .tuple [.string ⟨#[114, 101, 115, 101, 116, 32, 120]⟩, .int .i64 0]
/-- The operation that is noted over and over. -/
noncomputable def knowR (f : Nat) (args : List SV) (S : SW) : Option (SV × SW) := match Nat.beq f 16, Sym.svsEq args resetArg with | true, true => some (resetOut, S) | _, _ => none
/-- Runs that ask facts. -/
noncomputable def envL (σ : Sig) (F : List Fact) : Env := { P := Tryz.prog, G := globals, lt := factLt F, eq := factEq F, sig := σ }
/-- Nothing stands for anything. -/
def sig0 : Sig := { var := fun _ => 0, fn := fun _ _ => 0, row := fun _ => (0, 0, 0, 0), cell := fun _ _ _ => .bool false }
end Go.Proofs.YtcbkglclienegaaGreatDoor
