/- Numbers of 64 bits that do not overflow; facts. -/
import Derived.Test.YtmcmagheiijnhaaGreatDoorProg
import Derived.Test.YtmcmagheiijnhaaGreatDoorRxI
import Derived.KernelRfl
set_option linter.all false
namespace Go.Proofs.YtmcmagheiijnhaaGreatDoor
open Go.RX Go.RX.Sym

theorem holds_eq {σ : Sig} {a b : IE} {y : Bool} (h : a.val σ = b.val σ ↔ y = true) : (Fact.mk false a b y).holds σ := h
theorem holds_lt {σ : Sig} {a b : IE} {y : Bool} (h : a.val σ < b.val σ ↔ y = true) : (Fact.mk true a b y).holds σ := h
theorem hcons {σ : Sig} {f : Fact} {F : List Fact} (h : f.holds σ) (hF : ∀ g ∈ F, g.holds σ) : ∀ g ∈ f :: F, g.holds σ := fun g hg => by
  rcases List.mem_cons.1 hg with rfl | hg
  · exact h
  · exact hF g hg
theorem hnil {σ : Sig} : ∀ g ∈ ([] : List Fact), g.holds σ := fun g hg => by cases hg
theorem yes {p : Prop} (h : p) : p ↔ true = true := ⟨fun _ => rfl, fun _ => h⟩
theorem no {p : Prop} (h : ¬ p) : p ↔ false = true := ⟨fun k => absurd k h, fun k => by cases k⟩

def Fits (z : Int) : Prop := -9223372036854775808 ≤ z ∧ z ≤ 9223372036854775807
theorem Fits.wrap {z : Int} (h : Fits z) : IntKind.i64.wrap z = z := wrap_fits (by simp only [lowOf]; exact h.1) (by simp only [highOf]; exact h.2)
theorem add_op {x y : Int} (h : Fits (x + y)) : opVal .add .i64 x y = x + y :=
  opVal_int (op := .add) (k := .i64) (x := x) (y := y) (n := x + y) (by simp) (by simp) (by simp only [intOp]; rw [wrapped_eq, show Int.add x y = x + y from rfl, h.wrap])
theorem sub_op {x y : Int} (h : Fits (x - y)) : opVal .sub .i64 x y = x - y :=
  opVal_int (op := .sub) (k := .i64) (x := x) (y := y) (n := x - y) (by simp) (by simp) (by simp only [intOp]; rw [wrapped_eq, show Int.sub x y = x - y from rfl, h.wrap])
theorem mul_op {x y : Int} (h : Fits (x * y)) : opVal .mul .i64 x y = x * y :=
  opVal_int (op := .mul) (k := .i64) (x := x) (y := y) (n := x * y) (by simp) (by simp) (by simp only [intOp]; rw [wrapped_eq, show Int.mul x y = x * y from rfl, h.wrap])
theorem quo_op {x y : Int} (hx : 0 ≤ x) (hy : 1 ≤ y) (h : Fits (x / y)) : opVal .quo .i64 x y = x / y := by
  have h1 : Int.tdiv x y = x / y := Int.tdiv_eq_ediv_of_nonneg hx
  have hz : eqb y (.ofNat 0) = false := by
    rw [eqb_eq]
    exact decide_eq_false (by show ¬ (y = 0); omega)
  exact opVal_int (op := .quo) (k := .i64) (x := x) (y := y) (n := x / y) (by simp) (by simp) (by simp only [intOp, hz]; rw [wrapped_eq, h1, h.wrap])
end Go.Proofs.YtmcmagheiijnhaaGreatDoor

/- What is allowed, as propositions; what the questions' functions stand for; choosing. -/
set_option linter.all false
namespace Go.Proofs.YtmcmagheiijnhaaGreatDoor
open Go.RX Go.RX.Sym
open Classical

def okV : SV := .int .i64 0
def ruleV : SV := .int .i64 16
noncomputable def pickV (p : Prop) (x y : SV) : SV := if p then x else y
theorem pick_yes {p : Prop} {x y : SV} (h : p) : pickV p x y = x := if_pos h
theorem pick_no {p : Prop} {x y : SV} (h : ¬ p) : pickV p x y = y := if_neg h
theorem pick_and {p q : Prop} {x y : SV} : pickV p (pickV q x y) y = pickV (p ∧ q) x y := by
  by_cases hp : p
  · by_cases hq : q
    · rw [pick_yes hp, pick_yes hq, pick_yes ⟨hp, hq⟩]
    · rw [pick_yes hp, pick_no hq, pick_no fun h => hq h.2]
  · rw [pick_no hp, pick_no fun h => hp h.1]
theorem eval_eq {σ : Sig} {a b : IE} {y n : DT SV} : (DT.eq a b y n).eval σ = pickV (a.val σ = b.val σ) (y.eval σ) (n.eval σ) := by
  by_cases h : a.val σ = b.val σ
  · rw [pick_yes h]; simp only [DT.eval, if_pos h]
  · rw [pick_no h]; simp only [DT.eval, if_neg h]
theorem eval_lt {σ : Sig} {a b : IE} {y n : DT SV} : (DT.lt a b y n).eval σ = pickV (a.val σ < b.val σ) (y.eval σ) (n.eval σ) := by
  by_cases h : a.val σ < b.val σ
  · rw [pick_yes h]; simp only [DT.eval, if_pos h]
  · rw [pick_no h]; simp only [DT.eval, if_neg h]
theorem pick_no_and {p q : Prop} {x y : SV} : pickV p y (pickV q x y) = pickV (¬ p ∧ q) x y := by
  by_cases hp : p
  · rw [pick_yes hp, pick_no fun h => h.1 hp]
  · rw [pick_no hp]
    by_cases hq : q
    · rw [pick_yes hq, pick_yes ⟨hp, hq⟩]
    · rw [pick_no hq, pick_no fun h => hq h.2]
/-- OK, or an error. -/
noncomputable def errV (p : Prop) (n : Int) : Value := .int .i64 (if p then 0 else n)
theorem pick_err {p : Prop} {n : Int} {ρ : Ren} {u : Value} (h : VRel ρ (pickV p okV (.int .i64 n)) u) : u = errV p n := by
  by_cases hp : p
  · rw [pick_yes hp] at h
    cases h
    simp [errV, hp]
  · rw [pick_no hp] at h
    cases h
    simp [errV, hp]
def inM (u M : Int) : Prop := opVal .and .u64 u M = u
def anyP (b : Bool) (u M : Int) : Prop := b = true → u = M
def exOk (u1 u2 u3 u4 u5 u6 : Int) (d w : Bool) : Prop :=
  (((((((u1 ≠ 0 ∧ inM u1 1152921504606846975) ∧ (u2 ≠ 0 ∧ inM u2 1152921504606846975)) ∧ (u3 ≠ 0 ∧ inM u3 16777215)) ∧ (u4 ≠ 0 ∧ inM u4 4294967294)) ∧ (u5 ≠ 0 ∧ inM u5 8190)) ∧ (u6 ≠ 0 ∧ inM u6 127)) ∧ anyP d u4 4294967294) ∧ anyP w u6 127

abbrev inR (x lo hi : Int) : Prop := lo ≤ x ∧ x ≤ hi
def limOk (t u : Int) : Prop := (0 ≤ t ∧ t ≤ 68719476736) ∧ (0 ≤ u ∧ u ≤ 68719476736) ∧ (0 < t ∨ u = 0)
def brkOk (a b c : Int) : Prop := (a = 0 ∧ b = 0 ∧ c = 0) ∨ ((1 ≤ a ∧ a ≤ 100) ∧ (1 ≤ b ∧ b ≤ 68719476736) ∧ (1 ≤ c ∧ c ≤ 100))
def retOk (a b c d : Int) : Prop := (a = 0 ∧ b = 0 ∧ c = 0 ∧ d = 0) ∨ ((1 ≤ a ∧ a ≤ 20) ∧ (1 ≤ b ∧ b ≤ 68719476736) ∧ (b ≤ c ∧ c ≤ 68719476736) ∧ (0 ≤ d ∧ d ≤ 68719476736))
def misOk (k n : Int) : Prop := (k = 3 ∧ 1 ≤ n ∧ n ≤ 100) ∨ (k ≠ 3 ∧ (0 ≤ k ∧ k ≤ 2) ∧ n = 0)
def evOk (s p c : Int) : Prop := (0 ≤ s ∧ s ≤ 253402300799) ∧ (1 ≤ p ∧ p ≤ 68719476736) ∧ (0 ≤ c ∧ c ≤ 1000000)
def znOk (z : Int) : Prop := -840 ≤ z ∧ z ≤ 840
def polOk (v : Nat → Int) : Prop := (1 ≤ v 1 ∧ v 1 ≤ 1000) ∧ (0 ≤ v 2 ∧ v 2 ≤ 100) ∧ (0 ≤ v 3 ∧ v 3 ≤ 68719476736) ∧ (0 ≤ v 4 ∧ v 4 ≤ 68719476736) ∧ misOk (v 5) (v 6) ∧ limOk (v 7) (v 8) ∧ brkOk (v 9) (v 10) (v 11) ∧ retOk (v 12) (v 13) (v 14) (v 15)
noncomputable def ind (p : Prop) : Int := if p then 1 else 0
theorem ind_one {p : Prop} : ind p = 1 ↔ p := by
  unfold ind
  by_cases h : p <;> simp [h]
/-- What the functions in questions stand for. -/
noncomputable def fnS (f : Nat) (l : List Int) : Int := match f, l with
  | 50, [x, lo, hi] => ind (inR x lo hi)
  | 52, [t, u] => ind (limOk t u)
  | 53, [a, b, c] => ind (brkOk a b c)
  | 54, [a, b, c, d] => ind (retOk a b c d)
  | 55, [k, n] => ind (misOk k n)
  | _, _ => 0
/-- All of some questions, in order. -/
def rulT : List IE → Bool → DT SV
  | [], true => .leaf okV
  | [], false => .leaf ruleV
  | q :: l, b => .eq q (.lit 1) (rulT l b) (rulT l false)
theorem rulT_eval {σ : Sig} : ∀ (l : List IE) (b : Bool), (rulT l b).eval σ = pickV (b = true ∧ ∀ q ∈ l, q.val σ = 1) okV ruleV
  | [], true => by rw [pick_yes ⟨rfl, fun q h => by cases h⟩]; rfl
  | [], false => by rw [pick_no fun h => by cases h.1]; rfl
  | q :: l, b => by
    show (DT.eq q (.lit 1) (rulT l b) (rulT l false)).eval σ = _
    rw [eval_eq, rulT_eval l b, rulT_eval l false]
    by_cases hq : q.val σ = 1
    · rw [pick_yes (p := q.val σ = (IE.lit 1).val σ) hq]
      congr 1
      exact propext ⟨fun h => ⟨h.1, fun x hx => by rcases List.mem_cons.1 hx with rfl | hx; exact hq; exact h.2 x hx⟩, fun h => ⟨h.1, fun x hx => h.2 x (List.mem_cons_of_mem _ hx)⟩⟩
    · have n1 : ¬ (b = true ∧ ∀ x ∈ q :: l, x.val σ = 1) := fun h => hq (h.2 q (by simp))
      have n2 : ¬ (false = true ∧ ∀ x ∈ l, x.val σ = 1) := fun h => by cases h.1
      rw [pick_no (p := q.val σ = (IE.lit 1).val σ) hq, pick_no n1, pick_no n2]
end Go.Proofs.YtmcmagheiijnhaaGreatDoor

/- What the evaluator is run over; the table of blanks. -/
set_option linter.all false
namespace Go.Proofs.YtmcmagheiijnhaaGreatDoor
open Go.RX Go.RX.Sym

noncomputable def noC : Nat → List SV → SW → Option (SV × SW) := fun _ _ _ => none
def spaceCells : List SV := [.int .u8 0, .int .u8 0, .int .u8 0, .int .u8 0, .int .u8 0, .int .u8 0, .int .u8 0, .int .u8 0, .int .u8 0, .int .u8 1, .int .u8 1, .int .u8 1, .int .u8 1, .int .u8 1, .int .u8 0, .int .u8 0, .int .u8 0, .int .u8 0, .int .u8 0, .int .u8 0, .int .u8 0, .int .u8 0, .int .u8 0, .int .u8 0, .int .u8 0, .int .u8 0, .int .u8 0, .int .u8 0, .int .u8 0, .int .u8 0, .int .u8 0, .int .u8 0, .int .u8 1, .int .u8 0, .int .u8 0, .int .u8 0, .int .u8 0, .int .u8 0, .int .u8 0, .int .u8 0, .int .u8 0, .int .u8 0, .int .u8 0, .int .u8 0, .int .u8 0, .int .u8 0, .int .u8 0, .int .u8 0, .int .u8 0, .int .u8 0, .int .u8 0, .int .u8 0, .int .u8 0, .int .u8 0, .int .u8 0, .int .u8 0, .int .u8 0, .int .u8 0, .int .u8 0, .int .u8 0, .int .u8 0, .int .u8 0, .int .u8 0, .int .u8 0, .int .u8 0, .int .u8 0, .int .u8 0, .int .u8 0, .int .u8 0, .int .u8 0, .int .u8 0, .int .u8 0, .int .u8 0, .int .u8 0, .int .u8 0, .int .u8 0, .int .u8 0, .int .u8 0, .int .u8 0, .int .u8 0, .int .u8 0, .int .u8 0, .int .u8 0, .int .u8 0, .int .u8 0, .int .u8 0, .int .u8 0, .int .u8 0, .int .u8 0, .int .u8 0, .int .u8 0, .int .u8 0, .int .u8 0, .int .u8 0, .int .u8 0, .int .u8 0, .int .u8 0, .int .u8 0, .int .u8 0, .int .u8 0, .int .u8 0, .int .u8 0, .int .u8 0, .int .u8 0, .int .u8 0, .int .u8 0, .int .u8 0, .int .u8 0, .int .u8 0, .int .u8 0, .int .u8 0, .int .u8 0, .int .u8 0, .int .u8 0, .int .u8 0, .int .u8 0, .int .u8 0, .int .u8 0, .int .u8 0, .int .u8 0, .int .u8 0, .int .u8 0, .int .u8 0, .int .u8 0, .int .u8 0, .int .u8 0, .int .u8 0, .int .u8 0, .int .u8 0, .int .u8 0, .int .u8 0, .int .u8 0, .int .u8 0, .int .u8 0, .int .u8 0, .int .u8 0, .int .u8 0, .int .u8 0, .int .u8 0, .int .u8 0, .int .u8 0, .int .u8 0, .int .u8 0, .int .u8 0, .int .u8 0, .int .u8 0, .int .u8 0, .int .u8 0, .int .u8 0, .int .u8 0, .int .u8 0, .int .u8 0, .int .u8 0, .int .u8 0, .int .u8 0, .int .u8 0, .int .u8 0, .int .u8 0, .int .u8 0, .int .u8 0, .int .u8 0, .int .u8 0, .int .u8 0, .int .u8 0, .int .u8 0, .int .u8 0, .int .u8 0, .int .u8 0, .int .u8 0, .int .u8 0, .int .u8 0, .int .u8 0, .int .u8 0, .int .u8 0, .int .u8 0, .int .u8 0, .int .u8 0, .int .u8 0, .int .u8 0, .int .u8 0, .int .u8 0, .int .u8 0, .int .u8 0, .int .u8 0, .int .u8 0, .int .u8 0, .int .u8 0, .int .u8 0, .int .u8 0, .int .u8 0, .int .u8 0, .int .u8 0, .int .u8 0, .int .u8 0, .int .u8 0, .int .u8 0, .int .u8 0, .int .u8 0, .int .u8 0, .int .u8 0, .int .u8 0, .int .u8 0, .int .u8 0, .int .u8 0, .int .u8 0, .int .u8 0, .int .u8 0, .int .u8 0, .int .u8 0, .int .u8 0, .int .u8 0, .int .u8 0, .int .u8 0, .int .u8 0, .int .u8 0, .int .u8 0, .int .u8 0, .int .u8 0, .int .u8 0, .int .u8 0, .int .u8 0, .int .u8 0, .int .u8 0, .int .u8 0, .int .u8 0, .int .u8 0, .int .u8 0, .int .u8 0, .int .u8 0, .int .u8 0, .int .u8 0, .int .u8 0, .int .u8 0, .int .u8 0, .int .u8 0, .int .u8 0, .int .u8 0, .int .u8 0, .int .u8 0, .int .u8 0, .int .u8 0, .int .u8 0, .int .u8 0, .int .u8 0, .int .u8 0, .int .u8 0, .int .u8 0, .int .u8 0, .int .u8 0, .int .u8 0, .int .u8 0, .int .u8 0, .int .u8 0, .int .u8 0, .int .u8 0, .int .u8 0]
def globals (g : Nat) : Option (List SV) := match g with | 0 => some spaceCells | _ => none
/-- Numbers alone. -/
noncomputable def sigV (f : Nat → Int) : Sig where
  var := f
  fn := fnS
  row _ := (0, 0, 0, 0)
  cell _ _ _ := .bool false
/-- Runs that ask facts. -/
noncomputable def envF (σ : Sig) (F : List Fact) : Env := { P := Tryz.prog, G := globals, lt := factLt F, eq := factEq F, sig := σ }
theorem numF (σ : Sig) {F : List Fact} (h : ∀ g ∈ F, g.holds σ) : NumOk (envF σ F) := fact_num rfl rfl h (fun _ _ h => by cases h)
/-- The table lies there. -/
def Spaces (W : World) : Prop := Lies (envF (sigV fun _ => 0) []) W
theorem ofValue_rel {ρ ρ' : Ren} {x : SV} {v : Value} (h : VRel ρ x v) (hx : ∃ k n, x = .int k n) : VRel ρ' x v := by
  obtain ⟨k, n, rfl⟩ := hx
  cases h
  exact .int k n
def isNum : SV → Bool | .int _ _ => true | _ => false
theorem space_all : spaceCells.all isNum = true := by kernel_rfl
theorem space_int : ∀ (k : Nat) (x : SV), spaceCells[k]? = some x → ∃ t n, x = .int t n := fun k x h => by
  have hm : x ∈ spaceCells := List.mem_of_getElem? h
  have := List.all_eq_true.1 space_all x hm
  cases x <;> first | exact ⟨_, _, rfl⟩ | cases this
theorem liesF (σ : Sig) (F : List Fact) {W : World} (h : Spaces W) : Lies (envF σ F) W where
  cells g cs hg := by
    obtain ⟨arr, el, fz, h1, h2⟩ := h.cells g cs hg
    refine ⟨arr, el, fz, h1, fun k x hk => ?_⟩
    obtain ⟨v, q1, q2⟩ := h2 k x hk
    refine ⟨v, q1, ofValue_rel q2 ?_⟩
    have hg : globals g = some cs := hg
    unfold globals at hg
    split at hg
    · simp only [Option.some.injEq] at hg; subst hg; exact space_int k x hk
    · cases hg
  rows _ _ h := by cases h
theorem fnF (σ : Sig) {W : World} (h : Spaces W) : ∀ F, (∀ f ∈ F, f.holds σ) → NumOk (envF σ F) ∧ Known (envF σ F) noC ∧ Lies (envF σ F) W := fun F hF => ⟨numF σ hF, known_nothing _, liesF σ F h⟩
end Go.Proofs.YtmcmagheiijnhaaGreatDoor

/- Runs over rows that lie in memory. -/
set_option linter.all false
namespace Go.Proofs.YtmcmagheiijnhaaGreatDoor
open Go.RX Go.RX.Sym

abbrev Kinds := Nat → Option (List (Option IntKind))
noncomputable def envR (R : Kinds) (σ : Sig) (F : List Fact) : Env := { P := Tryz.prog, G := globals, rows := R, lt := factLt F, eq := factEq F, sig := σ }
/-- A row lies in the world. -/
def RowIn (W : World) (ks : List (Option IntKind)) (row : Nat × Nat × Nat × Nat) (cell : Nat → Nat → Value) : Prop :=
  ∃ (b x n : Nat) (arr : Array Value) (el : TypeId) (fz : Nat × Nat), row = (b, x, ks.length, n) ∧ W.heap[b]? = some (.cells arr el fz) ∧
    ∀ (i c : Nat) (k : Option IntKind), i < n → ks[c]? = some k → arr[x + i * ks.length + c]? = some (cell i c) ∧ (match k with | some k => ∃ z, cell i c = .int k z | none => (cell i c).oneCell' = true)
def RowsIn (W : World) (R : Kinds) (σ : Sig) : Prop := ∀ a ks, R a = some ks → RowIn W ks (σ.row a) (σ.cell a)
theorem RowIn.size {W : World} {ks : List (Option IntKind)} {row : Nat × Nat × Nat × Nat} {cell : Nat → Nat → Value} (h : RowIn W ks row cell) : row.2.2.1 = ks.length := by
  obtain ⟨b, x, n, arr, el, fz, rfl, -⟩ := h
  rfl
theorem numR {R : Kinds} {σ : Sig} {W : World} (hr : RowsIn W R σ) {F : List Fact} (h : ∀ g ∈ F, g.holds σ) : NumOk (envR R σ F) := fact_num rfl rfl h (fun a ks e => (hr a ks e).size)
theorem liesR {R : Kinds} {σ : Sig} (F : List Fact) {W : World} (h : Spaces W) (hr : RowsIn W R σ) : Lies (envR R σ F) W where
  cells := (liesF σ F h).cells
  rows a ks ha := hr a ks ha
theorem fnR {R : Kinds} {σ : Sig} {W : World} (h : Spaces W) (hr : RowsIn W R σ) : ∀ F, (∀ f ∈ F, f.holds σ) → NumOk (envR R σ F) ∧ Known (envR R σ F) noC ∧ Lies (envR R σ F) W := fun F hF => ⟨numR hr hF, known_nothing _, liesR F h hr⟩
theorem add1 {i n : Nat} (h : i < n) (hn : n ≤ 1000000000) : opVal .add .i64 (i : Int) 1 = ((i + 1 : Nat) : Int) := by
  rw [add_op ⟨by omega, by omega⟩]; omega
/-- What a function hands back, where it is a plain value. -/
theorem left_int {σ : Sig} {W : World} {u : Value} {m : Int} {objs : List (Nat × SObj)} {n : Nat} {w' : World} (h : LeftT σ W u (.int .i64 m) objs n w') : u = .int .i64 m ∧ On W w' := by
  obtain ⟨on, ρ, -, hx, -⟩ := h
  cases hx
  exact ⟨rfl, on⟩
theorem left_bool {σ : Sig} {W : World} {u : Value} {m : Bool} {objs : List (Nat × SObj)} {n : Nat} {w' : World} (h : LeftT σ W u (.bool m) objs n w') : u = .bool m ∧ On W w' := by
  obtain ⟨on, ρ, -, hx, -⟩ := h
  cases hx
  exact ⟨rfl, on⟩
end Go.Proofs.YtmcmagheiijnhaaGreatDoor
