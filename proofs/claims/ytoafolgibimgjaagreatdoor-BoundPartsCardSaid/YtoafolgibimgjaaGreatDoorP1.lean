/- Numbers of 64 bits that do not overflow; facts. -/
import Derived.Test.YtoafolgibimgjaaGreatDoorProg
import Derived.Test.YtoafolgibimgjaaGreatDoorRxI
import Derived.KernelRfl
set_option linter.all false
namespace Go.Proofs.YtoafolgibimgjaaGreatDoor
open Go.RX Go.RX.Sym

theorem holds_eq {σ : Sig} {a b : IE} {y : Bool} (h : a.val σ = b.val σ ↔ y = true) : (Fact.mk false a b y).holds σ := h
theorem holds_lt {σ : Sig} {a b : IE} {y : Bool} (h : a.val σ < b.val σ ↔ y = true) : (Fact.mk true a b y).holds σ := h
theorem hcons {σ : Sig} {f : Fact} {F : List Fact} (h : f.holds σ) (hF : ∀ g ∈ F, g.holds σ) : ∀ g ∈ f :: F, g.holds σ := fun g hg => by
  rcases List.mem_cons.1 hg with rfl | hg
  · exact h
  · exact hF g hg
theorem hnil {σ : Sig} : ∀ g ∈ ([] : List Fact), g.holds σ := fun g hg => by cases hg
theorem yes {p : Prop} (h : p) : p ↔ true = true := ⟨fun _ => rfl, fun _ => h⟩
theorem no {p : Prop} (h : ¬ p) : p ↔ false = true := ⟨fun k => absurd k h, fun k => by cases k⟩

def Fits (z : Int) : Prop := -9223372036854775808 ≤ z ∧ z ≤ 9223372036854775807
theorem Fits.wrap {z : Int} (h : Fits z) : IntKind.i64.wrap z = z := wrap_fits (by simp only [lowOf]; exact h.1) (by simp only [highOf]; exact h.2)
theorem add_op {x y : Int} (h : Fits (x + y)) : opVal .add .i64 x y = x + y :=
  opVal_int (op := .add) (k := .i64) (x := x) (y := y) (n := x + y) (by simp) (by simp) (by simp only [intOp]; rw [wrapped_eq, show Int.add x y = x + y from rfl, h.wrap])
theorem sub_op {x y : Int} (h : Fits (x - y)) : opVal .sub .i64 x y = x - y :=
  opVal_int (op := .sub) (k := .i64) (x := x) (y := y) (n := x - y) (by simp) (by simp) (by simp only [intOp]; rw [wrapped_eq, show Int.sub x y = x - y from rfl, h.wrap])
theorem mul_op {x y : Int} (h : Fits (x * y)) : opVal .mul .i64 x y = x * y :=
  opVal_int (op := .mul) (k := .i64) (x := x) (y := y) (n := x * y) (by simp) (by simp) (by simp only [intOp]; rw [wrapped_eq, show Int.mul x y = x * y from rfl, h.wrap])
theorem quo_op {x y : Int} (hx : 0 ≤ x) (hy : 1 ≤ y) (h : Fits (x / y)) : opVal .quo .i64 x y = x / y := by
  have h1 : Int.tdiv x y = x / y := Int.tdiv_eq_ediv_of_nonneg hx
  have hz : eqb y (.ofNat 0) = false := by
    rw [eqb_eq]
    exact decide_eq_false (by show ¬ (y = 0); omega)
  exact opVal_int (op := .quo) (k := .i64) (x := x) (y := y) (n := x / y) (by simp) (by simp) (by simp only [intOp, hz]; rw [wrapped_eq, h1, h.wrap])
end Go.Proofs.YtoafolgibimgjaaGreatDoor

/- What the evaluator is run over; the texts of a plan. -/
set_option linter.all false
namespace Go.Proofs.YtoafolgibimgjaaGreatDoor
open Go.RX

noncomputable def noC : Nat → List SV → SW → Option (SV × SW) := fun _ _ _ => none
/-- Runs that ask facts. -/
noncomputable def envF (σ : Sig) (F : List Fact) : Env := { P := Tryz.prog, G := fun _ => none, lt := factLt F, eq := factEq F, sig := σ }
theorem numF (σ : Sig) {F : List Fact} (h : ∀ g ∈ F, g.holds σ) : NumOk (envF σ F) := fact_num rfl rfl h (fun _ _ h => by cases h)
theorem liesF (σ : Sig) (F : List Fact) (W : World) : RX.Lies (envF σ F) W := ⟨fun _ _ h => (by cases h), fun _ _ h => (by cases h)⟩

/-- Numbers alone. -/
def sigV (f : Nat → Int) : Sig := ⟨f, fun _ _ => 0, fun _ => (0, 0, 0, 0), fun _ _ _ => .bool false⟩
/-- A plan of the kind 'every', without a count and without spans that are skipped. -/
def planOf (s p : IE) : SV := .agg [.int .i64 2, .int .u64 0, .int .u64 0, .int .u64 0, .int .u64 0, .int .u64 0, .int .u64 0, .bool false, .bool false, .int .i64 0, .sint .i64 s, .sint .i64 p, .int .i64 0, .nilslice]
def planVal (s p : Int) : Value := .agg #[.int .i64 2, .int .u64 0, .int .u64 0, .int .u64 0, .int .u64 0, .int .u64 0, .int .u64 0, .bool false, .bool false, .int .i64 0, .int .i64 s, .int .i64 p, .int .i64 0, .slice none 0 0]
abbrev maxT : Int := 253402300799
end Go.Proofs.YtoafolgibimgjaaGreatDoor

/- plan.List of such a plan, one time at most: its first time from a on. -/
set_option linter.all false
set_option maxRecDepth 100000
namespace Go.Proofs.YtoafolgibimgjaaGreatDoor
open Go.RX

/-! ### The texts of the numbers that are asked of -/
def xSz : IE := .bin .add .i64 (.lit 1) (.bin .quo .i64 (.bin .sub .i64 (.lit 253402300799) (.var 0)) (.var 1))
def xA1 : IE := .bin .add .i64 (.var 2) (.lit 1)
def xK (a : IE) : IE := .min xSz (.bin .add .i64 (.bin .quo .i64 (.bin .sub .i64 (.bin .sub .i64 a (.var 0)) (.lit 1)) (.var 1)) (.lit 1))
def xAt (k : IE) : IE := .bin .add .i64 (.var 0) (.bin .mul .i64 k (.var 1))
abbrev fl (a b : IE) (y : Bool) : Fact := ⟨true, a, b, y⟩
abbrev fe (a b : IE) (y : Bool) : Fact := ⟨false, a, b, y⟩
def baseF : List Fact := [fl (.var 0) (.lit 0) false, fl (.lit 253402300799) (.var 0) false, fl (.var 1) (.lit 1) false, fl (.lit 68719476736) (.var 1) false, fl (.var 2) (.lit 0) false, fl (.lit 253402300799) (.var 2) false, fl (.var 3) (.lit 0) false, fl (.lit 253402300799) (.var 3) false, fl (.var 3) (.var 2) false, fe (.var 1) (.lit 0) false, fl (.lit 0) xSz true, fl (.var 2) (.var 2) false]
/-- After the start, at one of the times. -/
def onF : List Fact := fl (.var 0) (.var 2) true :: fl (xK (.var 2)) (.lit 0) false :: fl (xK (.var 2)) xSz true :: fe (xAt (xK (.var 2))) (.var 2) true :: baseF
/-- Between two of them. -/
def offF (late : Bool) : List Fact := fl (.var 0) (.var 2) true :: fl (xK (.var 2)) (.lit 0) false :: fl (xK (.var 2)) xSz true :: fe (xAt (xK (.var 2))) (.var 2) false :: fl (.var 0) xA1 true :: fl (xK xA1) (.lit 0) false :: fl (xK xA1) xSz true ::
  fl (xAt (xK xA1)) (.lit 0) false :: fl (.lit 253402300799) (xAt (xK xA1)) false :: fl (xAt (xK xA1)) (xAt (xK xA1)) false :: fl (.var 3) (xAt (xK xA1)) late :: baseF
/-- At the start. -/
def startF : List Fact := fl (.var 0) (.var 2) false :: fe (xAt (.lit 0)) (.var 2) true :: baseF
/-- Before it. -/
def foreF (late : Bool) : List Fact := fl (.var 0) (.var 2) false :: fe (xAt (.lit 0)) (.var 2) false :: fl (.var 0) xA1 false :: fl (xAt (.lit 0)) (.lit 0) false :: fl (.lit 253402300799) (xAt (.lit 0)) false :: fl (xAt (.lit 0)) (xAt (.lit 0)) false :: fl (.var 3) (xAt (.lit 0)) late :: baseF

def argL1 : List SV := [planOf (.var 0) (.var 1), .sint .i64 (.var 2), .sint .i64 (.var 3), .int .i64 1]
noncomputable def runL1 (σ : Sig) (F : List Fact) : Option (SV × SW) := (semK (envF σ F) noC 20).call 19 argL1 ⟨.nil, 0, 0⟩
/-- One time; none. -/
noncomputable def oneOk (e : IE) (r : Option (SV × SW)) : Bool := match r with
  | some (.tuple [.slice i 0 1 (.toEnd 1 1), .int .i64 (.ofNat 0)], S) => (match Sym.hget S i with
    | some (.cells [.sint .i64 e1] m) => (match Nat.beq m 7 with | true => IE.same e e1 | false => false)
    | _ => false)
  | _ => false
noncomputable def noneOk (r : Option (SV × SW)) : Bool := match r with
  | some (.tuple [.nilslice, .int .i64 (.ofNat 0)], _) => true
  | _ => false
theorem l_on (σ : Sig) : oneOk (.var 2) (runL1 σ onF) = true := by kernel_rfl
theorem l_off (σ : Sig) : oneOk (xAt (xK xA1)) (runL1 σ (offF false)) = true := by kernel_rfl
theorem l_offN (σ : Sig) : noneOk (runL1 σ (offF true)) = true := by kernel_rfl
theorem l_start (σ : Sig) : oneOk (.var 2) (runL1 σ startF) = true := by kernel_rfl
theorem l_fore (σ : Sig) : oneOk (xAt (.lit 0)) (runL1 σ (foreF false)) = true := by kernel_rfl
theorem l_foreN (σ : Sig) : noneOk (runL1 σ (foreF true)) = true := by kernel_rfl
end Go.Proofs.YtoafolgibimgjaaGreatDoor

/- Due times of a plan with a fixed period, in plain numbers. -/
set_option linter.all false
namespace Go.Proofs.YtoafolgibimgjaaGreatDoor

theorem div_le {x P : Int} (hP : 1 ≤ P) : x / P * P ≤ x := Int.ediv_mul_le x (by omega)
theorem div_lt {x P : Int} (hP : 1 ≤ P) : x < (x / P + 1) * P := Int.lt_ediv_add_one_mul_self x (by omega)
theorem div_nonneg {x P : Int} (hx : 0 ≤ x) (hP : 1 ≤ P) : 0 ≤ x / P := Int.ediv_nonneg hx (by omega)
theorem div_self_le {x P : Int} (hx : 0 ≤ x) (hP : 1 ≤ P) : x / P ≤ x := Int.ediv_le_self _ hx
theorem div_uniq {x P q : Int} (hP : 1 ≤ P) (h1 : q * P ≤ x) (h2 : x < (q + 1) * P) : x / P = q := by
  have h3 := div_le (x := x) hP
  have h4 := div_lt (x := x) hP
  rcases Int.lt_trichotomy (x / P) q with h | h | h
  · have := Int.mul_le_mul_of_nonneg_right (show x / P + 1 ≤ q by omega) (show 0 ≤ P by omega)
    omega
  · exact h
  · have := Int.mul_le_mul_of_nonneg_right (show q + 1 ≤ x / P by omega) (show 0 ≤ P by omega)
    omega

/-- The first due time from a on. -/
def due (s P a : Int) : Int := if a ≤ s then s else s + ((a - s - 1) / P + 1) * P
theorem due_fore {s P a : Int} (h : a ≤ s) : due s P a = s := if_pos h
theorem due_back {s P a : Int} (h : s < a) : due s P a = s + ((a - s - 1) / P + 1) * P := if_neg (by omega)
theorem due_ge {s P a : Int} (hP : 1 ≤ P) : a ≤ due s P a := by
  by_cases h : a ≤ s
  · rw [due_fore h]; exact h
  · rw [due_back (by omega)]
    have := div_lt (x := a - s - 1) hP
    omega
theorem due_lt {s P a : Int} (hP : 1 ≤ P) (h : s < a) : due s P a < a + P := by
  rw [due_back h]
  have := div_le (x := a - s - 1) hP
  rw [Int.add_mul]
  omega
theorem due_off {s P a : Int} (hP : 1 ≤ P) (h : s < a) (hne : due s P a ≠ a) : (a + 1 - s - 1) / P = (a - s - 1) / P := by
  rw [due_back h] at hne
  refine div_uniq hP ?_ ?_
  · have := div_le (x := a - s - 1) hP
    omega
  · have := div_lt (x := a - s - 1) hP
    omega

/-- What plan.List is asked with. -/
structure Ev (s P a b : Int) : Prop where
  s0 : 0 ≤ s
  sm : s ≤ 253402300799
  p1 : 1 ≤ P
  pm : P ≤ 68719476736
  a0 : 0 ≤ a
  ab : a ≤ b
  bm : b ≤ 253402300799
  aP : a + P ≤ 253402300799
end Go.Proofs.YtoafolgibimgjaaGreatDoor

/- plan.List of such a plan, one time at most, whole. -/
set_option linter.all false
set_option maxRecDepth 100000
namespace Go.Proofs.YtoafolgibimgjaaGreatDoor
open Go.RX Go.RX.Sym

def sig4 (s P a b : Int) : Sig := sigV fun i => match i with | 0 => s | 1 => P | 2 => a | 3 => b | _ => 0
section
variable {s P a b : Int}

theorem v_sz (h : Ev s P a b) : xSz.val (sig4 s P a b) = 1 + (253402300799 - s) / P := by
  have h1 := div_nonneg (x := 253402300799 - s) (by have := h.sm; omega) h.p1
  have h2 := div_self_le (x := 253402300799 - s) (by have := h.sm; omega) h.p1
  have := h.s0
  simp only [xSz, IE.val, sig4, sigV]
  rw [sub_op (x := 253402300799) (y := s) ⟨by omega, by omega⟩]
  rw [quo_op (x := 253402300799 - s) (y := P) (by have := h.sm; omega) h.p1 ⟨by omega, by omega⟩]
  rw [add_op ⟨by omega, by omega⟩]
theorem v_a1 (h : Ev s P a b) : xA1.val (sig4 s P a b) = a + 1 := by
  have := h.a0; have := h.ab; have := h.bm
  simp only [xA1, IE.val, sig4, sigV]
  rw [add_op ⟨by omega, by omega⟩]
theorem v_k (h : Ev s P a b) {e : IE} {c : Int} (hc : e.val (sig4 s P a b) = c) (h1 : s < c) (h2 : c ≤ 253402300799 + 1) (h3 : (c - s - 1) / P ≤ (253402300799 - s) / P) : (xK e).val (sig4 s P a b) = (c - s - 1) / P + 1 := by
  have k1 := div_nonneg (x := c - s - 1) (by omega) h.p1
  have k2 := div_self_le (x := c - s - 1) (by omega) h.p1
  have := h.s0
  have hz := v_sz h
  have hv : (IE.bin .add .i64 (.bin .quo .i64 (.bin .sub .i64 (.bin .sub .i64 e (.var 0)) (.lit 1)) (.var 1)) (.lit 1)).val (sig4 s P a b) = (c - s - 1) / P + 1 := by
    simp only [IE.val, hc]
    show opVal .add .i64 (opVal .quo .i64 (opVal .sub .i64 (opVal .sub .i64 c s) 1) P) 1 = _
    rw [sub_op (x := c) (y := s) ⟨by omega, by omega⟩, sub_op (x := c - s) (y := 1) ⟨by omega, by omega⟩]
    rw [quo_op (x := c - s - 1) (y := P) (by omega) h.p1 ⟨by omega, by omega⟩]
    rw [add_op ⟨by omega, by omega⟩]
  show (if _ < _ then _ else _) = _
  rw [hz, hv]
  split <;> omega
theorem v_at (h : Ev s P a b) {e : IE} {q : Int} (hq : e.val (sig4 s P a b) = q) (h0 : 0 ≤ q * P) (h1 : s + q * P ≤ 9223372036854775807) : (xAt e).val (sig4 s P a b) = s + q * P := by
  have := h.s0
  simp only [xAt, IE.val, hq]
  show opVal .add .i64 s (opVal .mul .i64 q P) = _
  rw [mul_op ⟨by omega, by omega⟩, add_op ⟨by omega, by omega⟩]

theorem base_holds (h : Ev s P a b) : ∀ g ∈ baseF, g.holds (sig4 s P a b) := by
  have hz := v_sz h
  have h1 := div_nonneg (x := 253402300799 - s) (by have := h.sm; omega) h.p1
  obtain ⟨s0, sm, p1, pm, a0, ab, bm, aP⟩ := h
  refine hcons (holds_lt (no ?_)) (hcons (holds_lt (no ?_)) (hcons (holds_lt (no ?_)) (hcons (holds_lt (no ?_)) (hcons (holds_lt (no ?_)) (hcons (holds_lt (no ?_)) (hcons (holds_lt (no ?_)) (hcons (holds_lt (no ?_)) (hcons (holds_lt (no ?_)) (hcons (holds_eq (no ?_)) (hcons (holds_lt (yes ?_)) (hcons (holds_lt (no ?_)) hnil)))))))))))
  all_goals first | (rw [hz]; show (0 : Int) < _; omega) | (simp only [IE.val, sig4, sigV]; omega)

/-- What plan.List hands back: one time, or none. -/
def One (W : World) (d b : Int) (e : Ending) (w' : World) : Prop := ∃ u, e = .returned u ∧ ((d ≤ b ∧ ∀ (σ : Sig) (x : IE), x.val σ = d → LeftT σ W u (.tuple [.slice 0 0 1 (.toEnd 1 1), .int .i64 0]) [(0, .cells [.sint .i64 x] 7)] 1 w') ∨ (b < d ∧ On W w' ∧ u = .tuple #[.slice none 0 0, .int .i64 0]))

def args1 (s P a b : Int) : List Value := [planVal s P, .int .i64 a, .int .i64 b, .int .i64 1]
theorem args1_rel : VRels (.nil (sig4 s P a b)) argL1 (args1 s P a b) := by
  refine .cons (.agg ?_) (.cons (.sint .i64 (.var 2)) (.cons (.sint .i64 (.var 3)) (.cons (.int .i64 1) .nil)))
  exact .cons (.int _ _) (.cons (.int _ _) (.cons (.int _ _) (.cons (.int _ _) (.cons (.int _ _) (.cons (.int _ _) (.cons (.int _ _) (.cons (.bool _) (.cons (.bool _) (.cons (.int _ _) (.cons (.sint .i64 (.var 0)) (.cons (.sint .i64 (.var 1)) (.cons (.int _ _) (.cons .nilslice .nil)))))))))))))

theorem oneOk_some {e : IE} {r : Option (SV × SW)} (h : oneOk e r = true) : ∃ i S, r = some (.tuple [.slice i 0 1 (.toEnd 1 1), .int .i64 (.ofNat 0)], S) ∧ S.at i = some (.cells [.sint .i64 e] 7) := by
  unfold oneOk at h
  split at h
  · rename_i i S
    split at h
    · rename_i e1 m hobj
      split at h
      · rename_i hm
        have hm := Nat.eq_of_beq_eq_true hm
        subst hm
        have := IE.same_eq h
        subst this
        exact ⟨i, S, rfl, hobj⟩
      · cases h
    · cases h
  · cases h
theorem noneOk_some {r : Option (SV × SW)} (h : noneOk r = true) : ∃ S, r = some (.tuple [.nilslice, .int .i64 (.ofNat 0)], S) := by
  unfold noneOk at h
  split at h
  · exact ⟨_, rfl⟩
  · cases h
theorem one_res {F : List Fact} (hF : ∀ g ∈ F, g.holds (sig4 s P a b)) {x : SV} {S : SW} (hrun : runL1 (sig4 s P a b) F = some (x, S)) (W : World) : Calls Tryz.prog 19 (args1 s P a b).toArray W (Res (envF (sig4 s P a b) F) (.nil (sig4 s P a b)) ⟨.nil, 0, 0⟩ W S x) := by
  unfold runL1 at hrun
  exact (semK_sound (E := envF (sig4 s P a b) F) (K := noC) (known_nothing _) 20).call 19 argL1 ⟨.nil, 0, 0⟩ x S hrun (.nil (sig4 s P a b)) (args1 s P a b) W (empty_ok (numF _ hF) (liesF _ _ _)) (fun _ _ _ => rfl) args1_rel
theorem one_run {F : List Fact} (hF : ∀ g ∈ F, g.holds (sig4 s P a b)) {e : IE} {d : Int} (he : e.val (sig4 s P a b) = d) (hd : d ≤ b) (hr : oneOk e (runL1 (sig4 s P a b) F) = true) (W : World) : Calls Tryz.prog 19 (args1 s P a b).toArray W (One W d b) := by
  obtain ⟨i, S, hrun, hobj⟩ := oneOk_some hr
  clear hr
  have hc := one_res hF hrun W
  clear hrun
  refine hc.mono ?_
  rintro ed w' ⟨u, ρ, rfl, hext, hv⟩
  refine ⟨u, rfl, .inl ⟨hd, fun σ x hx => ?_⟩⟩
  have on : On W w' := ⟨hext.size, hext.os, hext.tape, hext.output, fun b hb => hext.frame b hb fun j p hj hp => by cases hp⟩
  have hsig : ρ.sig = sig4 s P a b := hext.le.same.symm
  let ρ1 : Ren := ⟨fun j => if j = 0 then ρ i else none, σ⟩
  have o : OverT (fun a b => a = 0 ∧ b = i) ρ ρ1 := ⟨fun a b p h hp => by
    obtain ⟨rfl, rfl⟩ := h
    exact hp⟩
  have hat : ∀ j z, (SW.mk (heapOf [(0, .cells [.sint .i64 x] 7)]) 1 0).at j = some z → j = 0 ∧ z = .cells [.sint .i64 x] 7 := fun j z hz => by
    have := heapOf_at hz
    simp only [List.mem_cons, List.mem_nil_iff, or_false, Prod.mk.injEq] at this
    exact this
  have hne : ∀ j, (SW.mk (heapOf [(0, .cells [.sint .i64 x] 7)]) 1 0).at j ≠ none → j = 0 := fun j hj => by
    cases hz : (SW.mk (heapOf [(0, .cells [.sint .i64 x] 7)]) 1 0).at j with
    | none => exact absurd hz hj
    | some z => exact (hat j z hz).1
  refine ⟨on, ρ1, rfl, ?_, ⟨fun j z p hz hp => ?_, fun j j' p q hj hj' hp hq _ => (hne j hj).trans (hne j' hj').symm⟩, fun j p hj hp => ?_, fun j hj => ?_, fun j hj => ?_⟩
  · refine SVT.over (ρ := ρ) (ρ' := ρ1) o (.tuple (.cons (.slice ⟨rfl, rfl⟩) (.cons (.lit rfl) .nil))) hv
  · obtain ⟨rfl, rfl⟩ := hat j z hz
    have hp : ρ i = some p := hp
    obtain ⟨ob, g1, g2⟩ := hext.wrel.obj i _ p hobj hp
    refine ⟨ob, g1, OVT.over (ρ := ρ) (ρ' := ρ1) o (.cells (.cons (.num ?_) .nil)) g2⟩
    show x.val σ = e.val ρ.sig
    rw [hsig, hx, he]
  · have := hne j hj
    subst this
    have hp : ρ i = some p := hp
    rcases hext.own i p (by rw [hobj]; simp) hp with ⟨k, q, hk, hq, -⟩ | hge
    · cases hq
    · exact hge
  · show (if j = 0 then ρ i else none) = none
    rw [if_neg (by omega)]
  · cases hz : (SW.mk (heapOf [(0, .cells [.sint .i64 x] 7)]) 1 0).at j with
    | none => rfl
    | some z =>
      have := (hat j z hz).1
      omega

theorem none_run {F : List Fact} (hF : ∀ g ∈ F, g.holds (sig4 s P a b)) {d : Int} (hd : b < d) (hr : noneOk (runL1 (sig4 s P a b) F) = true) (W : World) : Calls Tryz.prog 19 (args1 s P a b).toArray W (One W d b) := by
  obtain ⟨S, hrun⟩ := noneOk_some hr
  clear hr
  have hc := one_res hF hrun W
  clear hrun
  refine hc.mono ?_
  rintro ed w' ⟨u, ρ, rfl, hext, hv⟩
  refine ⟨u, rfl, .inr ⟨hd, ⟨hext.size, hext.os, hext.tape, hext.output, fun b hb => hext.frame b hb fun j p hj hp => by cases hp⟩, ?_⟩⟩
  cases hv with
  | tuple h =>
    cases h with
    | cons h1 h =>
      cases h with
      | cons h2 h =>
        cases h
        cases h1
        cases h2
        rfl

/-- plan.List hands back the first time from a on, unless it lies behind b. -/
theorem list_one (h : Ev s P a b) (W : World) : Calls Tryz.prog 19 (args1 s P a b).toArray W (One W (due s P a) b) := by
  have hb := base_holds h
  have hz := v_sz h
  have ha1 := v_a1 h
  have h' := h
  obtain ⟨s0, sm, p1, pm, a0, ab, bm, aP⟩ := h'
  have v2 : IE.val (sig4 s P a b) (.var 2) = a := rfl
  have v0 : IE.val (sig4 s P a b) (.var 0) = s := rfl
  have v3 : IE.val (sig4 s P a b) (.var 3) = b := rfl
  have l0 : IE.val (sig4 s P a b) (.lit 0) = 0 := rfl
  have lm : IE.val (sig4 s P a b) (.lit 253402300799) = 253402300799 := rfl
  by_cases hs : a ≤ s
  · have hd := due_fore (P := P) hs
    have e0 : (xAt (.lit 0)).val (sig4 s P a b) = s := by
      rw [v_at h (q := 0) rfl (by omega) (by omega)]; omega
    rw [hd]
    by_cases he : s = a
    · refine one_run (F := startF) (hcons (holds_lt (no ?_)) (hcons (holds_eq (yes ?_)) hb)) (e := .var 2) (by rw [v2]; exact he.symm) (by omega) (l_start _) W
      · rw [v0, v2]; omega
      · rw [e0, v2]; exact he
    · have go : ∀ late : Bool, (b < s ↔ late = true) → ∀ g ∈ foreF late, g.holds (sig4 s P a b) := fun late hl =>
        hcons (holds_lt (no (by rw [v0, v2]; omega))) (hcons (holds_eq (no (by rw [e0, v2]; exact he))) (hcons (holds_lt (no (by rw [v0, ha1]; omega))) (hcons (holds_lt (no (by rw [e0, l0]; omega))) (hcons (holds_lt (no (by rw [e0, lm]; omega))) (hcons (holds_lt (no (by omega))) (hcons (holds_lt (by rw [v3, e0]; exact hl)) hb))))))
      by_cases hl : b < s
      · exact none_run (go true (yes hl)) hl (l_foreN _) W
      · exact one_run (go false (no hl)) e0 (by omega) (l_fore _) W
  · have hs : s < a := by omega
    have hlt := due_lt (P := P) p1 hs
    have hge := due_ge (s := s) (P := P) (a := a) p1
    have hd := due_back (P := P) hs
    have q0 := div_nonneg (x := a - s - 1) (P := P) (by omega) p1
    have qle : (a - s - 1) / P + 1 ≤ (253402300799 - s) / P := by
      refine Int.le_ediv_of_mul_le (by omega) ?_
      omega
    have k1 : (xK (.var 2)).val (sig4 s P a b) = (a - s - 1) / P + 1 := v_k h v2 hs (by omega) (by omega)
    have e1 : (xAt (xK (.var 2))).val (sig4 s P a b) = due s P a := by
      rw [hd] at hge hlt ⊢
      exact v_at h k1 (by omega) (by omega)
    have hd0 : 0 ≤ due s P a := by omega
    have hdm : due s P a ≤ 253402300799 := by omega
    have c1 : ¬ (xK (.var 2)).val (sig4 s P a b) < IE.val (sig4 s P a b) (.lit 0) := by rw [k1, l0]; omega
    have c2 : (xK (.var 2)).val (sig4 s P a b) < xSz.val (sig4 s P a b) := by rw [k1, hz]; omega
    by_cases he : due s P a = a
    · rw [he]
      refine one_run (F := onF) (hcons (holds_lt (yes ?_)) (hcons (holds_lt (no c1)) (hcons (holds_lt (yes c2)) (hcons (holds_eq (yes ?_)) hb)))) (e := .var 2) v2 ab (l_on _) W
      · rw [v0, v2]; exact hs
      · rw [e1, v2]; exact he
    · have hoff := due_off (P := P) p1 hs he
      have k2 : (xK xA1).val (sig4 s P a b) = (a - s - 1) / P + 1 := by
        rw [v_k h ha1 (by omega) (by omega) (by rw [hoff]; omega), hoff]
      have e2 : (xAt (xK xA1)).val (sig4 s P a b) = due s P a := by
        rw [hd] at hge hlt ⊢
        exact v_at h k2 (by omega) (by omega)
      have go : ∀ late : Bool, (b < due s P a ↔ late = true) → ∀ g ∈ offF late, g.holds (sig4 s P a b) := fun late hl =>
        hcons (holds_lt (yes (by rw [v0, v2]; exact hs))) (hcons (holds_lt (no c1)) (hcons (holds_lt (yes c2)) (hcons (holds_eq (no (by rw [e1, v2]; exact he))) (hcons (holds_lt (yes (by rw [v0, ha1]; omega))) (hcons (holds_lt (no (by rw [k2, l0]; omega))) (hcons (holds_lt (yes (by rw [k2, hz]; omega)))
          (hcons (holds_lt (no (by rw [e2, l0]; omega))) (hcons (holds_lt (no (by rw [e2, lm]; omega))) (hcons (holds_lt (no (by omega))) (hcons (holds_lt (by rw [v3, e2]; exact hl)) hb))))))))))
      by_cases hl : b < due s P a
      · exact none_run (go true (yes hl)) hl (l_offN _) W
      · exact one_run (go false (no hl)) e2 (by omega) (l_off _) W
end
end Go.Proofs.YtoafolgibimgjaaGreatDoor

/- Jobs in memory, each with a plan of the kind 'every'. -/
set_option linter.all false
namespace Go.Proofs.YtoafolgibimgjaaGreatDoor
open Go.RX

structure Jb where
  b : Nat
  x : Nat
  n : Nat
  cell : Nat → Nat → Value
  st : Nat → Int
  pe : Nat → Int
/-- What each job's cells hold. -/
structure Jb.Job (v : Jb) (i : Nat) : Prop where
  name : ∃ s, v.cell i 0 = .string s
  kind : v.cell i 1 = .int .i64 2
  expr : ∀ c, 2 ≤ c → c < 8 → v.cell i c = .int .u64 0
  any : ∀ c, 8 ≤ c → c < 10 → v.cell i c = .bool false
  zone : v.cell i 10 = .int .i64 0
  start : v.cell i 11 = .int .i64 (v.st i)
  period : v.cell i 12 = .int .i64 (v.pe i)
  count : v.cell i 13 = .int .i64 0
  skip : v.cell i 14 = .slice none 0 0
  pol : ∀ c, 15 ≤ c → c < 30 → ∃ z, v.cell i c = .int .i64 z
structure Jb.Lies (v : Jb) (W : World) : Prop where
  few : v.n ≤ 1000000
  jobs : ∀ i, i < v.n → v.Job i
  lies : ∃ (arr : Array Value) (el : TypeId) (fz : Nat × Nat), W.heap[v.b]? = some (.cells arr el fz) ∧ ∀ i c, i < v.n → c < 30 → arr[v.x + i * 30 + c]? = some (v.cell i c)

/-- What texts of numbers stand for: named numbers; the jobs (row 0); due times so far (row 1). -/
def sigJ (v : Jb) (l : List Int) (L : List Int) : Sig where
  var i := l.getD i 0
  fn _ _ := 0
  row a := match a with | 0 => (v.b, v.x, 30, v.n) | 1 => (0, 0, 1, L.length) | _ => (0, 0, 0, 0)
  cell a i c := match a with | 0 => v.cell i c | 1 => .int .i64 (L.getD i 0) | _ => .bool false
def jobKinds : List (Option IntKind) := [none, some .i64, some .u64, some .u64, some .u64, some .u64, some .u64, some .u64, none, none, some .i64, some .i64, some .i64, some .i64, none, some .i64, some .i64, some .i64, some .i64, some .i64, some .i64, some .i64, some .i64, some .i64, some .i64, some .i64, some .i64, some .i64, some .i64, some .i64]
def rowsJ (a : Nat) : Option (List (Option IntKind)) := match a with | 0 => some jobKinds | _ => none
noncomputable def envJ (σ : Sig) (F : List Fact) : Env := { P := Tryz.prog, G := fun _ => none, rows := rowsJ, lt := factLt F, eq := factEq F, sig := σ }
theorem numJ {v : Jb} {l L : List Int} {F : List Fact} (hF : ∀ f ∈ F, f.holds (sigJ v l L)) : NumOk (envJ (sigJ v l L) F) := fact_num rfl rfl hF fun a ks h => by
  have h : rowsJ a = some ks := h
  unfold rowsJ at h
  split at h
  · simp only [Option.some.injEq] at h
    subst h
    rfl
  · cases h
theorem liesJ {v : Jb} {W : World} (hv : v.Lies W) (l L : List Int) (F : List Fact) : RX.Lies (envJ (sigJ v l L) F) W where
  cells g cs hg := by cases hg
  rows a ks ha := by
    have ha : rowsJ a = some ks := ha
    unfold rowsJ at ha
    split at ha
    · simp only [Option.some.injEq] at ha
      subst ha
      obtain ⟨arr, el, fz, h1, h2⟩ := hv.lies
      refine ⟨v.b, v.x, v.n, arr, el, fz, rfl, h1, fun i c k hi hc => ?_⟩
      have hc6 : c < 30 := (List.getElem?_eq_some_iff.1 hc).1
      refine ⟨h2 i c hi hc6, ?_⟩
      have hj := hv.jobs i hi
      have e0 : (envJ (sigJ v l L) F).sig.cell 0 i c = v.cell i c := rfl
      rw [e0]
      clear e0
      rcases Nat.lt_or_ge c 15 with h15 | h15
      · match c, h15, hc with
        | 0, _, hc => simp [jobKinds] at hc; subst hc; obtain ⟨s, hs⟩ := hj.name; rw [hs]; rfl
        | 1, _, hc => simp [jobKinds] at hc; subst hc; exact ⟨_, hj.kind⟩
        | 2, _, hc => simp [jobKinds] at hc; subst hc; exact ⟨_, hj.expr 2 (by omega) (by omega)⟩
        | 3, _, hc => simp [jobKinds] at hc; subst hc; exact ⟨_, hj.expr 3 (by omega) (by omega)⟩
        | 4, _, hc => simp [jobKinds] at hc; subst hc; exact ⟨_, hj.expr 4 (by omega) (by omega)⟩
        | 5, _, hc => simp [jobKinds] at hc; subst hc; exact ⟨_, hj.expr 5 (by omega) (by omega)⟩
        | 6, _, hc => simp [jobKinds] at hc; subst hc; exact ⟨_, hj.expr 6 (by omega) (by omega)⟩
        | 7, _, hc => simp [jobKinds] at hc; subst hc; exact ⟨_, hj.expr 7 (by omega) (by omega)⟩
        | 8, _, hc => simp [jobKinds] at hc; subst hc; rw [hj.any 8 (by omega) (by omega)]; rfl
        | 9, _, hc => simp [jobKinds] at hc; subst hc; rw [hj.any 9 (by omega) (by omega)]; rfl
        | 10, _, hc => simp [jobKinds] at hc; subst hc; exact ⟨_, hj.zone⟩
        | 11, _, hc => simp [jobKinds] at hc; subst hc; exact ⟨_, hj.start⟩
        | 12, _, hc => simp [jobKinds] at hc; subst hc; exact ⟨_, hj.period⟩
        | 13, _, hc => simp [jobKinds] at hc; subst hc; exact ⟨_, hj.count⟩
        | 14, _, hc => simp [jobKinds] at hc; subst hc; rw [hj.skip]; rfl
        | c + 15, h, _ => omega
      · have hk : k = some .i64 := by
          have : jobKinds[c]? = some (some .i64) := by
            have : c = 15 ∨ c = 16 ∨ c = 17 ∨ c = 18 ∨ c = 19 ∨ c = 20 ∨ c = 21 ∨ c = 22 ∨ c = 23 ∨ c = 24 ∨ c = 25 ∨ c = 26 ∨ c = 27 ∨ c = 28 ∨ c = 29 := by omega
            rcases this with h | h | h | h | h | h | h | h | h | h | h | h | h | h | h <;> subst h <;> rfl
          rw [this] at hc
          simpa using hc.symm
        subst hk
        exact hj.pol c h15 hc6
    · cases ha
end Go.Proofs.YtoafolgibimgjaaGreatDoor
