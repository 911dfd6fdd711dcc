/- Holds' inner check of one job: the gaps between its due times; run with up to three of them. -/
import Derived.Test.YtoafolgibimgjaaGreatDoorP1
import Derived.Test.YtoafolgibimgjaaGreatDoorP5
set_option linter.all false
set_option maxRecDepth 100000
namespace Go.Proofs.YtoafolgibimgjaaGreatDoor
open Go.RX

/-! ### The texts of the numbers that are asked of -/
def yA : IE := .sel 1 (.lit 0) 0
def yB : IE := .sel 2 (.lit 0) 0
def yBB : IE := .sel 3 (.lit 0) 0
def yR : IE := .sel 4 (.lit 0) 0
def pl1 (e : IE) : IE := .bin .add .i64 e (.lit 1)
def nxt (t : IE) : IE := xAt (xK (pl1 (pl1 t)))
def gapE : IE := .bin .add .i64 yBB (.max yR (.var 6))
def yBase : List Fact := [fl (.var 0) (.lit 0) false, fl (.lit 253402300799) (.var 0) false, fl (.var 1) (.lit 1) false, fl (.lit 68719476736) (.var 1) false, fl yA (.lit 0) false, fl (.lit 253402300799) yA false, fl yB (.lit 0) false, fl (.lit 253402300799) yB false, fl yB yA false, fe (.var 1) (.lit 0) false, fl (.lit 0) xSz true]
/-- A time at hand: not before 0, not too late; whether it lies behind the end. -/
def seenF (t : IE) (late : Bool) : List Fact := [fl t (.lit 0) false, fl (.lit 253402300799) t false, fl t t false, fl yB t late]
/-- The next one behind t. -/
def roundF (t : IE) (late : Bool) : List Fact := fl (.lit 253402300799) (pl1 t) false :: fl (pl1 t) (.lit 0) false :: fl (.var 0) (pl1 t) true :: fl (xK (pl1 t)) (.lit 0) false :: fl (xK (pl1 t)) xSz true :: fe (xAt (xK (pl1 t))) (pl1 t) false :: fl (.var 0) (pl1 (pl1 t)) true :: fl (xK (pl1 (pl1 t))) (.lit 0) false :: fl (xK (pl1 (pl1 t))) xSz true :: seenF (nxt t) late
/-- How it begins: before the start, at it, at a due time, between two. -/
inductive Kd | fore | start | on | off
def Kd.first : Kd → IE
  | .fore => xAt (.lit 0)
  | .start => yA
  | .on => yA
  | .off => xAt (xK (pl1 yA))
def Kd.facts (late : Bool) : Kd → List Fact
  | .fore => fl (.var 0) yA false :: fe (xAt (.lit 0)) yA false :: fl (.var 0) (pl1 yA) false :: seenF (xAt (.lit 0)) late
  | .start => fl (.var 0) yA false :: fe (xAt (.lit 0)) yA true :: seenF yA late
  | .on => fl (.var 0) yA true :: fl (xK yA) (.lit 0) false :: fl (xK yA) xSz true :: fe (xAt (xK yA)) yA true :: seenF yA late
  | .off => fl (.var 0) yA true :: fl (xK yA) (.lit 0) false :: fl (xK yA) xSz true :: fe (xAt (xK yA)) yA false :: fl (.var 0) (pl1 yA) true :: fl (xK (pl1 yA)) (.lit 0) false :: fl (xK (pl1 yA)) xSz true :: seenF (xAt (xK (pl1 yA))) late
/-- Their times. -/
def Kd.time (q : Kd) : Nat → IE
  | 0 => q.first
  | c + 1 => nxt (q.time c)
/-- The rounds behind so many times: those between, and the last, which lies behind the end. -/
def Kd.between (q : Kd) : Nat → List Fact
  | 0 => []
  | c + 1 => roundF (q.time c) false ++ q.between c
def Kd.rounds (q : Kd) (c : Nat) : List Fact := roundF (q.time c) true ++ q.between c
def Kd.gaps (q : Kd) (less : Bool) : Nat → List Fact
  | 0 => []
  | c + 1 => fl (.bin .sub .i64 (q.time (c + 1)) (q.time c)) gapE less :: q.gaps less c
/-- So many due times. -/
def Kd.all (q : Kd) (less : Bool) : Nat → List Fact
  | 0 => yBase ++ q.facts true
  | c + 1 => yBase ++ (q.facts false ++ (q.rounds c ++ q.gaps less c))
def rowsC (a : Nat) : Option (List (Option IntKind)) := match a with | 1 => some [some .i64] | 2 => some [some .i64] | 3 => some [some .i64] | 4 => some [some .i64] | _ => none
noncomputable def envK (σ : Sig) (F : List Fact) : Env := { P := Tryz.prog, G := fun _ => none, rows := rowsC, lt := factLt F, eq := factEq F, sig := σ }
def zz (k : IntKind) : Nat → List SV
  | 0 => []
  | n + 1 => .int k 0 :: zz k n
def ptrC (a : Nat) : SV := .rptr a (.lit 0) 0
def jobC : SV := .agg (.blur :: .int .i64 2 :: zz .u64 6 ++ [.bool false, .bool false, .int .i64 0, .sint .i64 (.var 0), .sint .i64 (.var 1), .int .i64 0, .nilslice, .blur, .blur, .blur, .blur, .blur, .blur, .sint .i64 (.var 6), .blur, .blur, .blur, .blur, .blur, .blur, .blur, .blur])
def argK : List SV := [jobC, ptrC 1, ptrC 2, ptrC 3, ptrC 4]
noncomputable def runK (σ : Sig) (F : List Fact) (r : Bool) : Bool := isBool r ((semK (envK σ F) noC 40).call 18 argK ⟨.nil, 0, 0⟩)
end Go.Proofs.YtoafolgibimgjaaGreatDoor

/- Holds' inner check, its runs. -/
set_option linter.all false
set_option maxRecDepth 100000
namespace Go.Proofs.YtoafolgibimgjaaGreatDoor
open Go.RX
theorem k_fore0 (σ : Sig) : runK σ (Kd.fore.all false 0) true = true := by kernel_rfl
theorem k_fore1 (σ : Sig) : runK σ (Kd.fore.all false 1) true = true := by kernel_rfl
theorem k_fore2 (σ : Sig) : runK σ (Kd.fore.all false 2) true = true := by kernel_rfl
theorem k_fore3 (σ : Sig) : runK σ (Kd.fore.all false 3) true = true := by kernel_rfl
theorem k_gap (σ : Sig) : runK σ (Kd.fore.all true 3) false = true := by kernel_rfl
end Go.Proofs.YtoafolgibimgjaaGreatDoor

/- Holds' inner check, its runs. -/
set_option linter.all false
set_option maxRecDepth 100000
namespace Go.Proofs.YtoafolgibimgjaaGreatDoor
open Go.RX
theorem k_off0 (σ : Sig) : runK σ (Kd.off.all false 0) true = true := by kernel_rfl
theorem k_off1 (σ : Sig) : runK σ (Kd.off.all false 1) true = true := by kernel_rfl
theorem k_off2 (σ : Sig) : runK σ (Kd.off.all false 2) true = true := by kernel_rfl
theorem k_off3 (σ : Sig) : runK σ (Kd.off.all false 3) true = true := by kernel_rfl
end Go.Proofs.YtoafolgibimgjaaGreatDoor

/- Holds' inner check, its runs. -/
set_option linter.all false
set_option maxRecDepth 100000
namespace Go.Proofs.YtoafolgibimgjaaGreatDoor
open Go.RX
theorem k_start1 (σ : Sig) : runK σ (Kd.start.all false 1) true = true := by kernel_rfl
theorem k_start2 (σ : Sig) : runK σ (Kd.start.all false 2) true = true := by kernel_rfl
theorem k_start3 (σ : Sig) : runK σ (Kd.start.all false 3) true = true := by kernel_rfl
theorem k_on1 (σ : Sig) : runK σ (Kd.on.all false 1) true = true := by kernel_rfl
theorem k_on2 (σ : Sig) : runK σ (Kd.on.all false 2) true = true := by kernel_rfl
theorem k_on3 (σ : Sig) : runK σ (Kd.on.all false 3) true = true := by kernel_rfl
end Go.Proofs.YtoafolgibimgjaaGreatDoor

/- Holds' inner check of one job, in any world. -/
set_option linter.all false
set_option maxRecDepth 100000
namespace Go.Proofs.YtoafolgibimgjaaGreatDoor
open Go.RX Go.RX.Sym

section
variable {σ : Sig} {s P a b bb rn T : Int}
theorem gz (h0 : σ.var 0 = s) (h1 : σ.var 1 = P) (s0 : 0 ≤ s) (sm : s ≤ 253402300799) (p1 : 1 ≤ P) : xSz.val σ = 1 + (253402300799 - s) / P := by
  have k1 := div_nonneg (x := 253402300799 - s) (by omega) p1
  have k2 := div_self_le (x := 253402300799 - s) (by omega) p1
  show opVal .add .i64 1 (opVal .quo .i64 (opVal .sub .i64 253402300799 (σ.var 0)) (σ.var 1)) = _
  rw [h0, h1, sub_op (x := 253402300799) (y := s) ⟨by omega, by omega⟩, quo_op (by omega) p1 ⟨by omega, by omega⟩, add_op ⟨by omega, by omega⟩]
theorem gk (h0 : σ.var 0 = s) (h1 : σ.var 1 = P) (s0 : 0 ≤ s) (sm : s ≤ 253402300799) (p1 : 1 ≤ P) {e : IE} {c : Int} (hc : e.val σ = c) (g1 : s < c) (g2 : c ≤ 253402300799 + 1) : (xK e).val σ = (c - s - 1) / P + 1 := by
  have k1 := div_nonneg (x := c - s - 1) (by omega) p1
  have k2 := div_self_le (x := c - s - 1) (by omega) p1
  have h3 : (c - s - 1) / P ≤ (253402300799 - s) / P := Int.ediv_le_ediv (by omega) (by omega)
  have hz := gz h0 h1 s0 sm p1
  have hv : (IE.bin .add .i64 (.bin .quo .i64 (.bin .sub .i64 (.bin .sub .i64 e (.var 0)) (.lit 1)) (.var 1)) (.lit 1)).val σ = (c - s - 1) / P + 1 := by
    show opVal .add .i64 (opVal .quo .i64 (opVal .sub .i64 (opVal .sub .i64 (e.val σ) (σ.var 0)) 1) (σ.var 1)) 1 = _
    rw [hc, h0, h1, sub_op (x := c) (y := s) ⟨by omega, by omega⟩, sub_op (x := c - s) (y := 1) ⟨by omega, by omega⟩]
    rw [quo_op (x := c - s - 1) (y := P) (by omega) p1 ⟨by omega, by omega⟩]
    rw [add_op ⟨by omega, by omega⟩]
  show (if _ < _ then _ else _) = _
  rw [hz, hv]
  split <;> omega
theorem gat (h0 : σ.var 0 = s) (h1 : σ.var 1 = P) (s0 : 0 ≤ s) {e : IE} {q : Int} (hq : e.val σ = q) (g0 : 0 ≤ q * P) (g1 : s + q * P ≤ 9223372036854775807) : (xAt e).val σ = s + q * P := by
  show opVal .add .i64 (σ.var 0) (opVal .mul .i64 (e.val σ) (σ.var 1)) = _
  rw [hq, h0, h1, mul_op ⟨by omega, by omega⟩, add_op ⟨by omega, by omega⟩]
theorem gp1 {e : IE} {x : Int} (h : e.val σ = x) (h0 : 0 ≤ x) (hm : x ≤ 300000000000) : (pl1 e).val σ = x + 1 := by
  show opVal .add .i64 (e.val σ) 1 = _
  rw [h, add_op ⟨by omega, by omega⟩]

/-- What is asked of a job. -/
structure InAsk (s P a b : Int) : Prop where
  s0 : 0 ≤ s
  sm : s ≤ 253402300799
  p2 : 2 ≤ P
  pm : P ≤ 68719476736
  a0 : 0 ≤ a
  ab : a ≤ b
  bP : b + 2 * P + 2 ≤ 253402300799
/-- What the texts stand for. -/
structure InSig (σ : Sig) (s P a b bb rn T : Int) : Prop where
  h0 : σ.var 0 = s
  h1 : σ.var 1 = P
  h6 : σ.var 6 = T
  hA : yA.val σ = a
  hB : yB.val σ = b
  hBB : yBB.val σ = bb
  hR : yR.val σ = rn
variable (hσ : InSig σ s P a b bb rn T) (hk : InAsk s P a b)
include hσ hk
theorem ybase : ∀ f ∈ yBase, f.holds σ := by
  have hz := gz hσ.h0 hσ.h1 hk.s0 hk.sm (by have := hk.p2; omega)
  have h1 := div_nonneg (x := 253402300799 - s) (P := P) (by have := hk.sm; omega) (by have := hk.p2; omega)
  have v0 : IE.val σ (.var 0) = s := hσ.h0
  have v1 : IE.val σ (.var 1) = P := hσ.h1
  have hA := hσ.hA
  have hB := hσ.hB
  obtain ⟨s0, sm, p2, pm, a0, ab, bP⟩ := hk
  have l : ∀ n, IE.val σ (.lit n) = n := fun n => rfl
  refine hcons (holds_lt (no ?_)) (hcons (holds_lt (no ?_)) (hcons (holds_lt (no ?_)) (hcons (holds_lt (no ?_)) (hcons (holds_lt (no ?_)) (hcons (holds_lt (no ?_)) (hcons (holds_lt (no ?_)) (hcons (holds_lt (no ?_)) (hcons (holds_lt (no ?_)) (hcons (holds_eq (no ?_)) (hcons (holds_lt (yes ?_)) hnil))))))))))
  all_goals simp only [v0, v1, hA, hB, hz, l]; omega
theorem seen {t : IE} {x : Int} (ht : t.val σ = x) (h0 : 0 ≤ x) (hm : x ≤ 253402300799) {late : Bool} (hl : b < x ↔ late = true) : ∀ f ∈ seenF t late, f.holds σ := by
  have hB := hσ.hB
  have l : ∀ n, IE.val σ (.lit n) = n := fun n => rfl
  refine hcons (holds_lt (no ?_)) (hcons (holds_lt (no ?_)) (hcons (holds_lt (no ?_)) (hcons (holds_lt ?_) hnil)))
  · rw [ht, l]; omega
  · rw [ht, l]; omega
  · omega
  · rw [hB, ht]; exact hl
theorem nxt_val {t : IE} {x : Int} (ht : t.val σ = x) (hd : IsDue s P x) (hx : x + P ≤ 253402300799) : (nxt t).val σ = x + P ∧ (xK (pl1 t)).val σ = (x - s) / P + 1 ∧ (xK (pl1 (pl1 t))).val σ = (x - s) / P + 1 ∧ (xAt (xK (pl1 t))).val σ = x + P ∧ x = s + (x - s) / P * P := by
  have e := isDue_eq hd
  have s0 := hk.s0
  have p2 := hk.p2
  have h1 := hd.1
  generalize hq : (x - s) / P = q at e
  have q0 : 0 ≤ q := by rw [← hq]; exact div_nonneg (by omega) (by omega)
  have eq1 : (x + 1 - s - 1) / P = q := by rw [show x + 1 - s - 1 = x - s by omega, hq]
  have eq2 : (x + 1 + 1 - s - 1) / P = q := div_uniq (by omega) (by omega) (by rw [Int.add_mul]; omega)
  have v1 := gp1 ht (by omega) (by omega)
  have v2 := gp1 v1 (by omega) (by omega)
  have k1 := gk hσ.h0 hσ.h1 s0 hk.sm (by omega) v1 (by omega) (by omega)
  have k2 := gk hσ.h0 hσ.h1 s0 hk.sm (by omega) v2 (by omega) (by omega)
  rw [eq1] at k1
  rw [eq2] at k2
  have m : (q + 1) * P = q * P + P := by rw [Int.add_mul]; omega
  have hq0 : 0 ≤ q * P := Int.mul_nonneg q0 (by omega)
  have a1 := gat hσ.h0 hσ.h1 s0 k1 (by omega) (by omega)
  have a2 := gat hσ.h0 hσ.h1 s0 k2 (by omega) (by omega)
  exact ⟨by rw [show nxt t = xAt (xK (pl1 (pl1 t))) from rfl, a2]; omega, k1, k2, by rw [a1]; omega, e⟩
theorem round_holds {t : IE} {x : Int} (ht : t.val σ = x) (hd : IsDue s P x) (hx : x + P ≤ 253402300799) {late : Bool} (hl : b < x + P ↔ late = true) : ∀ f ∈ roundF t late, f.holds σ := by
  obtain ⟨e1, e2, e3, e4, e5⟩ := nxt_val hσ hk ht hd hx
  have s0 := hk.s0
  have p2 := hk.p2
  have h1 := hd.1
  have hz := gz hσ.h0 hσ.h1 s0 hk.sm (by omega)
  have v0 : IE.val σ (.var 0) = s := hσ.h0
  have v1 := gp1 ht (by omega) (by omega)
  have v2 := gp1 v1 (by omega) (by omega)
  have q0 : 0 ≤ (x - s) / P := div_nonneg (by omega) (by omega)
  have m : ((x - s) / P + 1) * P = (x - s) / P * P + P := by rw [Int.add_mul]; omega
  have qle : (x - s) / P + 1 ≤ (253402300799 - s) / P := Int.le_ediv_of_mul_le (by omega) (by omega)
  have l : ∀ n, IE.val σ (.lit n) = n := fun n => rfl
  refine hcons (holds_lt (no ?_)) (hcons (holds_lt (no ?_)) (hcons (holds_lt (yes ?_)) (hcons (holds_lt (no ?_)) (hcons (holds_lt (yes ?_)) (hcons (holds_eq (no ?_)) (hcons (holds_lt (yes ?_)) (hcons (holds_lt (no ?_)) (hcons (holds_lt (yes ?_)) (seen hσ hk e1 (by omega) hx hl)))))))))
  · rw [v1, l]; omega
  · rw [v1, l]; omega
  · rw [v0, v1]; omega
  · rw [e2, l]; omega
  · rw [e2, hz]; omega
  · rw [e4, v1]; omega
  · rw [v0, v2]; omega
  · rw [e3, l]; omega
  · rw [e3, hz]; omega
theorem due_step {x : Int} (hd : IsDue s P x) : IsDue s P (x + P) := by
  have p2 := hk.p2
  refine ⟨by have := hd.1; omega, ?_⟩
  rw [show x + P - s = x - s + P by omega, Int.add_emod_right]
  exact hd.2
/-- A kind's first time. -/
structure Begins (σ : Sig) (q : Kd) (s P a b x : Int) : Prop where
  due : IsDue s P x
  val : q.first.val σ = x
  facts : ∀ late : Bool, (b < x ↔ late = true) → ∀ f ∈ q.facts late, f.holds σ
  x0 : 0 ≤ x
  xm : x ≤ 253402300799
  xP : x ≤ b ∨ x + P ≤ 253402300799 ∨ b < x
theorem time_val {q : Kd} {x : Int} (hb : Begins σ q s P a b x) : ∀ c : Nat, x + c * P ≤ 253402300799 → (q.time c).val σ = x + c * P ∧ IsDue s P (x + c * P)
  | 0, _ => by
    have e : x + ((0 : Nat) : Int) * P = x := by simp
    rw [e]
    exact ⟨hb.val, hb.due⟩
  | c + 1, hc => by
    have p2 := hk.p2
    have m : ((c + 1 : Nat) : Int) * P = c * P + P := by rw [Int.natCast_add, Int.add_mul]; simp
    rw [m] at hc ⊢
    obtain ⟨h1, h2⟩ := time_val hb c (by omega)
    refine ⟨?_, ?_⟩
    · rw [show q.time (c + 1) = nxt (q.time c) from rfl, (nxt_val hσ hk h1 h2 (by omega)).1]; omega
    · rw [← Int.add_assoc]; exact due_step hσ hk h2
theorem between_holds {q : Kd} {x : Int} (hb : Begins σ q s P a b x) : ∀ c : Nat, x + c * P ≤ b → ∀ f ∈ q.between c, f.holds σ
  | 0, _ => hnil
  | c + 1, hc => by
    have p2 := hk.p2
    have hbP := hk.bP
    have m : ((c + 1 : Nat) : Int) * P = c * P + P := by rw [Int.natCast_add, Int.add_mul]; simp
    rw [m] at hc
    obtain ⟨h1, h2⟩ := time_val hσ hk hb c (by omega)
    intro f hf
    rcases List.mem_append.1 hf with hf | hf
    · exact round_holds hσ hk h1 h2 (by omega) (no (by omega)) f hf
    · exact between_holds hb c (by omega) f hf
theorem gaps_holds {q : Kd} {x : Int} (hb : Begins σ q s P a b x) (f0 : 0 ≤ bb ∧ bb ≤ 1000000) (f1 : 0 ≤ rn ∧ rn ≤ 1000000) (f2 : 0 ≤ T ∧ T ≤ 1000000) {less : Bool} (hl : P < bb + (if rn < T then T else rn) ↔ less = true) : ∀ c : Nat, x + c * P ≤ b → ∀ f ∈ q.gaps less c, f.holds σ
  | 0, _ => hnil
  | c + 1, hc => by
    have p2 := hk.p2
    have pm := hk.pm
    have hbP := hk.bP
    have x0 := hb.x0
    have m : ((c + 1 : Nat) : Int) * P = c * P + P := by rw [Int.natCast_add, Int.add_mul]; simp
    have h1 := (time_val hσ hk hb c (by omega)).1
    have h2 := (time_val hσ hk hb (c + 1) (by omega)).1
    have c0 : 0 ≤ (c : Int) * P := Int.mul_nonneg (by omega) (by omega)
    have hg : gapE.val σ = bb + (if rn < T then T else rn) := by
      show opVal .add .i64 (yBB.val σ) (if yR.val σ < σ.var 6 then σ.var 6 else yR.val σ) = _
      rw [hσ.hBB, hσ.hR, hσ.h6]
      split <;> rw [add_op ⟨by omega, by omega⟩]
    refine hcons (holds_lt ?_) (gaps_holds hb f0 f1 f2 hl c (by omega))
    rw [hg]
    show opVal .sub .i64 ((q.time (c + 1)).val σ) ((q.time c).val σ) < _ ↔ _
    rw [h1, h2, sub_op ⟨by omega, by omega⟩, m, show x + (c * P + P) - (x + c * P) = P by omega]
    exact hl
/-- All facts: of no time, of c + 1 times. -/
theorem all_none {q : Kd} {x : Int} (hb : Begins σ q s P a b x) (hx : b < x) {less : Bool} : ∀ f ∈ q.all less 0, f.holds σ := fun f hf => by
  rcases List.mem_append.1 hf with hf | hf
  · exact ybase hσ hk f hf
  · exact hb.facts true (yes hx) f hf
theorem all_some {q : Kd} {x : Int} (hb : Begins σ q s P a b x) (f0 : 0 ≤ bb ∧ bb ≤ 1000000) (f1 : 0 ≤ rn ∧ rn ≤ 1000000) (f2 : 0 ≤ T ∧ T ≤ 1000000) {less : Bool} (hl : P < bb + (if rn < T then T else rn) ↔ less = true) (c : Nat) (hc : x + c * P ≤ b) (hn : b < x + c * P + P) : ∀ f ∈ q.all less (c + 1), f.holds σ := fun f hf => by
  have hbP := hk.bP
  have p2 := hk.p2
  have c0 : 0 ≤ (c : Int) * P := Int.mul_nonneg (by omega) (by omega)
  rcases List.mem_append.1 hf with hf | hf
  · exact ybase hσ hk f hf
  · rcases List.mem_append.1 hf with hf | hf
    · exact hb.facts false (no (by omega)) f hf
    · rcases List.mem_append.1 hf with hf | hf
      · rcases List.mem_append.1 hf with hf | hf
        · obtain ⟨h1, h2⟩ := time_val hσ hk hb c (by omega)
          exact round_holds hσ hk h1 h2 (by omega) (yes hn) f hf
        · exact between_holds hσ hk hb c hc f hf
      · exact gaps_holds hσ hk hb f0 f1 f2 hl c hc f hf
/-- How it begins. -/
theorem begins_fore (h : a < s) : Begins σ .fore s P a b s := by
  have s0 := hk.s0
  have sm := hk.sm
  have p2 := hk.p2
  have v0 : IE.val σ (.var 0) = s := hσ.h0
  have hv : (xAt (.lit 0)).val σ = s := by
    rw [gat hσ.h0 hσ.h1 s0 (q := 0) rfl (by omega) (by omega)]; omega
  have hA1 := gp1 hσ.hA hk.a0 (by omega)
  refine ⟨⟨Int.le_refl _, by simp⟩, hv, fun late hl => ?_, s0, sm, by omega⟩
  refine hcons (holds_lt (no ?_)) (hcons (holds_eq (no ?_)) (hcons (holds_lt (no ?_)) (seen hσ hk hv s0 sm hl)))
  · rw [v0, hσ.hA]; omega
  · rw [hv, hσ.hA]; omega
  · rw [v0, hA1]; omega
theorem begins_start (h : a = s) : Begins σ .start s P a b s := by
  have s0 := hk.s0
  have sm := hk.sm
  have v0 : IE.val σ (.var 0) = s := hσ.h0
  have hv : (xAt (.lit 0)).val σ = s := by
    rw [gat hσ.h0 hσ.h1 s0 (q := 0) rfl (by omega) (by omega)]; omega
  have hA : yA.val σ = s := by rw [hσ.hA, h]
  refine ⟨⟨Int.le_refl _, by simp⟩, hA, fun late hl => ?_, s0, sm, by omega⟩
  refine hcons (holds_lt (no ?_)) (hcons (holds_eq (yes ?_)) (seen hσ hk hA s0 sm hl))
  · rw [v0, hA]; omega
  · rw [hv, hA]
theorem at_a (h : s < a) : (xK yA).val σ = (a - s - 1) / P + 1 ∧ (xAt (xK yA)).val σ = due s P a ∧ due s P a ≤ a + P ∧ a ≤ due s P a := by
  have s0 := hk.s0
  have p2 := hk.p2
  have hbP := hk.bP
  have hab := hk.ab
  have k1 := gk hσ.h0 hσ.h1 s0 hk.sm (by omega) hσ.hA h (by omega)
  have hd := due_back (P := P) h
  have h1 := due_lt (P := P) (by omega) h
  have h2 := due_ge (s := s) (P := P) (a := a) (by omega)
  have q0 := div_nonneg (x := a - s - 1) (P := P) (by omega) (by omega)
  have m : 0 ≤ ((a - s - 1) / P + 1) * P := Int.mul_nonneg (by omega) (by omega)
  have e := gat hσ.h0 hσ.h1 s0 k1 m (by omega)
  exact ⟨k1, by rw [e, hd], by omega, h2⟩
theorem kfacts (h : s < a) : ¬ (xK yA).val σ < 0 ∧ (xK yA).val σ < xSz.val σ := by
  have s0 := hk.s0
  have p2 := hk.p2
  have hbP := hk.bP
  have hab := hk.ab
  obtain ⟨k1, -, h1, -⟩ := at_a hσ hk h
  have hz := gz hσ.h0 hσ.h1 s0 hk.sm (by omega)
  have hd := due_back (P := P) h
  have q0 := div_nonneg (x := a - s - 1) (P := P) (by omega) (by omega)
  have qle : (a - s - 1) / P + 1 ≤ (253402300799 - s) / P := Int.le_ediv_of_mul_le (by omega) (by omega)
  rw [k1, hz]
  omega
theorem begins_on (h : s < a) (he : due s P a = a) : Begins σ .on s P a b a := by
  have hbP := hk.bP
  have hab := hk.ab
  have p2 := hk.p2
  have v0 : IE.val σ (.var 0) = s := hσ.h0
  obtain ⟨k1, k2, k3, k4⟩ := at_a hσ hk h
  obtain ⟨c1, c2⟩ := kfacts hσ hk h
  have l : ∀ n, IE.val σ (.lit n) = n := fun n => rfl
  have hd := due_is (s := s) (P := P) (a := a) (by omega)
  rw [he] at hd
  refine ⟨hd, hσ.hA, fun late hl => ?_, hk.a0, by omega, by omega⟩
  refine hcons (holds_lt (yes ?_)) (hcons (holds_lt (no ?_)) (hcons (holds_lt (yes c2)) (hcons (holds_eq (yes ?_)) (seen hσ hk hσ.hA hk.a0 (by omega) hl))))
  · rw [v0, hσ.hA]; exact h
  · rw [l]; exact c1
  · rw [k2, hσ.hA]; exact he
theorem begins_off (h : s < a) (he : due s P a ≠ a) : Begins σ .off s P a b (due s P a) := by
  have hbP := hk.bP
  have hab := hk.ab
  have p2 := hk.p2
  have s0 := hk.s0
  have v0 : IE.val σ (.var 0) = s := hσ.h0
  obtain ⟨k1, k2, k3, k4⟩ := at_a hσ hk h
  obtain ⟨c1, c2⟩ := kfacts hσ hk h
  have l : ∀ n, IE.val σ (.lit n) = n := fun n => rfl
  have hd := due_is (s := s) (P := P) (a := a) (by omega)
  have hoff := due_off (P := P) (by omega) h he
  have hA1 := gp1 hσ.hA hk.a0 (by omega)
  have kk := gk hσ.h0 hσ.h1 s0 hk.sm (by omega) hA1 (by omega) (by omega)
  rw [hoff] at kk
  have kk2 : (xK (pl1 yA)).val σ = (xK yA).val σ := by rw [kk, k1]
  have hv : (xAt (xK (pl1 yA))).val σ = due s P a := by
    show opVal .add .i64 (σ.var 0) (opVal .mul .i64 ((xK (pl1 yA)).val σ) (σ.var 1)) = _
    rw [kk2]
    exact k2
  refine ⟨hd, hv, fun late hl => ?_, by omega, by omega, by omega⟩
  refine hcons (holds_lt (yes ?_)) (hcons (holds_lt (no ?_)) (hcons (holds_lt (yes c2)) (hcons (holds_eq (no ?_)) (hcons (holds_lt (yes ?_)) (hcons (holds_lt (no ?_)) (hcons (holds_lt (yes ?_)) (seen hσ hk hv (by omega) (by omega) hl)))))))
  · rw [v0, hσ.hA]; exact h
  · rw [l]; exact c1
  · rw [k2, hσ.hA]; exact he
  · rw [v0, hA1]; omega
  · rw [kk2, l]; exact c1
  · rw [kk2]; exact c2
end
end Go.Proofs.YtoafolgibimgjaaGreatDoor
