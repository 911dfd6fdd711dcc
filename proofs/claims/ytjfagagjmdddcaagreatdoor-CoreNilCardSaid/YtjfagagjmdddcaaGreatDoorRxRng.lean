/- Numbers between bounds: what is less than what, off their intervals. -/
import Derived.Test.YtjfagagjmdddcaaGreatDoorRxLoops
set_option linter.all false
namespace Go.RX
open Sym

def lowOf : IntKind → Int
  | .i8 => -128 | .i16 => -32768 | .i32 => -2147483648 | .i64 => -9223372036854775808
  | _ => 0
def highOf : IntKind → Int
  | .i8 => 127 | .i16 => 32767 | .i32 => 2147483647 | .i64 => 9223372036854775807
  | .u8 => 255 | .u16 => 65535 | .u32 => 4294967295 | .u64 => 18446744073709551615
theorem wrap_fits {k : IntKind} {z : Int} (h1 : lowOf k ≤ z) (h2 : z ≤ highOf k) : k.wrap z = z := by
  cases k <;> simp only [lowOf, highOf, IntKind.wrap, IntKind.bits, IntKind.signed] at * <;> simp <;> omega

noncomputable def leb (a b : Int) : Bool := match ltb b a with | true => false | false => true
theorem leb_le {a b : Int} (h : leb a b = true) : a ≤ b := by
  unfold leb at h
  split at h
  · cases h
  · rename_i h1
    rw [ltb_eq] at h1
    have := of_decide_eq_false h1
    omega
theorem ltb_lt {a b : Int} (h : ltb a b = true) : a < b := by
  rw [ltb_eq] at h
  exact of_decide_eq_true h

noncomputable def fitR (k : IntKind) (l h : Int) : Option (Int × Int) := match leb (lowOf k) l, leb h (highOf k) with
  | true, true => some (l, h)
  | _, _ => none
theorem fitR_some {k : IntKind} {l h : Int} {r : Int × Int} (e : fitR k l h = some r) {z : Int} (h1 : l ≤ z) (h2 : z ≤ h) : k.wrap z = z ∧ r.1 ≤ z ∧ z ≤ r.2 := by
  unfold fitR at e
  split at e
  · rename_i g1 g2
    simp only [Option.some.injEq] at e
    subst e
    have g1 := leb_le g1
    have g2 := leb_le g2
    exact ⟨wrap_fits (by omega) (by omega), h1, h2⟩
  · cases e

noncomputable def opRng (op : BinOp) (k : IntKind) (x y : Int × Int) : Option (Int × Int) := match op with
  | .add => fitR k (Int.add x.1 y.1) (Int.add x.2 y.2)
  | .sub => fitR k (Int.sub x.1 y.2) (Int.sub x.2 y.1)
  | .mul => (match leb 0 x.1, leb 0 y.1 with | true, true => fitR k (Int.mul x.1 y.1) (Int.mul x.2 y.2) | _, _ => none)
  | .rem => (match leb 0 x.1, ltb 0 y.1 with | true, true => fitR k 0 (Int.sub y.2 1) | _, _ => none)
  | _ => none

theorem opRng_some {op : BinOp} {k : IntKind} {x y r : Int × Int} (h : opRng op k x y = some r) {a b : Int} (h1 : x.1 ≤ a) (h2 : a ≤ x.2) (h3 : y.1 ≤ b) (h4 : b ≤ y.2) : r.1 ≤ opVal op k a b ∧ opVal op k a b ≤ r.2 := by
  cases op <;> simp only [opRng] at h <;> first | (cases h; done) | skip
  · have hs := fitR_some h (z := a + b) (show x.1 + y.1 ≤ a + b by omega) (show a + b ≤ x.2 + y.2 by omega)
    rw [opVal_int (op := .add) (k := k) (x := a) (y := b) (n := a + b) (by simp) (by simp) (by simp only [Sym.intOp]; rw [wrapped_eq, show Int.add a b = a + b from rfl, hs.1])]
    exact hs.2
  · have hs := fitR_some h (z := a - b) (show x.1 - y.2 ≤ a - b by omega) (show a - b ≤ x.2 - y.1 by omega)
    rw [opVal_int (op := .sub) (k := k) (x := a) (y := b) (n := a - b) (by simp) (by simp) (by simp only [Sym.intOp]; rw [wrapped_eq, show Int.sub a b = a - b from rfl, hs.1])]
    exact hs.2
  · split at h
    · rename_i g1 g2
      have g1 := leb_le g1
      have g2 := leb_le g2
      have hs := fitR_some h (z := a * b) (show x.1 * y.1 ≤ a * b from Int.mul_le_mul h1 h3 g2 (by omega)) (show a * b ≤ x.2 * y.2 from Int.mul_le_mul h2 h4 (by omega) (by omega))
      rw [opVal_int (op := .mul) (k := k) (x := a) (y := b) (n := a * b) (by simp) (by simp) (by simp only [Sym.intOp]; rw [wrapped_eq, show Int.mul a b = a * b from rfl, hs.1])]
      exact hs.2
    · cases h
  · split at h
    · rename_i g1 g2
      have g1 := leb_le g1
      have g2 := ltb_lt g2
      have e1 : a.tmod b = a % b := Int.tmod_eq_emod_of_nonneg (by omega)
      have e2 : 0 ≤ a % b := Int.emod_nonneg _ (by omega)
      have e3 : a % b < b := Int.emod_lt_of_pos _ (by omega)
      have hs := fitR_some h (z := a % b) e2 (show a % b ≤ y.2 - 1 by omega)
      have hb : eqb b (Int.ofNat 0) = false := by rw [eqb_eq]; exact decide_eq_false (by simp; omega)
      rw [opVal_int (op := .rem) (k := k) (x := a) (y := b) (n := a % b) (by simp) (by simp) (by simp only [Sym.intOp, hb]; rw [int_eq, e1])]
      exact hs.2
    · cases h

noncomputable def maxI (a b : Int) : Int := match ltb a b with | true => b | false => a
noncomputable def minI (a b : Int) : Int := match ltb b a with | true => b | false => a
theorem maxI_eq (a b : Int) : maxI a b = if a < b then b else a := by unfold maxI; rw [ltb_eq]; by_cases h : a < b <;> simp [h]
theorem minI_eq (a b : Int) : minI a b = if b < a then b else a := by unfold minI; rw [ltb_eq]; by_cases h : b < a <;> simp [h]

/-- The interval of a number; of a base it is given. -/
noncomputable def rng (B : IE → Option (Int × Int)) : IE → Option (Int × Int)
  | .lit n => some (n, n)
  | .bin op k a b => (match rng B a, rng B b with | some x, some y => opRng op k x y | _, _ => none)
  | .conv k a => (match rng B a with | some x => fitR k x.1 x.2 | none => none)
  | .neg _ _ => none
  | .max a b => (match rng B a, rng B b with | some x, some y => some (maxI x.1 y.1, maxI x.2 y.2) | _, _ => none)
  | .min a b => (match rng B a, rng B b with | some x, some y => some (minI x.1 y.1, minI x.2 y.2) | _, _ => none)
  | e => B e

/-- The bases lie so. -/
def Based (σ : Sig) (B : IE → Option (Int × Int)) : Prop := ∀ e r, B e = some r → r.1 ≤ e.val σ ∧ e.val σ ≤ r.2

theorem rng_some {σ : Sig} {B : IE → Option (Int × Int)} (hB : Based σ B) : ∀ {e : IE} {r : Int × Int}, rng B e = some r → r.1 ≤ e.val σ ∧ e.val σ ≤ r.2
  | .lit n, r, h => by simp only [rng, Option.some.injEq] at h; subst h; simp [IE.val]
  | .var i, r, h => hB _ _ h
  | .len i, r, h => hB _ _ h
  | .sel a i c, r, h => hB _ _ h
  | .fn f l, r, h => hB _ _ h
  | .neg k a, r, h => by simp [rng] at h
  | .bin op k a b, r, h => by
    simp only [rng] at h
    split at h
    · rename_i x y hx hy
      have hx := rng_some hB hx
      have hy := rng_some hB hy
      simp only [IE.val]
      exact opRng_some h hx.1 hx.2 hy.1 hy.2
    · cases h
  | .conv k a, r, h => by
    simp only [rng] at h
    split at h
    · rename_i x hx
      have hx := rng_some hB hx
      have := fitR_some h hx.1 hx.2
      simp only [IE.val]
      rw [this.1]
      exact this.2
    · cases h
  | .max a b, r, h => by
    simp only [rng] at h
    split at h
    · rename_i x y hx hy
      have hx := rng_some hB hx
      have hy := rng_some hB hy
      simp only [Option.some.injEq] at h
      subst h
      simp only [IE.val, maxI_eq]
      repeat' split
      all_goals omega
    · cases h
  | .min a b, r, h => by
    simp only [rng] at h
    split at h
    · rename_i x y hx hy
      have hx := rng_some hB hx
      have hy := rng_some hB hy
      simp only [Option.some.injEq] at h
      subst h
      simp only [IE.val, minI_eq]
      repeat' split
      all_goals omega
    · cases h

/-- What is less, off intervals; else off facts. -/
noncomputable def rngLt (B : IE → Option (Int × Int)) (F : List Fact) (a b : IE) : Option Bool := match rng B a, rng B b with
  | some x, some y => (match ltb x.2 y.1, leb y.2 x.1 with | true, _ => some true | _, true => some false | _, _ => factLt F a b)
  | _, _ => factLt F a b
noncomputable def rngEq (B : IE → Option (Int × Int)) (F : List Fact) (a b : IE) : Option Bool := match IE.same a b with
  | true => some true
  | false => match rng B a, rng B b with
    | some x, some y => (match ltb x.2 y.1, ltb y.2 x.1 with | true, _ => some false | _, true => some false | _, _ => factEq F a b)
    | _, _ => factEq F a b

theorem rng_num {E : Env} {B : IE → Option (Int × Int)} {F : List Fact} (h1 : E.lt = rngLt B F) (h2 : E.eq = rngEq B F) (hB : Based E.sig B) (hF : ∀ f ∈ F, f.holds E.sig) (hr : ∀ a ks, E.rows a = some ks → (E.sig.row a).2.2.1 = ks.length) (hp : ∀ a e a', E.pre a e = some a' → ∃ b x sz n m : Nat, E.sig.row a = (b, x, sz, n) ∧ E.sig.row a' = (b, x, sz, m) ∧ e.val E.sig = m ∧ m ≤ n := by intro _ _ _ h; cases h) (ho : ∀ f ∈ E.overs, OverOk E.P f := by intro f h; cases h) : NumOk E := by
  have base : NumOk { E with lt := factLt F, eq := factEq F } := fact_num rfl rfl hF hr hp ho
  refine ⟨fun a b r h => ?_, fun a b r h => ?_, hr, hp, ho⟩
  · rw [h1] at h
    unfold rngLt at h
    split at h
    · rename_i x y hx hy
      have hx := rng_some hB hx
      have hy := rng_some hB hy
      split at h
      · rename_i g
        have g := ltb_lt g
        simp only [Option.some.injEq] at h
        subst h
        rw [ltb_eq]
        exact decide_eq_true (by omega)
      · rename_i g _
        have g := leb_le g
        simp only [Option.some.injEq] at h
        subst h
        rw [ltb_eq]
        exact decide_eq_false (by omega)
      · exact base.lt a b r h
    · exact base.lt a b r h
  · rw [h2] at h
    unfold rngEq at h
    split at h
    · rename_i g
      have g := IE.same_eq g
      subst g
      simp only [Option.some.injEq] at h
      subst h
      rw [eqb_eq]
      exact decide_eq_true rfl
    · split at h
      · rename_i x y hx hy
        have hx := rng_some hB hx
        have hy := rng_some hB hy
        split at h
        · rename_i g
          have g := ltb_lt g
          simp only [Option.some.injEq] at h
          subst h
          rw [eqb_eq]
          exact decide_eq_false (by omega)
        · rename_i g _
          have g := ltb_lt g
          simp only [Option.some.injEq] at h
          subst h
          rw [eqb_eq]
          exact decide_eq_false (by omega)
        · exact base.eq a b r h
      · exact base.eq a b r h
end Go.RX
