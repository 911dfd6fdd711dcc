/- The operations: operands, types, numbers. -/
import Derived.Test.YtjfagagjmdddcaaGreatDoorRxHeap
import Derived.Laws.Entries
import Derived.Laws.MakeOwn
import Derived.Laws.StructEq
import Derived.Laws.BytesString
set_option linter.all false
namespace Go.RX
open Sym

/-! ### Operands -/
def Good (ρ : Ren) (cx : Cx) (e fr : List SV) (a : Act) : Operand → Prop
  | .tmp t => VRel ρ ((slotK cx t).ev e fr) (a.tmps.getD t undef)
  | _ => True

theorem opd_sound {ρ : Ren} {cx : Cx} {e fr : List SV} {a : Act} {o : Operand} {f : List SV → List SV → SV} (h : opd cx o = some ⟨f⟩) (hg : Good ρ cx e fr a o) : VRel ρ (f e fr) (a.eval o) := by
  cases o with
  | tmp t =>
    simp only [opd, Option.some.injEq] at h
    have : f = (slotK cx t).ev := by rw [h]
    subst this
    exact hg
  | const v =>
    simp only [opd] at h
    split at h
    · rename_i x hx
      simp only [Option.some.injEq, Opd.mk.injEq] at h
      subst h
      exact ofValue_sound v hx
    · cases h
  | global g =>
    simp only [opd, Option.some.injEq, Opd.mk.injEq] at h
    subst h
    exact .gptr g 0
  | func f' =>
    simp only [opd, Option.some.injEq, Opd.mk.injEq] at h
    subst h
    exact .func f' .nil .nil

theorem opds_sound {ρ : Ren} {cx : Cx} {e fr : List SV} {a : Act} : ∀ {os : List Operand} {g : List SV → List SV → List SV}, opds cx os = some ⟨g⟩ → (∀ o ∈ os, Good ρ cx e fr a o) → VRels ρ (g e fr) (os.map a.eval)
  | [], g, h, _ => by
    simp only [opds, Option.some.injEq, Opds.mk.injEq] at h
    subst h
    exact .nil
  | o :: os, g, h, hg => by
    simp only [opds] at h
    split at h
    · rename_i f g' h1 h2
      simp only [Option.some.injEq, Opds.mk.injEq] at h
      subst h
      exact .cons (opd_sound h1 (hg o (by simp))) (opds_sound h2 fun o ho => hg o (by simp [ho]))
    · cases h

inductive PRel (ρ : Ren) : List (Nat × SV) → List (Nat × Value) → Prop
  | nil : PRel ρ [] []
  | cons {i : Nat} {x : SV} {v : Value} {xs : List (Nat × SV)} {vs : List (Nat × Value)} (h : VRel ρ x v) (hs : PRel ρ xs vs) : PRel ρ ((i, x) :: xs) ((i, v) :: vs)

theorem parts_sound {ρ : Ren} {cx : Cx} {e fr : List SV} {a : Act} : ∀ {os : List (Nat × Operand)} {g : List SV → List SV → List (Nat × SV)}, partsOf cx os = some ⟨g⟩ → (∀ o ∈ os, Good ρ cx e fr a o.2) → PRel ρ (g e fr) (os.map fun (i, x) => (i, a.eval x))
  | [], g, h, _ => by
    simp only [partsOf, Option.some.injEq, Parts.mk.injEq] at h
    subst h
    exact .nil
  | (i, o) :: os, g, h, hg => by
    simp only [partsOf] at h
    split at h
    · rename_i f g' h1 h2
      simp only [Option.some.injEq, Parts.mk.injEq] at h
      subst h
      exact .cons (opd_sound h1 (hg (i, o) (by simp))) (parts_sound h2 fun o ho => hg o (by simp [ho]))
    · cases h

/-! ### Numbers -/
theorem intK_eq {α : Type} (n : Int) (k : Int → α) : intK n k = k n := by cases n <;> simp [intK, force_eq]
theorem int_eq (k : IntKind) (n : Int) : Sym.int k n = some (.int k n) := by simp [Sym.int, intK_eq]
theorem wrapSlow_eq (k : IntKind) (n : Int) : wrapSlow k n = some (.int k (k.wrap n)) := by simp [wrapSlow, int_eq]

theorem wrap_u64' (n : Int) : IntKind.u64.wrap n = n % 18446744073709551616 := by simp [IntKind.wrap, IntKind.bits, IntKind.signed]
theorem wrap_u64_small (m : Nat) (h : m ≤ 18446744073709551615) : IntKind.u64.wrap (.ofNat m) = .ofNat m := by
  rw [wrap_u64', Int.ofNat_eq_natCast]
  omega

theorem wrap_i64_small (m : Nat) (h : m ≤ 9223372036854775807) : IntKind.i64.wrap (.ofNat m) = .ofNat m := by
  rw [IntKind.wrap_i64, Int.ofNat_eq_natCast]
  omega
theorem wrap_i64_neg (m : Nat) (h : m ≤ 9223372036854775807) : IntKind.i64.wrap (.negSucc m) = .negSucc m := by
  rw [IntKind.wrap_i64, Int.negSucc_eq]
  omega

theorem wrapped_eq (k : IntKind) (n : Int) : wrapped k n = some (.int k (k.wrap n)) := by
  unfold wrapped
  rw [intK_eq]
  cases k with
  | i64 =>
    cases n with
    | ofNat m =>
      cases hb : Nat.ble m 9223372036854775807 with
      | true => simp only [hb]; rw [wrap_i64_small m (Nat.le_of_ble_eq_true hb)]
      | false => simp only [hb, wrapSlow_eq]
    | negSucc m =>
      cases hb : Nat.ble m 9223372036854775807 with
      | true => simp only [hb]; rw [wrap_i64_neg m (Nat.le_of_ble_eq_true hb)]
      | false => simp only [hb, wrapSlow_eq]
  | u64 =>
    cases n with
    | ofNat m =>
      cases hb : Nat.ble m 18446744073709551615 with
      | true => simp only [hb]; rw [wrap_u64_small m (Nat.le_of_ble_eq_true hb)]
      | false => simp only [hb, wrapSlow_eq]
    | negSucc m => simp only [wrapSlow_eq]
  | _ => simp only [wrapSlow_eq]

theorem ltb_eq (x y : Int) : ltb x y = decide (x < y) := by
  cases x <;> cases y <;> simp only [ltb]
  · rename_i a b
    by_cases h : a < b
    · rw [Nat.ble_eq_true_of_le h]; symm; simp; omega
    · have : Nat.ble (Nat.succ a) b = false := by
        cases hb : Nat.ble (Nat.succ a) b
        · rfl
        · exact absurd (Nat.le_of_ble_eq_true hb) h
      rw [this]; symm; simp; omega
  · symm; simp; omega
  · symm; simp; omega
  · rename_i a b
    by_cases h : b < a
    · rw [Nat.ble_eq_true_of_le h]; symm; simp; omega
    · have : Nat.ble (Nat.succ b) a = false := by
        cases hb : Nat.ble (Nat.succ b) a
        · rfl
        · exact absurd (Nat.le_of_ble_eq_true hb) h
      rw [this]; symm; simp; omega

theorem nbeq_eq (a b : Nat) : Nat.beq a b = decide (a = b) := by
  by_cases h : a = b
  · subst h; simp
  · have : Nat.beq a b = false := by
      cases hb : Nat.beq a b
      · rfl
      · exact absurd (Nat.eq_of_beq_eq_true hb) h
    rw [this]; simp [h]

theorem eqb_eq (x y : Int) : eqb x y = decide (x = y) := by
  cases x <;> cases y <;> simp only [eqb, nbeq_eq]
  · rw [decide_eq_decide]; constructor
    · intro h; rw [h]
    · intro h; exact Int.ofNat.inj h
  · symm; simp
  · symm; simp
  · simp

theorem kindEq_eq (a b : IntKind) : kindEq a b = decide (a = b) := by
  cases a <;> cases b <;> rfl

theorem asNat_some {x : SV} {n : Nat} (h : asNat x = some n) : ∃ k, x = .int k (n : Int) := by
  unfold asNat at h
  split at h
  · simp only [Option.some.injEq] at h; subst h; exact ⟨_, rfl⟩
  · cases h

theorem asNat_rel {ρ : Ren} {x : SV} {v : Value} {n : Nat} (h : asNat x = some n) (hv : VRel ρ x v) : ∃ k, v = .int k (n : Int) := by
  obtain ⟨k, rfl⟩ := asNat_some h
  cases hv
  exact ⟨k, rfl⟩

/-! ### Types -/
section
variable {E : Env}
theorem sizeOf_run {t : TypeId} {n : Nat} (h : Sym.sizeOf E t = some n) (w : World) : (Go.sizeOf t).run E.P w = .ok n w := by
  unfold Sym.sizeOf at h
  split at h
  · rename_i i hi
    simp only [Option.some.injEq] at h
    subst h
    simp [Go.sizeOf, typeInfo, hi]
  · cases h

theorem zero_run {t : TypeId} {z : SV} (h : Sym.zero E t = some z) (ρ : Ren) : ∃ v, VRel ρ z v ∧ ∀ w, (zeroValue t).run E.P w = .ok v w := by
  unfold Sym.zero at h
  split at h
  · rename_i i hi
    split at h
    · rename_i v hv
      exact ⟨v, ofValue_sound v h, fun w => by simp [zeroValue, typeInfo, hi, hv]⟩
    · cases h
  · cases h

theorem ofValue_unknown : ∀ v, ofValue v ≠ some .unknown
  | .bool b, h => by simp [ofValue] at h
  | .int k n, h => by simp [ofValue] at h
  | .string s, h => by simp [ofValue] at h
  | .pointer none, h => by simp [ofValue] at h
  | .pointer (some a), h => by simp [ofValue] at h
  | .slice a l c, h => by
    cases a with
    | some a => simp [ofValue] at h
    | none => cases l with
      | succ l => simp [ofValue] at h
      | zero => cases c with
        | succ c => simp [ofValue] at h
        | zero => simp [ofValue] at h
  | .map none, h => by simp [ofValue] at h
  | .map (some a), h => by simp [ofValue] at h
  | .nilFunc, h => by simp [ofValue] at h
  | .nilIface, h => by simp [ofValue] at h
  | .func fn ⟨a⟩ ⟨b⟩, h => by
    cases fn <;> first | (simp [ofValue] at h; done) | skip
    cases a with
    | cons _ _ => simp [ofValue] at h
    | nil => cases b with
      | cons _ _ => simp [ofValue] at h
      | nil => simp [ofValue] at h
  | .agg ⟨cs⟩, h => by
    simp only [ofValue] at h
    cases e : ofValues cs <;> simp [e] at h
  | .tuple ⟨cs⟩, h => by
    simp only [ofValue] at h
    cases e : ofValues cs <;> simp [e] at h
  | .float _ _, h => by simp [ofValue] at h
  | .complex _ _ _, h => by simp [ofValue] at h
  | .chan _, h => by simp [ofValue] at h
  | .iface _ _, h => by simp [ofValue] at h

theorem zero_known {t : TypeId} {z : SV} (h : Sym.zero E t = some z) : z ≠ .unknown := by
  unfold Sym.zero at h
  split at h
  · split at h
    · exact fun e => ofValue_unknown _ (e ▸ h)
    · cases h
  · cases h

theorem isAgg_run {t : TypeId} {b : Bool} (h : Sym.isAgg E t = some b) (w : World) : (Go.isAgg t).run E.P w = .ok b w := by
  unfold Sym.isAgg at h
  split at h <;> rename_i hu <;> first | (simp only [Option.some.injEq] at h; subst h) | cases h
  · simp [Go.isAgg, run_underlying hu]
  · simp [Go.isAgg, run_underlying hu]
  · rename_i h1 h2
    simp only [Go.isAgg, Sem.run_bind, run_underlying hu, Result.andThen_ok]
    rfl
end
end Go.RX
