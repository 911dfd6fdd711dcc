import Derived.Test.YtcbkglclienegaaGreatDoorRxA
import Derived.Laws.Entries
import Derived.Laws.MakeOwn
import Derived.Laws.StructEq
import Derived.Laws.BytesString
import Derived.LaidEqlPtr
set_option linter.all false
/- The operations: operands, types, numbers. -/
namespace Go.RX
open Sym

/-! ### Operands -/
def Good (ρ : Ren) (cx : Cx) (e fr : List SV) (a : Act) : Operand → Prop
  | .tmp t => VRel ρ ((slotK cx t).ev e fr) (a.tmps.getD t undef)
  | _ => True

theorem opd_sound {ρ : Ren} {cx : Cx} {e fr : List SV} {a : Act} {o : Operand} {f : List SV → List SV → SV} (h : opd cx o = some ⟨f⟩) (hg : Good ρ cx e fr a o) : VRel ρ (f e fr) (a.eval o) := by
  cases o with
  | tmp t =>
    simp only [opd, Option.some.injEq] at h
    have : f = (slotK cx t).ev := by rw [h]
    subst this
    exact hg
  | const v =>
    simp only [opd] at h
    split at h
    · rename_i x hx
      simp only [Option.some.injEq, Opd.mk.injEq] at h
      subst h
      exact ofValue_sound v hx
    · cases h
  | global g =>
    simp only [opd, Option.some.injEq, Opd.mk.injEq] at h
    subst h
    exact .gptr g 0
  | func f' =>
    simp only [opd, Option.some.injEq, Opd.mk.injEq] at h
    subst h
    exact .func f' .nil .nil

theorem opds_sound {ρ : Ren} {cx : Cx} {e fr : List SV} {a : Act} : ∀ {os : List Operand} {g : List SV → List SV → List SV}, opds cx os = some ⟨g⟩ → (∀ o ∈ os, Good ρ cx e fr a o) → VRels ρ (g e fr) (os.map a.eval)
  | [], g, h, _ => by
    simp only [opds, Option.some.injEq, Opds.mk.injEq] at h
    subst h
    exact .nil
  | o :: os, g, h, hg => by
    simp only [opds] at h
    split at h
    · rename_i f g' h1 h2
      simp only [Option.some.injEq, Opds.mk.injEq] at h
      subst h
      exact .cons (opd_sound h1 (hg o (by simp))) (opds_sound h2 fun o ho => hg o (by simp [ho]))
    · cases h

inductive PRel (ρ : Ren) : List (Nat × SV) → List (Nat × Value) → Prop
  | nil : PRel ρ [] []
  | cons {i : Nat} {x : SV} {v : Value} {xs : List (Nat × SV)} {vs : List (Nat × Value)} (h : VRel ρ x v) (hs : PRel ρ xs vs) : PRel ρ ((i, x) :: xs) ((i, v) :: vs)

theorem parts_sound {ρ : Ren} {cx : Cx} {e fr : List SV} {a : Act} : ∀ {os : List (Nat × Operand)} {g : List SV → List SV → List (Nat × SV)}, partsOf cx os = some ⟨g⟩ → (∀ o ∈ os, Good ρ cx e fr a o.2) → PRel ρ (g e fr) (os.map fun (i, x) => (i, a.eval x))
  | [], g, h, _ => by
    simp only [partsOf, Option.some.injEq, Parts.mk.injEq] at h
    subst h
    exact .nil
  | (i, o) :: os, g, h, hg => by
    simp only [partsOf] at h
    split at h
    · rename_i f g' h1 h2
      simp only [Option.some.injEq, Parts.mk.injEq] at h
      subst h
      exact .cons (opd_sound h1 (hg (i, o) (by simp))) (parts_sound h2 fun o ho => hg o (by simp [ho]))
    · cases h

/-! ### Numbers -/
theorem intK_eq {α : Type} (n : Int) (k : Int → α) : intK n k = k n := by cases n <;> simp [intK, force_eq]
theorem int_eq (k : IntKind) (n : Int) : Sym.int k n = some (.int k n) := by simp [Sym.int, intK_eq]
theorem wrapSlow_eq (k : IntKind) (n : Int) : wrapSlow k n = some (.int k (k.wrap n)) := by simp [wrapSlow, int_eq]

theorem wrap_u64' (n : Int) : IntKind.u64.wrap n = n % 18446744073709551616 := by simp [IntKind.wrap, IntKind.bits, IntKind.signed]
theorem wrap_u64_small (m : Nat) (h : m ≤ 18446744073709551615) : IntKind.u64.wrap (.ofNat m) = .ofNat m := by
  rw [wrap_u64', Int.ofNat_eq_natCast]
  omega

theorem wrap_i64_small (m : Nat) (h : m ≤ 9223372036854775807) : IntKind.i64.wrap (.ofNat m) = .ofNat m := by
  rw [IntKind.wrap_i64, Int.ofNat_eq_natCast]
  omega
theorem wrap_i64_neg (m : Nat) (h : m ≤ 9223372036854775807) : IntKind.i64.wrap (.negSucc m) = .negSucc m := by
  rw [IntKind.wrap_i64, Int.negSucc_eq]
  omega

theorem wrapped_eq (k : IntKind) (n : Int) : wrapped k n = some (.int k (k.wrap n)) := by
  unfold wrapped
  rw [intK_eq]
  cases k with
  | i64 =>
    cases n with
    | ofNat m =>
      cases hb : Nat.ble m 9223372036854775807 with
      | true => simp only [hb]; rw [wrap_i64_small m (Nat.le_of_ble_eq_true hb)]
      | false => simp only [hb, wrapSlow_eq]
    | negSucc m =>
      cases hb : Nat.ble m 9223372036854775807 with
      | true => simp only [hb]; rw [wrap_i64_neg m (Nat.le_of_ble_eq_true hb)]
      | false => simp only [hb, wrapSlow_eq]
  | u64 =>
    cases n with
    | ofNat m =>
      cases hb : Nat.ble m 18446744073709551615 with
      | true => simp only [hb]; rw [wrap_u64_small m (Nat.le_of_ble_eq_true hb)]
      | false => simp only [hb, wrapSlow_eq]
    | negSucc m => simp only [wrapSlow_eq]
  | _ => simp only [wrapSlow_eq]

theorem ltb_eq (x y : Int) : ltb x y = decide (x < y) := by
  cases x <;> cases y <;> simp only [ltb]
  · rename_i a b
    by_cases h : a < b
    · rw [Nat.ble_eq_true_of_le h]; symm; simp; omega
    · have : Nat.ble (Nat.succ a) b = false := by
        cases hb : Nat.ble (Nat.succ a) b
        · rfl
        · exact absurd (Nat.le_of_ble_eq_true hb) h
      rw [this]; symm; simp; omega
  · symm; simp; omega
  · symm; simp; omega
  · rename_i a b
    by_cases h : b < a
    · rw [Nat.ble_eq_true_of_le h]; symm; simp; omega
    · have : Nat.ble (Nat.succ b) a = false := by
        cases hb : Nat.ble (Nat.succ b) a
        · rfl
        · exact absurd (Nat.le_of_ble_eq_true hb) h
      rw [this]; symm; simp; omega

theorem nbeq_eq (a b : Nat) : Nat.beq a b = decide (a = b) := by
  by_cases h : a = b
  · subst h; simp
  · have : Nat.beq a b = false := by
      cases hb : Nat.beq a b
      · rfl
      · exact absurd (Nat.eq_of_beq_eq_true hb) h
    rw [this]; simp [h]

theorem eqb_eq (x y : Int) : eqb x y = decide (x = y) := by
  cases x <;> cases y <;> simp only [eqb, nbeq_eq]
  · rw [decide_eq_decide]; constructor
    · intro h; rw [h]
    · intro h; exact Int.ofNat.inj h
  · symm; simp
  · symm; simp
  · simp

theorem kindEq_eq (a b : IntKind) : kindEq a b = decide (a = b) := by
  cases a <;> cases b <;> rfl

theorem asNat_some {x : SV} {n : Nat} (h : asNat x = some n) : ∃ k, x = .int k (n : Int) := by
  unfold asNat at h
  split at h
  · simp only [Option.some.injEq] at h; subst h; exact ⟨_, rfl⟩
  · cases h

theorem asNat_rel {ρ : Ren} {x : SV} {v : Value} {n : Nat} (h : asNat x = some n) (hv : VRel ρ x v) : ∃ k, v = .int k (n : Int) := by
  obtain ⟨k, rfl⟩ := asNat_some h
  cases hv
  exact ⟨k, rfl⟩

/-! ### Types -/
section
variable {E : Env}
theorem sizeOf_run {t : TypeId} {n : Nat} (h : Sym.sizeOf E t = some n) (w : World) : (Go.sizeOf t).run E.P w = .ok n w := by
  unfold Sym.sizeOf at h
  split at h
  · rename_i i hi
    simp only [Option.some.injEq] at h
    subst h
    simp [Go.sizeOf, typeInfo, hi]
  · cases h

theorem zero_run {t : TypeId} {z : SV} (h : Sym.zero E t = some z) (ρ : Ren) : ∃ v, VRel ρ z v ∧ ∀ w, (zeroValue t).run E.P w = .ok v w := by
  unfold Sym.zero at h
  split at h
  · rename_i i hi
    split at h
    · rename_i v hv
      exact ⟨v, ofValue_sound v h, fun w => by simp [zeroValue, typeInfo, hi, hv]⟩
    · cases h
  · cases h

theorem ofValue_unknown : ∀ v, ofValue v ≠ some .unknown
  | .bool b, h => by simp [ofValue] at h
  | .int k n, h => by simp [ofValue] at h
  | .string s, h => by simp [ofValue] at h
  | .pointer none, h => by simp [ofValue] at h
  | .pointer (some a), h => by simp [ofValue] at h
  | .slice a l c, h => by
    cases a with
    | some a => simp [ofValue] at h
    | none => cases l with
      | succ l => simp [ofValue] at h
      | zero => cases c with
        | succ c => simp [ofValue] at h
        | zero => simp [ofValue] at h
  | .map none, h => by simp [ofValue] at h
  | .map (some a), h => by simp [ofValue] at h
  | .nilFunc, h => by simp [ofValue] at h
  | .nilIface, h => by simp [ofValue] at h
  | .func fn ⟨a⟩ ⟨b⟩, h => by
    cases fn <;> first | (simp [ofValue] at h; done) | skip
    cases a with
    | cons _ _ => simp [ofValue] at h
    | nil => cases b with
      | cons _ _ => simp [ofValue] at h
      | nil => simp [ofValue] at h
  | .agg ⟨cs⟩, h => by
    simp only [ofValue] at h
    cases e : ofValues cs <;> simp [e] at h
  | .tuple ⟨cs⟩, h => by
    simp only [ofValue] at h
    cases e : ofValues cs <;> simp [e] at h
  | .float _ _, h => by simp [ofValue] at h
  | .complex _ _ _, h => by simp [ofValue] at h
  | .chan _, h => by simp [ofValue] at h
  | .iface _ _, h => by simp [ofValue] at h

theorem zero_known {t : TypeId} {z : SV} (h : Sym.zero E t = some z) : z ≠ .unknown := by
  unfold Sym.zero at h
  split at h
  · split at h
    · exact fun e => ofValue_unknown _ (e ▸ h)
    · cases h
  · cases h

theorem isAgg_run {t : TypeId} {b : Bool} (h : Sym.isAgg E t = some b) (w : World) : (Go.isAgg t).run E.P w = .ok b w := by
  unfold Sym.isAgg at h
  split at h <;> rename_i hu <;> first | (simp only [Option.some.injEq] at h; subst h) | cases h
  · simp [Go.isAgg, run_underlying hu]
  · simp [Go.isAgg, run_underlying hu]
  · rename_i h1 h2
    simp only [Go.isAgg, Sem.run_bind, run_underlying hu, Result.andThen_ok]
    rfl
end
end Go.RX

/- The operations that look at no memory: numbers, strings, equality. -/
namespace Go.RX
open Sym
section
variable {E : Env}

/-! ### Numbers -/
theorem intOp_sound {op : BinOp} {k : IntKind} {a b : Int} {x : SV} (h : intOp op k a b = some x) (ρ : Ren) :
    ∃ v, VRel ρ x v ∧ ∀ w, (match op with
      | .add | .sub | .mul => Op.intArith op k a b
      | .quo | .rem => Op.intDiv op k a b
      | .and | .or | .xor | .andNot => Op.intBits op k a b
      | _ => Op.intCmp op a b).run E.P w = .ok v w := by
  cases op <;> simp only [intOp, wrapped_eq, int_eq, bitsOp, wrapSlow_eq, eqb_eq, ltb_eq] at h
  case quo =>
    by_cases hb : b = 0
    · simp [hb] at h
    · simp [hb] at h; subst h; exact ⟨_, .int _ _, fun w => by simp [Op.intDiv, hb]⟩
  case rem =>
    by_cases hb : b = 0
    · simp [hb] at h
    · simp [hb] at h; subst h; exact ⟨_, .int _ _, fun w => by simp [Op.intDiv, hb]⟩
  all_goals first | (cases h; done) | (simp only [Option.some.injEq] at h; subst h)
  all_goals first
    | exact ⟨_, .int _ _, fun w => rfl⟩
    | skip
  · exact ⟨_, .bool _, fun w => rfl⟩
  · refine ⟨_, .bool _, fun w => ?_⟩
    show Result.ok (Value.bool (a != b)) w = _
    simp [bne]; rfl
  · exact ⟨_, .bool _, fun w => rfl⟩
  · refine ⟨_, .bool _, fun w => ?_⟩
    show Result.ok (Value.bool (decide (a ≤ b))) w = _
    congr 2
    by_cases hl : a ≤ b <;> simp [hl, Int.not_lt] <;> omega
  · exact ⟨_, .bool _, fun w => rfl⟩
  · refine ⟨_, .bool _, fun w => ?_⟩
    show Result.ok (Value.bool (decide (a ≥ b))) w = _
    congr 2
    by_cases hl : a ≥ b <;> simp [hl] <;> omega

theorem shiftOp_sound {op : BinOp} {k yk : IntKind} {a b : Int} {x : SV} (h : shiftOp op k a b = some x) (ρ : Ren) :
    ∃ v, VRel ρ x v ∧ ∀ w, (Op.shift op k a yk b).run E.P w = .ok v w := by
  cases b with
  | negSucc n => simp [shiftOp] at h
  | ofNat n =>
    have hn : ¬ (Int.ofNat n < 0) := by simp
    cases op <;> simp only [shiftOp, wrapped_eq, int_eq, Option.some.injEq] at h
    case shl => subst h; exact ⟨_, .int _ _, fun w => by simp only [Op.shift, if_neg hn]; simp⟩
    case shr => subst h; exact ⟨_, .int _ _, fun w => by simp only [Op.shift, if_neg hn]; simp⟩
    all_goals cases h

/-! ### Strings -/
theorem strEq_eq (a b : ByteArray) : strEq a b = (a.toList == b.toList) := by rw [ByteArray.toList_eq, ByteArray.toList_eq]; rfl

theorem strOp_sound {op : BinOp} {a b : ByteArray} {x : SV} (h : strOp op a b = some x) (ρ : Ren) :
    ∃ v, VRel ρ x v ∧ ∀ w, (Op.stringOp op a b).run E.P w = .ok v w := by
  have hmax : IntKind.i64.max = 9223372036854775807 := rfl
  cases op <;> simp only [strOp, strEq_eq, ← ByteArray.toList_eq] at h
  case add =>
    cases hb : Nat.ble (a.size + b.size) 9223372036854775807 with
    | true =>
      simp only [hb, Option.some.injEq] at h; subst h
      have := Nat.le_of_ble_eq_true hb
      refine ⟨_, .string _, fun w => ?_⟩
      simp only [Op.stringOp, hmax]
      rw [if_neg (by omega)]
      rfl
    | false => simp [hb] at h
  all_goals first | (cases h; done) | (simp only [Option.some.injEq] at h; subst h; exact ⟨_, .bool _, fun w => rfl⟩)

/-! ### Parts -/
theorem VRels.drop {ρ : Ren} : ∀ {xs : List SV} {vs : List Value} (n : Nat), VRels ρ xs vs → VRels ρ (xs.drop n) (vs.drop n)
  | _, _, 0, h => by simpa using h
  | _, _, _ + 1, .nil => by simpa using .nil
  | _, _, n + 1, .cons _ hs => by simpa using VRels.drop n hs
theorem VRels.take {ρ : Ren} : ∀ {xs : List SV} {vs : List Value} (n : Nat), VRels ρ xs vs → VRels ρ (xs.take n) (vs.take n)
  | _, _, 0, _ => by simpa using .nil
  | _, _, _ + 1, .nil => by simpa using .nil
  | _, _, n + 1, .cons h hs => by simpa using .cons h (VRels.take n hs)

theorem wide_run {t : TypeId} {wd : Option Nat} (h : wide E t = some wd) : (wd = none ∧ ∀ w, (Go.isAgg t).run E.P w = .ok false w) ∨ ∃ n, wd = some n ∧ (∀ w, (Go.isAgg t).run E.P w = .ok true w) ∧ ∀ w, (Go.sizeOf t).run E.P w = .ok n w := by
  unfold wide at h
  split at h
  · rename_i ha
    split at h
    · rename_i n hn
      simp only [Option.some.injEq] at h; subst h
      exact .inr ⟨n, rfl, isAgg_run ha, sizeOf_run hn⟩
    · cases h
  · rename_i ha
    simp only [Option.some.injEq] at h; subst h
    exact .inl ⟨rfl, isAgg_run ha⟩
  · cases h

theorem pick_part {t : TypeId} {wd : Option Nat} (hw : wide E t = some wd) {ρ : Ren} {cs : List SV} {vs : Array Value} {off : Nat} {x : SV} (hp : pick cs off wd = some x) (hr : VRels ρ cs vs.toList) :
    ∃ v, VRel ρ x v ∧ ∀ w, (Go.part t vs off).run E.P w = .ok v w := by
  rcases wide_run hw with ⟨rfl, hg⟩ | ⟨n, rfl, hg, hn⟩
  · simp only [pick, nth_eq] at hp
    obtain ⟨v, h1, h2⟩ := hr.get hp
    have h1' : vs[off]? = some v := by simpa using h1
    exact ⟨v, h2, fun w => by simp [Go.part, hg, h1']⟩
  · simp only [pick] at hp
    split at hp
    · rename_i l hl
      simp only [Option.some.injEq] at hp; subst hp
      obtain ⟨h1, h2, h3⟩ := seg_some _ _ _ _ hl
      subst h2
      have := (hr.drop off).take n
      refine ⟨_, .agg this, fun w => ?_⟩
      simp only [Go.part, Sem.run_bind, hg, hn, Result.andThen_ok, if_true]
      show Result.ok _ w = _
      congr 2
      apply Array.ext'
      simp
    · cases hp

theorem part_sound {t : TypeId} {ρ : Ren} {cs : List SV} {vs : List Value} {off : Nat} {x : SV} (hp : Sym.part E t cs off = some x) (hr : VRels ρ cs vs) :
    ∃ v, VRel ρ x v ∧ ∀ w, (Go.part t vs.toArray off).run E.P w = .ok v w := by
  unfold Sym.part at hp
  split at hp
  · rename_i wd hw
    exact pick_part hw hp (by simpa using hr)
  · cases hp

/-! ### Equality -/
theorem strEq_beq (a b : ByteArray) : strEq a b = (a == b) := by rw [strEq_eq, beq_toListBytes]

set_option maxHeartbeats 1000000 in
theorem eqScalar_sound {u : TypeDesc} {t : TypeId} {x y : SV} {b : Bool} {ρ : Ren} {v v' : Value} (hu : E.P.underlying t = some u) (h : eqScalar u x y = some b) (hx : VRel ρ x v) (hy : VRel ρ y v') :
    ∀ d w, (Op.equalIn (d + 1) t v v').run E.P w = .ok b w := by
  intro d w
  unfold eqScalar at h
  split at h
  case h_2 =>
    rename_i k a k' b'
    cases hx; cases hy
    rw [kindEq_eq] at h
    by_cases hk : k = k'
    · simp [hk, eqb_eq] at h; subst h
      simp [Op.equalIn, run_underlying hu, hk]; rfl
    · simp [hk] at h
  case h_3 =>
    cases hx; cases hy
    simp only [Option.some.injEq, strEq_beq] at h; subst h
    simp [Op.equalIn, run_underlying hu]
  case h_1 =>
    cases hx; cases hy
    simp only [Option.some.injEq] at h; subst h
    simp [Op.equalIn, run_underlying hu]
  all_goals first | (cases h; done) | skip
  all_goals
    simp only [Option.some.injEq] at h; subst h
    cases hx <;> cases hy <;> simp [Op.equalIn, run_underlying hu]

/-- What is known of equalities is so. -/
structure EqOk (E : Env) (σ : Sig) : Prop where
  eq : ∀ a b r, E.eq a b = some r → eqb (a.val σ) (b.val σ) = r
  str : ∀ a i c b j d r, E.veq true a i c b j d = some r → ∃ s t, σ.cell a (i.val σ).toNat c = .string s ∧ σ.cell b (j.val σ).toNat d = .string t ∧ (s == t) = r
  bool : ∀ a i c b j d r, E.veq false a i c b j d = some r → ∃ s t, σ.cell a (i.val σ).toNat c = .bool s ∧ σ.cell b (j.val σ).toNat d = .bool t ∧ (s == t) = r

theorem toIE_val0 {ρ : Ren} {x : SV} {v : Value} {k : IntKind} {a : IE} (h : toIE x = some (k, a)) (hx : VRel ρ x v) : v = .int k (a.val ρ.sig) := by
  unfold toIE at h
  split at h
  · simp only [Option.some.injEq, Prod.mk.injEq] at h
    obtain ⟨rfl, rfl⟩ := h
    cases hx; simp [IE.val]
  · simp only [Option.some.injEq, Prod.mk.injEq] at h
    obtain ⟨rfl, rfl⟩ := h
    cases hx; rfl
  · cases h

theorem emptyEqX_sound {a : Nat} {s s0 : ByteArray} {b : Bool} {ρ : Ren} (hq : EqOk E ρ.sig) (h : emptyEqX E a s = some b) (hx : VRel ρ (.xstr a) (.string s0)) : (s0 == s) = b := by
  unfold emptyEqX at h
  split at h
  · rename_i hz
    have := hq.eq _ _ _ h
    rw [eqb_eq] at this
    cases hx with
    | xstr hr hc =>
      have e0 : IE.val ρ.sig (.len a) = (s0.size : Int) := by
        show ((ρ.sig.row a).2.2.2 : Int) = _
        rw [hr]
      rw [← this, e0]
      rw [Bool.eq_iff_iff]
      simp only [decide_eq_true_eq]
      constructor
      · intro e
        rw [← strEq_beq] at e
        have e : s0.data.toList = s.data.toList := by simpa [strEq] using e
        have hz : s.data.toList.length = 0 := by simpa using hz
        rw [← e] at hz
        show (s0.data.size : Int) = 0
        rw [← Array.length_toList, hz]
        rfl
      · intro e
        have e : (s0.data.size : Int) = 0 := e
        have h1 : s0.data.toList = [] := List.eq_nil_of_length_eq_zero (by rw [Array.length_toList]; omega)
        have h2 : s.data.toList = [] := List.eq_nil_of_length_eq_zero (by simpa using hz)
        rw [← strEq_beq]
        simp [strEq, h1, h2]
  · cases h
theorem symEq_sound {u : TypeDesc} {t : TypeId} {x y : SV} {b : Bool} {ρ : Ren} {v v' : Value} (hq : EqOk E ρ.sig) (hu : E.P.underlying t = some u) (h : symEq E u x y = some b) (hx : VRel ρ x v) (hy : VRel ρ y v') :
    ∀ d w, (Op.equalIn (d + 1) t v v').run E.P w = .ok b w := by
  intro d w
  unfold symEq at h
  split at h
  · cases h
  · rename_i k0 x1 y1 hne
    split at h
    · rename_i k a k' a' e1 e2
      have e1 := toIE_val0 e1 hx
      have e2 := toIE_val0 e2 hy
      subst e1; subst e2
      split at h
      · rename_i hk
        rw [kindEq_eq] at hk
        have hk := of_decide_eq_true hk
        subst hk
        have := hq.eq _ _ _ h
        rw [eqb_eq] at this
        rw [← this]
        simp [Op.equalIn, run_underlying hu]; rfl
      · cases h
    · cases h
  · rename_i a s
    cases hx with
    | sstr hs =>
      cases hy
      unfold emptyEq at h
      split at h
      · rename_i hz
        have := hq.eq _ _ _ h
        rw [eqb_eq] at this
        rename_i s0 s1
        rw [← this]
        simp only [Op.equalIn, run_underlying hu, Sem.run_bind, Result.andThen_ok, Sem.run_pure]
        congr 1
        simp only [IE.val, ← hs]
        rw [Bool.eq_iff_iff]
        simp only [beq_iff_eq, decide_eq_true_eq]
        constructor
        · intro e
          rw [← strEq_beq] at e
          have e : s0.data.toList = s.data.toList := by simpa [strEq] using e
          have hz : s.data.toList.length = 0 := by simpa using hz
          rw [← e] at hz
          show (s0.data.size : Int) = 0
          rw [← Array.length_toList, hz]
          rfl
        · intro e
          have e : (s0.data.size : Int) = 0 := e
          have h1 : s0.data.toList = [] := List.eq_nil_of_length_eq_zero (by rw [Array.length_toList]; omega)
          have h2 : s.data.toList = [] := List.eq_nil_of_length_eq_zero (by simpa using hz)
          rw [← strEq_beq]
          simp [strEq, h1, h2]
      · cases h
  · rename_i a s
    have key := fun s0 => emptyEqX_sound (s0 := s0) hq h
    cases hy
    generalize hxx : SV.xstr a = xx at hx
    cases hx <;> first | (cases hxx; done) | skip
    cases hxx
    rename_i s0 hr hc
    simp only [Op.equalIn, run_underlying hu, Sem.run_bind, Result.andThen_ok, Sem.run_pure]
    rw [key _ (.xstr hr hc)]
  · cases hx with
    | cellv h1 _ => cases hy with
      | cellv h2 _ =>
        obtain ⟨s, t, g1, g2, g3⟩ := hq.str _ _ _ _ _ _ _ h
        rw [h1, h2, g1, g2, ← g3]
        simp [Op.equalIn, run_underlying hu]
  · cases hx with
    | cellv h1 _ => cases hy with
      | cellv h2 _ =>
        obtain ⟨s, t, g1, g2, g3⟩ := hq.bool _ _ _ _ _ _ _ h
        rw [h1, h2, g1, g2, ← g3]
        simp [Op.equalIn, run_underlying hu]
  · cases h

theorem equal_sound {ρ : Ren} (hq : EqOk E ρ.sig) : ∀ (d : Nat) (t : TypeId) (x y : SV) (b : Bool) (v v' : Value), equal E d t x y = some b → VRel ρ x v → VRel ρ y v' →
    ∀ d', d ≤ d' → ∀ w, (Op.equalIn d' t v v').run E.P w = .ok b w
  | 0, _, _, _, _, _, _, h, _, _, _, _, _ => by simp [equal] at h
  | d + 1, t, x, y, b, v, v', h, hx, hy, 0, hd, w => by omega
  | d + 1, t, x, y, b, v, v', h, hx, hy, d' + 1, hd, w => by
    simp only [equal] at h
    split at h
    · cases h
    · rename_i u hu
      split at h
      · rename_i fs xs ys
        split at h
        · cases h
        · rename_i hs
          cases hx with
          | agg hxs =>
            cases hy with
            | agg hys =>
              rename_i us vs
              have hf : E.P.fieldsOf t = fs := by simp [Program.fieldsOf, hu]
              rw [run_equalIn_struct w d' t us.toArray vs.toArray (by rw [hf]; exact hu) hs, hf]
              have fkey : ∀ (t1 : TypeId) (x1 y1 : SV) (b1 : Bool) (u1 u2 : Value), fieldEq E (equal E d) d t1 x1 y1 = some b1 → VRel ρ x1 u1 → VRel ρ y1 u2 → ∀ w, (Op.equalIn d' t1 u1 u2).run E.P w = .ok b1 w := by
                intro t1 x1 y1 b1 u1 u2 h1 hx1 hy1 w
                unfold fieldEq at h1
                split at h1
                · cases h1
                · rename_i d0
                  split at h1
                  · cases h1
                  · rename_i u0 hu0
                    split at h1
                    · rename_i b2 hb2
                      simp only [Option.some.injEq] at h1
                      subst h1
                      cases d' with
                      | zero => omega
                      | succ d' => exact symEq_sound hq hu0 hb2 hx1 hy1 d' w
                    · exact equal_sound hq _ t1 x1 y1 b1 u1 u2 h1 hx1 hy1 d' (by omega) w
              have key : ∀ (l : List Field), equal.fields E (fieldEq E (equal E d) d) l xs ys = some b → ∀ w, (Op.eqFields d' us.toArray vs.toArray l).run E.P w = .ok b w := by
                intro l
                induction l with
                | nil => intro h w; simp [equal.fields] at h; subst h; simp [Op.eqFields]
                | cons f l ih =>
                  intro h w
                  simp only [equal.fields] at h
                  by_cases hn : f.name = "_"
                  · have hb : (f.name == "_") = true := by simp [hn]
                    simp only [hb] at h
                    simp [Op.eqFields, hn, ih h]
                  · have hb : (f.name == "_") = false := by simp [hn]
                    simp only [hb] at h
                    split at h
                    · rename_i x1 y1 hx1 hy1
                      obtain ⟨u1, hu1, hr1⟩ := part_sound hx1 hxs
                      obtain ⟨u2, hu2, hr2⟩ := part_sound hy1 hys
                      split at h
                      · rename_i he
                        simp [Op.eqFields, hn, hr1, hr2, fkey f.type x1 y1 true u1 u2 he hu1 hu2 w, ih h]
                      · rename_i he
                        simp only [Option.some.injEq] at h; subst h
                        simp [Op.eqFields, hn, hr1, hr2, fkey f.type x1 y1 false u1 u2 he hu1 hu2 w]
                      · cases h
                    · cases h
              exact key _ h w
      · rename_i te i o j p
        split at h
        · rename_i jt g1 g2 g3
          have g1 := Nat.eq_of_beq_eq_true g1
          have g2 := Nat.eq_of_beq_eq_true g2
          subst g1
          subst g2
          simp only [Option.some.injEq] at h; subst h
          cases hx with
          | ptr hp =>
            cases hy with
            | ptr hq =>
              rw [hp] at hq; cases hq
              simp [Op.equalIn, run_underlying hu, sizeOf, typeInfo, g3, run_sameAddr_same]
        · cases h
      · exact eqScalar_sound hu h hx hy d' w

theorem eqGuard_sound {lit : Bool} {op : BinOp} {t : TypeId} {x y : SV} {ρ : Ren} {v v' : Value} (h : eqGuardOk E lit t x y = true) (hx : VRel ρ x v) (hy : VRel ρ y v') (hxu : x ≠ .unknown) (hyu : y ≠ .unknown) (hxo : x ≠ .blur) (hyo : y ≠ .blur) (hxc : ∀ a i c, x ≠ .cellv a i c) (hyc : ∀ a i c, y ≠ .cellv a i c) (o o' : Operand) (hlit : lit = true → inText o o' = true) (w : World) :
    (eqGuard op t o o' v v').run E.P w = .ok () w := by
  have key : ∀ op' : BinOp, (op' = .eql ∨ op' = .neq) → (eqGuard op' t o o' v v').run E.P w = .ok () w := by
    intro op' hop
    unfold eqGuard
    rcases hop with rfl | rfl
    all_goals
      cases hx <;> cases hy <;> first | (exact absurd rfl hxu) | (exact absurd rfl hyu) | (exact absurd rfl hxo) | (exact absurd rfl hyo) | (exact absurd rfl (hxc _ _ _)) | (exact absurd rfl (hyc _ _ _)) | rfl | skip
    all_goals first | (simp [eqGuardOk] at h; done) | (simp only [eqGuardOk] at h; have := hlit h; cases o <;> cases o' <;> first | rfl | (simp [inText] at this; done)) | skip
    all_goals
      simp only [eqGuardOk, Bool.not_eq_true'] at h
      simp [h]
  cases op
  case eql => exact key _ (.inl rfl)
  case neq => exact key _ (.inr rfl)
  all_goals rfl
end
end Go.RX

/- The operations that look at no memory: the rest. -/
namespace Go.RX
open Sym
section
variable {E : Env}

theorem guard_scalar (op : BinOp) (t : TypeId) (o o' : Operand) (v v' : Value) (h : ∀ cs, v ≠ .agg cs) (h' : v ≠ .nilIface) (w : World) : (eqGuard op t o o' v v').run E.P w = .ok () w := by
  cases op <;> first | rfl | skip
  all_goals
    cases v <;> first | rfl | exact absurd rfl (h _) | exact absurd rfl h'

theorem unknown_equal {d : Nat} {t : TypeId} {x y : SV} {b : Bool} (h : equal E d t x y = some b) : x ≠ .unknown ∧ y ≠ .unknown ∧ x ≠ .blur ∧ y ≠ .blur ∧ (∀ k e, x ≠ .sint k e) ∧ (∀ k e, y ≠ .sint k e) ∧ (∀ n, x ≠ .atLeast n) ∧ (∀ n, y ≠ .atLeast n) ∧ (∀ n, x ≠ .sstr n) ∧ (∀ n, y ≠ .sstr n) ∧ (∀ n, x ≠ .xstr n) ∧ (∀ n, y ≠ .xstr n) ∧ (∀ a i c, x ≠ .cellv a i c) ∧ ∀ a i c, y ≠ .cellv a i c := by
  cases d with
  | zero => simp [equal] at h
  | succ d =>
    simp only [equal] at h
    split at h
    · cases h
    · split at h
      · exact ⟨by simp, by simp, by simp, by simp, by simp, by simp, by simp, by simp, by simp, by simp, by simp, by simp, by simp, by simp⟩
      · exact ⟨by simp, by simp, by simp, by simp, by simp, by simp, by simp, by simp, by simp, by simp, by simp, by simp, by simp, by simp⟩
      · unfold eqScalar at h
        split at h <;> first | (cases h; done) | exact ⟨by simp, by simp, by simp, by simp, by simp, by simp, by simp, by simp, by simp, by simp, by simp, by simp, by simp, by simp⟩

/-- The function says of two rows in blocks of their own, the first unmarked, that they do not overlap. -/
def OverOk (P : Program) (f : FuncId) : Prop := ∀ (w : World) (b1 x1 n1 c1 b2 x2 n2 c2 : Nat) (tA tB : TypeId) (kA kB : Nat), b1 ≠ b2 → w.shape? b1 = some (tA, kA) → w.shape? b2 = some (tB, kB) → kB ≠ 0 →
  w.frozen? ⟨b1, x1, none⟩ = false → w.frozen? ⟨b1, kA, none⟩ = false → (callFunc f #[.slice (some ⟨b1, x1, none⟩) n1 c1, .slice (some ⟨b2, x2, none⟩) n2 c2]).run P w = .ok (.value (.bool false)) w

/-- The function says where a byte is first found. -/
def IdxOk (P : Program) (f : FuncId) : Prop := ∀ (s : ByteArray) (c : Nat) (w : World), c ≤ 255 → (callFunc f #[.string s, .int .u8 c]).run P w = .ok (.value (.int .i64 (idxB s c))) w

def SameOk (P : Program) (f : FuncId) : Prop := ∀ (v : Value) (w : World), (callFunc f #[v]).run P w = .ok (.value v) w
def MkzOk (P : Program) (f : FuncId) (t : TypeId) : Prop := ∀ (n : Nat) (w : World), n ≤ 281474976710656 → ∃ cs : Array Value, n ≤ cs.size ∧ (callFunc f #[.int .i64 n]).run P w = .ok (.value (.slice (some ⟨w.heap.size, 0, none⟩) n cs.size)) (w.drew.drew.alloc (.cells cs t))

/-- Where a cut ends. -/
noncomputable def hiVal (σ : Sig) (n : Nat) : Option IE → Int | none => n | some e => e.val σ
/-- What is known of maps, and of cuts of rows, is so. -/
structure MapsOk (E : Env) (σ : Sig) : Prop where
  get : ∀ d a k r, E.mget d a k = some r → ∀ (ρ : Ren) kv ob, ρ.sig = σ → VRel ρ k kv → σ.obj a ob → ∃ arr c, ob = .map arr c ∧ ((r = none ∧ Instr.findNow d kv arr.toList 0 = some none) ∨ ∃ x v j, r = some x ∧ VRel (.nil σ) x v ∧ Instr.findNow d kv arr.toList 0 = some (some (j, v)))
  set : ∀ d a k x a', E.mset d a k x = some a' → ∀ (ρ : Ren) kv v ob, ρ.sig = σ → VRel ρ k kv → VRel ρ x v → σ.obj a ob → ∃ arr c, ob = .map arr c ∧ ((Instr.findNow d kv arr.toList 0 = some none ∧ σ.obj a' (.map (arr.push { key := kv, val := v, born := c }) (c + 1))) ∨ ∃ j u old, Instr.findNow d kv arr.toList 0 = some (some (j, u)) ∧ arr[j]? = some old ∧ Instr.sameNow d kv old.key = some true ∧ σ.obj a' (.map (arr.modify j fun e => { e with key := kv, val := v }) c))
  del : ∀ d a k a', E.mdel d a k = some a' → ∀ (ρ : Ren) kv ob, ρ.sig = σ → VRel ρ k kv → σ.obj a ob → ∃ arr c, ob = .map arr c ∧ ((Instr.findNow d kv arr.toList 0 = some none ∧ σ.obj a' (.map arr c)) ∨ ∃ j u, Instr.findNow d kv arr.toList 0 = some (some (j, u)) ∧ σ.obj a' (.map (arr.eraseIdxIfInBounds j) c))
  sub : ∀ a lo hi a', E.sub a lo hi = some a' → ∃ b x sz n l h : Nat, σ.row a = (b, x, sz, n) ∧ lo.val σ = l ∧ hiVal σ n hi = h ∧ l ≤ h ∧ h ≤ n ∧ σ.row a' = (b, x + l * sz, sz, h - l)
theorem mapsOk_none {E : Env} {σ : Sig} (h1 : E.mget = fun _ _ _ => none) (h2 : E.mset = fun _ _ _ _ => none) (h3 : E.mdel = fun _ _ _ => none) (h4 : E.sub = fun _ _ _ => none) : MapsOk E σ :=
  ⟨fun d a k r h => (by rw [h1] at h; cases h), fun d a k x a' h => (by rw [h2] at h; cases h), fun d a k a' h => (by rw [h3] at h; cases h), fun a lo hi a' h => (by rw [h4] at h; cases h)⟩

/-- What is known of numbers is so. -/
structure EOk (E : Env) (ρ : Ren) : Prop where
  sig : ρ.sig = E.sig
  lt : ∀ a b r, E.lt a b = some r → ltb (a.val E.sig) (b.val E.sig) = r
  eq : ∀ a b r, E.eq a b = some r → eqb (a.val E.sig) (b.val E.sig) = r
  rows : ∀ a ks, E.rows a = some ks → (E.sig.row a).2.2.1 = ks.length
  pre : ∀ a e a', E.pre a e = some a' → ∃ b x sz n m : Nat, E.sig.row a = (b, x, sz, n) ∧ E.sig.row a' = (b, x, sz, m) ∧ e.val E.sig = m ∧ m ≤ n
  overs : ∀ f ∈ E.overs, OverOk E.P f
  idxs : ∀ f ∈ E.idxs, IdxOk E.P f
  sames : ∀ f ∈ E.sames, SameOk E.P f
  mkzs : ∀ f t, assocN f E.mkzs = some t → MkzOk E.P f t
  cells : ∀ a i c x, E.cells a i c = some x → i.val E.sig < (E.sig.row a).2.2.2 → 0 ≤ i.val E.sig → VRel (.nil E.sig) x (E.sig.cell a (i.val E.sig).toNat c)
  str : ∀ a i c b j d r, E.veq true a i c b j d = some r → ∃ s t, E.sig.cell a (i.val E.sig).toNat c = .string s ∧ E.sig.cell b (j.val E.sig).toNat d = .string t ∧ (s == t) = r
  bool : ∀ a i c b j d r, E.veq false a i c b j d = some r → ∃ s t, E.sig.cell a (i.val E.sig).toNat c = .bool s ∧ E.sig.cell b (j.val E.sig).toNat d = .bool t ∧ (s == t) = r
  maps : MapsOk E E.sig

theorem EOk.eqs {E : Env} {ρ : Ren} (h : EOk E ρ) : EqOk E ρ.sig := by rw [h.sig]; exact ⟨h.eq, h.str, h.bool⟩

theorem toIE_val {ρ : Ren} {x : SV} {v : Value} {k : IntKind} {a : IE} (h : toIE x = some (k, a)) (hx : VRel ρ x v) : v = .int k (a.val ρ.sig) := by
  unfold toIE at h
  split at h
  · simp only [Option.some.injEq, Prod.mk.injEq] at h
    obtain ⟨rfl, rfl⟩ := h
    cases hx; simp [IE.val]
  · simp only [Option.some.injEq, Prod.mk.injEq] at h
    obtain ⟨rfl, rfl⟩ := h
    cases hx; rfl
  · cases h

theorem opVal_int {op : BinOp} {k : IntKind} {x y n : Int} (h1 : op ≠ .shl) (h2 : op ≠ .shr) (h : intOp op k x y = some (.int k n)) : opVal op k x y = n := by
  unfold opVal
  cases op <;> first | exact absurd rfl h1 | exact absurd rfl h2 | simp [h]
theorem sint_of {ρ : Ren} {op : BinOp} {k : IntKind} {a b : IE} {n : Int} (h : opVal op k (a.val ρ.sig) (b.val ρ.sig) = n) : ∀ u, VRel ρ (.int k n) u → VRel ρ (.sint k (.bin op k a b)) u := fun u hu => by
  cases hu
  have := VRel.sint (ρ := ρ) k (.bin op k a b)
  rw [show IE.val ρ.sig (.bin op k a b) = n from by simp only [IE.val]; exact h] at this
  exact this

theorem nzIE_sound {ρ : Ren} (hE : EOk E ρ) {b : IE} (h : nzIE E b = true) : eqb (b.val ρ.sig) (.ofNat 0) = false := by
  unfold nzIE at h
  split at h
  · split at h
    · cases h
    · simpa [IE.val] using ‹_›
  · split at h
    · rename_i he
      have := hE.eq _ _ _ he
      rw [hE.sig]
      simpa [IE.val] using this
    · cases h

theorem symInt_sound {ρ : Ren} (hE : EOk E ρ) {op : BinOp} {k : IntKind} {a b : IE} {r : SV} (hs : op ≠ .shl ∧ op ≠ .shr) (h : symInt E op k a b = some r) :
    ∃ r', intOp op k (a.val ρ.sig) (b.val ρ.sig) = some r' ∧ ∀ u, VRel ρ r' u → VRel ρ r u := by
  obtain ⟨hs1, hs2⟩ := hs
  have num : ∀ n, intOp op k (a.val ρ.sig) (b.val ρ.sig) = some (.int k n) → r = .sint k (.bin op k a b) → ∃ r', intOp op k (a.val ρ.sig) (b.val ρ.sig) = some r' ∧ ∀ u, VRel ρ r' u → VRel ρ r u := fun n h1 h2 => by
    subst h2
    exact ⟨_, h1, sint_of (opVal_int hs1 hs2 h1)⟩
  have cmp : ∀ c d : Bool, c = d → intOp op k (a.val ρ.sig) (b.val ρ.sig) = some (.bool c) → r = .bool d → ∃ r', intOp op k (a.val ρ.sig) (b.val ρ.sig) = some r' ∧ ∀ u, VRel ρ r' u → VRel ρ r u := fun c d h0 h1 h2 => by
    subst h0; subst h2
    exact ⟨_, h1, fun _ h => h⟩
  cases op <;> simp only [symInt] at h
  case add => cases h; exact num _ (by simp only [intOp]; rw [wrapped_eq]) rfl
  case sub => cases h; exact num _ (by simp only [intOp]; rw [wrapped_eq]) rfl
  case mul => cases h; exact num _ (by simp only [intOp]; rw [wrapped_eq]) rfl
  case and => cases h; exact num _ (by simp only [intOp, bitsOp]; rw [wrapSlow_eq]) rfl
  case or => cases h; exact num _ (by simp only [intOp, bitsOp]; rw [wrapSlow_eq]) rfl
  case xor => cases h; exact num _ (by simp only [intOp, bitsOp]; rw [wrapSlow_eq]) rfl
  case andNot => cases h; exact num _ (by simp only [intOp, bitsOp]; rw [wrapSlow_eq]) rfl
  case quo =>
    split at h
    · rename_i hz
      cases h
      have := nzIE_sound hE hz
      exact num _ (by simp only [intOp, this]; rw [wrapped_eq]) rfl
    · cases h
  case rem =>
    split at h
    · rename_i hz
      cases h
      have := nzIE_sound hE hz
      exact num _ (by simp only [intOp, this]; rw [int_eq]) rfl
    · cases h
  case shl => exact absurd rfl hs1
  case shr => exact absurd rfl hs2
  case lss =>
    unfold boolO at h
    split at h
    · rename_i c hc; cases h; exact cmp _ _ (by rw [hE.sig]; exact hE.lt _ _ _ hc) rfl rfl
    · cases h
  case gtr =>
    unfold boolO at h
    split at h
    · rename_i c hc; cases h; exact cmp _ _ (by rw [hE.sig]; exact hE.lt _ _ _ hc) rfl rfl
    · cases h
  case eql =>
    unfold boolO at h
    split at h
    · rename_i c hc; cases h; exact cmp _ _ (by rw [hE.sig]; exact hE.eq _ _ _ hc) rfl rfl
    · cases h
  case leq =>
    unfold boolO at h
    split at h
    · rename_i c hc; cases h
      simp only [symCmp] at hc
      unfold notO at hc
      split at hc
      · rename_i d hd; cases hc; exact cmp _ _ (by rw [hE.sig, hE.lt _ _ _ hd]) rfl rfl
      · cases hc
    · cases h
  case geq =>
    unfold boolO at h
    split at h
    · rename_i c hc; cases h
      simp only [symCmp] at hc
      unfold notO at hc
      split at hc
      · rename_i d hd; cases hc; exact cmp _ _ (by rw [hE.sig, hE.lt _ _ _ hd]) rfl rfl
      · cases hc
    · cases h
  case neq =>
    unfold boolO at h
    split at h
    · rename_i c hc; cases h
      simp only [symCmp] at hc
      unfold notO at hc
      split at hc
      · rename_i d hd; cases hc; exact cmp _ _ (by rw [hE.sig, hE.eq _ _ _ hd]) rfl rfl
      · cases hc
    · cases h
  all_goals
    simp only [symCmp, boolO] at h
    cases h

theorem symOp_sound {lit : Bool} {ρ : Ren} (hE : EOk E ρ) {op : BinOp} {x y r : SV} {v v' : Value} (h : symOp E op x y = some r) (hx : VRel ρ x v) (hy : VRel ρ y v') (t : TypeId) :
    ∃ k a k' b r', v = .int k a ∧ v' = .int k' b ∧ Sym.binOp E lit op t (.int k a) (.int k' b) = some r' ∧ ∀ u, VRel ρ r' u → VRel ρ r u := by
  unfold symOp at h
  split at h
  · rename_i k a k' b h1 h2
    refine ⟨k, a.val ρ.sig, k', b.val ρ.sig, ?_⟩
    have e1 := toIE_val h1 hx
    have e2 := toIE_val h2 hy
    suffices hh : ∃ r', Sym.binOp E lit op t (.int k (a.val ρ.sig)) (.int k' (b.val ρ.sig)) = some r' ∧ ∀ u, VRel ρ r' u → VRel ρ r u by
      obtain ⟨r', q1, q2⟩ := hh
      exact ⟨r', e1, e2, q1, q2⟩
    split at h
    · split at h
      · rename_i n
        cases h
        refine ⟨_, by simp only [Sym.binOp, IE.val, shiftOp]; rw [wrapped_eq], sint_of ?_⟩
        simp only [opVal, IE.val, shiftOp]; rw [wrapped_eq]
      · cases h
    · split at h
      · rename_i n
        cases h
        refine ⟨_, by simp only [Sym.binOp, IE.val, shiftOp]; rw [int_eq], sint_of ?_⟩
        simp only [opVal, IE.val, shiftOp]; rw [int_eq]
      · cases h
    · rename_i n1 n2
      split at h
      · rename_i hk
        obtain ⟨r', q1, q2⟩ := symInt_sound hE ⟨fun e => n1 e, fun e => n2 e⟩ h
        refine ⟨r', ?_, q2⟩
        cases op <;> first | exact (n1 rfl).elim | exact (n2 rfl).elim | (simp only [Sym.binOp, hk]; exact q1)
      · cases h
  · cases h

theorem binOp_int_sound {lit : Bool} {op : BinOp} {t : TypeId} {k k' : IntKind} {a b : Int} {r : SV} (ρ : Ren) (h : Sym.binOp E lit op t (.int k a) (.int k' b) = some r) (o o' : Operand) :
    ∃ u, VRel ρ r u ∧ ∀ w, (do eqGuard op t o o' (.int k a) (.int k' b); Go.binOp op t (.int k a) (.int k' b) : Sem Value).run E.P w = .ok u w := by
    simp only [Sym.binOp] at h
    have hg := fun w => guard_scalar (E := E) op t o o' (.int k a) (.int k' b) (by simp) (by simp) w
    split at h
    · obtain ⟨u, h1, h2⟩ := shiftOp_sound (E := E) (yk := k') h ρ
      exact ⟨u, h1, fun w => by simp only [Sem.run_bind, hg, Result.andThen_ok]; exact h2 w⟩
    · obtain ⟨u, h1, h2⟩ := shiftOp_sound (E := E) (yk := k') h ρ
      exact ⟨u, h1, fun w => by simp only [Sem.run_bind, hg, Result.andThen_ok]; exact h2 w⟩
    · rename_i n1 n2
      rw [kindEq_eq] at h
      by_cases hk : k = k'
      · subst hk
        simp at h
        obtain ⟨u, h1, h2⟩ := intOp_sound (E := E) h ρ
        refine ⟨u, h1, fun w => ?_⟩
        simp only [Sem.run_bind, hg, Result.andThen_ok]
        rw [← h2 w]
        cases op <;> first | exact absurd rfl n1 | exact absurd rfl n2 | skip
        all_goals simp [Go.binOp]
      · simp [hk] at h

theorem binOp_sound {lit : Bool} {op : BinOp} {t : TypeId} {x y r : SV} {ρ : Ren} {v v' : Value} (hE : EOk E ρ) (h : Sym.binOp E lit op t x y = some r) (hx : VRel ρ x v) (hy : VRel ρ y v') (o o' : Operand) (hlit : lit = true → inText o o' = true) :
    ∃ u, VRel ρ r u ∧ ∀ w, (do eqGuard op t o o' v v'; Go.binOp op t v v' : Sem Value).run E.P w = .ok u w := by
  unfold Sym.binOp at h
  split at h
  · rename_i k a k' b
    cases hx; cases hy
    exact binOp_int_sound (lit := lit) ρ (by simpa only [Sym.binOp] using h) o o'
  · rename_i a b
    cases hx; cases hy
    have hg := fun w => guard_scalar (E := E) op t o o' (.string a) (.string b) (by simp) (by simp) w
    obtain ⟨u, h1, h2⟩ := strOp_sound (E := E) h ρ
    refine ⟨u, h1, fun w => ?_⟩
    simp only [Sem.run_bind, hg, Result.andThen_ok]
    rw [← h2 w]
    cases op <;> rfl
  · rename_i a b
    have key : ∀ s0 r, emptyEqX E a b = some r → VRel ρ (.xstr a) (.string s0) → (s0 == b) = r := fun s0 r h hx => emptyEqX_sound hE.eqs h hx
    cases hy
    cases hx with
    | xstr hr hc =>
      rename_i b0 x0 s0
      have hg := fun w => guard_scalar (E := E) op t o o' (.string s0) (.string b) (by simp) (by simp) w
      split at h
      · split at h
        · rename_i r1 e
          simp only [Option.some.injEq] at h; subst h
          obtain ⟨u1, g1, g2⟩ := strOp_sound (E := E) (op := .eql) (a := s0) (b := b) (x := .bool (strEq s0 b)) rfl ρ
          cases g1
          refine ⟨_, .bool _, fun w => ?_⟩
          simp only [Sem.run_bind, hg, Result.andThen_ok]
          have g2 := g2 w
          rw [strEq_beq] at g2
          rw [← key s0 _ e (.xstr hr hc), ← g2]
          rfl
        · cases h
      · split at h
        · rename_i r1 e
          simp only [Option.some.injEq] at h; subst h
          obtain ⟨u1, g1, g2⟩ := strOp_sound (E := E) (op := .neq) (a := s0) (b := b) (x := .bool (!strEq s0 b)) rfl ρ
          cases g1
          refine ⟨_, .bool _, fun w => ?_⟩
          simp only [Sem.run_bind, hg, Result.andThen_ok]
          have g2 := g2 w
          rw [strEq_beq] at g2
          rw [← key s0 _ e (.xstr hr hc), ← g2]
          rfl
        · cases h
      · cases h
  · rename_i a i c b j d
    cases hx with
    | cellv hx1 _ => cases hy with
      | cellv hy1 _ =>
        split at h
        · split at h
          · rename_i r1 e
            simp only [Option.some.injEq] at h; subst h
            obtain ⟨s0, t0, g1, g2, g3⟩ := hE.eqs.str _ _ _ _ _ _ _ e
            rw [hx1, hy1, g1, g2, ← g3]
            have hg := fun w => guard_scalar (E := E) .eql t o o' (.string s0) (.string t0) (by simp) (by simp) w
            obtain ⟨u1, q1, q2⟩ := strOp_sound (E := E) (op := .eql) (a := s0) (b := t0) (x := .bool (strEq s0 t0)) rfl ρ
            cases q1
            refine ⟨_, .bool _, fun w => ?_⟩
            simp only [Sem.run_bind, hg, Result.andThen_ok]
            have q2 := q2 w
            rw [strEq_beq] at q2
            rw [← q2]
            rfl
          · cases h
        · split at h
          · rename_i r1 e
            simp only [Option.some.injEq] at h; subst h
            obtain ⟨s0, t0, g1, g2, g3⟩ := hE.eqs.str _ _ _ _ _ _ _ e
            rw [hx1, hy1, g1, g2, ← g3]
            have hg := fun w => guard_scalar (E := E) .neq t o o' (.string s0) (.string t0) (by simp) (by simp) w
            obtain ⟨u1, q1, q2⟩ := strOp_sound (E := E) (op := .neq) (a := s0) (b := t0) (x := .bool (!strEq s0 t0)) rfl ρ
            cases q1
            refine ⟨_, .bool _, fun w => ?_⟩
            simp only [Sem.run_bind, hg, Result.andThen_ok]
            have q2 := q2 w
            rw [strEq_beq] at q2
            rw [← q2]
            rfl
          · cases h
        · cases h
  · rename_i a n
    cases hx
    cases hy with
    | atLeast hle =>
      rename_i m
      split at h
      · split at h
        · rename_i hb
          have hb := Nat.le_of_ble_eq_true hb
          simp only [Option.some.injEq] at h; subst h
          refine binOp_int_sound (lit := lit) ρ (k := .i64) (k' := .i64) (a := (a : Int)) (b := (m : Int)) ?_ o o'
          have : ltb (m : Int) (a : Int) = false := by rw [ltb_eq]; simp; omega
          simp only [Sym.binOp, kindEq, intOp, this]
        · cases h
      · cases h
  · rename_i n1 n2 n2x n2y n3
    split at h
    · rename_i rs hrs
      simp only [Option.some.injEq] at h; subst h
      obtain ⟨k, a, k', b, r', rfl, rfl, q1, q2⟩ := symOp_sound (lit := lit) hE hrs hx hy t
      obtain ⟨u, g1, g2⟩ := binOp_int_sound ρ q1 o o'
      exact ⟨u, q2 u g1, g2⟩
    have key : ∀ op', (op' = .eql ∨ op' = .neq) → eqGuardOk E lit t x y = true → ∀ b, equal E 12 t x y = some b → ∀ w, (do eqGuard op' t o o' v v'; Go.binOp op' t v v' : Sem Value).run E.P w = .ok (.bool (if op' = .eql then b else !b)) w := by
      intro op' hop hok b hb w
      obtain ⟨q1, q2, q3, q4, q5, q6, q7, q8, q9, q10, q10a, q10b, q11, q12⟩ := unknown_equal hb
      have hg := eqGuard_sound (op := op') hok hx hy q1 q2 q3 q4 q11 q12 o o' hlit w
      simp only [Sem.run_bind, hg, Result.andThen_ok]
      have he := equal_sound hE.eqs 12 t x y b v v' hb hx hy 10000 (by omega) w
      have hv : ∀ k a k' a', v = .int k a → v' = .int k' a' → False := by
        intro k a k' a' e1 e2
        subst e1; subst e2
        cases hx <;> cases hy <;> first | exact n1 _ _ _ _ rfl rfl | exact q5 _ _ rfl | exact q6 _ _ rfl | exact q7 _ rfl | exact q8 _ rfl | exact q1 rfl | exact q2 rfl | exact q3 rfl | exact q4 rfl | exact q11 _ _ _ rfl | exact q12 _ _ _ rfl
      have hs : ∀ a a', v = .string a → v' = .string a' → False := by
        intro a a' e1 e2
        subst e1; subst e2
        cases hx <;> cases hy <;> first | exact n2 _ _ rfl rfl | exact q9 _ rfl | exact q10 _ rfl | exact q10a _ rfl | exact q10b _ rfl | exact q1 rfl | exact q2 rfl | exact q3 rfl | exact q4 rfl | exact q11 _ _ _ rfl | exact q12 _ _ _ rfl
      have hf : ∀ k a k' a', v = .float k a → v' = .float k' a' → False := by
        intro k a k' a' e1 e2
        subst e1
        cases hx <;> first | exact q1 rfl | exact q3 rfl | exact q11 _ _ _ rfl
      have hc : ∀ k a c k' a' c', v = .complex k a c → v' = .complex k' a' c' → False := by
        intro k a c k' a' c' e1 e2
        subst e1
        cases hx <;> first | exact q1 rfl | exact q3 rfl | exact q11 _ _ _ rfl
      rcases hop with rfl | rfl
      · have : Go.binOp .eql t v v' = (do pure (.bool (← Op.equal t v v')) : Sem Value) := by
          unfold Go.binOp
          split <;> first | rfl | exact (hv _ _ _ _ rfl rfl).elim | exact (hs _ _ rfl rfl).elim | exact (hf _ _ _ _ rfl rfl).elim | exact (hc _ _ _ _ _ _ rfl rfl).elim | (simp_all; done)
        rw [this]
        simp only [Sem.run_bind, Op.equal, Op.maxDepth, he, Result.andThen_ok]
        rfl
      · have : Go.binOp .neq t v v' = (do pure (.bool (!(← Op.equal t v v'))) : Sem Value) := by
          unfold Go.binOp
          split <;> first | rfl | exact (hv _ _ _ _ rfl rfl).elim | exact (hs _ _ rfl rfl).elim | exact (hf _ _ _ _ rfl rfl).elim | exact (hc _ _ _ _ _ _ rfl rfl).elim | (simp_all; done)
        rw [this]
        simp only [Sem.run_bind, Op.equal, Op.maxDepth, he, Result.andThen_ok]
        rfl
    split at h
    · split at h
      · rename_i hok
        split at h
        · rename_i b hb
          simp only [Option.some.injEq] at h; subst h
          exact ⟨_, .bool _, fun w => by simpa using key .eql (.inl rfl) hok b hb w⟩
        · cases h
      · cases h
    · split at h
      · rename_i hok
        split at h
        · rename_i b hb
          simp only [Option.some.injEq] at h; subst h
          exact ⟨_, .bool _, fun w => by simpa using key .neq (.inr rfl) hok b hb w⟩
        · cases h
      · cases h
    · cases h

theorem unOp_sound {op : UnOp} {x r : SV} {ρ : Ren} {v : Value} (h : Sym.unOp op x = some r) (hx : VRel ρ x v) : ∃ u, VRel ρ r u ∧ ∀ w, (Op.unary op v).run E.P w = .ok u w := by
  unfold Sym.unOp at h
  split at h
  · cases hx
    rw [wrapped_eq] at h
    simp only [Option.some.injEq] at h; subst h
    exact ⟨_, .int _ _, fun w => rfl⟩
  · rename_i k e
    cases hx
    simp only [Option.some.injEq] at h; subst h
    refine ⟨_, .sint _ _, fun w => ?_⟩
    simp only [IE.val]
    rfl
  · cases hx
    rw [wrapSlow_eq] at h
    simp only [Option.some.injEq] at h; subst h
    exact ⟨_, .int _ _, fun w => rfl⟩
  · rename_i k e
    cases hx
    simp only [Option.some.injEq] at h; subst h
    refine ⟨_, .sint _ _, fun w => ?_⟩
    have : opVal .xor k (if k.signed then -1 else k.max) (e.val ρ.sig) = k.wrap (BitVec.ofInt k.bits (if k.signed then -1 else k.max) ^^^ BitVec.ofInt k.bits (e.val ρ.sig)).toNat :=
      opVal_int (by simp) (by simp) (by simp only [intOp, bitsOp]; rw [wrapSlow_eq])
    simp only [IE.val, this]
    rfl
  · cases hx
    simp only [Option.some.injEq] at h; subst h
    exact ⟨_, .bool _, fun w => rfl⟩
  · cases h
end
end Go.RX

/- The operations that look at no memory: built values and slices. -/
namespace Go.RX
open Sym
section
variable {E : Env}

/-! ### Built values -/
theorem foldl_set (off : Nat) : ∀ (l : List Value) (i : Nat) (cs : Array Value), off + i + l.length ≤ cs.size →
    ((l.zipIdx i).foldl (fun (cs : Array Value) (p : Value × Nat) => cs.setIfInBounds (off + p.2) p.1) cs).size = cs.size ∧
    ∀ k, ((l.zipIdx i).foldl (fun (cs : Array Value) (p : Value × Nat) => cs.setIfInBounds (off + p.2) p.1) cs)[k]? = if off + i ≤ k ∧ k < off + i + l.length then l[k - (off + i)]? else cs[k]?
  | [], i, cs, _ => ⟨rfl, fun k => by simp; omega⟩
  | v :: l, i, cs, h => by
    simp only [List.length_cons] at h
    obtain ⟨h1, h2⟩ := foldl_set off l (i + 1) (cs.setIfInBounds (off + i) v) (by simp; omega)
    refine ⟨by simpa using h1, fun k => ?_⟩
    simp only [List.zipIdx_cons, List.foldl_cons]
    rw [h2]
    by_cases a : off + (i + 1) ≤ k ∧ k < off + (i + 1) + l.length
    · rw [if_pos a, if_pos (by simp; omega), show k - (off + i) = (k - (off + (i + 1))) + 1 from by omega]; simp
    · rw [if_neg a]
      by_cases e : k = off + i
      · subst e; rw [if_pos (by simp)]; simp [show off + i < cs.size by omega]
      · rw [if_neg (by simp; omega), Array.getElem?_setIfInBounds_ne (fun h => e h.symm)]

theorem fill_sound {ρ : Ren} (place : Nat → Option (Nat × Nat)) : ∀ {ps : List (Nat × SV)} {qs : List (Nat × Value)} {cells l : List SV} {cs : Array Value},
    Sym.fill place cells ps = some l → PRel ρ ps qs → VRels ρ cells cs.toList → ∃ cs', Instr.fill place cs qs = some cs' ∧ VRels ρ l cs'.toList
  | [], _, cells, l, cs, h, .nil, hc => by
    simp [Sym.fill] at h; subst h
    exact ⟨cs, rfl, hc⟩
  | (i, x) :: ps, _, cells, l, cs, h, .cons (v := v) (vs := qs) hx hs, hc => by
    simp only [Sym.fill] at h
    split at h
    · rename_i off size hp
      split at h
      · cases h
      · rename_i hne
        split at h
        · rename_i hsz
          split at h
          · rename_i cells' hsp
            have hsz := Nat.eq_of_beq_eq_true hsz
            have hcv := hx.cells hne
            have hlen := hcv.length
            obtain ⟨hb, -⟩ := splice_some _ _ _ _ hsp
            have hcl := hc.length
            simp only [Array.length_toList] at hcl hlen
            obtain ⟨f1, f2⟩ := foldl_set off v.cells.toList 0 cs (by simp; omega)
            have hc' : VRels ρ cells' (v.cells.zipIdx.foldl (fun cs (c, j) => cs.setIfInBounds (off + j) c) cs).toList := by
              have heq : v.cells.zipIdx.foldl (fun cs (c, j) => cs.setIfInBounds (off + j) c) cs = (v.cells.toList.zipIdx 0).foldl (fun (cs : Array Value) (p : Value × Nat) => cs.setIfInBounds (off + p.2) p.1) cs := by
                rw [← Array.foldl_toList, Array.toList_zipIdx]
              rw [heq]
              refine VRels.of_get ?_ fun k a b ha hb' => ?_
              · rw [splice_length hsp, hcl, Array.length_toList, f1]
              · rw [Array.getElem?_toList, f2] at hb'
                rw [splice_get hsp] at ha
                by_cases hk : off ≤ k ∧ k < off + x.cells.length
                · rw [if_pos hk] at ha
                  rw [if_pos (by simp; omega)] at hb'
                  obtain ⟨u, hu1, hu2⟩ := hcv.get ha
                  rw [Nat.add_zero, hu1] at hb'; cases hb'; exact hu2
                · rw [if_neg hk] at ha
                  rw [if_neg (by simp; omega)] at hb'
                  obtain ⟨u, hu1, hu2⟩ := hc.get ha
                  rw [Array.getElem?_toList, hb'] at hu1; cases hu1; exact hu2
            obtain ⟨cs', h1, h2⟩ := fill_sound place h hs hc'
            refine ⟨cs', ?_, h2⟩
            simp only [Instr.fill, hp]
            rw [if_neg (by simp; omega)]
            exact h1
          · cases h
        · cases h
    · cases h

theorem fieldPlaces_run : ∀ {fs : List Field} {pl : List (Nat × Nat)}, fieldPlaces E fs = some pl → ∀ w, (fs.mapM fun f => (do pure (f.offset, ← Go.sizeOf f.type) : Sem (Nat × Nat))).run E.P w = .ok pl w
  | [], pl, h, w => by simp [fieldPlaces] at h; subst h; rfl
  | f :: fs, pl, h, w => by
    simp only [fieldPlaces] at h
    split at h
    · rename_i n hn
      split at h
      · rename_i l hl
        simp only [Option.some.injEq] at h; subst h
        simp only [List.mapM_cons, Sem.run_bind, sizeOf_run hn, Result.andThen_ok, Sem.run_pure, fieldPlaces_run hl]
      · cases h
    · cases h

theorem nthP_eq : ∀ (l : List (Nat × Nat)) (i : Nat), nthP l i = l[i]?
  | [], i => by simp [nthP]
  | c :: l, 0 => by simp [nthP]
  | c :: l, i + 1 => by simp [nthP, nthP_eq l i]

theorem fieldPlaces_runA {fs : Array Field} {pl : List (Nat × Nat)} (h : fieldPlaces E fs.toList = some pl) (w : World) :
    (fs.mapM fun f => (do pure (f.offset, ← Go.sizeOf f.type) : Sem (Nat × Nat))).run E.P w = .ok pl.toArray w := by
  rw [Array.mapM_eq_mapM_toList]
  simp only [Sem.run_map, fieldPlaces_run h, Result.andThen_ok]

/-! ### Slices -/
inductive ORelV (ρ : Ren) : Option SV → Option Value → Prop
  | none : ORelV ρ none none
  | some {x : SV} {v : Value} (h : VRel ρ x v) : ORelV ρ (some x) (some v)

theorem sliceBound_run {v : Value} {y i : Nat} {k : IntKind} (hv : v = .int k (i : Int)) (h : i ≤ y) (code : BoundsCode) (w : World) : (Instr.sliceBound v y code).run E.P w = .ok i w := by
  subst hv
  simp [Instr.sliceBound, asIntOf, h]

theorem cutAt_run {ρ : Ren} {hi lo : Option SV} {hi' lo' : Option Value} {dflt most cap : Nat} {k : Nat → Nat → Option SV} {r : SV} (h : cutAt hi lo dflt most k = some r) (hhi : ORelV ρ hi hi') (hlo : ORelV ρ lo lo') (hm : most ≤ cap) :
    ∃ h' l, k h' l = some r ∧ l ≤ h' ∧ h' ≤ most ∧ ∀ isSlice w, (Instr.sliceBounds isSlice dflt cap lo' hi' none).run E.P w = .ok (l, h', cap) w := by
  unfold cutAt at h
  split at h
  · rename_i h' l hb1 hb2
    split at h
    · rename_i c1 c2
      have c1 := Nat.le_of_ble_eq_true c1
      have c2 := Nat.le_of_ble_eq_true c2
      refine ⟨h', l, h, c2, c1, fun isSlice w => ?_⟩
      cases hhi with
      | none =>
        simp only [bound, Option.some.injEq] at hb1
        cases hlo with
        | none =>
          simp only [bound, Option.some.injEq] at hb2
          subst hb1; subst hb2
          simp [Instr.sliceBounds]
        | some hv =>
          simp only [bound] at hb2
          obtain ⟨k2, e2⟩ := asNat_rel hb2 hv
          subst hb1
          simp only [Instr.sliceBounds, Sem.run_bind, Sem.run_pure, Result.andThen_ok]
          rw [sliceBound_run e2 c2]
          rfl
      | some hv1 =>
        simp only [bound] at hb1
        obtain ⟨k1, e1⟩ := asNat_rel hb1 hv1
        cases hlo with
        | none =>
          simp only [bound, Option.some.injEq] at hb2
          subst hb2
          simp only [Instr.sliceBounds, Sem.run_bind, Sem.run_pure, Result.andThen_ok]
          rw [sliceBound_run e1 (Nat.le_trans c1 hm)]
          rfl
        | some hv =>
          simp only [bound] at hb2
          obtain ⟨k2, e2⟩ := asNat_rel hb2 hv
          simp only [Instr.sliceBounds, Sem.run_bind, Sem.run_pure, Result.andThen_ok]
          rw [sliceBound_run e1 (Nat.le_trans c1 hm)]
          simp only [Result.andThen_ok]
          rw [sliceBound_run e2 c2]
          rfl
    · cases h
  · cases h

theorem sliceV_sound {t : TypeId} {d : TypeDesc} {size : Option Nat} {x r : SV} {lo hi : Option SV} {ρ : Ren} {v : Value} {lo' hi' : Option Value} (hd : E.P.underlying t = some d)
    (hsz : ∀ n, size = some n → sliceElem E d = some n) (h : sliceV d size x lo hi = some r) (hx : VRel ρ x v) (hlo : ORelV ρ lo lo') (hhi : ORelV ρ hi hi') :
    ∃ u, VRel ρ r u ∧ ∀ w, (Instr.sliceAt t v lo' hi' none).run E.P w = .ok u w := by
  unfold sliceV at h
  split at h
  · cases hx
    rename_i s
    obtain ⟨h', l, hk, h1, h2, hrun⟩ := cutAt_run (E := E) h hhi hlo (Nat.le_refl _)
    simp only [Option.some.injEq] at hk; subst hk
    exact ⟨_, .string _, fun w => by simp [Instr.sliceAt, Instr.slice, run_underlying hd, hrun]⟩
  · rename_i n el id off sz
    cases hx with
    | ptr hp =>
      obtain ⟨h', l, hk, h1, h2, hrun⟩ := cutAt_run (E := E) h hhi hlo (Nat.le_refl _)
      simp only [force_eq, Option.some.injEq] at hk; subst hk
      have hs := sizeOf_run (hsz _ rfl)
      refine ⟨_, .sliceE hp, fun w => ?_⟩
      simp only [Instr.sliceAt, Sem.run_bind, run_underlying hd, Result.andThen_ok, Instr.sureAddr, Sem.run_pure, hrun, hs]
      rw [nbeq_eq]
      by_cases hn : n = l
      · subst hn; simp
      · simp [hn, add_win]; omega
  · cases hx
    obtain ⟨h', l, hk, h1, h2, hrun⟩ := cutAt_run (E := E) h hhi hlo (Nat.le_refl _)
    simp only [Option.some.injEq] at hk; subst hk
    have : h' = 0 ∧ l = 0 := by omega
    obtain ⟨rfl, rfl⟩ := this
    have hs := sizeOf_run (hsz _ rfl)
    refine ⟨_, .nilslice, fun w => ?_⟩
    simp only [Instr.sliceAt, Instr.slice, Sem.run_bind, run_underlying hd, Result.andThen_ok, hrun, hs]
    rfl
  · rename_i el id off len cap size
    cases hx with
    | sliceE hp =>
      obtain ⟨h', l, hk, h1, h2, hrun⟩ := cutAt_run (E := E) h hhi hlo (Nat.le_refl _)
      simp only [force_eq, Option.some.injEq] at hk; subst hk
      have hs := sizeOf_run (hsz _ rfl)
      refine ⟨_, .sliceE hp, fun w => ?_⟩
      simp only [Instr.sliceAt, Instr.slice, Sem.run_bind, run_underlying hd, Result.andThen_ok, hrun, hs]
      rw [nbeq_eq]
      by_cases hn : cap = l
      · subst hn; simp
      · simp [hn, add_win]; omega
  · rename_i el id off len sz least size
    cases hx with
    | sliceT hp ht hl hcap hxx =>
      rename_i bb oo tt xx cap
      split at h
      · rename_i hsz2
        have e := Nat.eq_of_beq_eq_true hsz2
        obtain ⟨h', l, hk, h1, h2, hrun⟩ := cutAt_run (E := E) h hhi hlo hcap
        simp only [force_eq, Option.some.injEq] at hk; subst hk
        have hs := sizeOf_run (hsz _ rfl)
        subst e
        refine ⟨.slice (some ⟨bb, if cap = l then xx else xx + l * size, none⟩) (h' - l) (cap - l), .sliceT hp ?_ ?_ ?_ ?_, fun w => ?_⟩
        · rw [← ht, Nat.sub_mul]
          have : l * size ≤ cap * size := Nat.mul_le_mul_right _ (by omega)
          omega
        · omega
        · omega
        · by_cases hn : cap = l
          · right; omega
          · left; rw [if_neg hn]; rcases hxx with rfl | h0
            · omega
            · omega
        · simp only [Instr.sliceAt, Instr.slice, Sem.run_bind, run_underlying hd, Result.andThen_ok, hrun, hs]
          by_cases hn : cap = l
          · subst hn; simp
          · simp [hn, add_win]
      · cases h
  · cases h
end
end Go.RX

/- What is asked of an operation; the operations that write nothing. -/
namespace Go.RX
open Sym

/-- What of the world is known beside the objects: package-level variables; rows that lie in memory. -/
structure Lies (E : Env) (w : World) : Prop where
  cells : ∀ (g : Nat) (cs : List SV), E.G g = some cs → ∃ (arr : Array Value) (el : TypeId) (fz : Nat × Nat), w.heap[g]? = some (.cells arr el fz) ∧ ∀ (k : Nat) (x : SV), cs[k]? = some x → ∃ v, arr[k]? = some v ∧ VRel (Ren.nil E.sig) x v
  rows : ∀ (a : Nat) (ks : List (Option IntKind)), E.rows a = some ks → ∃ (b x n : Nat) (arr : Array Value) (el : TypeId) (fz : Nat × Nat), E.sig.row a = (b, x, ks.length, n) ∧ w.heap[b]? = some (.cells arr el fz) ∧
    ∀ (i c : Nat) (k : Option IntKind), i < n → ks[c]? = some k → arr[x + i * ks.length + c]? = some (E.sig.cell a i c) ∧ (match k with | some k => ∃ z, E.sig.cell a i c = .int k z | none => (E.sig.cell a i c).oneCell' = true)

/-- The blocks of these. -/
def Fix (E : Env) (b : Nat) : Prop := (∃ cs, E.G b = some cs) ∨ ∃ a ks, E.rows a = some ks ∧ (E.sig.row a).1 = b

theorem Lies.lt {E : Env} {w : World} (h : Lies E w) {b : Nat} (hb : Fix E b) : b < w.heap.size := by
  rcases hb with ⟨cs, hg⟩ | ⟨a, ks, ha, rfl⟩
  · obtain ⟨arr, el, fz, h1, -⟩ := h.cells b cs hg
    exact (Array.getElem?_eq_some_iff.1 h1).1
  · obtain ⟨b, x, n, arr, el, fz, h1, h2, -⟩ := h.rows a ks ha
    rw [h1]
    exact (Array.getElem?_eq_some_iff.1 h2).1

theorem Lies.on {E : Env} {w w' : World} (h : Lies E w) (hb : ∀ b, Fix E b → w'.heap[b]? = w.heap[b]?) : Lies E w' where
  cells g cs hg := by
    obtain ⟨arr, el, fz, h1, h2⟩ := h.cells g cs hg
    exact ⟨arr, el, fz, by rw [hb g (.inl ⟨cs, hg⟩)]; exact h1, h2⟩
  rows a ks ha := by
    obtain ⟨b, x, n, arr, el, fz, h1, h2, h3⟩ := h.rows a ks ha
    exact ⟨b, x, n, arr, el, fz, h1, by rw [hb b (.inr ⟨a, ks, ha, by rw [h1]⟩)]; exact h2, h3⟩

structure Glob (E : Env) (ρ : Ren) (H : Nat → Option SObj) (w : World) : Prop where
  lies : Lies E w
  apart : ∀ b, Fix E b → ∀ i p, H i ≠ none → ρ i = some p → p.1 ≠ b
  num : EOk E ρ

theorem EOk.mono {E : Env} {ρ ρ' : Ren} (h : EOk E ρ) (hle : ρ.le ρ') : EOk E ρ' := ⟨hle.same.symm.trans h.sig, h.lt, h.eq, h.rows, h.pre, h.overs, h.idxs, h.sames, h.mkzs, h.cells, h.str, h.bool, h.maps⟩

structure Ok (E : Env) (ρ : Ren) (S : SW) (w : World) : Prop where
  wrel : WRel ρ S.at w
  tidy : S.tidy
  glob : Glob E ρ S.at w

theorem Ok.num {E : Env} {ρ : Ren} {S : SW} {w : World} (h : Ok E ρ S w) : EOk E ρ := h.glob.num

theorem Ok.ext {E : Env} {ρ ρ' : Ren} {S S' : SW} {w w' : World} (h : Ok E ρ S w) (e : Ext ρ S w ρ' S' w') : Ok E ρ' S' w' where
  wrel := e.wrel
  tidy := e.tidy
  glob :=
    { lies := h.glob.lies.on fun b hb => e.frame b (h.glob.lies.lt hb) (h.glob.apart b hb)
      apart := fun b hb i p hi hp hne => by
        have hlt := h.glob.lies.lt hb
        rcases e.own i p hi hp with ⟨j, q, hj, hq, hqp⟩ | hge
        · exact h.glob.apart b hb j q hj hq (hqp.trans hne)
        · omega
      num := h.glob.num.mono e.le }

theorem Ok.refl_ext {E : Env} {ρ : Ren} {S : SW} {w : World} (h : Ok E ρ S w) : Ext ρ S w ρ S w := .refl h.wrel h.tidy

def Goods (ρ : Ren) (cx : Cx) (e fr : List SV) (a : Act) (o : Oper) : Prop := ∀ x ∈ o.op.operands.toList, Good ρ cx e fr a x

/-- What is asked of an operation, compiled. -/
def Sym.KOp.Sound (E : Env) (cx : Cx) (o : Oper) : KOp → Prop
  | .mv f => ∀ ρ e fr a, Goods ρ cx e fr a o → ∃ v, VRel ρ (f e fr) v ∧ ∀ w, (execOp a.eval o).run E.P w = .ok (.value v) w
  | .pure f => ∀ ρ e fr a x, EOk E ρ → Goods ρ cx e fr a o → f e fr = some x → ∃ v, VRel ρ x v ∧ ∀ w, (execOp a.eval o).run E.P w = .ok (.value v) w
  | .rd f => ∀ ρ e fr a x S w, Goods ρ cx e fr a o → Ok E ρ S w → f e fr S = some x → ∃ v, VRel ρ x v ∧ (execOp a.eval o).run E.P w = .ok (.value v) w
  | .full f => ∀ ρ e fr a x S S' w, Goods ρ cx e fr a o → Ok E ρ S w → f e fr S = some (x, S') → Fresh ρ S.next S'.next →
      ∃ ρ' v w', Ext ρ S w ρ' S' w' ∧ VRel ρ' x v ∧ ((execOp a.eval o).run E.P w = .ok (.value v) w' ∨ ((execOp a.eval o).run E.P w = .ok .skip w' ∧ v = undef))
  | .call f => ∀ ρ e fr a C x S S' w, Goods ρ cx e fr a o → f C e fr S = some (x, S') →
      ∃ args vals, VRels ρ args vals ∧
        ((∃ fn, C.call fn args S = some (x, S') ∧ (execOp a.eval o).run E.P w = (callFunc fn vals.toArray).run E.P w) ∨
         (∃ l b, C.round l args S = some (x, S') ∧ ρ l = some (b, 0, 0) ∧ (execOp a.eval o).run E.P w = (Instr.yield b vals.toArray).run E.P w))

section
variable {E : Env} {cx : Cx} {o : Oper} {k : KOp}

theorem run_v {s : Sem Value} {w w' : World} {v : Value} (h : s.run E.P w = .ok v w') : (do pure (.value (← s)) : Sem Next).run E.P w = .ok (.value v) w' := by
  simp only [Sem.run_bind, h, Result.andThen_ok]
  rfl
theorem run_u {s : Sem Unit} {w w' : World} (h : s.run E.P w = .ok () w') : (do s; pure .skip : Sem Next).run E.P w = .ok .skip w' := by
  simp only [Sem.run_bind, h, Result.andThen_ok]
  rfl

theorem kop_move {x : Operand} (h : kop0 E cx o = some k) (ho : o.op = .move x) : k.Sound E cx o := by
  simp only [kop0, ho] at h
  split at h
  · rename_i f hf
    simp only [Option.some.injEq] at h; subst h
    intro ρ e fr a hg
    exact ⟨_, opd_sound hf (hg x (by simp [ho, Op.operands])), fun w => by simp only [execOp, ho]; rfl⟩
  · cases h
theorem kop_assign {x : Operand} (h : kop0 E cx o = some k) (ho : o.op = .assign x) : k.Sound E cx o := by
  simp only [kop0, ho] at h
  split at h
  · rename_i f hf
    simp only [Option.some.injEq] at h; subst h
    intro ρ e fr a hg
    exact ⟨_, opd_sound hf (hg x (by simp [ho, Op.operands])), fun w => by simp only [execOp, ho]; rfl⟩
  · cases h
theorem kop_pick {c x y : Operand} (h : kop0 E cx o = some k) (ho : o.op = .pick c x y) : k.Sound E cx o := by
  simp only [kop0, ho] at h
  split at h
  · rename_i f g h' hf hg' hh
    simp only [Option.some.injEq] at h; subst h
    intro ρ e fr a r hE hg hr
    dsimp only at hr
    have h1 := opd_sound hf (hg c (by simp [ho, Op.operands]))
    have h2 := opd_sound hg' (hg x (by simp [ho, Op.operands]))
    have h3 := opd_sound hh (hg y (by simp [ho, Op.operands]))
    split at hr
    · rename_i e1; rw [e1] at h1
      simp only [Option.some.injEq] at hr; subst hr
      refine ⟨_, h2, fun w => ?_⟩
      simp only [execOp, ho]
      generalize a.eval c = b at h1 ⊢
      cases h1
      simp [asBool]
    · rename_i e1; rw [e1] at h1
      simp only [Option.some.injEq] at hr; subst hr
      refine ⟨_, h3, fun w => ?_⟩
      simp only [execOp, ho]
      generalize a.eval c = b at h1 ⊢
      cases h1
      simp [asBool]
    · cases hr
  · cases h
theorem kop_build {t : TypeId} {ps : Array (Nat × Operand)} (h : kop0 E cx o = some k) (ho : o.op = .build t ps) : k.Sound E cx o := by
  simp only [kop0, ho] at h
  split at h
  · rename_i g z d hp hz hd
    split at h
    · rename_i fields
      split at h
      · rename_i pl hpl
        simp only [Option.some.injEq] at h; subst h
        intro ρ e fr a r hE hg hr
        dsimp only at hr
        have hps := parts_sound hp (fun q hq => hg q.2 (by simp only [ho, Op.operands]; simpa using ⟨q.1, by simpa using hq⟩))
        obtain ⟨zv, hzv, hzr⟩ := zero_run hz ρ
        split at hr
        · rename_i l hl
          simp only [Option.some.injEq] at hr; subst hr
          obtain ⟨cs', hf, hrel⟩ := fill_sound (nthP pl) hl hps (hzv.cells (zero_known hz))
          refine ⟨.agg cs', .agg hrel, fun w => ?_⟩
          simp only [execOp, ho]
          refine run_v ?_
          have hpe : (fun i : Nat => pl.toArray[i]?) = nthP pl := funext fun i => by rw [nthP_eq]; simp
          simp only [Instr.build, Sem.run_bind, hzr, Result.andThen_ok, run_underlying hd, fieldPlaces_runA hpl, hpe]
          rw [Array.toList_map, hf]
          rfl
        · cases hr
      · cases h
    · rename_i n elem
      split at h
      · rename_i size hsz
        simp only [Option.some.injEq] at h; subst h
        intro ρ e fr a r hE hg hr
        dsimp only at hr
        have hps := parts_sound hp (fun q hq => hg q.2 (by simp only [ho, Op.operands]; simpa using ⟨q.1, by simpa using hq⟩))
        obtain ⟨zv, hzv, hzr⟩ := zero_run hz ρ
        split at hr
        · rename_i l hl
          simp only [Option.some.injEq] at hr; subst hr
          obtain ⟨cs', hf, hrel⟩ := fill_sound _ hl hps (hzv.cells (zero_known hz))
          refine ⟨.agg cs', .agg hrel, fun w => ?_⟩
          simp only [execOp, ho]
          refine run_v ?_
          simp only [Instr.build, Sem.run_bind, hzr, Result.andThen_ok, run_underlying hd, sizeOf_run hsz]
          rw [Array.toList_map, hf]
          rfl
        · cases hr
      · cases h
    · cases h
  · cases h
theorem kop_nilCheck {x : Operand} (h : kop0 E cx o = some k) (ho : o.op = .nilCheck x) : k.Sound E cx o := by
  simp only [kop0, ho] at h
  split at h
  · rename_i f hf
    simp only [Option.some.injEq] at h; subst h
    intro ρ e fr a r hE hg hr
    dsimp only at hr
    have h1 := opd_sound hf (hg x (by simp [ho, Op.operands]))
    split at hr <;> first | (cases hr; done) | skip
    all_goals
      rename_i e1; rw [e1] at h1
      simp only [Option.some.injEq] at hr; subst hr
      refine ⟨_, h1, fun w => ?_⟩
      simp only [execOp, ho]
      generalize a.eval x = b at h1 ⊢
      cases h1 <;> rfl
  · cases h
theorem kop_binOp {op : BinOp} {t t' : TypeId} {x y : Operand} (h : kop0 E cx o = some k) (ho : o.op = .binOp op t x y t') : k.Sound E cx o := by
  simp only [kop0, ho] at h
  split at h
  · rename_i f g hf hg'
    simp only [Option.some.injEq] at h; subst h
    intro ρ e fr a r hE hg hr
    dsimp only at hr
    obtain ⟨u, h1, h2⟩ := binOp_sound hE hr (opd_sound hf (hg x (by simp [ho, Op.operands]))) (opd_sound hg' (hg y (by simp [ho, Op.operands]))) x y id
    exact ⟨u, h1, fun w => by simp only [execOp, ho]; exact run_v (h2 w)⟩
  · cases h
theorem kop_unOp {op : UnOp} {t : TypeId} {x : Operand} (h : kop0 E cx o = some k) (ho : o.op = .unOp op t x) : k.Sound E cx o := by
  simp only [kop0, ho] at h
  split at h
  · rename_i f hf
    simp only [Option.some.injEq] at h; subst h
    intro ρ e fr a r hE hg hr
    dsimp only at hr
    obtain ⟨u, h1, h2⟩ := unOp_sound (E := E) hr (opd_sound hf (hg x (by simp [ho, Op.operands])))
    exact ⟨u, h1, fun w => by simp only [execOp, ho]; exact run_v (h2 w)⟩
  · cases h
theorem kop_makeInterface {t : TypeId} {x : Operand} (h : kop0 E cx o = some k) (ho : o.op = .makeInterface t x) : k.Sound E cx o := by
  simp only [kop0, ho] at h
  split at h
  · rename_i f d hf hd
    split at h
    · cases h
    · rename_i hni
      simp only [Option.some.injEq] at h; subst h
      intro ρ e fr a r hE hg hr
      dsimp only at hr
      simp only [Option.some.injEq] at hr; subst hr
      refine ⟨_, .iface t (opd_sound hf (hg x (by simp [ho, Op.operands]))), fun w => ?_⟩
      simp only [execOp, ho]
      refine run_v ?_
      simp only [Instr.makeInterface, Sem.run_bind, run_underlying hd, Result.andThen_ok]
      rfl
  · cases h
theorem kop_makeFunc {fn : Fn} {first cap : Array Operand} (h : kop0 E cx o = some k) (ho : o.op = .makeFunc fn first cap) : k.Sound E cx o := by
  simp only [kop0, ho] at h
  split at h
  · rename_i f h2 g hfirst hcap
    simp only [Option.some.injEq] at h; subst h
    intro ρ e fr a r hE hg hr
    dsimp only at hr
    simp only [Option.some.injEq] at hr; subst hr
    have hf1 := opds_sound hfirst (fun q hq => hg q (by simp only [ho, Op.operands]; simp [hq]))
    have hc := opds_sound hcap (fun q hq => hg q (by simp only [ho, Op.operands]; simp [hq]))
    refine ⟨_, .func f hf1 hc, fun w => ?_⟩
    simp only [execOp, ho]
    refine run_v ?_
    simp only [Instr.makeFunc]
    simp only [Sem.run_pure]
    congr 2
    · apply Array.ext'
      simp
    · apply Array.ext'
      simp
  · cases h
theorem kop_extract {x : Operand} {i : Nat} (h : kop0 E cx o = some k) (ho : o.op = .extract x i) : k.Sound E cx o := by
  simp only [kop0, ho] at h
  split at h
  · rename_i f hf
    simp only [Option.some.injEq] at h; subst h
    intro ρ e fr a r hE hg hr
    dsimp only at hr
    have h1 := opd_sound hf (hg x (by simp [ho, Op.operands]))
    split at hr
    · rename_i vs e1; rw [e1] at h1
      rw [nth_eq] at hr
      generalize hb : a.eval x = b at h1
      cases h1 with
      | tuple hvs =>
        obtain ⟨u, hu1, hu2⟩ := hvs.get hr
        refine ⟨u, hu2, fun w => ?_⟩
        simp only [execOp, ho, hb]
        refine run_v ?_
        simp [Instr.extract, hu1]
    · cases hr
  · cases h
end
end Go.RX
