/- The operations that look at no memory: numbers, strings, equality. -/
import Derived.Test.YtjfagagjmdddcaaGreatDoorRxOps1
set_option linter.all false
namespace Go.RX
open Sym
section
variable {E : Env}

/-! ### Numbers -/
theorem intOp_sound {op : BinOp} {k : IntKind} {a b : Int} {x : SV} (h : intOp op k a b = some x) (ρ : Ren) :
    ∃ v, VRel ρ x v ∧ ∀ w, (match op with
      | .add | .sub | .mul => Op.intArith op k a b
      | .quo | .rem => Op.intDiv op k a b
      | .and | .or | .xor | .andNot => Op.intBits op k a b
      | _ => Op.intCmp op a b).run E.P w = .ok v w := by
  cases op <;> simp only [intOp, wrapped_eq, int_eq, bitsOp, wrapSlow_eq, eqb_eq, ltb_eq] at h
  case quo =>
    by_cases hb : b = 0
    · simp [hb] at h
    · simp [hb] at h; subst h; exact ⟨_, .int _ _, fun w => by simp [Op.intDiv, hb]⟩
  case rem =>
    by_cases hb : b = 0
    · simp [hb] at h
    · simp [hb] at h; subst h; exact ⟨_, .int _ _, fun w => by simp [Op.intDiv, hb]⟩
  all_goals first | (cases h; done) | (simp only [Option.some.injEq] at h; subst h)
  all_goals first
    | exact ⟨_, .int _ _, fun w => rfl⟩
    | skip
  · exact ⟨_, .bool _, fun w => rfl⟩
  · refine ⟨_, .bool _, fun w => ?_⟩
    show Result.ok (Value.bool (a != b)) w = _
    simp [bne]; rfl
  · exact ⟨_, .bool _, fun w => rfl⟩
  · refine ⟨_, .bool _, fun w => ?_⟩
    show Result.ok (Value.bool (decide (a ≤ b))) w = _
    congr 2
    by_cases hl : a ≤ b <;> simp [hl, Int.not_lt] <;> omega
  · exact ⟨_, .bool _, fun w => rfl⟩
  · refine ⟨_, .bool _, fun w => ?_⟩
    show Result.ok (Value.bool (decide (a ≥ b))) w = _
    congr 2
    by_cases hl : a ≥ b <;> simp [hl] <;> omega

theorem shiftOp_sound {op : BinOp} {k yk : IntKind} {a b : Int} {x : SV} (h : shiftOp op k a b = some x) (ρ : Ren) :
    ∃ v, VRel ρ x v ∧ ∀ w, (Op.shift op k a yk b).run E.P w = .ok v w := by
  cases b with
  | negSucc n => simp [shiftOp] at h
  | ofNat n =>
    have hn : ¬ (Int.ofNat n < 0) := by simp
    cases op <;> simp only [shiftOp, wrapped_eq, int_eq, Option.some.injEq] at h
    case shl => subst h; exact ⟨_, .int _ _, fun w => by simp only [Op.shift, if_neg hn]; simp⟩
    case shr => subst h; exact ⟨_, .int _ _, fun w => by simp only [Op.shift, if_neg hn]; simp⟩
    all_goals cases h

/-! ### Strings -/
theorem strEq_eq (a b : ByteArray) : strEq a b = (a.toList == b.toList) := by rw [ByteArray.toList_eq, ByteArray.toList_eq]; rfl

theorem strOp_sound {op : BinOp} {a b : ByteArray} {x : SV} (h : strOp op a b = some x) (ρ : Ren) :
    ∃ v, VRel ρ x v ∧ ∀ w, (Op.stringOp op a b).run E.P w = .ok v w := by
  have hmax : IntKind.i64.max = 9223372036854775807 := rfl
  cases op <;> simp only [strOp, strEq_eq, ← ByteArray.toList_eq] at h
  case add =>
    cases hb : Nat.ble (a.size + b.size) 9223372036854775807 with
    | true =>
      simp only [hb, Option.some.injEq] at h; subst h
      have := Nat.le_of_ble_eq_true hb
      refine ⟨_, .string _, fun w => ?_⟩
      simp only [Op.stringOp, hmax]
      rw [if_neg (by omega)]
      rfl
    | false => simp [hb] at h
  all_goals first | (cases h; done) | (simp only [Option.some.injEq] at h; subst h; exact ⟨_, .bool _, fun w => rfl⟩)

/-! ### Parts -/
theorem VRels.drop {ρ : Ren} : ∀ {xs : List SV} {vs : List Value} (n : Nat), VRels ρ xs vs → VRels ρ (xs.drop n) (vs.drop n)
  | _, _, 0, h => by simpa using h
  | _, _, _ + 1, .nil => by simpa using .nil
  | _, _, n + 1, .cons _ hs => by simpa using VRels.drop n hs
theorem VRels.take {ρ : Ren} : ∀ {xs : List SV} {vs : List Value} (n : Nat), VRels ρ xs vs → VRels ρ (xs.take n) (vs.take n)
  | _, _, 0, _ => by simpa using .nil
  | _, _, _ + 1, .nil => by simpa using .nil
  | _, _, n + 1, .cons h hs => by simpa using .cons h (VRels.take n hs)

theorem wide_run {t : TypeId} {wd : Option Nat} (h : wide E t = some wd) : (wd = none ∧ ∀ w, (Go.isAgg t).run E.P w = .ok false w) ∨ ∃ n, wd = some n ∧ (∀ w, (Go.isAgg t).run E.P w = .ok true w) ∧ ∀ w, (Go.sizeOf t).run E.P w = .ok n w := by
  unfold wide at h
  split at h
  · rename_i ha
    split at h
    · rename_i n hn
      simp only [Option.some.injEq] at h; subst h
      exact .inr ⟨n, rfl, isAgg_run ha, sizeOf_run hn⟩
    · cases h
  · rename_i ha
    simp only [Option.some.injEq] at h; subst h
    exact .inl ⟨rfl, isAgg_run ha⟩
  · cases h

theorem pick_part {t : TypeId} {wd : Option Nat} (hw : wide E t = some wd) {ρ : Ren} {cs : List SV} {vs : Array Value} {off : Nat} {x : SV} (hp : pick cs off wd = some x) (hr : VRels ρ cs vs.toList) :
    ∃ v, VRel ρ x v ∧ ∀ w, (Go.part t vs off).run E.P w = .ok v w := by
  rcases wide_run hw with ⟨rfl, hg⟩ | ⟨n, rfl, hg, hn⟩
  · simp only [pick, nth_eq] at hp
    obtain ⟨v, h1, h2⟩ := hr.get hp
    have h1' : vs[off]? = some v := by simpa using h1
    exact ⟨v, h2, fun w => by simp [Go.part, hg, h1']⟩
  · simp only [pick] at hp
    split at hp
    · rename_i l hl
      simp only [Option.some.injEq] at hp; subst hp
      obtain ⟨h1, h2, h3⟩ := seg_some _ _ _ _ hl
      subst h2
      have := (hr.drop off).take n
      refine ⟨_, .agg this, fun w => ?_⟩
      simp only [Go.part, Sem.run_bind, hg, hn, Result.andThen_ok, if_true]
      show Result.ok _ w = _
      congr 2
      apply Array.ext'
      simp
    · cases hp

theorem part_sound {t : TypeId} {ρ : Ren} {cs : List SV} {vs : List Value} {off : Nat} {x : SV} (hp : Sym.part E t cs off = some x) (hr : VRels ρ cs vs) :
    ∃ v, VRel ρ x v ∧ ∀ w, (Go.part t vs.toArray off).run E.P w = .ok v w := by
  unfold Sym.part at hp
  split at hp
  · rename_i wd hw
    exact pick_part hw hp (by simpa using hr)
  · cases hp

/-! ### Equality -/
theorem strEq_beq (a b : ByteArray) : strEq a b = (a == b) := by rw [strEq_eq, beq_toListBytes]

theorem eqScalar_sound {u : TypeDesc} {t : TypeId} {x y : SV} {b : Bool} {ρ : Ren} {v v' : Value} (hu : E.P.underlying t = some u) (h : eqScalar u x y = some b) (hx : VRel ρ x v) (hy : VRel ρ y v') :
    ∀ d w, (Op.equalIn (d + 1) t v v').run E.P w = .ok b w := by
  intro d w
  unfold eqScalar at h
  split at h
  case h_2 =>
    rename_i k a k' b'
    cases hx; cases hy
    rw [kindEq_eq] at h
    by_cases hk : k = k'
    · simp [hk, eqb_eq] at h; subst h
      simp [Op.equalIn, run_underlying hu, hk]; rfl
    · simp [hk] at h
  case h_3 =>
    cases hx; cases hy
    simp only [Option.some.injEq, strEq_beq] at h; subst h
    simp [Op.equalIn, run_underlying hu]
  case h_1 =>
    cases hx; cases hy
    simp only [Option.some.injEq] at h; subst h
    simp [Op.equalIn, run_underlying hu]
  all_goals first | (cases h; done) | skip
  all_goals
    simp only [Option.some.injEq] at h; subst h
    cases hx <;> cases hy <;> simp [Op.equalIn, run_underlying hu]

theorem equal_sound {ρ : Ren} : ∀ (d : Nat) (t : TypeId) (x y : SV) (b : Bool) (v v' : Value), equal E d t x y = some b → VRel ρ x v → VRel ρ y v' →
    ∀ d', d ≤ d' → ∀ w, (Op.equalIn d' t v v').run E.P w = .ok b w
  | 0, _, _, _, _, _, _, h, _, _, _, _, _ => by simp [equal] at h
  | d + 1, t, x, y, b, v, v', h, hx, hy, 0, hd, w => by omega
  | d + 1, t, x, y, b, v, v', h, hx, hy, d' + 1, hd, w => by
    simp only [equal] at h
    split at h
    · cases h
    · rename_i u hu
      split at h
      · rename_i fs xs ys
        split at h
        · cases h
        · rename_i hs
          cases hx with
          | agg hxs =>
            cases hy with
            | agg hys =>
              rename_i us vs
              have hf : E.P.fieldsOf t = fs := by simp [Program.fieldsOf, hu]
              rw [run_equalIn_struct w d' t us.toArray vs.toArray (by rw [hf]; exact hu) hs, hf]
              have key : ∀ (l : List Field), equal.fields E (equal E d) l xs ys = some b → ∀ w, (Op.eqFields d' us.toArray vs.toArray l).run E.P w = .ok b w := by
                intro l
                induction l with
                | nil => intro h w; simp [equal.fields] at h; subst h; simp [Op.eqFields]
                | cons f l ih =>
                  intro h w
                  simp only [equal.fields] at h
                  by_cases hn : f.name = "_"
                  · have hb : (f.name == "_") = true := by simp [hn]
                    simp only [hb] at h
                    simp [Op.eqFields, hn, ih h]
                  · have hb : (f.name == "_") = false := by simp [hn]
                    simp only [hb] at h
                    split at h
                    · rename_i x1 y1 hx1 hy1
                      obtain ⟨u1, hu1, hr1⟩ := part_sound hx1 hxs
                      obtain ⟨u2, hu2, hr2⟩ := part_sound hy1 hys
                      split at h
                      · rename_i he
                        simp [Op.eqFields, hn, hr1, hr2, equal_sound d f.type x1 y1 true u1 u2 he hu1 hu2 d' (by omega) w, ih h]
                      · rename_i he
                        simp only [Option.some.injEq] at h; subst h
                        simp [Op.eqFields, hn, hr1, hr2, equal_sound d f.type x1 y1 false u1 u2 he hu1 hu2 d' (by omega) w]
                      · cases h
                    · cases h
              exact key _ h w
      · exact eqScalar_sound hu h hx hy d' w

theorem eqGuard_sound {op : BinOp} {t : TypeId} {x y : SV} {ρ : Ren} {v v' : Value} (h : eqGuardOk E t x y = true) (hx : VRel ρ x v) (hy : VRel ρ y v') (hxu : x ≠ .unknown) (hyu : y ≠ .unknown) (hxo : x ≠ .blur) (hyo : y ≠ .blur) (o o' : Operand) (w : World) :
    (eqGuard op t o o' v v').run E.P w = .ok () w := by
  have key : ∀ op' : BinOp, (op' = .eql ∨ op' = .neq) → (eqGuard op' t o o' v v').run E.P w = .ok () w := by
    intro op' hop
    unfold eqGuard
    rcases hop with rfl | rfl
    all_goals
      cases hx <;> cases hy <;> first | (exact absurd rfl hxu) | (exact absurd rfl hyu) | (exact absurd rfl hxo) | (exact absurd rfl hyo) | rfl | skip
    all_goals first | (simp [eqGuardOk] at h; done) | skip
    all_goals
      simp only [eqGuardOk, Bool.not_eq_true'] at h
      simp [h]
  cases op
  case eql => exact key _ (.inl rfl)
  case neq => exact key _ (.inr rfl)
  all_goals rfl
end
end Go.RX
