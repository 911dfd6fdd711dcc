/- The operations that look at no memory: the rest. -/
import Derived.Test.YtjfagagjmdddcaaGreatDoorRxOps2
set_option linter.all false
namespace Go.RX
open Sym
section
variable {E : Env}

theorem guard_scalar (op : BinOp) (t : TypeId) (o o' : Operand) (v v' : Value) (h : ∀ cs, v ≠ .agg cs) (h' : v ≠ .nilIface) (w : World) : (eqGuard op t o o' v v').run E.P w = .ok () w := by
  cases op <;> first | rfl | skip
  all_goals
    cases v <;> first | rfl | exact absurd rfl (h _) | exact absurd rfl h'

theorem unknown_equal {d : Nat} {t : TypeId} {x y : SV} {b : Bool} (h : equal E d t x y = some b) : x ≠ .unknown ∧ y ≠ .unknown ∧ x ≠ .blur ∧ y ≠ .blur ∧ (∀ k e, x ≠ .sint k e) ∧ (∀ k e, y ≠ .sint k e) ∧ (∀ n, x ≠ .atLeast n) ∧ (∀ n, y ≠ .atLeast n) ∧ (∀ n, x ≠ .sstr n) ∧ ∀ n, y ≠ .sstr n := by
  cases d with
  | zero => simp [equal] at h
  | succ d =>
    simp only [equal] at h
    split at h
    · cases h
    · split at h
      · exact ⟨by simp, by simp, by simp, by simp, by simp, by simp, by simp, by simp, by simp, by simp⟩
      · unfold eqScalar at h
        split at h <;> first | (cases h; done) | exact ⟨by simp, by simp, by simp, by simp, by simp, by simp, by simp, by simp, by simp, by simp⟩

/-- The function says of two rows in blocks of their own, the first unmarked, that they do not overlap. -/
def OverOk (P : Program) (f : FuncId) : Prop := ∀ (w : World) (b1 x1 n1 c1 b2 x2 n2 c2 : Nat) (tA tB : TypeId) (kA kB : Nat), b1 ≠ b2 → w.shape? b1 = some (tA, kA) → w.shape? b2 = some (tB, kB) → kB ≠ 0 →
  w.frozen? ⟨b1, x1, none⟩ = false → w.frozen? ⟨b1, kA, none⟩ = false → (callFunc f #[.slice (some ⟨b1, x1, none⟩) n1 c1, .slice (some ⟨b2, x2, none⟩) n2 c2]).run P w = .ok (.value (.bool false)) w

/-- What is known of numbers is so. -/
structure EOk (E : Env) (ρ : Ren) : Prop where
  sig : ρ.sig = E.sig
  lt : ∀ a b r, E.lt a b = some r → ltb (a.val E.sig) (b.val E.sig) = r
  eq : ∀ a b r, E.eq a b = some r → eqb (a.val E.sig) (b.val E.sig) = r
  rows : ∀ a ks, E.rows a = some ks → (E.sig.row a).2.2.1 = ks.length
  pre : ∀ a e a', E.pre a e = some a' → ∃ b x sz n m : Nat, E.sig.row a = (b, x, sz, n) ∧ E.sig.row a' = (b, x, sz, m) ∧ e.val E.sig = m ∧ m ≤ n
  overs : ∀ f ∈ E.overs, OverOk E.P f

theorem toIE_val {ρ : Ren} {x : SV} {v : Value} {k : IntKind} {a : IE} (h : toIE x = some (k, a)) (hx : VRel ρ x v) : v = .int k (a.val ρ.sig) := by
  unfold toIE at h
  split at h
  · simp only [Option.some.injEq, Prod.mk.injEq] at h
    obtain ⟨rfl, rfl⟩ := h
    cases hx; simp [IE.val]
  · simp only [Option.some.injEq, Prod.mk.injEq] at h
    obtain ⟨rfl, rfl⟩ := h
    cases hx; rfl
  · cases h

theorem opVal_int {op : BinOp} {k : IntKind} {x y n : Int} (h1 : op ≠ .shl) (h2 : op ≠ .shr) (h : intOp op k x y = some (.int k n)) : opVal op k x y = n := by
  unfold opVal
  cases op <;> first | exact absurd rfl h1 | exact absurd rfl h2 | simp [h]
theorem sint_of {ρ : Ren} {op : BinOp} {k : IntKind} {a b : IE} {n : Int} (h : opVal op k (a.val ρ.sig) (b.val ρ.sig) = n) : ∀ u, VRel ρ (.int k n) u → VRel ρ (.sint k (.bin op k a b)) u := fun u hu => by
  cases hu
  have := VRel.sint (ρ := ρ) k (.bin op k a b)
  rw [show IE.val ρ.sig (.bin op k a b) = n from by simp only [IE.val]; exact h] at this
  exact this

theorem nzIE_sound {ρ : Ren} (hE : EOk E ρ) {b : IE} (h : nzIE E b = true) : eqb (b.val ρ.sig) (.ofNat 0) = false := by
  unfold nzIE at h
  split at h
  · split at h
    · cases h
    · simpa [IE.val] using ‹_›
  · split at h
    · rename_i he
      have := hE.eq _ _ _ he
      rw [hE.sig]
      simpa [IE.val] using this
    · cases h

theorem symInt_sound {ρ : Ren} (hE : EOk E ρ) {op : BinOp} {k : IntKind} {a b : IE} {r : SV} (hs : op ≠ .shl ∧ op ≠ .shr) (h : symInt E op k a b = some r) :
    ∃ r', intOp op k (a.val ρ.sig) (b.val ρ.sig) = some r' ∧ ∀ u, VRel ρ r' u → VRel ρ r u := by
  obtain ⟨hs1, hs2⟩ := hs
  have num : ∀ n, intOp op k (a.val ρ.sig) (b.val ρ.sig) = some (.int k n) → r = .sint k (.bin op k a b) → ∃ r', intOp op k (a.val ρ.sig) (b.val ρ.sig) = some r' ∧ ∀ u, VRel ρ r' u → VRel ρ r u := fun n h1 h2 => by
    subst h2
    exact ⟨_, h1, sint_of (opVal_int hs1 hs2 h1)⟩
  have cmp : ∀ c d : Bool, c = d → intOp op k (a.val ρ.sig) (b.val ρ.sig) = some (.bool c) → r = .bool d → ∃ r', intOp op k (a.val ρ.sig) (b.val ρ.sig) = some r' ∧ ∀ u, VRel ρ r' u → VRel ρ r u := fun c d h0 h1 h2 => by
    subst h0; subst h2
    exact ⟨_, h1, fun _ h => h⟩
  cases op <;> simp only [symInt] at h
  case add => cases h; exact num _ (by simp only [intOp]; rw [wrapped_eq]) rfl
  case sub => cases h; exact num _ (by simp only [intOp]; rw [wrapped_eq]) rfl
  case mul => cases h; exact num _ (by simp only [intOp]; rw [wrapped_eq]) rfl
  case and => cases h; exact num _ (by simp only [intOp, bitsOp]; rw [wrapSlow_eq]) rfl
  case or => cases h; exact num _ (by simp only [intOp, bitsOp]; rw [wrapSlow_eq]) rfl
  case xor => cases h; exact num _ (by simp only [intOp, bitsOp]; rw [wrapSlow_eq]) rfl
  case andNot => cases h; exact num _ (by simp only [intOp, bitsOp]; rw [wrapSlow_eq]) rfl
  case quo =>
    split at h
    · rename_i hz
      cases h
      have := nzIE_sound hE hz
      exact num _ (by simp only [intOp, this]; rw [wrapped_eq]) rfl
    · cases h
  case rem =>
    split at h
    · rename_i hz
      cases h
      have := nzIE_sound hE hz
      exact num _ (by simp only [intOp, this]; rw [int_eq]) rfl
    · cases h
  case shl => exact absurd rfl hs1
  case shr => exact absurd rfl hs2
  case lss =>
    unfold boolO at h
    split at h
    · rename_i c hc; cases h; exact cmp _ _ (by rw [hE.sig]; exact hE.lt _ _ _ hc) rfl rfl
    · cases h
  case gtr =>
    unfold boolO at h
    split at h
    · rename_i c hc; cases h; exact cmp _ _ (by rw [hE.sig]; exact hE.lt _ _ _ hc) rfl rfl
    · cases h
  case eql =>
    unfold boolO at h
    split at h
    · rename_i c hc; cases h; exact cmp _ _ (by rw [hE.sig]; exact hE.eq _ _ _ hc) rfl rfl
    · cases h
  case leq =>
    unfold boolO at h
    split at h
    · rename_i c hc; cases h
      simp only [symCmp] at hc
      unfold notO at hc
      split at hc
      · rename_i d hd; cases hc; exact cmp _ _ (by rw [hE.sig, hE.lt _ _ _ hd]) rfl rfl
      · cases hc
    · cases h
  case geq =>
    unfold boolO at h
    split at h
    · rename_i c hc; cases h
      simp only [symCmp] at hc
      unfold notO at hc
      split at hc
      · rename_i d hd; cases hc; exact cmp _ _ (by rw [hE.sig, hE.lt _ _ _ hd]) rfl rfl
      · cases hc
    · cases h
  case neq =>
    unfold boolO at h
    split at h
    · rename_i c hc; cases h
      simp only [symCmp] at hc
      unfold notO at hc
      split at hc
      · rename_i d hd; cases hc; exact cmp _ _ (by rw [hE.sig, hE.eq _ _ _ hd]) rfl rfl
      · cases hc
    · cases h
  all_goals
    simp only [symCmp, boolO] at h
    cases h

theorem symOp_sound {ρ : Ren} (hE : EOk E ρ) {op : BinOp} {x y r : SV} {v v' : Value} (h : symOp E op x y = some r) (hx : VRel ρ x v) (hy : VRel ρ y v') (t : TypeId) :
    ∃ k a k' b r', v = .int k a ∧ v' = .int k' b ∧ Sym.binOp E op t (.int k a) (.int k' b) = some r' ∧ ∀ u, VRel ρ r' u → VRel ρ r u := by
  unfold symOp at h
  split at h
  · rename_i k a k' b h1 h2
    refine ⟨k, a.val ρ.sig, k', b.val ρ.sig, ?_⟩
    have e1 := toIE_val h1 hx
    have e2 := toIE_val h2 hy
    suffices hh : ∃ r', Sym.binOp E op t (.int k (a.val ρ.sig)) (.int k' (b.val ρ.sig)) = some r' ∧ ∀ u, VRel ρ r' u → VRel ρ r u by
      obtain ⟨r', q1, q2⟩ := hh
      exact ⟨r', e1, e2, q1, q2⟩
    split at h
    · split at h
      · rename_i n
        cases h
        refine ⟨_, by simp only [Sym.binOp, IE.val, shiftOp]; rw [wrapped_eq], sint_of ?_⟩
        simp only [opVal, IE.val, shiftOp]; rw [wrapped_eq]
      · cases h
    · split at h
      · rename_i n
        cases h
        refine ⟨_, by simp only [Sym.binOp, IE.val, shiftOp]; rw [int_eq], sint_of ?_⟩
        simp only [opVal, IE.val, shiftOp]; rw [int_eq]
      · cases h
    · rename_i n1 n2
      split at h
      · rename_i hk
        obtain ⟨r', q1, q2⟩ := symInt_sound hE ⟨fun e => n1 e, fun e => n2 e⟩ h
        refine ⟨r', ?_, q2⟩
        cases op <;> first | exact (n1 rfl).elim | exact (n2 rfl).elim | (simp only [Sym.binOp, hk]; exact q1)
      · cases h
  · cases h

theorem binOp_int_sound {op : BinOp} {t : TypeId} {k k' : IntKind} {a b : Int} {r : SV} (ρ : Ren) (h : Sym.binOp E op t (.int k a) (.int k' b) = some r) (o o' : Operand) :
    ∃ u, VRel ρ r u ∧ ∀ w, (do eqGuard op t o o' (.int k a) (.int k' b); Go.binOp op t (.int k a) (.int k' b) : Sem Value).run E.P w = .ok u w := by
    simp only [Sym.binOp] at h
    have hg := fun w => guard_scalar (E := E) op t o o' (.int k a) (.int k' b) (by simp) (by simp) w
    split at h
    · obtain ⟨u, h1, h2⟩ := shiftOp_sound (E := E) (yk := k') h ρ
      exact ⟨u, h1, fun w => by simp only [Sem.run_bind, hg, Result.andThen_ok]; exact h2 w⟩
    · obtain ⟨u, h1, h2⟩ := shiftOp_sound (E := E) (yk := k') h ρ
      exact ⟨u, h1, fun w => by simp only [Sem.run_bind, hg, Result.andThen_ok]; exact h2 w⟩
    · rename_i n1 n2
      rw [kindEq_eq] at h
      by_cases hk : k = k'
      · subst hk
        simp at h
        obtain ⟨u, h1, h2⟩ := intOp_sound (E := E) h ρ
        refine ⟨u, h1, fun w => ?_⟩
        simp only [Sem.run_bind, hg, Result.andThen_ok]
        rw [← h2 w]
        cases op <;> first | exact absurd rfl n1 | exact absurd rfl n2 | skip
        all_goals simp [Go.binOp]
      · simp [hk] at h

theorem binOp_sound {op : BinOp} {t : TypeId} {x y r : SV} {ρ : Ren} {v v' : Value} (hE : EOk E ρ) (h : Sym.binOp E op t x y = some r) (hx : VRel ρ x v) (hy : VRel ρ y v') (o o' : Operand) :
    ∃ u, VRel ρ r u ∧ ∀ w, (do eqGuard op t o o' v v'; Go.binOp op t v v' : Sem Value).run E.P w = .ok u w := by
  unfold Sym.binOp at h
  split at h
  · rename_i k a k' b
    cases hx; cases hy
    exact binOp_int_sound ρ (by simpa only [Sym.binOp] using h) o o'
  · rename_i a b
    cases hx; cases hy
    have hg := fun w => guard_scalar (E := E) op t o o' (.string a) (.string b) (by simp) (by simp) w
    obtain ⟨u, h1, h2⟩ := strOp_sound (E := E) h ρ
    refine ⟨u, h1, fun w => ?_⟩
    simp only [Sem.run_bind, hg, Result.andThen_ok]
    rw [← h2 w]
    cases op <;> rfl
  · rename_i a n
    cases hx
    cases hy with
    | atLeast hle =>
      rename_i m
      split at h
      · split at h
        · rename_i hb
          have hb := Nat.le_of_ble_eq_true hb
          simp only [Option.some.injEq] at h; subst h
          refine binOp_int_sound ρ (k := .i64) (k' := .i64) (a := (a : Int)) (b := (m : Int)) ?_ o o'
          have : ltb (m : Int) (a : Int) = false := by rw [ltb_eq]; simp; omega
          simp only [Sym.binOp, kindEq, intOp, this]
        · cases h
      · cases h
  · rename_i n1 n2 n3
    split at h
    · rename_i rs hrs
      simp only [Option.some.injEq] at h; subst h
      obtain ⟨k, a, k', b, r', rfl, rfl, q1, q2⟩ := symOp_sound hE hrs hx hy t
      obtain ⟨u, g1, g2⟩ := binOp_int_sound ρ q1 o o'
      exact ⟨u, q2 u g1, g2⟩
    have key : ∀ op', (op' = .eql ∨ op' = .neq) → eqGuardOk E t x y = true → ∀ b, equal E 12 t x y = some b → ∀ w, (do eqGuard op' t o o' v v'; Go.binOp op' t v v' : Sem Value).run E.P w = .ok (.bool (if op' = .eql then b else !b)) w := by
      intro op' hop hok b hb w
      obtain ⟨q1, q2, q3, q4, q5, q6, q7, q8, q9, q10⟩ := unknown_equal hb
      have hg := eqGuard_sound (op := op') hok hx hy q1 q2 q3 q4 o o' w
      simp only [Sem.run_bind, hg, Result.andThen_ok]
      have he := equal_sound 12 t x y b v v' hb hx hy 10000 (by omega) w
      have hv : ∀ k a k' a', v = .int k a → v' = .int k' a' → False := by
        intro k a k' a' e1 e2
        subst e1; subst e2
        cases hx <;> cases hy <;> first | exact n1 _ _ _ _ rfl rfl | exact q5 _ _ rfl | exact q6 _ _ rfl | exact q7 _ rfl | exact q8 _ rfl | exact q1 rfl | exact q2 rfl | exact q3 rfl | exact q4 rfl
      have hs : ∀ a a', v = .string a → v' = .string a' → False := by
        intro a a' e1 e2
        subst e1; subst e2
        cases hx <;> cases hy <;> first | exact n2 _ _ rfl rfl | exact q9 _ rfl | exact q10 _ rfl | exact q1 rfl | exact q2 rfl | exact q3 rfl | exact q4 rfl
      have hf : ∀ k a k' a', v = .float k a → v' = .float k' a' → False := by
        intro k a k' a' e1 e2
        subst e1
        cases hx <;> first | exact q1 rfl | exact q3 rfl
      have hc : ∀ k a c k' a' c', v = .complex k a c → v' = .complex k' a' c' → False := by
        intro k a c k' a' c' e1 e2
        subst e1
        cases hx <;> first | exact q1 rfl | exact q3 rfl
      rcases hop with rfl | rfl
      · have : Go.binOp .eql t v v' = (do pure (.bool (← Op.equal t v v')) : Sem Value) := by
          unfold Go.binOp
          split <;> first | rfl | exact (hv _ _ _ _ rfl rfl).elim | exact (hs _ _ rfl rfl).elim | exact (hf _ _ _ _ rfl rfl).elim | exact (hc _ _ _ _ _ _ rfl rfl).elim | (simp_all; done)
        rw [this]
        simp only [Sem.run_bind, Op.equal, Op.maxDepth, he, Result.andThen_ok]
        rfl
      · have : Go.binOp .neq t v v' = (do pure (.bool (!(← Op.equal t v v'))) : Sem Value) := by
          unfold Go.binOp
          split <;> first | rfl | exact (hv _ _ _ _ rfl rfl).elim | exact (hs _ _ rfl rfl).elim | exact (hf _ _ _ _ rfl rfl).elim | exact (hc _ _ _ _ _ _ rfl rfl).elim | (simp_all; done)
        rw [this]
        simp only [Sem.run_bind, Op.equal, Op.maxDepth, he, Result.andThen_ok]
        rfl
    split at h
    · split at h
      · rename_i hok
        split at h
        · rename_i b hb
          simp only [Option.some.injEq] at h; subst h
          exact ⟨_, .bool _, fun w => by simpa using key .eql (.inl rfl) hok b hb w⟩
        · cases h
      · cases h
    · split at h
      · rename_i hok
        split at h
        · rename_i b hb
          simp only [Option.some.injEq] at h; subst h
          exact ⟨_, .bool _, fun w => by simpa using key .neq (.inr rfl) hok b hb w⟩
        · cases h
      · cases h
    · cases h

theorem unOp_sound {op : UnOp} {x r : SV} {ρ : Ren} {v : Value} (h : Sym.unOp op x = some r) (hx : VRel ρ x v) : ∃ u, VRel ρ r u ∧ ∀ w, (Op.unary op v).run E.P w = .ok u w := by
  unfold Sym.unOp at h
  split at h
  · cases hx
    rw [wrapped_eq] at h
    simp only [Option.some.injEq] at h; subst h
    exact ⟨_, .int _ _, fun w => rfl⟩
  · rename_i k e
    cases hx
    simp only [Option.some.injEq] at h; subst h
    refine ⟨_, .sint _ _, fun w => ?_⟩
    simp only [IE.val]
    rfl
  · cases hx
    rw [wrapSlow_eq] at h
    simp only [Option.some.injEq] at h; subst h
    exact ⟨_, .int _ _, fun w => rfl⟩
  · cases hx
    simp only [Option.some.injEq] at h; subst h
    exact ⟨_, .bool _, fun w => rfl⟩
  · cases h
end
end Go.RX
