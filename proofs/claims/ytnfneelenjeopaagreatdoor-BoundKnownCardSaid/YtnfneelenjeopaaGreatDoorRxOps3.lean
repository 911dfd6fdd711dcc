/- The operations that look at no memory: the rest. -/
import Derived.Test.YtnfneelenjeopaaGreatDoorRxOps2
set_option linter.all false
namespace Go.RX
open Sym
section
variable {E : Env}

theorem guard_scalar (op : BinOp) (t : TypeId) (o o' : Operand) (v v' : Value) (h : ∀ cs, v ≠ .agg cs) (h' : v ≠ .nilIface) (w : World) : (eqGuard op t o o' v v').run E.P w = .ok () w := by
  cases op <;> first | rfl | skip
  all_goals
    cases v <;> first | rfl | exact absurd rfl (h _) | exact absurd rfl h'

theorem unknown_equal {d : Nat} {t : TypeId} {x y : SV} {b : Bool} (h : equal E d t x y = some b) : x ≠ .unknown ∧ y ≠ .unknown ∧ x ≠ .blur ∧ y ≠ .blur := by
  cases d with
  | zero => simp [equal] at h
  | succ d =>
    simp only [equal] at h
    split at h
    · cases h
    · split at h
      · exact ⟨by simp, by simp, by simp, by simp⟩
      · unfold eqScalar at h
        split at h <;> first | (cases h; done) | exact ⟨by simp, by simp, by simp, by simp⟩

theorem binOp_sound {op : BinOp} {t : TypeId} {x y r : SV} {ρ : Ren} {v v' : Value} (h : Sym.binOp E op t x y = some r) (hx : VRel ρ x v) (hy : VRel ρ y v') (o o' : Operand) :
    ∃ u, VRel ρ r u ∧ ∀ w, (do eqGuard op t o o' v v'; Go.binOp op t v v' : Sem Value).run E.P w = .ok u w := by
  unfold Sym.binOp at h
  split at h
  · rename_i k a k' b
    cases hx; cases hy
    have hg := fun w => guard_scalar (E := E) op t o o' (.int k a) (.int k' b) (by simp) (by simp) w
    split at h
    · obtain ⟨u, h1, h2⟩ := shiftOp_sound (E := E) (yk := k') h ρ
      exact ⟨u, h1, fun w => by simp only [Sem.run_bind, hg, Result.andThen_ok]; exact h2 w⟩
    · obtain ⟨u, h1, h2⟩ := shiftOp_sound (E := E) (yk := k') h ρ
      exact ⟨u, h1, fun w => by simp only [Sem.run_bind, hg, Result.andThen_ok]; exact h2 w⟩
    · rename_i n1 n2
      rw [kindEq_eq] at h
      by_cases hk : k = k'
      · subst hk
        simp at h
        obtain ⟨u, h1, h2⟩ := intOp_sound (E := E) h ρ
        refine ⟨u, h1, fun w => ?_⟩
        simp only [Sem.run_bind, hg, Result.andThen_ok]
        rw [← h2 w]
        cases op <;> first | exact absurd rfl n1 | exact absurd rfl n2 | skip
        all_goals simp [Go.binOp]
      · simp [hk] at h
  · rename_i a b
    cases hx; cases hy
    have hg := fun w => guard_scalar (E := E) op t o o' (.string a) (.string b) (by simp) (by simp) w
    obtain ⟨u, h1, h2⟩ := strOp_sound (E := E) h ρ
    refine ⟨u, h1, fun w => ?_⟩
    simp only [Sem.run_bind, hg, Result.andThen_ok]
    rw [← h2 w]
    cases op <;> rfl
  · rename_i n1 n2
    have key : ∀ op', (op' = .eql ∨ op' = .neq) → eqGuardOk E t x y = true → ∀ b, equal E 12 t x y = some b → ∀ w, (do eqGuard op' t o o' v v'; Go.binOp op' t v v' : Sem Value).run E.P w = .ok (.bool (if op' = .eql then b else !b)) w := by
      intro op' hop hok b hb w
      obtain ⟨q1, q2, q3, q4⟩ := unknown_equal hb
      have hg := eqGuard_sound (op := op') hok hx hy q1 q2 q3 q4 o o' w
      simp only [Sem.run_bind, hg, Result.andThen_ok]
      have he := equal_sound 12 t x y b v v' hb hx hy 10000 (by omega) w
      have hv : ∀ k a k' a', v = .int k a → v' = .int k' a' → False := by
        intro k a k' a' e1 e2
        subst e1; subst e2
        cases hx <;> cases hy <;> first | exact n1 _ _ _ _ rfl rfl | exact q1 rfl | exact q2 rfl | exact q3 rfl | exact q4 rfl
      have hs : ∀ a a', v = .string a → v' = .string a' → False := by
        intro a a' e1 e2
        subst e1; subst e2
        cases hx <;> cases hy <;> first | exact n2 _ _ rfl rfl | exact q1 rfl | exact q2 rfl | exact q3 rfl | exact q4 rfl
      have hf : ∀ k a k' a', v = .float k a → v' = .float k' a' → False := by
        intro k a k' a' e1 e2
        subst e1
        cases hx <;> first | exact q1 rfl | exact q3 rfl
      have hc : ∀ k a c k' a' c', v = .complex k a c → v' = .complex k' a' c' → False := by
        intro k a c k' a' c' e1 e2
        subst e1
        cases hx <;> first | exact q1 rfl | exact q3 rfl
      rcases hop with rfl | rfl
      · have : Go.binOp .eql t v v' = (do pure (.bool (← Op.equal t v v')) : Sem Value) := by
          unfold Go.binOp
          split <;> first | rfl | exact (hv _ _ _ _ rfl rfl).elim | exact (hs _ _ rfl rfl).elim | exact (hf _ _ _ _ rfl rfl).elim | exact (hc _ _ _ _ _ _ rfl rfl).elim | (simp_all; done)
        rw [this]
        simp only [Sem.run_bind, Op.equal, Op.maxDepth, he, Result.andThen_ok]
        rfl
      · have : Go.binOp .neq t v v' = (do pure (.bool (!(← Op.equal t v v'))) : Sem Value) := by
          unfold Go.binOp
          split <;> first | rfl | exact (hv _ _ _ _ rfl rfl).elim | exact (hs _ _ rfl rfl).elim | exact (hf _ _ _ _ rfl rfl).elim | exact (hc _ _ _ _ _ _ rfl rfl).elim | (simp_all; done)
        rw [this]
        simp only [Sem.run_bind, Op.equal, Op.maxDepth, he, Result.andThen_ok]
        rfl
    split at h
    · split at h
      · rename_i hok
        split at h
        · rename_i b hb
          simp only [Option.some.injEq] at h; subst h
          exact ⟨_, .bool _, fun w => by simpa using key .eql (.inl rfl) hok b hb w⟩
        · cases h
      · cases h
    · split at h
      · rename_i hok
        split at h
        · rename_i b hb
          simp only [Option.some.injEq] at h; subst h
          exact ⟨_, .bool _, fun w => by simpa using key .neq (.inr rfl) hok b hb w⟩
        · cases h
      · cases h
    · cases h

theorem unOp_sound {op : UnOp} {x r : SV} {ρ : Ren} {v : Value} (h : Sym.unOp op x = some r) (hx : VRel ρ x v) : ∃ u, VRel ρ r u ∧ ∀ w, (Op.unary op v).run E.P w = .ok u w := by
  unfold Sym.unOp at h
  split at h
  · cases hx
    rw [wrapped_eq] at h
    simp only [Option.some.injEq] at h; subst h
    exact ⟨_, .int _ _, fun w => rfl⟩
  · cases hx
    rw [wrapSlow_eq] at h
    simp only [Option.some.injEq] at h; subst h
    exact ⟨_, .int _ _, fun w => rfl⟩
  · cases hx
    simp only [Option.some.injEq] at h; subst h
    exact ⟨_, .bool _, fun w => rfl⟩
  · cases h
end
end Go.RX
