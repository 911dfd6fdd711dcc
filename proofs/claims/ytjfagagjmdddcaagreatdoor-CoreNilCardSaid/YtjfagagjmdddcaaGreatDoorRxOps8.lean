/- Builtins and conversions that write nothing. -/
import Derived.Test.YtjfagagjmdddcaaGreatDoorRxOps7
set_option linter.all false
namespace Go.RX
open Sym
section
variable {E : Env} {cx : Cx} {o : Oper} {k : KOp} {c : Call}

theorem run_builtin (ho : o.op = .call c) {b : Builtin} (hc : c.callee = .builtin b) (a : Act) : ∃ consts, ∀ w, (execOp a.eval o).run E.P w = (builtin b c.argTypes o.type consts (c.args.map a.eval)).run E.P w := by
  refine ⟨c.args.map fun | .const _ => true | _ => false, fun w => ?_⟩
  simp only [execOp, ho, resolve, hc, Sem.run_bind, Sem.run_pure, Result.andThen_ok, invoke]
  rfl

theorem call_operands (ho : o.op = .call c) {x : Operand} (hx : x ∈ c.args.toList) : x ∈ o.op.operands.toList := by
  rw [ho]
  simp only [Op.operands, Call.operands, Array.toList_append]
  exact List.mem_append_right _ hx

theorem map_args1 {a : Act} {x : Operand} (h : c.args.toList = [x]) : c.args.map a.eval = #[a.eval x] := by
  apply Array.ext'; simp [h]
theorem map_args2 {a : Act} {x y : Operand} (h : c.args.toList = [x, y]) : c.args.map a.eval = #[a.eval x, a.eval y] := by
  apply Array.ext'; simp [h]
theorem types1 {t : TypeId} {ts : List TypeId} (h : c.argTypes.toList = t :: ts) : c.argTypes[0]? = some t := by
  rw [← Array.getElem?_toList, h]; rfl

theorem len_sound {x : Operand} (h : builtinK E cx .len c.argTypes [x] = some k) (ho : o.op = .call c) (hc : c.callee = .builtin .len) (ha : c.args.toList = [x]) : k.Sound E cx o := by
  simp only [builtinK] at h
  split at h
  · rename_i f t0 ts hf hts
    have hG : ∀ {ρ e fr a}, Goods ρ cx e fr a o → Good ρ cx e fr a x := fun hg => hg x (call_operands ho (by simp [ha]))
    have hrun : ∀ (a : Act) (v : Value) (w w' : World), (Builtin.len_ c.argTypes o.type #[a.eval x]).run E.P w = .ok v w' → (execOp a.eval o).run E.P w = .ok (.value v) w' := by
      intro a v w w' hl
      obtain ⟨cs, hr⟩ := run_builtin (E := E) ho hc a
      rw [hr, map_args1 ha]
      exact run_v hl
    split at h
    · rename_i hd
      simp only [Option.some.injEq] at h; subst h
      intro ρ e fr a r hE hg hr
      dsimp only at hr
      have h1 := opd_sound hf (hG hg)
      split at hr
      · rename_i s e1; rw [e1] at h1
        rw [int_eq] at hr
        simp only [Option.some.injEq] at hr; subst hr
        generalize hb : a.eval x = b at h1
        cases h1
        refine ⟨_, .int _ _, fun w => hrun a _ w w ?_⟩
        rw [hb]
        simp [Builtin.len_, types1 hts, run_underlying hd, goInt]
      · rename_i sa e1; rw [e1] at h1
        simp only [Option.some.injEq] at hr; subst hr
        generalize hb : a.eval x = b at h1
        cases h1 with
        | sstr hs =>
          have hq := VRel.sint (ρ := ρ) .i64 (.var sa)
          simp only [IE.val, ← hs] at hq
          exact ⟨_, hq, fun w => hrun a _ w w (by rw [hb]; simp [Builtin.len_, types1 hts, run_underlying hd, goInt])⟩
      · cases hr
    · rename_i el hd
      simp only [Option.some.injEq] at h; subst h
      intro ρ e fr a r hE hg hr
      dsimp only at hr
      have h1 := opd_sound hf (hG hg)
      split at hr
      · rename_i i1 o1 n1 c1 e1; rw [e1] at h1
        rw [int_eq] at hr
        simp only [Option.some.injEq] at hr; subst hr
        generalize hb : a.eval x = b at h1
        cases h1 <;> exact ⟨_, .int _ _, fun w => hrun a _ w w (by rw [hb]; simp [Builtin.len_, types1 hts, run_underlying hd, goInt])⟩
      · rename_i e1; rw [e1] at h1
        simp only [Option.some.injEq] at hr; subst hr
        generalize hb : a.eval x = b at h1
        cases h1
        exact ⟨_, .int _ _, fun w => hrun a _ w w (by rw [hb]; simp [Builtin.len_, types1 hts, run_underlying hd, goInt])⟩
      · rename_i ra e1; rw [e1] at h1
        simp only [Option.some.injEq] at hr; subst hr
        generalize hb : a.eval x = b at h1
        cases h1 with
        | row hrow hcap =>
          have hs := VRel.sint (ρ := ρ) .i64 (.len ra)
          simp only [IE.val, hrow] at hs
          exact ⟨_, hs, fun w => hrun a _ w w (by rw [hb]; simp [Builtin.len_, types1 hts, run_underlying hd, goInt])⟩
      · cases hr
    · rename_i n el hd
      simp only [Option.some.injEq] at h; subst h
      intro ρ e fr a r hE hg hr
      dsimp only at hr
      rw [int_eq] at hr
      simp only [Option.some.injEq] at hr; subst hr
      exact ⟨_, .int _ _, fun w => hrun a _ w w (by simp [Builtin.len_, types1 hts, run_underlying hd, goInt])⟩
    · rename_i kt et hd
      simp only [Option.some.injEq] at h; subst h
      intro ρ e fr a r S w hg hok hr
      dsimp only at hr
      have h1 := opd_sound hf (hG hg)
      split at hr
      · rename_i es hes
        rw [int_eq] at hr
        simp only [Option.some.injEq] at hr; subst hr
        rcases entries_sound hok hes h1 with ⟨hm, rfl⟩ | ⟨rr, arr, cl, hm, hb, her⟩
        · exact ⟨_, .int _ _, hrun a _ w w (by rw [hm]; simp [Builtin.len_, types1 hts, run_underlying hd, goInt])⟩
        · refine ⟨_, .int _ _, hrun a _ w w ?_⟩
          rw [hm]
          have hl := her.length
          simp [Builtin.len_, types1 hts, run_underlying hd, goInt, run_getObj_map E.P hb, hl]
      · cases hr
    · cases h
  · cases h

theorem cap_sound {x : Operand} (h : builtinK E cx .cap c.argTypes [x] = some k) (ho : o.op = .call c) (hc : c.callee = .builtin .cap) (ha : c.args.toList = [x]) : k.Sound E cx o := by
  simp only [builtinK] at h
  split at h
  · rename_i f t0 ts hf hts
    have hG : ∀ {ρ e fr a}, Goods ρ cx e fr a o → Good ρ cx e fr a x := fun hg => hg x (call_operands ho (by simp [ha]))
    have hrun : ∀ (a : Act) (v : Value) (w w' : World), (Builtin.cap_ c.argTypes o.type #[a.eval x]).run E.P w = .ok v w' → (execOp a.eval o).run E.P w = .ok (.value v) w' := by
      intro a v w w' hl
      obtain ⟨cs, hr⟩ := run_builtin (E := E) ho hc a
      rw [hr, map_args1 ha]
      exact run_v hl
    split at h
    · rename_i el hd
      simp only [Option.some.injEq] at h; subst h
      intro ρ e fr a r hE hg hr
      dsimp only at hr
      have h1 := opd_sound hf (hG hg)
      split at hr
      · rename_i i1 o1 n1 c1 e1; rw [e1] at h1
        rw [int_eq] at hr
        simp only [Option.some.injEq] at hr; subst hr
        generalize hb : a.eval x = b at h1
        cases h1
        exact ⟨_, .int _ _, fun w => hrun a _ w w (by rw [hb]; simp [Builtin.cap_, types1 hts, run_underlying hd, goInt])⟩
      · rename_i i1 o1 n1 sz1 least e1; rw [e1] at h1
        simp only [Option.some.injEq] at hr; subst hr
        generalize hb : a.eval x = b at h1
        cases h1 with
        | sliceT hp ht hl hk hxx => exact ⟨_, .atLeast hk, fun w => hrun a _ w w (by rw [hb]; simp [Builtin.cap_, types1 hts, run_underlying hd, goInt])⟩
      · rename_i e1; rw [e1] at h1
        simp only [Option.some.injEq] at hr; subst hr
        generalize hb : a.eval x = b at h1
        cases h1
        exact ⟨_, .int _ _, fun w => hrun a _ w w (by rw [hb]; simp [Builtin.cap_, types1 hts, run_underlying hd, goInt])⟩
      · cases hr
    · rename_i n el hd
      simp only [Option.some.injEq] at h; subst h
      intro ρ e fr a r hE hg hr
      dsimp only at hr
      rw [int_eq] at hr
      simp only [Option.some.injEq] at hr; subst hr
      exact ⟨_, .int _ _, fun w => hrun a _ w w (by simp [Builtin.cap_, types1 hts, run_underlying hd, goInt])⟩
    · cases h
  · cases h

theorem min_fold {ρ : Ren} : ∀ {xs : List SV} {vs : List Value} {x r : SV} {v : Value}, minMax true x xs = some r → VRel ρ x v → VRels ρ xs vs → ∃ u, VRel ρ r u ∧ ∀ w, (vs.foldlM Builtin.min2 v).run E.P w = .ok u w
  | [], _, x, r, v, h, hx, .nil => by
    simp [minMax] at h; subst h
    exact ⟨v, hx, fun w => rfl⟩
  | y :: ys, _, x, r, v, h, hx, .cons (v := v2) hy hs => by
    unfold minMax at h
    split at h
    · rename_i heq; cases heq
    · rename_i k1 a1 k2 b1 rest heq
      cases heq
      cases hx; cases hy
      simp only [ltb_eq] at h
      have hstep : ∀ w, (Builtin.min2 (.int k1 a1) (.int k2 b1)).run E.P w = .ok (.int k1 (if b1 < a1 then b1 else a1)) w := fun w => rfl
      by_cases hlt : b1 < a1
      · simp [hlt] at h
        obtain ⟨u, h1, h2⟩ := min_fold h (.int k1 b1) hs
        exact ⟨u, h1, fun w => by simp only [List.foldlM_cons, Sem.run_bind, hstep, Result.andThen_ok, if_pos hlt]; exact h2 w⟩
      · simp [hlt] at h
        obtain ⟨u, h1, h2⟩ := min_fold h (.int k1 a1) hs
        exact ⟨u, h1, fun w => by simp only [List.foldlM_cons, Sem.run_bind, hstep, Result.andThen_ok, if_neg hlt]; exact h2 w⟩
    · rename_i x0 y0 ys0 n1 heq
      cases heq
      split at h
      · rename_i k1 a1 k2 b1 e1 e2
        have g1 := toIE_val e1 hx
        have g2 := toIE_val e2 hy
        subst g1; subst g2
        simp only at h
        have hs1 := VRel.sint (ρ := ρ) k1 (.min a1 b1)
        simp only [IE.val] at hs1
        obtain ⟨u, h1, h2⟩ := min_fold h hs1 hs
        refine ⟨u, h1, fun w => ?_⟩
        have hstep : (Builtin.min2 (.int k1 (a1.val ρ.sig)) (.int k2 (b1.val ρ.sig))).run E.P w = .ok (.int k1 (if b1.val ρ.sig < a1.val ρ.sig then b1.val ρ.sig else a1.val ρ.sig)) w := rfl
        simp only [List.foldlM_cons, Sem.run_bind, hstep, Result.andThen_ok]
        exact h2 w
      · cases h

theorem max_fold {ρ : Ren} : ∀ {xs : List SV} {vs : List Value} {x r : SV} {v : Value}, minMax false x xs = some r → VRel ρ x v → VRels ρ xs vs → ∃ u, VRel ρ r u ∧ ∀ w, (vs.foldlM Builtin.max2 v).run E.P w = .ok u w
  | [], _, x, r, v, h, hx, .nil => by
    simp [minMax] at h; subst h
    exact ⟨v, hx, fun w => rfl⟩
  | y :: ys, _, x, r, v, h, hx, .cons (v := v2) hy hs => by
    unfold minMax at h
    split at h
    · rename_i heq; cases heq
    · rename_i k1 a1 k2 b1 rest heq
      cases heq
      cases hx; cases hy
      simp only [ltb_eq] at h
      have hstep : ∀ w, (Builtin.max2 (.int k1 a1) (.int k2 b1)).run E.P w = .ok (.int k1 (if b1 > a1 then b1 else a1)) w := fun w => rfl
      by_cases hlt : a1 < b1
      · simp [hlt] at h
        obtain ⟨u, h1, h2⟩ := max_fold h (.int k1 b1) hs
        exact ⟨u, h1, fun w => by simp only [List.foldlM_cons, Sem.run_bind, hstep, Result.andThen_ok, if_pos (show b1 > a1 from hlt)]; exact h2 w⟩
      · simp [hlt] at h
        obtain ⟨u, h1, h2⟩ := max_fold h (.int k1 a1) hs
        exact ⟨u, h1, fun w => by simp only [List.foldlM_cons, Sem.run_bind, hstep, Result.andThen_ok, if_neg (show ¬ b1 > a1 from hlt)]; exact h2 w⟩
    · rename_i x0 y0 ys0 n1 heq
      cases heq
      split at h
      · rename_i k1 a1 k2 b1 e1 e2
        have g1 := toIE_val e1 hx
        have g2 := toIE_val e2 hy
        subst g1; subst g2
        simp only at h
        have hs1 := VRel.sint (ρ := ρ) k1 (.max a1 b1)
        simp only [IE.val] at hs1
        obtain ⟨u, h1, h2⟩ := max_fold h hs1 hs
        refine ⟨u, h1, fun w => ?_⟩
        have hstep : (Builtin.max2 (.int k1 (a1.val ρ.sig)) (.int k2 (b1.val ρ.sig))).run E.P w = .ok (.int k1 (if a1.val ρ.sig < b1.val ρ.sig then b1.val ρ.sig else a1.val ρ.sig)) w := rfl
        simp only [List.foldlM_cons, Sem.run_bind, hstep, Result.andThen_ok]
        exact h2 w
      · cases h

theorem min_sound {x : Operand} {rest : List Operand} (h : builtinK E cx .min c.argTypes (x :: rest) = some k) (ho : o.op = .call c) (hc : c.callee = .builtin .min) (ha : c.args.toList = x :: rest) : k.Sound E cx o := by
  simp only [builtinK] at h
  split at h
  · rename_i f g hf hg'
    simp only [Option.some.injEq] at h; subst h
    intro ρ e fr a r hE hg hr
    dsimp only at hr
    have h1 := opd_sound hf (hg x (call_operands ho (by simp [ha])))
    have h2 := opds_sound hg' (fun q hq => hg q (call_operands ho (by simp [ha, hq])))
    obtain ⟨u, hu1, hu2⟩ := min_fold (E := E) hr h1 h2
    refine ⟨u, hu1, fun w => ?_⟩
    obtain ⟨cs, hrn⟩ := run_builtin (E := E) ho hc a
    rw [hrn]
    refine run_v ?_
    have : (c.args.map a.eval).toList = a.eval x :: rest.map a.eval := by simp [ha]
    simp only [Builtin.min_, this]
    exact hu2 w
  · cases h

theorem max_sound {x : Operand} {rest : List Operand} (h : builtinK E cx .max c.argTypes (x :: rest) = some k) (ho : o.op = .call c) (hc : c.callee = .builtin .max) (ha : c.args.toList = x :: rest) : k.Sound E cx o := by
  simp only [builtinK] at h
  split at h
  · rename_i f g hf hg'
    simp only [Option.some.injEq] at h; subst h
    intro ρ e fr a r hE hg hr
    dsimp only at hr
    have h1 := opd_sound hf (hg x (call_operands ho (by simp [ha])))
    have h2 := opds_sound hg' (fun q hq => hg q (call_operands ho (by simp [ha, hq])))
    obtain ⟨u, hu1, hu2⟩ := max_fold (E := E) hr h1 h2
    refine ⟨u, hu1, fun w => ?_⟩
    obtain ⟨cs, hrn⟩ := run_builtin (E := E) ho hc a
    rw [hrn]
    refine run_v ?_
    have : (c.args.map a.eval).toList = a.eval x :: rest.map a.eval := by simp [ha]
    simp only [Builtin.max_, this]
    exact hu2 w
  · cases h
end
end Go.RX
