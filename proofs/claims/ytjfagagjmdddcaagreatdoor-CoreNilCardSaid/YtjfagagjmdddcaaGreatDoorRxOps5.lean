/- What is asked of an operation; the operations that write nothing. -/
import Derived.Test.YtjfagagjmdddcaaGreatDoorRxOps4
set_option linter.all false
namespace Go.RX
open Sym

/-- What of the world is known beside the objects: package-level variables; rows that lie in memory. -/
structure Lies (E : Env) (w : World) : Prop where
  cells : ∀ (g : Nat) (cs : List SV), E.G g = some cs → ∃ (arr : Array Value) (el : TypeId) (fz : Nat × Nat), w.heap[g]? = some (.cells arr el fz) ∧ ∀ (k : Nat) (x : SV), cs[k]? = some x → ∃ v, arr[k]? = some v ∧ VRel (Ren.nil E.sig) x v
  rows : ∀ (a : Nat) (ks : List (Option IntKind)), E.rows a = some ks → ∃ (b x n : Nat) (arr : Array Value) (el : TypeId) (fz : Nat × Nat), E.sig.row a = (b, x, ks.length, n) ∧ w.heap[b]? = some (.cells arr el fz) ∧
    ∀ (i c : Nat) (k : Option IntKind), i < n → ks[c]? = some k → arr[x + i * ks.length + c]? = some (E.sig.cell a i c) ∧ (match k with | some k => ∃ z, E.sig.cell a i c = .int k z | none => (E.sig.cell a i c).oneCell' = true)

/-- The blocks of these. -/
def Fix (E : Env) (b : Nat) : Prop := (∃ cs, E.G b = some cs) ∨ ∃ a ks, E.rows a = some ks ∧ (E.sig.row a).1 = b

theorem Lies.lt {E : Env} {w : World} (h : Lies E w) {b : Nat} (hb : Fix E b) : b < w.heap.size := by
  rcases hb with ⟨cs, hg⟩ | ⟨a, ks, ha, rfl⟩
  · obtain ⟨arr, el, fz, h1, -⟩ := h.cells b cs hg
    exact (Array.getElem?_eq_some_iff.1 h1).1
  · obtain ⟨b, x, n, arr, el, fz, h1, h2, -⟩ := h.rows a ks ha
    rw [h1]
    exact (Array.getElem?_eq_some_iff.1 h2).1

theorem Lies.on {E : Env} {w w' : World} (h : Lies E w) (hb : ∀ b, Fix E b → w'.heap[b]? = w.heap[b]?) : Lies E w' where
  cells g cs hg := by
    obtain ⟨arr, el, fz, h1, h2⟩ := h.cells g cs hg
    exact ⟨arr, el, fz, by rw [hb g (.inl ⟨cs, hg⟩)]; exact h1, h2⟩
  rows a ks ha := by
    obtain ⟨b, x, n, arr, el, fz, h1, h2, h3⟩ := h.rows a ks ha
    exact ⟨b, x, n, arr, el, fz, h1, by rw [hb b (.inr ⟨a, ks, ha, by rw [h1]⟩)]; exact h2, h3⟩

structure Glob (E : Env) (ρ : Ren) (H : Nat → Option SObj) (w : World) : Prop where
  lies : Lies E w
  apart : ∀ b, Fix E b → ∀ i p, H i ≠ none → ρ i = some p → p.1 ≠ b
  num : EOk E ρ

theorem EOk.mono {E : Env} {ρ ρ' : Ren} (h : EOk E ρ) (hle : ρ.le ρ') : EOk E ρ' := ⟨hle.same.symm.trans h.sig, h.lt, h.eq, h.rows, h.pre, h.overs⟩

structure Ok (E : Env) (ρ : Ren) (S : SW) (w : World) : Prop where
  wrel : WRel ρ S.at w
  tidy : S.tidy
  glob : Glob E ρ S.at w

theorem Ok.num {E : Env} {ρ : Ren} {S : SW} {w : World} (h : Ok E ρ S w) : EOk E ρ := h.glob.num

theorem Ok.ext {E : Env} {ρ ρ' : Ren} {S S' : SW} {w w' : World} (h : Ok E ρ S w) (e : Ext ρ S w ρ' S' w') : Ok E ρ' S' w' where
  wrel := e.wrel
  tidy := e.tidy
  glob :=
    { lies := h.glob.lies.on fun b hb => e.frame b (h.glob.lies.lt hb) (h.glob.apart b hb)
      apart := fun b hb i p hi hp hne => by
        have hlt := h.glob.lies.lt hb
        rcases e.own i p hi hp with ⟨j, q, hj, hq, hqp⟩ | hge
        · exact h.glob.apart b hb j q hj hq (hqp.trans hne)
        · omega
      num := h.glob.num.mono e.le }

theorem Ok.refl_ext {E : Env} {ρ : Ren} {S : SW} {w : World} (h : Ok E ρ S w) : Ext ρ S w ρ S w := .refl h.wrel h.tidy

def Goods (ρ : Ren) (cx : Cx) (e fr : List SV) (a : Act) (o : Oper) : Prop := ∀ x ∈ o.op.operands.toList, Good ρ cx e fr a x

/-- What is asked of an operation, compiled. -/
def Sym.KOp.Sound (E : Env) (cx : Cx) (o : Oper) : KOp → Prop
  | .mv f => ∀ ρ e fr a, Goods ρ cx e fr a o → ∃ v, VRel ρ (f e fr) v ∧ ∀ w, (execOp a.eval o).run E.P w = .ok (.value v) w
  | .pure f => ∀ ρ e fr a x, EOk E ρ → Goods ρ cx e fr a o → f e fr = some x → ∃ v, VRel ρ x v ∧ ∀ w, (execOp a.eval o).run E.P w = .ok (.value v) w
  | .rd f => ∀ ρ e fr a x S w, Goods ρ cx e fr a o → Ok E ρ S w → f e fr S = some x → ∃ v, VRel ρ x v ∧ (execOp a.eval o).run E.P w = .ok (.value v) w
  | .full f => ∀ ρ e fr a x S S' w, Goods ρ cx e fr a o → Ok E ρ S w → f e fr S = some (x, S') → Fresh ρ S.next S'.next →
      ∃ ρ' v w', Ext ρ S w ρ' S' w' ∧ VRel ρ' x v ∧ ((execOp a.eval o).run E.P w = .ok (.value v) w' ∨ ((execOp a.eval o).run E.P w = .ok .skip w' ∧ v = undef))
  | .call f => ∀ ρ e fr a C x S S' w, Goods ρ cx e fr a o → f C e fr S = some (x, S') →
      ∃ args vals, VRels ρ args vals ∧
        ((∃ fn, C.call fn args S = some (x, S') ∧ (execOp a.eval o).run E.P w = (callFunc fn vals.toArray).run E.P w) ∨
         (∃ l b, C.round l args S = some (x, S') ∧ ρ l = some (b, 0, 0) ∧ (execOp a.eval o).run E.P w = (Instr.yield b vals.toArray).run E.P w))

section
variable {E : Env} {cx : Cx} {o : Oper} {k : KOp}

theorem run_v {s : Sem Value} {w w' : World} {v : Value} (h : s.run E.P w = .ok v w') : (do pure (.value (← s)) : Sem Next).run E.P w = .ok (.value v) w' := by
  simp only [Sem.run_bind, h, Result.andThen_ok]
  rfl
theorem run_u {s : Sem Unit} {w w' : World} (h : s.run E.P w = .ok () w') : (do s; pure .skip : Sem Next).run E.P w = .ok .skip w' := by
  simp only [Sem.run_bind, h, Result.andThen_ok]
  rfl

theorem kop_move {x : Operand} (h : kop0 E cx o = some k) (ho : o.op = .move x) : k.Sound E cx o := by
  simp only [kop0, ho] at h
  split at h
  · rename_i f hf
    simp only [Option.some.injEq] at h; subst h
    intro ρ e fr a hg
    exact ⟨_, opd_sound hf (hg x (by simp [ho, Op.operands])), fun w => by simp only [execOp, ho]; rfl⟩
  · cases h
theorem kop_assign {x : Operand} (h : kop0 E cx o = some k) (ho : o.op = .assign x) : k.Sound E cx o := by
  simp only [kop0, ho] at h
  split at h
  · rename_i f hf
    simp only [Option.some.injEq] at h; subst h
    intro ρ e fr a hg
    exact ⟨_, opd_sound hf (hg x (by simp [ho, Op.operands])), fun w => by simp only [execOp, ho]; rfl⟩
  · cases h
theorem kop_pick {c x y : Operand} (h : kop0 E cx o = some k) (ho : o.op = .pick c x y) : k.Sound E cx o := by
  simp only [kop0, ho] at h
  split at h
  · rename_i f g h' hf hg' hh
    simp only [Option.some.injEq] at h; subst h
    intro ρ e fr a r hE hg hr
    dsimp only at hr
    have h1 := opd_sound hf (hg c (by simp [ho, Op.operands]))
    have h2 := opd_sound hg' (hg x (by simp [ho, Op.operands]))
    have h3 := opd_sound hh (hg y (by simp [ho, Op.operands]))
    split at hr
    · rename_i e1; rw [e1] at h1
      simp only [Option.some.injEq] at hr; subst hr
      refine ⟨_, h2, fun w => ?_⟩
      simp only [execOp, ho]
      generalize a.eval c = b at h1 ⊢
      cases h1
      simp [asBool]
    · rename_i e1; rw [e1] at h1
      simp only [Option.some.injEq] at hr; subst hr
      refine ⟨_, h3, fun w => ?_⟩
      simp only [execOp, ho]
      generalize a.eval c = b at h1 ⊢
      cases h1
      simp [asBool]
    · cases hr
  · cases h
theorem kop_build {t : TypeId} {ps : Array (Nat × Operand)} (h : kop0 E cx o = some k) (ho : o.op = .build t ps) : k.Sound E cx o := by
  simp only [kop0, ho] at h
  split at h
  · rename_i g z d hp hz hd
    split at h
    · rename_i fields
      split at h
      · rename_i pl hpl
        simp only [Option.some.injEq] at h; subst h
        intro ρ e fr a r hE hg hr
        dsimp only at hr
        have hps := parts_sound hp (fun q hq => hg q.2 (by simp only [ho, Op.operands]; simpa using ⟨q.1, by simpa using hq⟩))
        obtain ⟨zv, hzv, hzr⟩ := zero_run hz ρ
        split at hr
        · rename_i l hl
          simp only [Option.some.injEq] at hr; subst hr
          obtain ⟨cs', hf, hrel⟩ := fill_sound (nthP pl) hl hps (hzv.cells (zero_known hz))
          refine ⟨.agg cs', .agg hrel, fun w => ?_⟩
          simp only [execOp, ho]
          refine run_v ?_
          have hpe : (fun i : Nat => pl.toArray[i]?) = nthP pl := funext fun i => by rw [nthP_eq]; simp
          simp only [Instr.build, Sem.run_bind, hzr, Result.andThen_ok, run_underlying hd, fieldPlaces_runA hpl, hpe]
          rw [Array.toList_map, hf]
          rfl
        · cases hr
      · cases h
    · rename_i n elem
      split at h
      · rename_i size hsz
        simp only [Option.some.injEq] at h; subst h
        intro ρ e fr a r hE hg hr
        dsimp only at hr
        have hps := parts_sound hp (fun q hq => hg q.2 (by simp only [ho, Op.operands]; simpa using ⟨q.1, by simpa using hq⟩))
        obtain ⟨zv, hzv, hzr⟩ := zero_run hz ρ
        split at hr
        · rename_i l hl
          simp only [Option.some.injEq] at hr; subst hr
          obtain ⟨cs', hf, hrel⟩ := fill_sound _ hl hps (hzv.cells (zero_known hz))
          refine ⟨.agg cs', .agg hrel, fun w => ?_⟩
          simp only [execOp, ho]
          refine run_v ?_
          simp only [Instr.build, Sem.run_bind, hzr, Result.andThen_ok, run_underlying hd, sizeOf_run hsz]
          rw [Array.toList_map, hf]
          rfl
        · cases hr
      · cases h
    · cases h
  · cases h
theorem kop_nilCheck {x : Operand} (h : kop0 E cx o = some k) (ho : o.op = .nilCheck x) : k.Sound E cx o := by
  simp only [kop0, ho] at h
  split at h
  · rename_i f hf
    simp only [Option.some.injEq] at h; subst h
    intro ρ e fr a r hE hg hr
    dsimp only at hr
    have h1 := opd_sound hf (hg x (by simp [ho, Op.operands]))
    split at hr <;> first | (cases hr; done) | skip
    all_goals
      rename_i e1; rw [e1] at h1
      simp only [Option.some.injEq] at hr; subst hr
      refine ⟨_, h1, fun w => ?_⟩
      simp only [execOp, ho]
      generalize a.eval x = b at h1 ⊢
      cases h1
      rfl
  · cases h
theorem kop_binOp {op : BinOp} {t t' : TypeId} {x y : Operand} (h : kop0 E cx o = some k) (ho : o.op = .binOp op t x y t') : k.Sound E cx o := by
  simp only [kop0, ho] at h
  split at h
  · rename_i f g hf hg'
    simp only [Option.some.injEq] at h; subst h
    intro ρ e fr a r hE hg hr
    dsimp only at hr
    obtain ⟨u, h1, h2⟩ := binOp_sound hE hr (opd_sound hf (hg x (by simp [ho, Op.operands]))) (opd_sound hg' (hg y (by simp [ho, Op.operands]))) x y
    exact ⟨u, h1, fun w => by simp only [execOp, ho]; exact run_v (h2 w)⟩
  · cases h
theorem kop_unOp {op : UnOp} {t : TypeId} {x : Operand} (h : kop0 E cx o = some k) (ho : o.op = .unOp op t x) : k.Sound E cx o := by
  simp only [kop0, ho] at h
  split at h
  · rename_i f hf
    simp only [Option.some.injEq] at h; subst h
    intro ρ e fr a r hE hg hr
    dsimp only at hr
    obtain ⟨u, h1, h2⟩ := unOp_sound (E := E) hr (opd_sound hf (hg x (by simp [ho, Op.operands])))
    exact ⟨u, h1, fun w => by simp only [execOp, ho]; exact run_v (h2 w)⟩
  · cases h
theorem kop_makeInterface {t : TypeId} {x : Operand} (h : kop0 E cx o = some k) (ho : o.op = .makeInterface t x) : k.Sound E cx o := by
  simp only [kop0, ho] at h
  split at h
  · rename_i f d hf hd
    split at h
    · cases h
    · rename_i hni
      simp only [Option.some.injEq] at h; subst h
      intro ρ e fr a r hE hg hr
      dsimp only at hr
      simp only [Option.some.injEq] at hr; subst hr
      refine ⟨_, .iface t (opd_sound hf (hg x (by simp [ho, Op.operands]))), fun w => ?_⟩
      simp only [execOp, ho]
      refine run_v ?_
      simp only [Instr.makeInterface, Sem.run_bind, run_underlying hd, Result.andThen_ok]
      rfl
  · cases h
theorem kop_makeFunc {fn : Fn} {first cap : Array Operand} (h : kop0 E cx o = some k) (ho : o.op = .makeFunc fn first cap) : k.Sound E cx o := by
  simp only [kop0, ho] at h
  split at h
  · rename_i f h2 g hfirst hcap
    simp only [Option.some.injEq] at h; subst h
    intro ρ e fr a r hE hg hr
    dsimp only at hr
    simp only [Option.some.injEq] at hr; subst hr
    have hf1 := opds_sound hfirst (fun q hq => hg q (by simp only [ho, Op.operands]; simp [hq]))
    have hc := opds_sound hcap (fun q hq => hg q (by simp only [ho, Op.operands]; simp [hq]))
    refine ⟨_, .func f hf1 hc, fun w => ?_⟩
    simp only [execOp, ho]
    refine run_v ?_
    simp only [Instr.makeFunc]
    simp only [Sem.run_pure]
    congr 2
    · apply Array.ext'
      simp
    · apply Array.ext'
      simp
  · cases h
theorem kop_extract {x : Operand} {i : Nat} (h : kop0 E cx o = some k) (ho : o.op = .extract x i) : k.Sound E cx o := by
  simp only [kop0, ho] at h
  split at h
  · rename_i f hf
    simp only [Option.some.injEq] at h; subst h
    intro ρ e fr a r hE hg hr
    dsimp only at hr
    have h1 := opd_sound hf (hg x (by simp [ho, Op.operands]))
    split at hr
    · rename_i vs e1; rw [e1] at h1
      rw [nth_eq] at hr
      generalize hb : a.eval x = b at h1
      cases h1 with
      | tuple hvs =>
        obtain ⟨u, hu1, hu2⟩ := hvs.get hr
        refine ⟨u, hu2, fun w => ?_⟩
        simp only [execOp, ho, hb]
        refine run_v ?_
        simp [Instr.extract, hu1]
    · cases hr
  · cases h
end
end Go.RX
