/- Regions in their written order. -/
import Derived.Test.YtjfagagjmdddcaaGreatDoorRxOps13
import Derived.RangeFuncLeaves
import Derived.RangeFuncNested
set_option linter.all false
namespace Go.RX
open Sym

/-! ### The fences that are met: none; within a round -/
def Fr : Option Nat → Fence
  | none => Fence.wide
  | some l => Fence.wide.inRound l

theorem Fr_fn (r : Option Nat) (f : FuncId) : (Fr r).fn f := by cases r <;> trivial
theorem Fr_depth (r : Option Nat) : (Fr r).depth = none := by cases r <;> rfl
theorem Fr_room (r : Option Nat) (n : Nat) : (Fr r).room n := fun d h => by rw [Fr_depth] at h; cases h
theorem Fr_round (r : Option Nat) : (Fr r).round = r := by cases r <;> rfl
theorem Fr_n (r : Option Nat) (n : Nat) : (Fr r).depth.isSome = true → 1 ≤ n := fun h => by rw [Fr_depth] at h; cases h
theorem Fr_calls {r : Option Nat} {n : Nat} {P : Program} {f : FuncId} {args : Array Value} {w : World} {R : Ending → World → Prop} (h : Calls P f args w R) : CallsIn (Fr r) n P f args w R := by
  have h' : CallsIn Fence.wide n P f args w R := callsIn_wide.2 h
  cases r with
  | none => exact h'
  | some l => exact h'
theorem Fr_round_n {r : Option Nat} {n : Nat} {P : Program} {l : Nat} {f : FuncId} {tmps : Array Value} {assign body : Code} {w : World} {R : Ending → World → Prop}
    (h : RoundIn Fence.wide 0 P l f tmps assign body w R) : RoundIn (Fr r) n P l f tmps assign body w R := by
  have h' : RoundIn Fence.wide n P l f tmps assign body w R := ⟨trivial, fun c cs _ => h.2 c cs (room_wide _)⟩
  cases r with
  | none => exact h'
  | some l => exact h'

/-! ### The functions that code calls -/
def Res (E : Env) (ρ : Ren) (S : SW) (w : World) (S' : SW) (x : SV) : Ending → World → Prop := fun e w' => ∃ v ρ', e = .returned v ∧ Ext ρ S w ρ' S' w' ∧ VRel ρ' x v

structure CalleeSound (E : Env) (C : Sym.Callee) : Prop where
  name : ∀ f args S r, C.call f args S = some r → ∀ (vals : Array Value) w, (callFunc f vals).run E.P w = .ok (.enter f vals) w
  call : ∀ f args S x S', C.call f args S = some (x, S') → ∀ ρ vals w, Ok E ρ S w → Fresh ρ S.next S'.next → VRels ρ args vals → Calls E.P f vals.toArray w (Res E ρ S w S' x)
  round : ∀ l args S x S', C.round l args S = some (x, S') → ∀ ρ vals w b, Ok E ρ S w → Fresh ρ S.next S'.next → ρ l = some (b, 0, 0) → VRels ρ args vals →
    ∃ tmps f assign body, (Instr.yield b vals.toArray).run E.P w = .ok (.round b f tmps assign body) w ∧ RoundIn Fence.wide 0 E.P b f tmps assign body w (Res E ρ S w S' x)

/-! ### One operation of a region -/
/-- What 'wpOpsIn' asks of one operation. -/
def stepIn (F : Fence) (n : Nat) (P : Program) (ops : Array Oper) (o : Oper) (a : Act) (w : World) (next : Act → World → Prop) (Q : Exit → Act → World → Prop) : Prop :=
  if Region.wanted o (yielded ops a.tmps) then o.wpIn F n P a w next Q
  else (∀ f, o.about P w a.eval = some f → F.fn f) ∧ next (a.put o.dst undef) w

section
variable {E : Env} {cx : Cx} {o : Oper} {k : KOp} {C : Sym.Callee} {r : Option Nat} {n : Nat}

theorem kop_no_defer (h : kop E cx o = some k) : ∀ c, o.op ≠ .defer c := fun c e => by simp [kop, kop0, e] at h

theorem wp_value {a : Act} {w w' : World} {v : Value} {next : Act → World → Prop} {Q : Exit → Act → World → Prop} (hd : ∀ c, o.op ≠ .defer c) (h : (execOp a.eval o).run E.P w = .ok (.value v) w') (hn : next (a.put o.dst v) w') : o.wpIn (Fr r) n E.P a w next Q := by
  refine ⟨fun f _ => Fr_fn r f, ?_⟩
  rw [Oper.semAt_eq _ _ _ hd, h]
  exact hn
theorem wp_skip {a : Act} {w w' : World} {next : Act → World → Prop} {Q : Exit → Act → World → Prop} (hd : ∀ c, o.op ≠ .defer c) (h : (execOp a.eval o).run E.P w = .ok .skip w') (hn : next (a.put o.dst undef) w') : o.wpIn (Fr r) n E.P a w next Q := by
  refine ⟨fun f _ => Fr_fn r f, ?_⟩
  rw [Oper.semAt_eq _ _ _ hd, h]
  exact hn

/-- An operation that is carried out. -/
theorem op_run (hk : kop E cx o = some k) (hC : CalleeSound E C) {f : Sym.Callee → List SV → List SV → SW → Option (SV × SW)} (hf : k1of k = ⟨f⟩) {ρ : Ren} {e fr : List SV} {a : Act} {S S' : SW} {w : World} {x : SV}
    (hg : Goods ρ cx e fr a o) (hok : Ok E ρ S w) (h : f C e fr S = some (x, S')) (hfr : Fresh ρ S.next S'.next) {next : Act → World → Prop} {Q : Exit → Act → World → Prop}
    (hn : ∀ ρ' v w', Ext ρ S w ρ' S' w' → VRel ρ' x v → next (a.put o.dst v) w') : o.wpIn (Fr r) n E.P a w next Q := by
  have hs := kop_sound hk
  have hd := kop_no_defer hk
  cases k with
  | mv q =>
    simp only [k1of, K1.mk.injEq] at hf
    subst hf
    simp only [Option.some.injEq, Prod.mk.injEq] at h
    obtain ⟨rfl, rfl⟩ := h
    obtain ⟨v, h1, h2⟩ := hs ρ e fr a hg
    exact wp_value hd (h2 w) (hn ρ v w hok.refl_ext h1)
  | pure q =>
    simp only [k1of, K1.mk.injEq] at hf
    subst hf
    dsimp only at h
    split at h
    · rename_i y hy
      simp only [Option.some.injEq, Prod.mk.injEq] at h
      obtain ⟨rfl, rfl⟩ := h
      obtain ⟨v, h1, h2⟩ := hs ρ e fr a _ hok.num hg hy
      exact wp_value hd (h2 w) (hn ρ v w hok.refl_ext h1)
    · cases h
  | rd q =>
    simp only [k1of, K1.mk.injEq] at hf
    subst hf
    dsimp only at h
    split at h
    · rename_i y hy
      simp only [Option.some.injEq, Prod.mk.injEq] at h
      obtain ⟨rfl, rfl⟩ := h
      obtain ⟨v, h1, h2⟩ := hs ρ e fr a _ S w hg hok hy
      exact wp_value hd h2 (hn ρ v w hok.refl_ext h1)
    · cases h
  | full q =>
    simp only [k1of, K1.mk.injEq] at hf
    subst hf
    obtain ⟨ρ', v, w', h1, h2, h3⟩ := hs ρ e fr a _ S S' w hg hok h hfr
    rcases h3 with h3 | ⟨h3, rfl⟩
    · exact wp_value hd h3 (hn ρ' v w' h1 h2)
    · exact wp_skip hd h3 (hn ρ' _ w' h1 h2)
  | call q =>
    simp only [k1of, K1.mk.injEq] at hf
    subst hf
    obtain ⟨args, vals, hv, hcase⟩ := hs ρ e fr a C x S S' w hg h
    rcases hcase with ⟨fn, h1, h2⟩ | ⟨l, b, h1, h2, h3⟩
    · refine ⟨fun f _ => Fr_fn r f, ?_⟩
      rw [Oper.semAt_eq _ _ _ hd, h2, hC.name fn args S _ h1]
      refine ⟨Fr_n r n, CallsIn.mono (Fr_calls (hC.call fn args S x S' h1 ρ vals w hok hfr hv)) ?_⟩
      rintro e' w' ⟨v, ρ', rfl, h4, h5⟩
      exact hn ρ' v w' h4 h5
    · obtain ⟨tmps, f, assign, body, h4, h5⟩ := hC.round l args S x S' h1 ρ vals w b hok hfr h2 hv
      refine ⟨fun f _ => Fr_fn r f, ?_⟩
      rw [Oper.semAt_eq _ _ _ hd, h3, h4]
      refine ⟨Fr_n r n, RoundIn.mono (Fr_round_n h5) ?_⟩
      rintro e' w' ⟨v, ρ', rfl, h6, h7⟩
      exact hn ρ' v w' h6 h7

theorem nthO_eq : ∀ (l : List Oper) (i : Nat), nthO l i = l[i]?
  | [], i => by simp [nthO]
  | c :: l, 0 => by simp [nthO]
  | c :: l, i + 1 => by simp [nthO, nthO_eq l i]

/-- An operation that is carried out, or not, as its guard says. -/
theorem op_step {ops : Array Oper} (hk : kop E cx o = some k) (hC : CalleeSound E C) {f : Sym.Callee → List SV → List SV → SW → Option (SV × SW)} (hf : guarded (guardK cx ops.toList o) (k1of k) = ⟨f⟩) {ρ : Ren} {e fr : List SV} {a : Act} {S S' : SW} {w : World} {x : SV}
    (hg : Goods ρ cx e fr a o) (hgd : ∀ d, guardSlot ops.toList o = some d → Good ρ cx e fr a (.tmp d)) (hok : Ok E ρ S w) (h : f C e fr S = some (x, S')) (hfr : Fresh ρ S.next S'.next) {next : Act → World → Prop} {Q : Exit → Act → World → Prop}
    (hn : ∀ ρ' v w', Ext ρ S w ρ' S' w' → VRel ρ' x v → next (a.put o.dst v) w') : stepIn (Fr r) n E.P ops o a w next Q := by
  unfold stepIn
  unfold guardK at hf
  split at hf
  · rename_i hno
    simp only [guarded] at hf
    rw [if_pos (by simp [Region.wanted, hno])]
    exact op_run hk hC hf hg hok h hfr hn
  · rename_i j want hgu
    split at hf
    · rename_i d hd
      simp only at hf
      have hG := hgd d hd
      simp only [Good] at hG
      have hy : yielded ops a.tmps j = match a.tmps.getD d undef with | .bool b => some b | _ => none := by
        unfold yielded
        have h1 : (ops[j]?).bind (·.dst) = some d := by
          unfold guardSlot at hd
          rw [hgu] at hd
          simp only [nthO_eq] at hd
          rw [Array.getElem?_toList] at hd
          split at hd
          · rename_i oj hoj; rw [hoj]; exact hd
          · cases hd
        rw [h1]
        simp only [Option.bind_some, Array.getD_eq_getD_getElem?]
        cases a.tmps[d]? with
        | none => rfl
        | some v => cases v <;> rfl
      generalize hk1 : k1of k = kk at hf
      obtain ⟨q⟩ := kk
      generalize hsk : slotK cx d = sk at hf hG
      obtain ⟨sf⟩ := sk
      simp only [guarded, K1.mk.injEq] at hf
      subst hf
      dsimp only at h hG
      split at h
      · rename_i b hb
        rw [hb] at hG
        generalize hv : a.tmps.getD d undef = vv at hG hy
        cases hG
        simp only at hy
        split at h
        · rw [if_pos (by simp [Region.wanted, hgu, hy])]
          exact op_run hk hC hk1 hg hok h hfr hn
        · rw [if_pos (by simp [Region.wanted, hgu, hy])]
          exact op_run hk hC hk1 hg hok h hfr hn
        · rename_i n1 n2
          simp only [Option.some.injEq, Prod.mk.injEq] at h
          obtain ⟨rfl, rfl⟩ := h
          rw [if_neg (by
            simp [Region.wanted, hgu, hy]
            cases b <;> cases want <;> simp_all)]
          exact ⟨fun f _ => Fr_fn r f, hn ρ undef w hok.refl_ext (.tuple .nil)⟩
      · rename_i l hb
        rw [hb] at hG
        generalize hv : a.tmps.getD d undef = vv at hG hy
        cases hG
        simp only at hy
        simp only [Option.some.injEq, Prod.mk.injEq] at h
        obtain ⟨rfl, rfl⟩ := h
        rw [if_neg (by simp [Region.wanted, hgu, hy])]
        exact ⟨fun f _ => Fr_fn r f, hn ρ undef w hok.refl_ext (.tuple .nil)⟩
      · cases h
    · rename_i hd
      generalize hk1 : k1of k = kk at hf
      obtain ⟨q⟩ := kk
      simp only [guarded, K1.mk.injEq] at hf
      subst hf
      simp only [Option.some.injEq, Prod.mk.injEq] at h
      obtain ⟨rfl, rfl⟩ := h
      have hy : yielded ops a.tmps j = none := by
        unfold yielded
        have h1 : (ops[j]?).bind (·.dst) = none := by
          unfold guardSlot at hd
          rw [hgu] at hd
          simp only [nthO_eq] at hd
          rw [Array.getElem?_toList] at hd
          split at hd
          · rename_i oj hoj; rw [hoj]; exact hd
          · rename_i hoj; rw [hoj]; rfl
        rw [h1]
        rfl
      rw [if_neg (by simp [Region.wanted, hgu, hy])]
      exact ⟨fun f _ => Fr_fn r f, hn ρ undef w hok.refl_ext (.tuple .nil)⟩
end
end Go.RX
