import Derived.Test.YtcbkglclienegaaGreatDoorRxD
import Derived.RangeFuncLeaves
import Derived.RangeFuncNested
set_option linter.all false
/- Regions in their written order. -/
namespace Go.RX
open Sym

/-! ### The fences that are met: none; within a round -/
def Fr : Option Nat → Fence
  | none => Fence.wide
  | some l => Fence.wide.inRound l

theorem Fr_fn (r : Option Nat) (f : FuncId) : (Fr r).fn f := by cases r <;> trivial
theorem Fr_depth (r : Option Nat) : (Fr r).depth = none := by cases r <;> rfl
theorem Fr_room (r : Option Nat) (n : Nat) : (Fr r).room n := fun d h => by rw [Fr_depth] at h; cases h
theorem Fr_round (r : Option Nat) : (Fr r).round = r := by cases r <;> rfl
theorem Fr_n (r : Option Nat) (n : Nat) : (Fr r).depth.isSome = true → 1 ≤ n := fun h => by rw [Fr_depth] at h; cases h
theorem Fr_calls {r : Option Nat} {n : Nat} {P : Program} {f : FuncId} {args : Array Value} {w : World} {R : Ending → World → Prop} (h : Calls P f args w R) : CallsIn (Fr r) n P f args w R := by
  have h' : CallsIn Fence.wide n P f args w R := callsIn_wide.2 h
  cases r with
  | none => exact h'
  | some l => exact h'
theorem Fr_round_n {r : Option Nat} {n : Nat} {P : Program} {l : Nat} {f : FuncId} {tmps : Array Value} {assign body : Code} {w : World} {R : Ending → World → Prop}
    (h : RoundIn Fence.wide 0 P l f tmps assign body w R) : RoundIn (Fr r) n P l f tmps assign body w R := by
  have h' : RoundIn Fence.wide n P l f tmps assign body w R := ⟨trivial, fun c cs _ => h.2 c cs (room_wide _)⟩
  cases r with
  | none => exact h'
  | some l => exact h'

/-! ### The functions that code calls -/
def Res (E : Env) (ρ : Ren) (S : SW) (w : World) (S' : SW) (x : SV) : Ending → World → Prop := fun e w' => ∃ v ρ', e = .returned v ∧ Ext ρ S w ρ' S' w' ∧ VRel ρ' x v

structure CalleeSound (E : Env) (C : Sym.Callee) : Prop where
  name : ∀ f args S r, C.call f args S = some r → ∀ (vals : Array Value) w, (callFunc f vals).run E.P w = .ok (.enter f vals) w
  call : ∀ f args S x S', C.call f args S = some (x, S') → ∀ ρ vals w, Ok E ρ S w → Fresh ρ S.next S'.next → VRels ρ args vals → Calls E.P f vals.toArray w (Res E ρ S w S' x)
  round : ∀ l args S x S', C.round l args S = some (x, S') → ∀ ρ vals w b, Ok E ρ S w → Fresh ρ S.next S'.next → ρ l = some (b, 0, 0) → VRels ρ args vals →
    ∃ tmps f assign body, (Instr.yield b vals.toArray).run E.P w = .ok (.round b f tmps assign body) w ∧ RoundIn Fence.wide 0 E.P b f tmps assign body w (Res E ρ S w S' x)

/-! ### One operation of a region -/
/-- What 'wpOpsIn' asks of one operation. -/
def stepIn (F : Fence) (n : Nat) (P : Program) (ops : Array Oper) (o : Oper) (a : Act) (w : World) (next : Act → World → Prop) (Q : Exit → Act → World → Prop) : Prop :=
  if Region.wanted o (yielded ops a.tmps) then o.wpIn F n P a w next Q
  else (∀ f, o.about P w a.eval = some f → F.fn f) ∧ next (a.put o.dst undef) w

section
variable {E : Env} {cx : Cx} {o : Oper} {k : KOp} {C : Sym.Callee} {r : Option Nat} {n : Nat}

theorem kop_no_defer (h : kop E cx o = some k) : ∀ c, o.op ≠ .defer c := fun c e => by simp [kop, kop0, e] at h

theorem wp_value {a : Act} {w w' : World} {v : Value} {next : Act → World → Prop} {Q : Exit → Act → World → Prop} (hd : ∀ c, o.op ≠ .defer c) (h : (execOp a.eval o).run E.P w = .ok (.value v) w') (hn : next (a.put o.dst v) w') : o.wpIn (Fr r) n E.P a w next Q := by
  refine ⟨fun f _ => Fr_fn r f, ?_⟩
  rw [Oper.semAt_eq _ _ _ hd, h]
  exact hn
theorem wp_skip {a : Act} {w w' : World} {next : Act → World → Prop} {Q : Exit → Act → World → Prop} (hd : ∀ c, o.op ≠ .defer c) (h : (execOp a.eval o).run E.P w = .ok .skip w') (hn : next (a.put o.dst undef) w') : o.wpIn (Fr r) n E.P a w next Q := by
  refine ⟨fun f _ => Fr_fn r f, ?_⟩
  rw [Oper.semAt_eq _ _ _ hd, h]
  exact hn

/-- An operation that is carried out. -/
theorem op_run (hk : kop E cx o = some k) (hC : CalleeSound E C) {f : Sym.Callee → List SV → List SV → SW → Option (SV × SW)} (hf : k1of k = ⟨f⟩) {ρ : Ren} {e fr : List SV} {a : Act} {S S' : SW} {w : World} {x : SV}
    (hg : Goods ρ cx e fr a o) (hok : Ok E ρ S w) (h : f C e fr S = some (x, S')) (hfr : Fresh ρ S.next S'.next) {next : Act → World → Prop} {Q : Exit → Act → World → Prop}
    (hn : ∀ ρ' v w', Ext ρ S w ρ' S' w' → VRel ρ' x v → next (a.put o.dst v) w') : o.wpIn (Fr r) n E.P a w next Q := by
  have hs := kop_sound hk
  have hd := kop_no_defer hk
  cases k with
  | mv q =>
    simp only [k1of, K1.mk.injEq] at hf
    subst hf
    simp only [Option.some.injEq, Prod.mk.injEq] at h
    obtain ⟨rfl, rfl⟩ := h
    obtain ⟨v, h1, h2⟩ := hs ρ e fr a hg
    exact wp_value hd (h2 w) (hn ρ v w hok.refl_ext h1)
  | pure q =>
    simp only [k1of, K1.mk.injEq] at hf
    subst hf
    dsimp only at h
    split at h
    · rename_i y hy
      simp only [Option.some.injEq, Prod.mk.injEq] at h
      obtain ⟨rfl, rfl⟩ := h
      obtain ⟨v, h1, h2⟩ := hs ρ e fr a _ hok.num hg hy
      exact wp_value hd (h2 w) (hn ρ v w hok.refl_ext h1)
    · cases h
  | rd q =>
    simp only [k1of, K1.mk.injEq] at hf
    subst hf
    dsimp only at h
    split at h
    · rename_i y hy
      simp only [Option.some.injEq, Prod.mk.injEq] at h
      obtain ⟨rfl, rfl⟩ := h
      obtain ⟨v, h1, h2⟩ := hs ρ e fr a _ S w hg hok hy
      exact wp_value hd h2 (hn ρ v w hok.refl_ext h1)
    · cases h
  | full q =>
    simp only [k1of, K1.mk.injEq] at hf
    subst hf
    obtain ⟨ρ', v, w', h1, h2, h3⟩ := hs ρ e fr a _ S S' w hg hok h hfr
    rcases h3 with h3 | ⟨h3, rfl⟩
    · exact wp_value hd h3 (hn ρ' v w' h1 h2)
    · exact wp_skip hd h3 (hn ρ' _ w' h1 h2)
  | call q =>
    simp only [k1of, K1.mk.injEq] at hf
    subst hf
    obtain ⟨args, vals, hv, hcase⟩ := hs ρ e fr a C x S S' w hg h
    rcases hcase with ⟨fn, h1, h2⟩ | ⟨l, b, h1, h2, h3⟩
    · refine ⟨fun f _ => Fr_fn r f, ?_⟩
      rw [Oper.semAt_eq _ _ _ hd, h2, hC.name fn args S _ h1]
      refine ⟨Fr_n r n, CallsIn.mono (Fr_calls (hC.call fn args S x S' h1 ρ vals w hok hfr hv)) ?_⟩
      rintro e' w' ⟨v, ρ', rfl, h4, h5⟩
      exact hn ρ' v w' h4 h5
    · obtain ⟨tmps, f, assign, body, h4, h5⟩ := hC.round l args S x S' h1 ρ vals w b hok hfr h2 hv
      refine ⟨fun f _ => Fr_fn r f, ?_⟩
      rw [Oper.semAt_eq _ _ _ hd, h3, h4]
      refine ⟨Fr_n r n, RoundIn.mono (Fr_round_n h5) ?_⟩
      rintro e' w' ⟨v, ρ', rfl, h6, h7⟩
      exact hn ρ' v w' h6 h7

theorem nthO_eq : ∀ (l : List Oper) (i : Nat), nthO l i = l[i]?
  | [], i => by simp [nthO]
  | c :: l, 0 => by simp [nthO]
  | c :: l, i + 1 => by simp [nthO, nthO_eq l i]

/-- An operation that is carried out, or not, as its guard says. -/
theorem op_step {ops : Array Oper} (hk : kop E cx o = some k) (hC : CalleeSound E C) {f : Sym.Callee → List SV → List SV → SW → Option (SV × SW)} (hf : guarded (guardK cx ops.toList o) (k1of k) = ⟨f⟩) {ρ : Ren} {e fr : List SV} {a : Act} {S S' : SW} {w : World} {x : SV}
    (hg : Goods ρ cx e fr a o) (hgd : ∀ d, guardSlot ops.toList o = some d → Good ρ cx e fr a (.tmp d)) (hok : Ok E ρ S w) (h : f C e fr S = some (x, S')) (hfr : Fresh ρ S.next S'.next) {next : Act → World → Prop} {Q : Exit → Act → World → Prop}
    (hn : ∀ ρ' v w', Ext ρ S w ρ' S' w' → VRel ρ' x v → next (a.put o.dst v) w') : stepIn (Fr r) n E.P ops o a w next Q := by
  unfold stepIn
  unfold guardK at hf
  split at hf
  · rename_i hno
    simp only [guarded] at hf
    rw [if_pos (by simp [Region.wanted, hno])]
    exact op_run hk hC hf hg hok h hfr hn
  · rename_i j want hgu
    split at hf
    · rename_i d hd
      simp only at hf
      have hG := hgd d hd
      simp only [Good] at hG
      have hy : yielded ops a.tmps j = match a.tmps.getD d undef with | .bool b => some b | _ => none := by
        unfold yielded
        have h1 : (ops[j]?).bind (·.dst) = some d := by
          unfold guardSlot at hd
          rw [hgu] at hd
          simp only [nthO_eq] at hd
          rw [Array.getElem?_toList] at hd
          split at hd
          · rename_i oj hoj; rw [hoj]; exact hd
          · cases hd
        rw [h1]
        simp only [Option.bind_some, Array.getD_eq_getD_getElem?]
        cases a.tmps[d]? with
        | none => rfl
        | some v => cases v <;> rfl
      generalize hk1 : k1of k = kk at hf
      obtain ⟨q⟩ := kk
      generalize hsk : slotK cx d = sk at hf hG
      obtain ⟨sf⟩ := sk
      simp only [guarded, K1.mk.injEq] at hf
      subst hf
      dsimp only at h hG
      split at h
      · rename_i b hb
        rw [hb] at hG
        generalize hv : a.tmps.getD d undef = vv at hG hy
        cases hG
        simp only at hy
        split at h
        · rw [if_pos (by simp [Region.wanted, hgu, hy])]
          exact op_run hk hC hk1 hg hok h hfr hn
        · rw [if_pos (by simp [Region.wanted, hgu, hy])]
          exact op_run hk hC hk1 hg hok h hfr hn
        · rename_i n1 n2
          simp only [Option.some.injEq, Prod.mk.injEq] at h
          obtain ⟨rfl, rfl⟩ := h
          rw [if_neg (by
            simp [Region.wanted, hgu, hy]
            cases b <;> cases want <;> simp_all)]
          exact ⟨fun f _ => Fr_fn r f, hn ρ undef w hok.refl_ext (.tuple .nil)⟩
      · rename_i l hb
        rw [hb] at hG
        generalize hv : a.tmps.getD d undef = vv at hG hy
        cases hG
        simp only at hy
        simp only [Option.some.injEq, Prod.mk.injEq] at h
        obtain ⟨rfl, rfl⟩ := h
        rw [if_neg (by simp [Region.wanted, hgu, hy])]
        exact ⟨fun f _ => Fr_fn r f, hn ρ undef w hok.refl_ext (.tuple .nil)⟩
      · cases h
    · rename_i hd
      generalize hk1 : k1of k = kk at hf
      obtain ⟨q⟩ := kk
      simp only [guarded, K1.mk.injEq] at hf
      subst hf
      simp only [Option.some.injEq, Prod.mk.injEq] at h
      obtain ⟨rfl, rfl⟩ := h
      have hy : yielded ops a.tmps j = none := by
        unfold yielded
        have h1 : (ops[j]?).bind (·.dst) = none := by
          unfold guardSlot at hd
          rw [hgu] at hd
          simp only [nthO_eq] at hd
          rw [Array.getElem?_toList] at hd
          split at hd
          · rename_i oj hoj; rw [hoj]; exact hd
          · rename_i hoj; rw [hoj]; rfl
        rw [h1]
        rfl
      rw [if_neg (by simp [Region.wanted, hgu, hy])]
      exact ⟨fun f _ => Fr_fn r f, hn ρ undef w hok.refl_ext (.tuple .nil)⟩
end
end Go.RX

/- The next number never falls; what lies below the low mark stays. -/
namespace Go.RX
open Sym

/-- From a state to a later one, as far as the evaluator sees it. -/
structure Grow (S S' : SW) : Prop where
  next : S.next ≤ S'.next
  tidy : S.tidy → S'.tidy
  low : S'.low ≤ S.low
  keep : ∀ i, i < S.next → i < S'.low → S'.at i = S.at i

theorem Grow.refl (S : SW) : Grow S S := ⟨Nat.le_refl _, id, Nat.le_refl _, fun _ _ _ => rfl⟩
theorem Grow.trans {S S1 S2 : SW} (h : Grow S S1) (k : Grow S1 S2) : Grow S S2 :=
  ⟨Nat.le_trans h.next k.next, fun t => k.tidy (h.tidy t), Nat.le_trans k.low h.low, fun i h1 h2 => (k.keep i (Nat.lt_of_lt_of_le h1 h.next) h2).trans (h.keep i h1 (Nat.lt_of_lt_of_le h2 k.low))⟩

theorem new_mono {S S' : SW} {o : SObj} {id : Nat} (h : Sym.new S o = some (id, S')) : Grow S S' := by
  obtain ⟨rfl, hn, hl, hat⟩ := new_some h
  exact ⟨by omega, fun t i hi => by rw [hat, if_neg (by omega)]; exact t i (by omega), by omega, fun i h1 _ => by rw [hat, if_neg (by omega)]⟩
theorem put_mono {S S' : SW} {x : SObj} {o : Option SObj} {id : Nat} (hx : S.at id = some x) (h : Sym.put S id o = some S') : Grow S S' := by
  obtain ⟨hn, hl, hl', hat⟩ := put_some h
  refine ⟨by omega, fun t i hi => ?_, hl, fun i _ h2 => by rw [hat, if_neg (by omega)]⟩
  rw [hat]
  by_cases e : i = id
  · subst e; rw [t i (by omega)] at hx; cases hx
  · rw [if_neg e]; exact t i (by omega)
theorem markS_mono {S S' : SW} {id : Nat} (h : Sym.markS S id = some S') : Grow S S' := by
  unfold Sym.markS at h
  split at h
  · rename_i hobj
    split at h
    · cases h
    · exact put_mono hobj h
  · cases h

theorem kill_mono {S S' : SW} {id : Nat} (h : Sym.put S id none = some S') : Grow S S' := by
  obtain ⟨hn, hl, hl', hat⟩ := put_some h
  refine ⟨by omega, fun t i hi => ?_, hl, fun i _ h2 => by rw [hat, if_neg (by omega)]⟩
  rw [hat]
  by_cases e : i = id
  · rw [if_pos e]
  · rw [if_neg e]; exact t i (by omega)
theorem storeAt_mono {S S' : SW} {id off : Nat} {vs : List SV} (h : storeAt S id off vs = some S') : Grow S S' := by
  unfold storeAt at h
  repeat' split at h
  all_goals first | exact put_mono ‹_› h | cases h
theorem storeW_mono {S S' : SW} {n : Nat} {a v : SV} (h : storeW S n a v = some S') : Grow S S' := by
  unfold storeW at h
  repeat' split at h
  all_goals first | exact storeAt_mono h | cases h
theorem updateV_mono {E : Env} {S S' : SW} {kd : TypeDesc} {x k v : SV} (h : updateV E kd S x k v = some S') : Grow S S' := by
  unfold updateV at h
  simp only [force_eq] at h
  repeat' split at h
  all_goals first | exact put_mono ‹_› h | cases h
theorem grow_mono {elem : TypeId} {size bytes len n : Nat} {S S' : SW} {old added : List SV} {x : SV} (h : Sym.grow elem size bytes S old len added n = some (x, S')) : Grow S S' := by
  unfold Sym.grow at h
  simp only [force_eq] at h
  split at h
  · split at h
    · rename_i id S1 hn
      simp only [Option.some.injEq, Prod.mk.injEq] at h
      obtain ⟨-, rfl⟩ := h
      exact new_mono hn
    · cases h
  · cases h
theorem withW_eq {S S' : SW} {r : Option SV} {x : SV} (h : withW S r = some (x, S')) : S' = S := by
  unfold withW at h
  split at h
  · simp only [Option.some.injEq, Prod.mk.injEq] at h; exact h.2.symm
  · cases h
theorem done_mono {S S' : SW} {r : Option SW} {x : SV} (hr : ∀ S', r = some S' → Grow S S') (h : done r = some (x, S')) : Grow S S' := by
  unfold done at h
  split at h
  · simp only [Option.some.injEq, Prod.mk.injEq] at h; obtain ⟨-, rfl⟩ := h; exact hr _ rfl
  · cases h
theorem ptrTo_mono {S S' : SW} {o : SObj} {x : SV} (h : ptrTo (Sym.new S o) = some (x, S')) : Grow S S' := by
  unfold ptrTo at h
  split at h
  · rename_i id S1 hn
    simp only [Option.some.injEq, Prod.mk.injEq] at h
    obtain ⟨-, rfl⟩ := h
    exact new_mono hn
  · cases h
theorem copyV_mono {size : Nat} {S S' : SW} {d s x : SV} (h : copyV size S d s = some (x, S')) : Grow S S' := by
  unfold copyV at h
  repeat' split at h
  all_goals first | (cases h; done) | skip
  · simp only [Option.some.injEq, Prod.mk.injEq] at h; obtain ⟨-, rfl⟩ := h; exact .refl _
  · rename_i hs; rw [withW_eq h]; exact storeAt_mono hs
theorem some_next {S S' : SW} {x y : SV} (h : some (x, S) = some (y, S')) : S' = S := by
  simp only [Option.some.injEq, Prod.mk.injEq] at h; exact h.2.symm
theorem appendO_mono {size bytes id a k sz n : Nat} {S S' : SW} {added : List SV} {x : SV} (h : appendO size bytes S id a k sz added n = some (x, S')) : Grow S S' := by
  unfold appendO at h
  simp only [force_eq] at h
  split at h
  · split at h
    · split at h
      · rename_i hk
        split at h
        · rename_i hn
          rw [some_next h]
          exact (kill_mono hk).trans (new_mono hn)
        · cases h
      · cases h
    · cases h
  · cases h
theorem appendV_mono {elem : TypeId} {size bytes : Nat} {S S' : SW} {s y x : SV} (h : appendV elem size bytes S s y = some (x, S')) : Grow S S' := by
  unfold appendV at h
  simp only [force_eq] at h
  split at h
  · cases h
  · split at h
    · rw [some_next h]; exact .refl _
    · split at h
      · rw [some_next h]; exact .refl _
      · cases h
    · rw [some_next h]; exact .refl _
    · cases h
  · split at h
    · split at h
      · exact grow_mono h
      · split at h
        · split at h
          · rename_i hs; rw [some_next h]; exact storeAt_mono hs
          · cases h
        · split at h
          · exact grow_mono h
          · cases h
      · split at h
        · split at h
          · rename_i hs; rw [some_next h]; exact storeAt_mono hs
          · cases h
        · split at h
          · rename_i hk; exact (kill_mono hk).trans (grow_mono h)
          · cases h
        · cases h
      · exact appendO_mono h
      · cases h
    · cases h
theorem likeRow_mono {E : Env} {bytes a size : Nat} {S S' : SW} {x : SV} (h : likeRow E bytes S a size = some (x, S')) : Grow S S' := by
  unfold likeRow at h
  split at h
  · split at h
    · rename_i hn
      rw [some_next h]
      exact new_mono hn
    · cases h
  · cases h
theorem appendW_mono {E : Env} {elem : TypeId} {size bytes : Nat} {S S' : SW} {s y x : SV} (h : appendW E elem size bytes S s y = some (x, S')) : Grow S S' := by
  unfold appendW at h
  split at h
  · split at h
    · split at h
      · exact likeRow_mono h
      · cases h
    · cases h
  · split at h
    · split at h
      · exact likeRow_mono h
      · cases h
    · cases h
  · exact appendV_mono h
theorem appendZ_mono {elem : TypeId} {size bytes : Nat} {z : List SV} {S S' : SW} {s y x : SV} (h : appendZ elem size bytes z S s y = some (x, S')) : Grow S S' := by
  unfold appendZ at h
  split at h
  · split at h
    · cases h
    · split at h
      · exact grow_mono h
      · cases h
  · cases h
theorem nextV_mono {S S' : SW} {y x : SV} (h : nextV S y = some (x, S')) : Grow S S' := by
  unfold nextV at h
  simp only [force_eq] at h
  repeat' split at h
  all_goals first | (cases h; done) | skip
  all_goals
    simp only [Option.some.injEq, Prod.mk.injEq] at h; obtain ⟨-, rfl⟩ := h
    first | exact .refl _ | exact put_mono ‹_› ‹_›

structure CalleeMono (C : Sym.Callee) : Prop where
  call : ∀ f args S x S', C.call f args S = some (x, S') → Grow S S'
  round : ∀ l args S x S', C.round l args S = some (x, S') → Grow S S'

def Sym.KOp.Mono : KOp → Prop
  | .full f => ∀ e fr S x S', f e fr S = some (x, S') → Grow S S'
  | .call f => ∀ C, CalleeMono C → ∀ e fr S x S', f C e fr S = some (x, S') → Grow S S'
  | _ => True

theorem deleteV_mono {E : Env} {S S' : SW} {kd : TypeDesc} {x k : SV} (h : deleteV E kd S x k = some S') : Grow S S' := by
  unfold deleteV at h
  repeat' split at h
  all_goals first | exact put_mono ‹_› h | (simp only [Option.some.injEq] at h; subst h; exact .refl _) | cases h
theorem estoreV_mono {S S' : SW} {x n v : SV} (h : estoreV S x n v = some S') : Grow S S' := by
  unfold estoreV at h
  repeat' split at h
  all_goals first | exact put_mono ‹_› h | cases h
theorem clearV_mono {S S' : SW} {z : List SV} {x : SV} (h : clearV z S x = some S') : Grow S S' := by
  unfold clearV at h
  repeat' split at h
  all_goals first | exact storeAt_mono h | (simp only [Option.some.injEq] at h; subst h; exact .refl _) | cases h
theorem entryV_mono {S S' : SW} {kd : TypeDesc} {z x k y : SV} (h : entryV kd z S x k = some (y, S')) : Grow S S' := by
  unfold entryV at h
  simp only [force_eq] at h
  repeat' split at h
  all_goals first | (cases h; done) | skip
  all_goals
    simp only [Option.some.injEq, Prod.mk.injEq] at h; obtain ⟨-, rfl⟩ := h
    exact put_mono ‹_› ‹_›
theorem nextM_mono {S S' : SW} {y x : SV} (h : nextM S y = some (x, S')) : Grow S S' := by
  unfold nextM at h
  repeat' split at h
  all_goals first | (cases h; done) | skip
  all_goals
    simp only [Option.some.injEq, Prod.mk.injEq] at h; obtain ⟨-, rfl⟩ := h
    first | exact .refl _ | exact put_mono ‹hget S _ = some (.mapIter _ _ _ _)› ‹_›

theorem mkzV_mono {S S' : SW} {t : TypeId} {l : List SV} {x : SV} (h : mkzV t S l = some (x, S')) : Grow S S' := by
  unfold mkzV at h
  repeat' split at h
  all_goals first | (cases h; done) | skip
  all_goals
    rename_i hn
    rw [some_next h]; exact new_mono hn
theorem uStrV_mono {S S' : SW} {t : TypeId} {p n x : SV} (h : uStrV t S p n = some (x, S')) : Grow S S' := by
  unfold uStrV at h
  repeat' split at h
  all_goals first | (cases h; done) | skip
  all_goals
    simp only [Option.some.injEq, Prod.mk.injEq] at h; obtain ⟨-, rfl⟩ := h
    first | exact .refl _ | exact put_mono ‹hget S _ = some (.cells _ _)› ‹_›
theorem kop0_mono {E : Env} {cx : Cx} {o : Oper} {k : KOp} (h : kop0 E cx o = some k) : k.Mono := by
  unfold kop0 at h
  split at h
  all_goals (try (cases h; done))
  all_goals (try simp only [force_eq] at h)
  all_goals (repeat' (first | (cases h; done) | split at h))
  all_goals (try (cases h; done))
  all_goals (first | (simp only [Option.some.injEq] at h; subst h) | skip)
  all_goals (first | trivial | skip)
  all_goals (first | (intro e fr S x S' hr; dsimp only at hr) | skip)
  all_goals (try (exact ptrTo_mono hr))
  all_goals (try (exact done_mono (fun _ => storeW_mono) hr))
  all_goals (try (exact done_mono (fun _ => updateV_mono) hr))
  all_goals (try (exact nextV_mono hr))
  all_goals (try (exact nextM_mono hr))
  all_goals (try (exact entryV_mono hr))
  all_goals (try (exact mkzV_mono hr))
  all_goals (try (exact done_mono (fun _ => estoreV_mono) hr))
  all_goals (try (unfold convertK at h))
  all_goals (try (unfold builtinK at h))
  all_goals (try simp only [force_eq] at h)
  all_goals (repeat' (first | (cases h; done) | split at h))
  all_goals (try (cases h; done))
  all_goals (first | (simp only [Option.some.injEq] at h; subst h) | skip)
  all_goals (first | trivial | skip)
  all_goals (first | (intro e fr S x S' hr; dsimp only at hr) | skip)
  all_goals (try (exact copyV_mono hr))
  all_goals (try (exact appendW_mono hr))
  all_goals (try (exact appendZ_mono hr))
  all_goals (try (exact done_mono (fun _ => deleteV_mono) hr))
  all_goals (try (exact done_mono (fun _ => clearV_mono) hr))
  all_goals (try (exact uStrV_mono hr))
  all_goals (try simp only [force_eq] at hr)
  all_goals (try (intro C hC e fr S x S' hr; dsimp only at hr))
  all_goals (repeat' (first | (cases hr; done) | split at hr))
  all_goals (try (cases hr; done))
  all_goals (first
    | exact hC.call _ _ _ _ _ hr
    | exact hC.round _ _ _ _ _ hr
    | exact ptrTo_mono hr
    | (rename_i hn; rw [some_next hr]; exact new_mono hn)
    | (rename_i hm _; rw [some_next hr]; exact markS_mono (by assumption)))

theorem kop_mono {E : Env} {cx : Cx} {o : Oper} {k : KOp} (h : kop E cx o = some k) : k.Mono := by
  unfold kop at h
  split at h
  · rename_i k' hk
    simp only [Option.some.injEq] at h; subst h
    exact kop0_mono hk
  · split at h
    · cases h
    · simp only [Option.some.injEq] at h; subst h
      intro e fr S x S' hr
      cases hr
end Go.RX

/- Regions in their written order: the slots; all operations. -/
namespace Go.RX
open Sym

structure Slots (ρ : Ren) (n : Nat) (wr sl : List Nat) (e fr : List SV) (tmps : Array Value) : Prop where
  size : tmps.size = n
  wr : ∀ t i, posOf t wr = some i → VRel ρ (nthV .unknown e i) (tmps.getD t undef)
  fr : FRel ρ sl fr tmps

theorem Slots.mono {ρ ρ' : Ren} {n : Nat} {wr sl : List Nat} {e fr : List SV} {tmps : Array Value} (hle : ρ.le ρ') (h : Slots ρ n wr sl e fr tmps) : Slots ρ' n wr sl e fr tmps :=
  ⟨h.size, fun t i ht => (h.wr t i ht).mono hle, h.fr.mono hle⟩

theorem Slots.good {ρ : Ren} {n : Nat} {wr sl : List Nat} {e fr : List SV} {a : Act} (h : Slots ρ n wr sl e fr a.tmps) (x : Operand) : Good ρ ⟨wr, sl⟩ e fr a x := by
  cases x with
  | tmp t =>
    simp only [Good]
    unfold slotK
    split
    · rename_i i hi; exact h.wr t i hi
    · split
      · rename_i i hi; exact h.fr t i hi
      · exact .unknown _
  | _ => trivial

theorem getD_set_same {tmps : Array Value} {d : Nat} {v : Value} (h : d < tmps.size) : (tmps.setIfInBounds d v).getD d undef = v := by
  simp [h]
theorem getD_set_other {tmps : Array Value} {d t : Nat} {v : Value} (h : t ≠ d) : (tmps.setIfInBounds d v).getD t undef = tmps.getD t undef := by
  simp only [Array.getD_eq_getD_getElem?]
  rw [Array.getElem?_setIfInBounds_ne (fun e => h e.symm)]

theorem Slots.put {ρ : Ren} {n d : Nat} {wr sl : List Nat} {e fr : List SV} {a : Act} {p : Dst} {x : SV} {v : Value} {dst : Option Tmp} (h : Slots ρ n wr sl e fr a.tmps) (hd : dstK sl n dst = some (d, p)) (hv : VRel ρ x v) :
    Slots ρ n (d :: wr) sl (p.push x e) (p.keep fr x) (a.put dst v).tmps := by
  cases dst with
  | none =>
    simp only [dstK, Option.some.injEq, Prod.mk.injEq] at hd
    obtain ⟨rfl, rfl⟩ := hd
    refine ⟨h.size, fun t i ht => ?_, h.fr⟩
    rw [posOf_cons] at ht
    by_cases hn : n = t
    · subst hn
      rw [if_pos rfl] at ht; cases ht
      have : (a.put none v).tmps.getD n undef = undef := by
        show a.tmps.getD n undef = undef
        simp [Array.getD_eq_getD_getElem?, h.size]
      rw [this]
      exact .tuple .nil
    · rw [if_neg hn] at ht
      cases hi : posOf t wr with
      | none => rw [hi] at ht; cases ht
      | some j => rw [hi] at ht; cases ht; exact h.wr t j hi
  | some t0 =>
    simp only [dstK] at hd
    split at hd
    · rename_i hb
      have hb := Nat.le_of_ble_eq_true hb
      have hlt : t0 < a.tmps.size := by rw [h.size]; exact hb
      have key : ∀ p, d = t0 → (∀ e : List SV, Dst.push p x e = x :: e) → (∀ t i, posOf t sl = some i → t ≠ t0 → nthV .unknown (Dst.keep p fr x) i = nthV .unknown fr i ∨ nthV .unknown (Dst.keep p fr x) i = .unknown) →
          (∀ i, posOf t0 sl = some i → nthV .unknown (Dst.keep p fr x) i = x ∨ nthV .unknown (Dst.keep p fr x) i = .unknown) → Slots ρ n (d :: wr) sl (Dst.push p x e) (Dst.keep p fr x) (a.put (some t0) v).tmps := by
        intro p hdt hpush hother hsame
        subst hdt
        refine ⟨by simp [Act.put, h.size], fun t i ht => ?_, fun t i ht => ?_⟩
        · rw [hpush]
          rw [posOf_cons] at ht
          by_cases hn : d = t
          · subst hn
            rw [if_pos rfl] at ht; cases ht
            simp only [Act.put]
            rw [getD_set_same hlt]
            exact hv
          · rw [if_neg hn] at ht
            simp only [Act.put]
            rw [getD_set_other (fun e => hn e.symm)]
            cases hi : posOf t wr with
            | none => rw [hi] at ht; cases ht
            | some j => rw [hi] at ht; cases ht; exact h.wr t j hi
        · simp only [Act.put]
          by_cases hn : t = d
          · subst hn
            rw [getD_set_same hlt]
            rcases hsame i ht with e1 | e1
            · rw [e1]; exact hv
            · rw [e1]; exact .unknown _
          · rw [getD_set_other hn]
            rcases hother t i ht hn with e1 | e1
            · rw [e1]; exact h.fr t i ht
            · rw [e1]; exact .unknown _
      split at hd
      · rename_i hp
        simp only [Option.some.injEq, Prod.mk.injEq] at hd
        obtain ⟨rfl, rfl⟩ := hd
        exact key .lost rfl (fun _ => rfl) (fun _ _ _ _ => .inl rfl) (fun i hi => by rw [hp] at hi; cases hi)
      · rename_i q hp
        simp only [Option.some.injEq, Prod.mk.injEq] at hd
        obtain ⟨rfl, rfl⟩ := hd
        refine key (.kept q) rfl (fun _ => rfl) (fun t i hi hne => ?_) (fun i hi => ?_)
        · have h1 := posOf_some hi
          have h2 := posOf_some hp
          have hiq : i ≠ q := fun e => by subst e; rw [h1] at h2; cases h2; exact hne rfl
          simp only [Dst.keep]
          by_cases hq : q < fr.length
          · rw [nthV_eq, setNth_eq _ _ _ hq, List.getElem?_set_ne (fun e => hiq e.symm), ← nthV_eq]; exact .inl rfl
          · rw [setNth_beyond _ _ _ (by omega)]; exact .inr (by simp [nthV_eq])
        · rw [hp] at hi; cases hi
          simp only [Dst.keep]
          by_cases hq : q < fr.length
          · rw [nthV_eq, setNth_eq _ _ _ hq]; left; simp [hq]
          · rw [setNth_beyond _ _ _ (by omega)]; exact .inr (by simp [nthV_eq])
    · cases hd

/-! ### The chain -/
/-- Whatever its shape, the chain is: the operation as its guard says; the result pushed and kept; the rest. -/
theorem chain_eq (k : KOp) (g : Guard) (p : Dst) (r : Sym.Callee → List SV → List SV → SW → Option (List SV × SW)) (q : Sym.Callee → List SV → List SV → SW → Option (SV × SW)) (hq : guarded g (k1of k) = ⟨q⟩) :
    ∀ C e fr w, (chain k g p ⟨r⟩).f C e fr w = match q C e fr w with | some (v, w) => r C (p.push v e) (p.keep fr v) w | none => none := by
  intro C e fr w
  unfold chain
  split
  · rename_i f r' heq
    cases heq
    simp only [guarded, k1of, K1.mk.injEq] at hq
    subst hq
    rfl
  · rename_i f q' r' heq
    cases heq
    simp only [guarded, k1of, K1.mk.injEq] at hq
    subst hq
    rfl
  · rename_i f r' heq
    cases heq
    simp only [guarded, k1of, K1.mk.injEq] at hq
    subst hq
    simp only
    cases f e fr <;> rfl
  · rename_i f r' heq
    cases heq
    simp only [guarded, k1of, K1.mk.injEq] at hq
    subst hq
    simp only
    cases f e fr w <;> rfl
  all_goals
    have heq := ‹(KS.mk r) = KS.mk _›
    cases heq
    simp only [hq]
    cases q C e fr w <;> rfl
end Go.RX

/- Regions in their written order: all operations, one after the other. -/
namespace Go.RX
open Sym

theorem guarded_mono {k : KOp} (hk : k.Mono) {g : Guard} {q : Sym.Callee → List SV → List SV → SW → Option (SV × SW)} (hq : guarded g (k1of k) = ⟨q⟩) {C : Sym.Callee} (hM : CalleeMono C) {e fr : List SV} {S S' : SW} {x : SV}
    (h : q C e fr S = some (x, S')) : Grow S S' := by
  have base : ∀ {q'} , k1of k = ⟨q'⟩ → q' C e fr S = some (x, S') → Grow S S' := by
    intro q' hq' h
    cases k with
    | mv f => simp only [k1of, K1.mk.injEq] at hq'; subst hq'; rw [some_next h]; exact .refl _
    | pure f =>
      simp only [k1of, K1.mk.injEq] at hq'; subst hq'
      dsimp only at h
      split at h
      · rw [some_next h]; exact .refl _
      · cases h
    | rd f =>
      simp only [k1of, K1.mk.injEq] at hq'; subst hq'
      dsimp only at h
      split at h
      · rw [some_next h]; exact .refl _
      · cases h
    | full f => simp only [k1of, K1.mk.injEq] at hq'; subst hq'; exact hk e fr S x S' h
    | call f => simp only [k1of, K1.mk.injEq] at hq'; subst hq'; exact hk C hM e fr S x S' h
  generalize hk1 : k1of k = kk at hq base
  obtain ⟨q0⟩ := kk
  cases g with
  | always => simp only [guarded, K1.mk.injEq] at hq; subst hq; exact base rfl h
  | never => simp only [guarded, K1.mk.injEq] at hq; subst hq; rw [some_next h]; exact .refl _
  | slot p want =>
    simp only [guarded, K1.mk.injEq] at hq; subst hq
    dsimp only at h
    repeat' split at h
    all_goals first
      | exact base rfl h
      | (rw [some_next h]; exact .refl _)
      | cases h

theorem put_defers (a : Act) (d : Option Tmp) (v : Value) : (a.put d v).defers = a.defers := by cases d <;> rfl

section
variable {E : Env} {n : Nat} {sl : List Nat} {ops : Array Oper} {C : Sym.Callee} {r : Option Nat} {m : Nat}

theorem kops_cons {all : List Oper} {wr : List Nat} {o : Oper} {rest : List Oper} {f : Sym.Callee → List SV → List SV → SW → Option (List SV × SW)} (h : kops E n sl all wr (o :: rest) = some ⟨f⟩) :
    ∃ k d p g q, kop E ⟨wr, sl⟩ o = some k ∧ dstK sl n o.dst = some (d, p) ∧ kops E n sl all (d :: wr) rest = some ⟨g⟩ ∧ guarded (guardK ⟨wr, sl⟩ all o) (k1of k) = ⟨q⟩ ∧
      ∀ C e fr w, f C e fr w = match q C e fr w with | some (v, w) => g C (p.push v e) (p.keep fr v) w | none => none := by
  simp only [kops] at h
  split at h
  · rename_i k d p hk hd
    split at h
    · rename_i rr hr
      obtain ⟨g⟩ := rr
      generalize hq : guarded (guardK ⟨wr, sl⟩ all o) (k1of k) = qq
      obtain ⟨q⟩ := qq
      refine ⟨k, d, p, g, q, hk, hd, hr, hq, fun C e fr w => ?_⟩
      have h2 := chain_eq k _ p g q hq C e fr w
      generalize hc : chain k (guardK ⟨wr, sl⟩ all o) p ⟨g⟩ = cc at h h2
      obtain ⟨cf⟩ := cc
      simp only [Option.some.injEq, KS.mk.injEq] at h
      subst h
      exact h2.trans (by cases q C e fr w <;> rfl)
    · cases h
  · cases h

theorem kops_mono {all : List Oper} (hM : CalleeMono C) : ∀ (rest : List Oper) (wr : List Nat) (f : Sym.Callee → List SV → List SV → SW → Option (List SV × SW)), kops E n sl all wr rest = some ⟨f⟩ → ∀ e fr S fr' S', f C e fr S = some (fr', S') → Grow S S'
  | [], wr, f, h, e, fr, S, fr', S', hr => by
    simp only [kops, Option.some.injEq, KS.mk.injEq] at h
    subst h
    simp only [Option.some.injEq, Prod.mk.injEq] at hr
    obtain ⟨-, rfl⟩ := hr
    exact .refl _
  | o :: rest, wr, f, h, e, fr, S, fr', S', hr => by
    obtain ⟨k, d, p, g, q, hk, hd, hg, hq, hf⟩ := kops_cons h
    rw [hf] at hr
    split at hr
    · rename_i v w1 hq1
      exact (guarded_mono (kop_mono hk) hq hM hq1).trans (kops_mono hM rest _ g hg _ _ _ _ _ hr)
    · cases hr

theorem kops_part (hC : CalleeSound E C) (hM : CalleeMono C) (L : List Nat) : ∀ (rest : List Oper) (i : Nat) (wr : List Nat) (f : Sym.Callee → List SV → List SV → SW → Option (List SV × SW)), (∀ (j : Nat) (o : Oper), rest[j]? = some o → ops[i + j]? = some o) → kops E n sl ops.toList wr rest = some ⟨f⟩ →
    ∀ ρ e fr a S w fr' S', Slots ρ n wr sl e fr a.tmps → Ok E ρ S w → f C e fr S = some (fr', S') → Fresh ρ S.next S'.next →
    ∀ Q : Exit → Act → World → Prop, (∀ ρ' a' w', Ext ρ S w ρ' S' w' → FRel ρ' sl fr' a'.tmps → a'.tmps.size = n → a'.defers = a.defers → wpOpsIn (Fr r) m E.P ops Q L a' w') → wpOpsIn (Fr r) m E.P ops Q (List.range' i rest.length ++ L) a w
  | [], i, wr, f, _, h, ρ, e, fr, a, S, w, fr', S', hs, hok, hr, hfr, Q, hQ => by
    simp only [kops, Option.some.injEq, KS.mk.injEq] at h
    subst h
    simp only [Option.some.injEq, Prod.mk.injEq] at hr
    obtain ⟨rfl, rfl⟩ := hr
    exact hQ ρ a w hok.refl_ext hs.fr hs.size rfl
  | o :: rest, i, wr, f, hrest, h, ρ, e, fr, a, S, w, fr', S', hs, hok, hr, hfr, Q, hQ => by
    obtain ⟨k, d, p, g, q, hk, hd, hg, hq, hf⟩ := kops_cons h
    rw [hf] at hr
    split at hr
    · rename_i v S1 hq1
      have hm1 := guarded_mono (kop_mono hk) hq hM hq1
      have hm2 := kops_mono hM rest _ g hg _ _ _ _ _ hr
      have ho : ops[i]? = some o := hrest 0 o rfl
      have hrest' : ∀ (j : Nat) (o : Oper), rest[j]? = some o → ops[i + 1 + j]? = some o := fun j o h => by
        have := hrest (j + 1) o (by simpa using h)
        rw [show i + 1 + j = i + (j + 1) by omega]
        exact this
      simp only [List.length_cons, List.range'_succ, List.cons_append, wpOpsIn, ho]
      have := op_step (r := r) (n := m) (ops := ops) hk hC hq (fun x _ => hs.good x) (fun d _ => hs.good _) hok hq1 (hfr.left hm2.next)
        (next := wpOpsIn (Fr r) m E.P ops Q (List.range' (i + 1) rest.length ++ L)) (Q := Q) (fun ρ1 v1 w1 hext hv => by
          have hok1 := hok.ext hext
          have hs1 := (hs.mono hext.le).put hd hv
          exact kops_part hC hM L rest (i + 1) (d :: wr) g hrest' hg ρ1 _ _ _ S1 w1 fr' S' hs1 hok1 hr (hext.fresh_right hfr) Q fun ρ2 a2 w2 hext2 hf2 hsz hdf =>
            hQ ρ2 a2 w2 (hext.trans hext2) hf2 hsz (hdf.trans (put_defers _ _ _)))
      exact this
    · cases hr

theorem kops_sound (hC : CalleeSound E C) (hM : CalleeMono C) (f : Sym.Callee → List SV → List SV → SW → Option (List SV × SW)) (h : kops E n sl ops.toList [] ops.toList = some ⟨f⟩) (ρ : Ren) (fr : List SV) (a : Act) (S : SW) (w : World) (fr' : List SV) (S' : SW)
    (hs : Slots ρ n [] sl [] fr a.tmps) (hok : Ok E ρ S w) (hr : f C [] fr S = some (fr', S')) (hfr : Fresh ρ S.next S'.next)
    (Q : Exit → Act → World → Prop) (hQ : ∀ ρ' a' w', Ext ρ S w ρ' S' w' → FRel ρ' sl fr' a'.tmps → a'.tmps.size = n → a'.defers = a.defers → Q .normal a' w') : wpOpsIn (Fr r) m E.P ops Q (List.range' 0 ops.size) a w := by
  have := kops_part (r := r) (m := m) (L := []) hC hM ops.toList 0 [] f (fun j o hj => by simpa using hj) h ρ [] fr a S w fr' S' hs hok hr hfr Q hQ
  simpa using this

/-- A region in its written order. -/
theorem region_sound (hC : CalleeSound E C) (hM : CalleeMono C) {id : Nat} {f : Sym.Callee → List SV → List SV → SW → Option (List SV × SW)} (h : kops E n sl ops.toList [] ops.toList = some ⟨f⟩)
    {ρ : Ren} {fr fr' : List SV} {a : Act} {S S' : SW} {w : World} (hsz : a.tmps.size = n) (hfr : FRel ρ sl fr a.tmps) (hok : Ok E ρ S w) (hr : f C [] fr S = some (fr', S')) (hfresh : Fresh ρ S.next S'.next)
    {Q : Exit → Act → World → Prop} (hQ : ∀ ρ' a' w', Ext ρ S w ρ' S' w' → FRel ρ' sl fr' a'.tmps → a'.tmps.size = n → a'.defers = a.defers → Q .normal a' w') : (Code.region id ops false).wpIn (Fr r) m E.P Q a w := by
  refine wpIn_region ?_
  rw [List.range_eq_range']
  exact kops_sound (r := r) (m := m) hC hM f h ρ fr a S w fr' S' ⟨hsz, fun t i ht => by simp [posOf] at ht, hfr⟩ hok hr hfresh Q hQ
end
end Go.RX

/- What an operation of a drawn region looks at: the objects that its operands name; objects that are surely the same. -/
namespace Go.RX
open Sym

/-! ### Objects that are the same -/
theorem boolEq_sound : ∀ {a b : Bool}, boolEq a b = true → a = b
  | true, true, _ => rfl
  | false, false, _ => rfl
  | true, false, h => by cases h
  | false, true, h => by cases h

theorem capEq_sound {a b : SCap} (h : capEq a b = true) : a = b := by
  unfold capEq at h
  split at h
  · rw [Nat.eq_of_beq_eq_true h]
  · split at h
    · rename_i h1
      rw [Nat.eq_of_beq_eq_true h1, Nat.eq_of_beq_eq_true h]
    · cases h
  · cases h

theorem strEq_same {a b : ByteArray} (h : strEq a b = true) : a = b := by
  unfold strEq at h
  have : a.data.toList = b.data.toList := by simpa using h
  exact ByteArray.ext (Array.ext' this)

mutual
theorem IE.same_eq : ∀ {a b : IE}, IE.same a b = true → a = b
  | .var i, b, h => by cases b <;> simp [IE.same] at h; exact congrArg _ h
  | .lit x, b, h => by cases b <;> simp [IE.same, eqb_eq] at h; exact congrArg _ h
  | .len i, b, h => by cases b <;> simp [IE.same] at h; exact congrArg _ h
  | .sel a i c, b, h => by
    cases b <;> simp only [IE.same] at h <;> first | (cases h; done) | skip
    split at h
    · rename_i h1 h2
      have e1 := Nat.eq_of_beq_eq_true h1
      have e2 := Nat.eq_of_beq_eq_true h2
      have e3 := IE.same_eq h
      subst e1; subst e2; subst e3; rfl
    · cases h
  | .bin op k x y, b, h => by
    cases b <;> simp only [IE.same] at h <;> first | (cases h; done) | skip
    split at h
    · rename_i h1 h2
      split at h
      · rename_i h3
        have e1 := of_decide_eq_true h1
        rw [kindEq_eq] at h2
        have e2 := of_decide_eq_true h2
        have e3 := IE.same_eq h3
        have e4 := IE.same_eq h
        subst e1; subst e2; subst e3; subst e4; rfl
      · cases h
    · cases h
  | .conv k x, b, h => by
    cases b <;> simp only [IE.same] at h <;> first | (cases h; done) | skip
    split at h
    · rename_i h2
      rw [kindEq_eq] at h2
      have e2 := of_decide_eq_true h2
      have e3 := IE.same_eq h
      subst e2; subst e3; rfl
    · cases h
  | .neg k x, b, h => by
    cases b <;> simp only [IE.same] at h <;> first | (cases h; done) | skip
    split at h
    · rename_i h2
      rw [kindEq_eq] at h2
      have e2 := of_decide_eq_true h2
      have e3 := IE.same_eq h
      subst e2; subst e3; rfl
    · cases h
  | .max x y, b, h => by
    cases b <;> simp only [IE.same] at h <;> first | (cases h; done) | skip
    split at h
    · rename_i h3
      have e3 := IE.same_eq h3
      have e4 := IE.same_eq h
      subst e3; subst e4; rfl
    · cases h
  | .min x y, b, h => by
    cases b <;> simp only [IE.same] at h <;> first | (cases h; done) | skip
    split at h
    · rename_i h3
      have e3 := IE.same_eq h3
      have e4 := IE.same_eq h
      subst e3; subst e4; rfl
    · cases h
  | .fn f l, b, h => by
    cases b <;> simp only [IE.same] at h <;> first | (cases h; done) | skip
    split at h
    · rename_i h1
      have e1 := Nat.eq_of_beq_eq_true h1
      have e3 := IE.sames_eq h
      subst e1; subst e3; rfl
    · cases h
theorem IE.sames_eq : ∀ {l l' : List IE}, IE.sames l l' = true → l = l'
  | [], l', h => by cases l' <;> simp [IE.sames] at h; rfl
  | a :: l, l', h => by
    cases l' <;> simp only [IE.sames] at h <;> first | (cases h; done) | skip
    split at h
    · rename_i h3
      rw [IE.same_eq h3, IE.sames_eq h]
    · cases h
end

mutual
theorem svEq_sound : ∀ (a b : SV), svEq a b = true → a = b
  | .bool a, y, h => by
    simp only [svEq] at h
    split at h
    · rw [boolEq_sound h]
    · cases h
  | .int k a, y, h => by
    simp only [svEq] at h
    split at h
    · split at h
      · rename_i h1
        rw [kindEq_eq] at h1
        rw [eqb_eq] at h
        rw [of_decide_eq_true h1, of_decide_eq_true h]
      · cases h
    · cases h
  | .string a, y, h => by
    simp only [svEq] at h
    split at h
    · rw [strEq_same h]
    · cases h
  | .ptr i a, y, h => by
    simp only [svEq] at h
    split at h
    · split at h
      · rename_i h1
        rw [Nat.eq_of_beq_eq_true h1, Nat.eq_of_beq_eq_true h]
      · cases h
    · cases h
  | .gptr i a, y, h => by
    simp only [svEq] at h
    split at h
    · split at h
      · rename_i h1
        rw [Nat.eq_of_beq_eq_true h1, Nat.eq_of_beq_eq_true h]
      · cases h
    · cases h
  | .nilptr, y, h => by
    simp only [svEq] at h
    split at h
    · rfl
    · cases h
  | .slice i a n c, y, h => by
    simp only [svEq] at h
    split at h
    · split at h
      · rename_i h1 h2 h3
        rw [Nat.eq_of_beq_eq_true h1, Nat.eq_of_beq_eq_true h2, Nat.eq_of_beq_eq_true h3, capEq_sound h]
      · cases h
    · cases h
  | .nilslice, y, h => by
    simp only [svEq] at h
    split at h
    · rfl
    · cases h
  | .map i, y, h => by
    simp only [svEq] at h
    split at h
    · rw [Nat.eq_of_beq_eq_true h]
    · cases h
  | .nilmap, y, h => by
    simp only [svEq] at h
    split at h
    · rfl
    · cases h
  | .func f a c, y, h => by
    simp only [svEq] at h
    split at h
    · split at h
      · rename_i h1 h2
        rw [Nat.eq_of_beq_eq_true h1, svsEq_sound _ _ h2, svsEq_sound _ _ h]
      · cases h
    · cases h
  | .yield i, y, h => by
    simp only [svEq] at h
    split at h
    · rw [Nat.eq_of_beq_eq_true h]
    · cases h
  | .nilfunc, y, h => by
    simp only [svEq] at h
    split at h
    · rfl
    · cases h
  | .nilIface, y, h => by
    simp only [svEq] at h
    split at h
    · rfl
    · cases h
  | .iface t v, y, h => by
    simp only [svEq] at h
    split at h
    · split at h
      · rename_i h1
        rw [Nat.eq_of_beq_eq_true h1, svEq_sound _ _ h]
      · cases h
    · cases h
  | .agg a, y, h => by
    simp only [svEq] at h
    split at h
    · rw [svsEq_sound _ _ h]
    · cases h
  | .row i, y, h => by
    simp only [svEq] at h
    split at h
    · rw [Nat.eq_of_beq_eq_true h]
    · cases h
  | .sint k a, y, h => by
    simp only [svEq] at h
    split at h
    · split at h
      · rename_i h1
        rw [kindEq_eq] at h1
        rw [of_decide_eq_true h1, IE.same_eq h]
      · cases h
    · cases h
  | .atLeast _, _, h => by simp [svEq] at h
  | .sstr _, _, h => by simp [svEq] at h
  | .xstr a, y, h => by
    simp only [svEq] at h
    split at h
    · rw [Nat.eq_of_beq_eq_true h]
    · cases h
  | .rptr _ _ _, _, h => by simp [svEq] at h
  | .tuple a, y, h => by
    simp only [svEq] at h
    split at h
    · rw [svsEq_sound _ _ h]
    · cases h
  | .cellv a i c, y, h => by
    simp only [svEq] at h
    split at h
    · split at h
      · rename_i h1 h2
        rw [Nat.eq_of_beq_eq_true h1, Nat.eq_of_beq_eq_true h2, IE.same_eq h]
      · cases h
    · cases h
  | .oslice i a k z, y, h => by
    simp only [svEq] at h
    split at h
    · split at h
      · rename_i h1 h2 h3
        rw [Nat.eq_of_beq_eq_true h1, Nat.eq_of_beq_eq_true h2, Nat.eq_of_beq_eq_true h3, Nat.eq_of_beq_eq_true h]
      · cases h
    · cases h
  | .blur, _, h => by simp [svEq] at h
  | .unknown, _, h => by simp [svEq] at h
theorem svsEq_sound : ∀ (a b : List SV), svsEq a b = true → a = b
  | [], y, h => by
    simp only [svsEq] at h
    split at h
    · rfl
    · cases h
  | a :: as, y, h => by
    simp only [svsEq] at h
    split at h
    · split at h
      · rename_i h1
        rw [svEq_sound _ _ h1, svsEq_sound _ _ h]
      · cases h
    · cases h
end

theorem entsEq_sound : ∀ (a b : List (SV × SV × Nat)), entsEq a b = true → a = b
  | [], y, h => by
    simp only [entsEq] at h
    split at h
    · rfl
    · cases h
  | (k, v, n) :: es, y, h => by
    simp only [entsEq] at h
    split at h
    · split at h
      · rename_i h1 h2 h3
        rw [Nat.eq_of_beq_eq_true h1, svEq_sound _ _ h2, svEq_sound _ _ h3, entsEq_sound _ _ h]
      · cases h
    · cases h

theorem objEq_sound {a b : Option SObj} (h : objEq a b = true) : a = b := by
  unfold objEq at h
  split at h
  · rfl
  · split at h
    · rename_i h1
      rw [Nat.eq_of_beq_eq_true h1, svsEq_sound _ _ h]
    · cases h
  · split at h
    · rename_i h1
      rw [Nat.eq_of_beq_eq_true h1, entsEq_sound _ _ h]
    · cases h
  · split at h
    · rename_i h1
      rw [Nat.eq_of_beq_eq_true h1, svsEq_sound _ _ h]
    · cases h
  · rw [Nat.eq_of_beq_eq_true h]
  · cases h

/-! ### What is looked at -/
theorem put_total (S : SW) (id : Nat) (o : Option SObj) : ∃ S', Sym.put S id o = some S' := by
  unfold Sym.put
  have := Tr.set_isNode none o (path id) S.heap
  cases h : Tr.set none o (path id) S.heap with
  | nil => rw [h] at this; exact absurd this (by simp [Tr.isNode])
  | node l x r =>
    simp only
    split
    · exact ⟨_, rfl⟩
    · rw [force_eq]; exact ⟨_, rfl⟩

theorem new_total (S : SW) (o : SObj) : ∃ S', Sym.new S o = some (S.next, S') := by
  unfold Sym.new
  rw [force_eq]
  have := Tr.set_isNode none (some o) (path S.next) S.heap
  cases h : Tr.set none (some o) (path S.next) S.heap with
  | nil => rw [h] at this; exact absurd this (by simp [Tr.isNode])
  | node l x r => exact ⟨_, rfl⟩

/-- A step that looks at some objects alone (ob), and makes new ones. -/
structure PartAt (run : SW → Option (SV × SW)) (ob : List Nat) (S S' : SW) (v : SV) : Prop where
  rest : ∀ id, id ∉ ob → id < S.next → S'.at id = S.at id
  part : ∀ S2 : SW, S2.next = S.next → (∀ id, id ∈ ob → S2.at id = S.at id) → ∃ S2', run S2 = some (v, S2') ∧ S2'.next = S'.next ∧
    (∀ id, id ∈ ob ∨ (S.next ≤ id ∧ id < S'.next) → S2'.at id = S'.at id) ∧ ∀ id, id ∉ ob → id < S.next → S2'.at id = S2.at id

/-- The states that look the same. -/
def Agrees (ob : List Nat) (S S2 : SW) : Prop := S2.next = S.next ∧ ∀ id, id ∈ ob → S2.at id = S.at id

theorem Agrees.hget {ob : List Nat} {S S2 : SW} (h : Agrees ob S S2) {id : Nat} (hi : id ∈ ob) : Sym.hget S2 id = Sym.hget S id := h.2 id hi

section
variable {run : SW → Option (SV × SW)} {ob : List Nat} {S S' S1 : SW} {v : SV}

theorem PartAt.same (h : ∀ S2, Agrees ob S S2 → run S2 = some (v, S2)) : PartAt run ob S S v :=
  ⟨fun _ _ _ => rfl, fun S2 hn ha => ⟨S2, h S2 ⟨hn, ha⟩, hn, fun id hi => by
    rcases hi with hi | ⟨h1, h2⟩
    · exact ha id hi
    · omega, fun _ _ _ => rfl⟩⟩

theorem PartAt.of_put {id : Nat} {o : Option SObj} (hid : id ∈ ob) (h : Sym.put S id o = some S') (hrun : ∀ S2 S2', Agrees ob S S2 → Sym.put S2 id o = some S2' → run S2 = some (v, S2')) : PartAt run ob S S' v := by
  obtain ⟨q1, -, -, q4⟩ := put_some h
  refine ⟨fun j hj _ => by rw [q4, if_neg (fun e => hj (by rw [e]; exact hid))], fun S2 hn ha => ?_⟩
  obtain ⟨S2', hp⟩ := put_total S2 id o
  obtain ⟨r1, -, -, r4⟩ := put_some hp
  refine ⟨S2', hrun S2 S2' ⟨hn, ha⟩ hp, by rw [r1, q1, hn], fun j hj => ?_, fun j hj _ => by rw [r4, if_neg (fun e => hj (by rw [e]; exact hid))]⟩
  rcases hj with hj | ⟨h1, h2⟩
  · rw [r4, q4]
    split
    · rfl
    · exact ha j hj
  · rw [q1] at h2; omega

theorem PartAt.of_new {id : Nat} {o : SObj} (h : Sym.new S o = some (id, S')) (hrun : ∀ S2 S2', Agrees ob S S2 → Sym.new S2 o = some (id, S2') → run S2 = some (v, S2')) : PartAt run ob S S' v := by
  obtain ⟨rfl, q1, -, q4⟩ := new_some h
  refine ⟨fun j _ hj => by rw [q4, if_neg (by omega)], fun S2 hn ha => ?_⟩
  obtain ⟨S2', hp⟩ := new_total S2 o
  obtain ⟨-, r1, -, r4⟩ := new_some hp
  rw [hn] at hp
  refine ⟨S2', hrun S2 S2' ⟨hn, ha⟩ hp, by rw [r1, q1, hn], fun j hj => ?_, fun j _ hj => by rw [r4, if_neg (by omega)]⟩
  rcases hj with hj | ⟨h1, h2⟩
  · rw [r4, q4, hn]
    split
    · rfl
    · exact ha j hj
  · have : j = S.next := by omega
    subst this
    rw [r4, q4, hn]; simp

theorem PartAt.of_kill_new {id i : Nat} {o : SObj} (hid : id ∈ ob) (h1 : Sym.put S id none = some S1) (h : Sym.new S1 o = some (i, S'))
    (hrun : ∀ S2 S3 S2', Agrees ob S S2 → Sym.put S2 id none = some S3 → Sym.new S3 o = some (i, S2') → run S2 = some (v, S2')) : PartAt run ob S S' v := by
  obtain ⟨p1, -, -, p4⟩ := put_some h1
  obtain ⟨rfl, q1, -, q4⟩ := new_some h
  refine ⟨fun j hj hl => by rw [q4, if_neg (by omega), p4, if_neg (fun e => hj (by rw [e]; exact hid))], fun S2 hn ha => ?_⟩
  obtain ⟨S3, hp⟩ := put_total S2 id none
  obtain ⟨r1, -, -, r4⟩ := put_some hp
  obtain ⟨S2', hq⟩ := new_total S3 o
  obtain ⟨-, s1, -, s4⟩ := new_some hq
  have e : S3.next = S1.next := by rw [r1, p1, hn]
  rw [e] at hq
  refine ⟨S2', hrun S2 S3 S2' ⟨hn, ha⟩ hp hq, by omega, fun j hj => ?_, fun j hj hl => by rw [s4, if_neg (by omega), r4, if_neg (fun e => hj (by rw [e]; exact hid))]⟩
  rcases hj with hj | ⟨h1, h2⟩
  · rw [s4, q4, e, r4, p4]
    split
    · rfl
    · split
      · rfl
      · exact ha j hj
  · have : j = S1.next := by omega
    subst this
    rw [s4, q4, e]; simp
end

/-! ### The operations -/
section
variable {E : Env} {cx : Cx} {o : Oper} {k : KOp} {S S' S2 : SW}

theorem mem_named_ptr {id off : Nat} : id ∈ named (.ptr id off) := by simp [named]
theorem mem_named_slice {id off n : Nat} {c : SCap} : id ∈ named (.slice id off n c) := by simp [named]
theorem mem_named_map {id : Nat} : id ∈ named (.map id) := by simp [named]

theorem loadW_agree {wd : Option Nat} {a v : SV} {ob : List Nat} (hob : ∀ i ∈ named a, i ∈ ob) (ha : Agrees ob S S2) (h : loadW E S wd a = some v) : loadW E S2 wd a = some v := by
  unfold loadW at h ⊢
  split at h
  · rename_i id off

    rw [ha.hget (hob _ mem_named_ptr)]; exact h
  · exact h
  · exact h
  · rw [ha.hget (hob _ (by simp [named]))]; exact h
  · cases h

theorem entries_agree {x : SV} {ob : List Nat} (hob : ∀ i ∈ named x, i ∈ ob) (ha : Agrees ob S S2) : entries S2 x = entries S x := by
  unfold entries
  split
  · rfl
  · rw [ha.hget (hob _ mem_named_map)]
  · rfl

theorem lookupV_agree {kd : TypeDesc} {z x y : SV} {ok : Bool} {ob : List Nat} (hob : ∀ i ∈ named x, i ∈ ob) (ha : Agrees ob S S2) : lookupV E kd z ok S2 x y = lookupV E kd z ok S x y := by
  have hb : blobAt S2 x = blobAt S x := by
    unfold blobAt
    split
    · rw [ha.hget (hob _ mem_named_map)]
    · rfl
  unfold lookupV
  rw [entries_agree hob ha, hb]

theorem firstCells_agree {size n : Nat} {x : SV} {ob : List Nat} (hob : ∀ i ∈ named x, i ∈ ob) (ha : Agrees ob S S2) : Sym.firstCells S2 size n x = Sym.firstCells S size n x := by
  unfold Sym.firstCells
  split
  · rw [ha.hget (hob _ mem_named_slice)]
  · rfl
  · rfl
  · rfl

theorem storeAt_part {id off : Nat} {vs : List SV} {ob : List Nat} {run : SW → Option (SV × SW)} {v : SV} (hid : id ∈ ob) (h : storeAt S id off vs = some S')
    (hrun : ∀ S2 S2', Agrees ob S S2 → storeAt S2 id off vs = some S2' → run S2 = some (v, S2')) : PartAt run ob S S' v := by
  unfold storeAt at h
  split at h
  · rename_i cs el hg
    split at h
    · rename_i hs
      split at h
      · rename_i cs' hsp
        refine .of_put hid h fun S2 S2' ha hp => hrun S2 S2' ha ?_
        simp only [storeAt, ha.hget hid, hg, hs, hsp, hp]
      · cases h
    · cases h
  · cases h

theorem storeW_part {n : Nat} {a x : SV} {ob : List Nat} (hob : ∀ i ∈ named a, i ∈ ob) (h : storeW S n a x = some S') : PartAt (fun w => done (storeW w n a x)) ob S S' .undef := by
  unfold storeW at h
  split at h
  · rename_i id off
    split at h
    · rename_i hb
      refine storeAt_part (hob _ mem_named_ptr) h fun S2 S2' ha h2 => ?_
      simp only [storeW, hb, h2, done]
    · cases h
  · cases h

theorem updateV_part {kd : TypeDesc} {x y z : SV} {ob : List Nat} (hob : ∀ i ∈ named x, i ∈ ob) (h : updateV E kd S x y z = some S') : PartAt (fun w => done (updateV E kd w x y z)) ob S S' .undef := by
  unfold updateV at h
  split at h
  · rename_i id
    have hid := hob _ mem_named_map
    split at h
    · rename_i es c hg
      split at h
      · rename_i hf
        split at h
        · rename_i es' hs
          refine .of_put hid h fun S2 S2' ha hp => ?_
          simp only [updateV, ha.hget hid, hg, hf, hs, hp, done]
        · cases h
      · rename_i hf
        rw [force_eq] at h
        refine .of_put hid h fun S2 S2' ha hp => ?_
        simp only [updateV, ha.hget hid, hg, hf, force_eq, hp, done]
      · cases h
    · rename_i ab hg
      split at h
      · rename_i a' hm
        refine .of_put hid h fun S2 S2' ha hp => ?_
        simp only [updateV, ha.hget hid, hg, hm, hp, done]
      · cases h
    · cases h
  · cases h

theorem deleteV_part {kd : TypeDesc} {x y : SV} {ob : List Nat} (hob : ∀ i ∈ named x, i ∈ ob) (h : deleteV E kd S x y = some S') : PartAt (fun w => done (deleteV E kd w x y)) ob S S' .undef := by
  unfold deleteV at h
  split at h
  · simp only [Option.some.injEq] at h; subst h
    exact .same fun S2 _ => rfl
  · rename_i id
    have hid := hob _ mem_named_map
    split at h
    · rename_i es c hg
      split at h
      · rename_i es' hs
        refine .of_put hid h fun S2 S2' ha hp => ?_
        simp only [deleteV, ha.hget hid, hg, hs, hp, done]
      · cases h
    · rename_i ab hg
      split at h
      · rename_i a' hm
        refine .of_put hid h fun S2 S2' ha hp => ?_
        simp only [deleteV, ha.hget hid, hg, hm, hp, done]
      · cases h
    · cases h
  · cases h

theorem estoreV_part {x y z : SV} {ob : List Nat} (hob : ∀ i ∈ named x, i ∈ ob) (h : estoreV S x y z = some S') : PartAt (fun w => done (estoreV w x y z)) ob S S' .undef := by
  unfold estoreV at h
  split at h
  · rename_i id
    have hid := hob _ mem_named_map
    split at h
    · rename_i es c n hg hn
      split at h
      · rename_i es' hs
        refine .of_put hid h fun S2 S2' ha hp => ?_
        simp only [estoreV, ha.hget hid, hg, hn, hs, hp, done]
      · cases h
    · cases h
  · cases h

theorem entryV_part {kd : TypeDesc} {z x y v : SV} {ob : List Nat} (hob : ∀ i ∈ named x, i ∈ ob) (h : entryV kd z S x y = some (v, S')) : PartAt (fun w => entryV kd z w x y) ob S S' v := by
  unfold entryV at h
  split at h
  · rename_i id
    have hid := hob _ mem_named_map
    split at h
    · rename_i es c hg
      split at h
      · rename_i u n hf
        split at h
        · rename_i S1 hp0
          simp only [Option.some.injEq, Prod.mk.injEq] at h
          obtain ⟨rfl, rfl⟩ := h
          refine .of_put hid hp0 fun S2 S2' ha hp => ?_
          simp only [entryV, ha.hget hid, hg, hf, hp]
        · cases h
      · rename_i hf
        rw [force_eq] at h
        split at h
        · rename_i S1 hp0
          simp only [Option.some.injEq, Prod.mk.injEq] at h
          obtain ⟨rfl, rfl⟩ := h
          refine .of_put hid hp0 fun S2 S2' ha hp => ?_
          simp only [entryV, ha.hget hid, hg, hf, force_eq, hp]
        · cases h
      · cases h
    · cases h
  · cases h

theorem clearV_part {z : List SV} {x : SV} {ob : List Nat} (hob : ∀ i ∈ named x, i ∈ ob) (h : clearV z S x = some S') : PartAt (fun w => done (clearV z w x)) ob S S' .undef := by
  unfold clearV at h
  split at h
  · simp only [Option.some.injEq] at h; subst h
    exact .same fun S2 _ => rfl
  · rename_i id off len c
    split at h
    · simp only [Option.some.injEq] at h; subst h
      exact .same fun S2 _ => rfl
    · refine storeAt_part (hob _ mem_named_slice) h fun S2 S2' ha h2 => ?_
      simp only [clearV, h2, done]
  · cases h

theorem copyV_part {size : Nat} {x y v : SV} {ob : List Nat} (hob : ∀ i ∈ named x, i ∈ ob) (hob2 : ∀ i ∈ named y, i ∈ ob) (h : copyV size S x y = some (v, S')) : PartAt (fun w => copyV size w x y) ob S S' v := by
  unfold copyV at h
  split at h
  · cases h
  · rename_i m hm
    split at h
    · simp only [Option.some.injEq, Prod.mk.injEq] at h
      obtain ⟨rfl, rfl⟩ := h
      exact .same fun S2 _ => by simp only [copyV, hm]
    · rename_i id off len c
      split at h
      · rename_i cs hc
        split at h
        · rename_i S1 hst
          obtain ⟨h1, rfl⟩ : Sym.int .i64 (min m len : Nat) = some v ∧ S' = S1 := by
            unfold withW at h
            split at h
            · rename_i u hu
              simp only [Option.some.injEq, Prod.mk.injEq] at h
              obtain ⟨rfl, rfl⟩ := h
              exact ⟨hu, rfl⟩
            · cases h
          refine storeAt_part (hob _ mem_named_slice) hst fun S2 S2' ha h2 => ?_
          simp only [copyV, hm, firstCells_agree hob2 ha, hc, h2, withW, h1]
        · cases h
      · cases h
    · cases h

theorem grow_form (elem : TypeId) (size bytes : Nat) (old : List SV) (len : Nat) (added : List SV) (n : Nat) : ∃ b : Bool, ∀ S, Sym.grow elem size bytes S old len added n =
    match b with
    | true => (match Sym.new S (.cells (old ++ added) elem) with | some (id, w) => some (.slice id 0 (len + n) (.toEnd size (len + n)), w) | none => none)
    | false => none := by
  refine ⟨Nat.ble ((len + n + len + len + 1024) * (bytes + 1)) 140737488355328 && allScalar added, fun S => ?_⟩
  unfold Sym.grow
  simp only [force_eq]
  generalize Nat.ble ((len + n + len + len + 1024) * (bytes + 1)) 140737488355328 = c
  cases c <;> cases allScalar added <;> rfl

theorem grow_part {elem : TypeId} {size bytes len n : Nat} {old added : List SV} {v : SV} {ob : List Nat} {run : SW → Option (SV × SW)} (h : Sym.grow elem size bytes S old len added n = some (v, S'))
    (hrun : ∀ S2, Agrees ob S S2 → run S2 = Sym.grow elem size bytes S2 old len added n) : PartAt run ob S S' v := by
  obtain ⟨b, hb⟩ := grow_form elem size bytes old len added n
  rw [hb] at h
  split at h
  · split at h
    · rename_i id S1 hn
      simp only [Option.some.injEq, Prod.mk.injEq] at h
      obtain ⟨rfl, rfl⟩ := h
      refine .of_new hn fun S2 S2' ha hp => ?_
      rw [hrun S2 ha, hb]
      simp only [hp]
    · cases h
  · cases h

theorem kill_grow_part {elem : TypeId} {size bytes len n id : Nat} {old added : List SV} {v : SV} {ob : List Nat} {run : SW → Option (SV × SW)} {S1 : SW} (hid : id ∈ ob) (hk : Sym.put S id none = some S1) (h : Sym.grow elem size bytes S1 old len added n = some (v, S'))
    (hrun : ∀ S2 S3, Agrees ob S S2 → Sym.put S2 id none = some S3 → run S2 = Sym.grow elem size bytes S3 old len added n) : PartAt run ob S S' v := by
  obtain ⟨b, hb⟩ := grow_form elem size bytes old len added n
  rw [hb] at h
  split at h
  · split at h
    · rename_i i S3 hn
      simp only [Option.some.injEq, Prod.mk.injEq] at h
      obtain ⟨rfl, rfl⟩ := h
      refine .of_kill_new hid hk hn fun S2 S4 S2' ha hp hq => ?_
      rw [hrun S2 S4 ha hp, hb]
      simp only [hq]
    · cases h
  · cases h

theorem appendO_part {size bytes id a k sz n : Nat} {added : List SV} {v : SV} {ob : List Nat} {run : SW → Option (SV × SW)} (hid : id ∈ ob) (h : appendO size bytes S id a k sz added n = some (v, S'))
    (hrun : ∀ S2, Agrees ob S S2 → run S2 = appendO size bytes S2 id a k sz added n) : PartAt run ob S S' v := by
  unfold appendO at h
  split at h
  · rename_i a' cs hobj
    split at h
    · rename_i g1 g2 g3 g4 g5 g6 g7
      split at h
      · rename_i S1 hk
        split at h
        · rename_i id' S2' hn
          rw [force_eq] at h
          simp only [Option.some.injEq, Prod.mk.injEq] at h
          obtain ⟨rfl, rfl⟩ := h
          refine .of_kill_new hid hk hn fun S2 S4 S5 ha hp hq => ?_
          rw [hrun S2 ha]
          unfold appendO
          rw [ha.hget hid, hobj]
          simp only [g1, g2, g3, g4, g5, g6, g7, hp, hq, force_eq]
        · cases h
      · cases h
    · cases h
  · cases h

theorem appendV_part {elem : TypeId} {size bytes : Nat} {x y v : SV} {ob : List Nat} (hob : ∀ i ∈ named x, i ∈ ob) (hob2 : ∀ i ∈ named y, i ∈ ob) (h : appendV elem size bytes S x y = some (v, S')) : PartAt (fun w => appendV elem size bytes w x y) ob S S' v := by
  unfold appendV at h
  split at h
  · cases h
  · rename_i hm
    split at h
    · simp only [Option.some.injEq, Prod.mk.injEq] at h
      obtain ⟨rfl, rfl⟩ := h
      exact .same fun S2 _ => by simp only [appendV, hm]
    · split at h
      · rename_i hb
        simp only [Option.some.injEq, Prod.mk.injEq] at h
        obtain ⟨rfl, rfl⟩ := h
        exact .same fun S2 _ => by simp only [appendV, hm, hb]
      · cases h
    · simp only [Option.some.injEq, Prod.mk.injEq] at h
      obtain ⟨rfl, rfl⟩ := h
      exact .same fun S2 _ => by simp only [appendV, hm]
    · cases h
  · rename_i n hm
    split at h
    · rename_i added hadd hrow
      split at h
      · exact grow_part h fun S2 ha => by simp only [appendV, hm, firstCells_agree hob2 ha, hadd, hrow]
      · rename_i id off len cap
        split at h
        · rename_i hb
          split at h
          · rename_i S1 hst
            rw [force_eq] at h
            simp only [Option.some.injEq, Prod.mk.injEq] at h
            obtain ⟨rfl, rfl⟩ := h
            refine storeAt_part (hob _ mem_named_slice) hst fun S2 S2' ha h2 => ?_
            simp only [appendV, hm, firstCells_agree hob2 ha, hadd, hrow, hb, h2, force_eq]
          · cases h
        · rename_i hb
          split at h
          · rename_i old hold
            exact grow_part h fun S2 ha => by simp only [appendV, hm, firstCells_agree hob2 ha, hadd, hrow, hb, firstCells_agree hob ha, hold]
          · cases h
      · rename_i id off len sz least
        split at h
        · rename_i h1 h2
          split at h
          · rename_i S1 hst
            rw [force_eq] at h
            simp only [Option.some.injEq, Prod.mk.injEq] at h
            obtain ⟨rfl, rfl⟩ := h
            refine storeAt_part (hob _ mem_named_slice) hst fun S2 S2' ha h3 => ?_
            simp only [appendV, hm, firstCells_agree hob2 ha, hadd, hrow, h1, h2, h3, force_eq]
          · cases h
        · rename_i h1 h2
          split at h
          · rename_i old S1 hold hk
            refine kill_grow_part (hob _ mem_named_slice) hk h fun S2 S4 ha hp => ?_
            have hel : elAt elem S2 id off = elAt elem S id off := by unfold elAt; rw [ha.hget (hob _ mem_named_slice)]
            simp only [appendV, hm, firstCells_agree hob2 ha, hadd, hrow, h1, h2, firstCells_agree hob ha, hold, hp, hel]
          · cases h
        · cases h
      · exact appendO_part (hob _ (by simp [named])) h fun S2 ha => by simp only [appendV, hm, firstCells_agree hob2 ha, hadd, hrow]
      · cases h
    · cases h


theorem likeRow_part {bytes a size : Nat} {v : SV} {ob : List Nat} {run : SW → Option (SV × SW)} (h : likeRow E bytes S a size = some (v, S'))
    (hrun : ∀ S2, Agrees ob S S2 → run S2 = likeRow E bytes S2 a size) : PartAt run ob S S' v := by
  unfold likeRow at h
  split at h
  · rename_i g1 g2 g3
    split at h
    · rename_i id S1 hn
      simp only [Option.some.injEq, Prod.mk.injEq] at h
      obtain ⟨rfl, rfl⟩ := h
      refine .of_new hn fun S2 S2' ha hp => ?_
      rw [hrun S2 ha]
      unfold likeRow
      simp only [g1, g2, g3, hp]
    · cases h
  · cases h
theorem appendW_part {elem : TypeId} {size bytes : Nat} {x y v : SV} {ob : List Nat} (hob : ∀ i ∈ named x, i ∈ ob) (hob2 : ∀ i ∈ named y, i ∈ ob) (h : appendW E elem size bytes S x y = some (v, S')) : PartAt (fun w => appendW E elem size bytes w x y) ob S S' v := by
  unfold appendW at h
  split at h
  · split at h
    · rename_i g1 g2
      split at h
      · rename_i g3
        exact likeRow_part h fun S2 _ => by simp only [appendW, g1, g2, g3]
      · cases h
    · cases h
  · rename_i id a sz
    split at h
    · rename_i g1 g2
      split at h
      · rename_i g3 g4
        have hid : id ∈ ob := hob2 id (by simp [named])
        exact likeRow_part h fun S2 ha => by simp only [appendW, ha.hget hid, g1, g2, g3, g4]
      · cases h
    · cases h
  · rename_i hn1 hn2
    have e : (fun w => appendW E elem size bytes w x y) = fun w => appendV elem size bytes w x y := funext fun w => by
      unfold appendW
      cases y <;> first | rfl | (exact (hn1 _ rfl).elim) | skip
      rename_i id a k sz
      cases k with
      | zero => exact (hn2 _ _ _ rfl).elim
      | succ k => rfl
    rw [e]
    exact appendV_part (S := S) (S' := S') hob hob2 h
theorem appendZ_part {elem : TypeId} {size bytes : Nat} {z : List SV} {x y v : SV} {ob : List Nat} (hob : ∀ i ∈ named x, i ∈ ob) (h : appendZ elem size bytes z S x y = some (v, S')) : PartAt (fun w => appendZ elem size bytes z w x y) ob S S' v := by
  unfold appendZ at h
  split at h
  · rename_i id off len cap n hn
    split at h
    · cases h
    · rename_i hb
      split at h
      · rename_i old hold
        exact grow_part h fun S2 ha => by simp only [appendZ, hn, hb, firstCells_agree (x := .slice id off len (.exact cap)) hob ha, hold]
      · cases h
  · cases h

theorem opds_one {x : Operand} {f : List SV → List SV → SV} (h : opd cx x = some ⟨f⟩) : opds cx [x] = some ⟨fun e fr => [f e fr]⟩ := by simp only [opds, h]
theorem opds_two {x y : Operand} {f g : List SV → List SV → SV} (h : opd cx x = some ⟨f⟩) (h2 : opd cx y = some ⟨g⟩) : opds cx [x, y] = some ⟨fun e fr => [f e fr, g e fr]⟩ := by simp only [opds, h, h2]
theorem named_one (v : SV) : ∀ i ∈ named v, i ∈ namedL [v] := fun i h => by simpa [namedL] using h
theorem named_fst (v u : SV) : ∀ i ∈ named v, i ∈ namedL [v, u] := fun i h => by simp [namedL, h]
theorem named_snd (v u : SV) : ∀ i ∈ named u, i ∈ namedL [v, u] := fun i h => by simp [namedL, h]

theorem old_new {ob : SObj} {id : Nat} (h : Sym.new S ob = some (id, S')) : ∀ i, i < S.next → S'.at i = S.at i := fun i hi => by
  obtain ⟨rfl, -, -, h4⟩ := new_some h
  rw [h4, if_neg (by omega)]

theorem ptrTo_some {ob : SObj} {v : SV} (h : ptrTo (Sym.new S ob) = some (v, S')) : ∃ id, Sym.new S ob = some (id, S') ∧ v = .ptr id 0 := by
  unfold ptrTo at h
  split at h
  · rename_i id w hn
    simp only [Option.some.injEq, Prod.mk.injEq] at h
    obtain ⟨rfl, rfl⟩ := h
    exact ⟨id, hn, rfl⟩
  · cases h

/-- What holds of an operation that looks at what its operands name. -/
def PartOf (cx : Cx) (o : Oper) (k : KOp) (q0 : Sym.Callee → List SV → List SV → SW → Option (SV × SW)) (C : Sym.Callee) (e fr : List SV) (S S' : SW) (v : SV) : Prop :=
  ∃ g, opds cx (seenOpds o.op) = some ⟨g⟩ ∧ PartAt (q0 C e fr) (namedL (g e fr)) S S' v ∧ (lookOf k o = .rd → ∀ id, id < S.next → S'.at id = S.at id)

section
variable {q0 : Sym.Callee → List SV → List SV → SW → Option (SV × SW)} {C : Sym.Callee} {e fr : List SV} {v : SV}

/-- A read: it answers by what it looks at. -/
theorem part_rd {f : List SV → List SV → SW → Option SV} {g : List SV → List SV → List SV} (hg : opds cx (seenOpds o.op) = some ⟨g⟩) (hq : k1of (.rd f) = ⟨q0⟩) (hr : q0 C e fr S = some (v, S'))
    (h : ∀ S2, Agrees (namedL (g e fr)) S S2 → ∀ u, f e fr S = some u → f e fr S2 = some u) : PartOf cx o (.rd f) q0 C e fr S S' v := by
  simp only [k1of, K1.mk.injEq] at hq; subst hq
  dsimp only at hr
  split at hr
  · rename_i u hu
    simp only [Option.some.injEq, Prod.mk.injEq] at hr
    obtain ⟨rfl, rfl⟩ := hr
    exact ⟨g, hg, .same fun S2 ha => by simp only [h S2 ha _ hu], fun _ _ _ => rfl⟩
  · cases hr

theorem part_full {f : List SV → List SV → SW → Option (SV × SW)} {g : List SV → List SV → List SV} (hg : opds cx (seenOpds o.op) = some ⟨g⟩) (hq : k1of (.full f) = ⟨q0⟩) (hr : q0 C e fr S = some (v, S'))
    (h : ∀ v S', f e fr S = some (v, S') → PartAt (f e fr) (namedL (g e fr)) S S' v ∧ (lookOf (.full f) o = .rd → ∀ id, id < S.next → S'.at id = S.at id)) : PartOf cx o (.full f) q0 C e fr S S' v := by
  simp only [k1of, K1.mk.injEq] at hq; subst hq
  exact ⟨g, hg, h v S' hr⟩

theorem part_call {c : Call} (ho : o.op = .call c) (h : kop0 E cx o = some k) (hk1 : k1of k = ⟨q0⟩) (hm : lookOf k o = .rd ∨ lookOf k o = .wr) (hr : q0 C e fr S = some (v, S')) : PartOf cx o k q0 C e fr S S' v := by
  have hw : ∀ f, lookOf (.full f) o = lookO o.op := fun f => rfl
  simp only [kop0, ho] at h
  split at h
  · rename_i g0 hg0
    split at h
    · rename_i b hc
      unfold builtinK at h
      split at h
      · -- len
        rename_i x ha
        split at h
        · rename_i f t0 ts hf hts
          split at h
          · simp only [Option.some.injEq] at h; subst h; rcases hm with hm | hm <;> simp [lookOf] at hm
          · simp only [Option.some.injEq] at h; subst h; rcases hm with hm | hm <;> simp [lookOf] at hm
          · simp only [Option.some.injEq] at h; subst h; rcases hm with hm | hm <;> simp [lookOf] at hm
          · simp only [Option.some.injEq] at h; subst h
            refine part_rd (g := fun e fr => [f e fr]) (by rw [ho]; simp only [seenOpds, ha]; exact opds_one hf) hk1 hr fun S2 hag u hu => ?_
            rw [entries_agree (named_one _) hag]; exact hu
          · cases h
        · cases h
      · -- cap
        rename_i x ha
        repeat' split at h
        all_goals first
          | (cases h; done)
          | (simp only [Option.some.injEq] at h; subst h; rcases hm with hm | hm <;> simp [lookOf] at hm)
      · -- append
        rename_i x y ha
        split at h
        · rename_i f g t0 t1 hf hg hts
          split at h
          · rename_i elem u hd hu
            split at h
            · split at h
              · rename_i i z hi hz
                split at h
                · simp only [force_eq, Option.some.injEq] at h; subst h
                  refine part_full (g := fun e fr => [f e fr, g e fr]) (by rw [ho]; simp only [seenOpds, ha]; exact opds_two hf hg) hk1 hr fun v S' hr => ⟨appendZ_part (named_fst _ _) hr, fun hl => ?_⟩
                  rw [hw, ho] at hl; simp [lookO, hc, lookB] at hl
                · cases h
              · cases h
            · split at h
              · rename_i i z hi hz
                split at h
                · simp only [force_eq, Option.some.injEq] at h; subst h
                  refine part_full (g := fun e fr => [f e fr, g e fr]) (by rw [ho]; simp only [seenOpds, ha]; exact opds_two hf hg) hk1 hr fun v S' hr => ⟨appendW_part (named_fst _ _) (named_snd _ _) hr, fun hl => ?_⟩
                  rw [hw, ho] at hl; simp [lookO, hc, lookB] at hl
                · cases h
              · cases h
          · cases h
        · cases h
      · -- copy
        rename_i x y ha
        split at h
        · rename_i f g t0 ts hf hg hts
          split at h
          · split at h
            · simp only [Option.some.injEq] at h; subst h
              refine part_full (g := fun e fr => [f e fr, g e fr]) (by rw [ho]; simp only [seenOpds, ha]; exact opds_two hf hg) hk1 hr fun v S' hr => ⟨copyV_part (named_fst _ _) (named_snd _ _) hr, fun hl => ?_⟩
              rw [hw, ho] at hl; simp [lookO, hc, lookB] at hl
            · cases h
          · cases h
        · cases h
      · -- clear
        rename_i x ha
        split at h
        · rename_i f t0 ts hf hts
          split at h
          · split at h
            · rename_i z hz
              simp only [Option.some.injEq] at h; subst h
              refine part_full (g := fun e fr => [f e fr]) (by rw [ho]; simp only [seenOpds, ha]; exact opds_one hf) hk1 hr fun v S' hr => ⟨?_, fun hl => ?_⟩
              · unfold done at hr
                split at hr
                · rename_i S1 hs
                  simp only [Option.some.injEq, Prod.mk.injEq] at hr
                  obtain ⟨rfl, rfl⟩ := hr
                  exact clearV_part (named_one _) hs
                · cases hr
              · rw [hw, ho] at hl; simp [lookO, hc, lookB] at hl
            · cases h
          · cases h
        · cases h
      · -- delete
        rename_i x y ha
        split at h
        · rename_i f g t0 ts hf hg hts
          split at h
          · split at h
            · split at h
              · simp only [Option.some.injEq] at h; subst h
                refine part_full (g := fun e fr => [f e fr, g e fr]) (by rw [ho]; simp only [seenOpds, ha]; exact opds_two hf hg) hk1 hr fun v S' hr => ⟨?_, fun hl => ?_⟩
                · unfold done at hr
                  split at hr
                  · rename_i S1 hs
                    simp only [Option.some.injEq, Prod.mk.injEq] at hr
                    obtain ⟨rfl, rfl⟩ := hr
                    exact deleteV_part (named_fst _ _) hs
                  · cases hr
                · rw [hw, ho] at hl; simp [lookO, hc, lookB] at hl
              · cases h
            · cases h
          · cases h
        · cases h
      · -- min
        split at h
        · simp only [Option.some.injEq] at h; subst h; rcases hm with hm | hm <;> simp [lookOf] at hm
        · cases h
      · split at h
        · simp only [Option.some.injEq] at h; subst h; rcases hm with hm | hm <;> simp [lookOf] at hm
        · cases h
      · split at h
        · simp only [Option.some.injEq] at h; subst h; rcases hm with hm | hm <;> simp [lookOf] at hm
        · cases h
      · split at h
        · split at h
          · split at h
            · simp only [Option.some.injEq] at h; subst h; rcases hm with hm | hm <;> simp [lookOf, ho, lookO, hc, lookB] at hm
            · cases h
          · cases h
        · cases h
      · cases h
    · rename_i f hc
      exfalso
      have hb : ∀ q, lookOf (.call q) o ≠ .rd ∧ lookOf (.call q) o ≠ .wr := fun q => by
        constructor <;> simp [lookOf, ho, lookO, hc]
      have hb2 : ∀ q, lookOf (.rd q) o ≠ .rd ∧ lookOf (.rd q) o ≠ .wr := fun q => by
        constructor <;> simp [lookOf, ho, lookO, hc]
      split at h
      · split at h
        · simp only [Option.some.injEq] at h; subst h
          rcases hm with hm | hm
          · exact (hb2 _).1 hm
          · exact (hb2 _).2 hm
        · split at h
          · simp only [Option.some.injEq] at h; subst h
            rcases hm with hm | hm <;> simp [lookOf] at hm
          · split at h
            · simp only [Option.some.injEq] at h; subst h
              rcases hm with hm | hm <;> simp [lookOf] at hm
            · split at h
              · simp only [Option.some.injEq] at h; subst h
                rcases hm with hm | hm <;> simp [lookOf, ho, lookO, hc] at hm
              · simp only [Option.some.injEq] at h; subst h
                rcases hm with hm | hm
                · exact (hb _).1 hm
                · exact (hb _).2 hm
      · split at h
        · simp only [Option.some.injEq] at h; subst h
          rcases hm with hm | hm
          · exact (hb _).1 hm
          · exact (hb _).2 hm
        · cases h
    · cases h
  · cases h

theorem part_convert {src dst : TypeId} {x : Operand} (ho : o.op = .convert src dst x) (h : kop0 E cx o = some k) (hk1 : k1of k = ⟨q0⟩) (hm : lookOf k o = .rd ∨ lookOf k o = .wr) (hr : q0 C e fr S = some (v, S')) : PartOf cx o k q0 C e fr S S' v := by
  simp only [kop0, ho] at h
  split at h
  · rename_i f hf
    have hg : opds cx (seenOpds o.op) = some ⟨fun e fr => [f e fr]⟩ := by rw [ho]; exact opds_one hf
    unfold convertK at h
    split at h
    · split at h
      · simp only [Option.some.injEq] at h; subst h; rcases hm with hm | hm <;> simp [lookOf] at hm
      · split at h
        · split at h
          · simp only [Option.some.injEq] at h; subst h
            refine part_rd hg hk1 hr fun S2 hag u hu => ?_
            split at hu
            · exact hu
            · rename_i id off len c e1
              rw [e1] at hag
              have := hag.hget (named_one _ _ (mem_named_slice (id := id) (off := off) (n := len) (c := c)))
              simp only [cellsAt, this] at hu ⊢
              exact hu
            · exact hu
            · cases hu
          · cases h
        · simp only [Option.some.injEq] at h; subst h; rcases hm with hm | hm <;> simp [lookOf] at hm
      · split at h
        · simp only [Option.some.injEq] at h; subst h
          refine part_full hg hk1 hr fun v S' hr => ?_
          (try dsimp only at hr)
          (try dsimp only)
          split at hr
          · rename_i s e1
            split at hr
            · rename_i id S1 hn
              rw [force_eq] at hr
              simp only [Option.some.injEq, Prod.mk.injEq] at hr
              obtain ⟨rfl, rfl⟩ := hr
              refine ⟨.of_new hn fun S2 S2' ha hp => ?_, fun _ => old_new hn⟩
              simp only [e1, hp, force_eq]
            · cases hr
          · rename_i id off len c e1
            split at hr
            · rename_i e9 S1 hb hms _
              simp only [Option.some.injEq, Prod.mk.injEq] at hr
              obtain ⟨rfl, rfl⟩ := hr
              refine ⟨?_, fun hl => ?_⟩
              · unfold markS at hms
                split at hms
                · rename_i cs el hobj
                  split at hms
                  · cases hms
                  · rename_i hel
                    have hid : id ∈ namedL [f e fr] := by rw [e1]; exact named_one _ _ (mem_named_slice (id := id) (off := off) (n := len) (c := c))
                    refine .of_put hid hms fun S2 S2' ha hp => ?_
                    have := (ha.hget hid).trans hobj
                    simp only [e1, hb, markS, this, hel, hp]
                · cases hms
              · simp [lookOf, ho, lookO, hb] at hl
            · cases hr
          · cases hr
        · cases h
      · split at h
        · split at h
          · cases h
          · simp only [Option.some.injEq] at h; subst h
            refine part_rd hg hk1 hr fun S2 hag u hu => ?_
            split at hu
            · rename_i id off e1
              rw [e1] at hag
              have := hag.hget (named_one _ _ (mem_named_ptr (id := id) (off := off)))
              simp only [this] at hu ⊢
              exact hu
            · cases hu
        · cases h
      · split at h
        · simp only [Option.some.injEq] at h; subst h
          refine part_rd hg hk1 hr fun S2 hag u hu => ?_
          split at hu
          · rename_i id e1
            rw [e1] at hag
            have := hag.hget (named_one _ _ (mem_named_ptr (id := id) (off := 0)))
            simp only [this] at hu ⊢
            exact hu
          · cases hu
        · cases h
      · cases h
    · cases h
  · cases h

theorem kop0_part (h : kop0 E cx o = some k) (hk1 : k1of k = ⟨q0⟩) (hm : lookOf k o = .rd ∨ lookOf k o = .wr) (hr : q0 C e fr S = some (v, S')) : PartOf cx o k q0 C e fr S S' v := by
  have hw : ∀ f, lookOf (.full f) o = lookO o.op := fun f => rfl
  have big : lookO o.op = .big → False := fun hb => by
    cases k <;> rcases hm with hm | hm <;> simp [lookOf, hb] at hm
  cases ho : o.op with
  | load t a =>
    simp only [kop0, ho] at h
    split at h
    · rename_i f wd hf hwd
      simp only [Option.some.injEq] at h; subst h
      refine part_rd (g := fun e fr => [f e fr]) (by rw [ho]; exact opds_one hf) hk1 hr fun S2 hag u hu => loadW_agree (named_one _) hag hu
    · cases h
  | lookup t x i ok =>
    simp only [kop0, ho] at h
    split at h
    · rename_i f g key elem hf hg hd
      split at h
      · split at h
        · simp only [Option.some.injEq] at h; subst h
          refine part_rd (g := fun e fr => [f e fr]) (by rw [ho]; exact opds_one hf) hk1 hr fun S2 hag u hu => by rw [lookupV_agree (named_one _) hag]; exact hu
        · cases h
      · cases h
    · cases h
  | convert a b x => exact part_convert ho h hk1 hm hr
  | range t x =>
    simp only [kop0, ho] at h
    split at h
    · rename_i f hf hd
      simp only [Option.some.injEq] at h; subst h
      refine part_full (g := fun e fr => [f e fr]) (by rw [ho]; exact opds_one hf) hk1 hr fun v S' hr => ?_
      (try dsimp only at hr)
      (try dsimp only)
      split at hr
      · rename_i s e1
        obtain ⟨id, hn, rfl⟩ := ptrTo_some hr
        exact ⟨.of_new hn fun S2 S2' ha hp => by simp only [e1, hp, ptrTo], fun _ => old_new hn⟩
      · cases hr
    · rename_i f kt et hf hd
      simp only [Option.some.injEq] at h; subst h
      refine part_full (g := fun e fr => [f e fr]) (by rw [ho]; exact opds_one hf) hk1 hr fun v S' hr => ?_
      (try dsimp only at hr)
      (try dsimp only)
      split at hr
      · rename_i e1
        obtain ⟨id, hn, rfl⟩ := ptrTo_some hr
        exact ⟨.of_new hn fun S2 S2' ha hp => by simp only [e1, hp, ptrTo], fun _ => old_new hn⟩
      · rename_i m e1
        split at hr
        · rename_i es c hobj
          obtain ⟨id, hn, rfl⟩ := ptrTo_some hr
          exact ⟨.of_new hn fun S2 S2' ha hp => by
            have := ha.hget (id := m) (by rw [e1]; exact named_one _ _ mem_named_map)
            simp only [e1, this, hobj, hp, ptrTo], fun _ => old_new hn⟩
        · cases hr
      · cases hr
    · cases h
  | alloc t =>
    simp only [kop0, ho] at h
    split at h
    · split at h
      · simp only [Option.some.injEq] at h; subst h
        refine part_full (g := fun _ _ => []) (by rw [ho]; rfl) hk1 hr fun v S' hr => ?_
        (try dsimp only at hr)
        (try dsimp only)
        obtain ⟨id, hn, rfl⟩ := ptrTo_some hr
        exact ⟨.of_new hn fun S2 S2' ha hp => by simp only [hp, ptrTo], fun _ => old_new hn⟩
      · cases h
    · cases h
  | box t x =>
    simp only [kop0, ho] at h
    split at h
    · simp only [Option.some.injEq] at h; subst h
      refine part_full (g := fun _ _ => []) (by rw [ho]; rfl) hk1 hr fun v S' hr => ?_
      (try dsimp only at hr)
      (try dsimp only)
      split at hr
      · rename_i hs
        obtain ⟨id, hn, rfl⟩ := ptrTo_some hr
        exact ⟨.of_new hn fun S2 S2' ha hp => by simp only [hs, hp, ptrTo], fun _ => old_new hn⟩
      · cases hr
    · cases h
  | buildSlice t len ps =>
    simp only [kop0, ho] at h
    split at h
    · split at h
      · split at h
        · simp only [Option.some.injEq] at h; subst h
          refine part_full (g := fun _ _ => []) (by rw [ho]; rfl) hk1 hr fun v S' hr => ?_
          (try dsimp only at hr)
          (try dsimp only)
          split at hr
          · rename_i cs hfl
            split at hr
            · rename_i hs
              split at hr
              · rename_i id S1 hn
                simp only [Option.some.injEq, Prod.mk.injEq] at hr
                obtain ⟨rfl, rfl⟩ := hr
                exact ⟨.of_new hn fun S2 S2' ha hp => by simp only [hfl, hs, hp], fun _ => old_new hn⟩
              · cases hr
            · cases hr
          · cases hr
        · cases h
      · cases h
    · cases h
  | makeSlice t l c =>
    simp only [kop0, ho] at h
    split at h
    · split at h
      · split at h
        · simp only [Option.some.injEq] at h; subst h
          refine part_full (g := fun _ _ => []) (by rw [ho]; rfl) hk1 hr fun v S' hr => ?_
          (try dsimp only at hr)
          (try dsimp only)
          split at hr
          · rename_i n1 n2 hn1 hn2
            split at hr
            · rename_i hb1 hb2
              split at hr
              · rename_i id S1 hn
                simp only [Option.some.injEq, Prod.mk.injEq] at hr
                obtain ⟨rfl, rfl⟩ := hr
                exact ⟨.of_new hn fun S2 S2' ha hp => by simp only [hp], fun _ => old_new hn⟩
              · cases hr
            · cases hr
          · cases hr
        · cases h
      · cases h
    · cases h
  | makeMap t r =>
    simp only [kop0, ho] at h
    split at h
    · simp only [Option.some.injEq] at h; subst h
      refine part_full (g := fun _ _ => []) (by rw [ho]; rfl) hk1 hr fun v S' hr => ?_
      (try dsimp only at hr)
      (try dsimp only)
      split at hr
      · rename_i id S1 hn
        simp only [Option.some.injEq, Prod.mk.injEq] at hr
        obtain ⟨rfl, rfl⟩ := hr
        exact ⟨.of_new hn fun S2 S2' ha hp => by simp only [hp], fun _ => old_new hn⟩
      · cases hr
    · split at h
      · simp only [Option.some.injEq] at h; subst h
        refine part_full (g := fun _ _ => []) (by rw [ho]; rfl) hk1 hr fun v S' hr => ?_
        (try dsimp only at hr)
        (try dsimp only)
        split at hr
        · rename_i n hn0
          split at hr
          · rename_i id S1 hn
            simp only [Option.some.injEq, Prod.mk.injEq] at hr
            obtain ⟨rfl, rfl⟩ := hr
            exact ⟨.of_new hn fun S2 S2' ha hp => by simp only [hn0, hp], fun _ => old_new hn⟩
          · cases hr
        · cases hr
      · cases h
  | store t a x =>
    simp only [kop0, ho] at h
    split at h
    · rename_i f g n hf hg hn
      simp only [Option.some.injEq] at h; subst h
      refine part_full (g := fun e fr => [f e fr]) (by rw [ho]; exact opds_one hf) hk1 hr fun v S' hr => ⟨?_, fun hl => by rw [hw, ho] at hl; simp [lookO] at hl⟩
      unfold done at hr
      split at hr
      · rename_i S1 hs
        simp only [Option.some.injEq, Prod.mk.injEq] at hr
        obtain ⟨rfl, rfl⟩ := hr
        exact storeW_part (named_one _) hs
      · cases hr
    · cases h
  | mapUpdate t m x y =>
    simp only [kop0, ho] at h
    split at h
    · rename_i f g hh key el hf hg hh0 hd
      split at h
      · split at h
        · simp only [Option.some.injEq] at h; subst h
          refine part_full (g := fun e fr => [f e fr]) (by rw [ho]; exact opds_one hf) hk1 hr fun v S' hr => ⟨?_, fun hl => by rw [hw, ho] at hl; simp [lookO] at hl⟩
          unfold done at hr
          split at hr
          · rename_i S1 hs
            simp only [Option.some.injEq, Prod.mk.injEq] at hr
            obtain ⟨rfl, rfl⟩ := hr
            exact updateV_part (named_one _) hs
          · cases hr
        · cases h
      · cases h
    · cases h
  | insert t m x y =>
    simp only [kop0, ho] at h
    split at h
    · rename_i f g hh key el hf hg hh0 hd
      split at h
      · split at h
        · simp only [Option.some.injEq] at h; subst h
          refine part_full (g := fun e fr => [f e fr]) (by rw [ho]; exact opds_one hf) hk1 hr fun v S' hr => ⟨?_, fun hl => by rw [hw, ho] at hl; simp [lookO] at hl⟩
          unfold done at hr
          split at hr
          · rename_i S1 hs
            simp only [Option.some.injEq, Prod.mk.injEq] at hr
            obtain ⟨rfl, rfl⟩ := hr
            exact updateV_part (named_one _) hs
          · cases hr
        · cases h
      · cases h
    · cases h
  | mapEntry t m x =>
    simp only [kop0, ho] at h
    split at h
    · rename_i f g key el hf hg hd
      split at h
      · split at h
        · simp only [Option.some.injEq] at h; subst h
          exact part_full (g := fun e fr => [f e fr]) (by rw [ho]; exact opds_one hf) hk1 hr fun v S' hr => ⟨entryV_part (named_one _) hr, fun hl => by rw [hw, ho] at hl; simp [lookO] at hl⟩
        · cases h
      · cases h
    · cases h
  | entryStore t m s x =>
    simp only [kop0, ho] at h
    split at h
    · rename_i f g hh hf hg hh0
      simp only [Option.some.injEq] at h; subst h
      refine part_full (g := fun e fr => [f e fr]) (by rw [ho]; exact opds_one hf) hk1 hr fun v S' hr => ⟨?_, fun hl => by rw [hw, ho] at hl; simp [lookO] at hl⟩
      unfold done at hr
      split at hr
      · rename_i S1 hs
        simp only [Option.some.injEq, Prod.mk.injEq] at hr
        obtain ⟨rfl, rfl⟩ := hr
        exact estoreV_part (named_one _) hs
      · cases hr
    · cases h
  | call c => exact part_call ho h hk1 hm hr
  | _ => exact (big (by rw [ho]; rfl)).elim

theorem kop_part (h : kop E cx o = some k) (hk1 : k1of k = ⟨q0⟩) (hm : lookOf k o = .rd ∨ lookOf k o = .wr) (hr : q0 C e fr S = some (v, S')) : PartOf cx o k q0 C e fr S S' v := by
  rcases kop_some h with h | rfl
  · exact kop0_part h hk1 hm hr
  · simp only [k1of, K1.mk.injEq] at hk1; subst hk1
    cases hr
end
end
end Go.RX
