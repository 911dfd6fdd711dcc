/- The next number never falls; what lies below the low mark stays. -/
import Derived.Test.YtjfagagjmdddcaaGreatDoorRxHeap
set_option linter.all false
namespace Go.RX
open Sym

/-- From a state to a later one, as far as the evaluator sees it. -/
structure Grow (S S' : SW) : Prop where
  next : S.next ≤ S'.next
  tidy : S.tidy → S'.tidy
  low : S'.low ≤ S.low
  keep : ∀ i, i < S.next → i < S'.low → S'.at i = S.at i

theorem Grow.refl (S : SW) : Grow S S := ⟨Nat.le_refl _, id, Nat.le_refl _, fun _ _ _ => rfl⟩
theorem Grow.trans {S S1 S2 : SW} (h : Grow S S1) (k : Grow S1 S2) : Grow S S2 :=
  ⟨Nat.le_trans h.next k.next, fun t => k.tidy (h.tidy t), Nat.le_trans k.low h.low, fun i h1 h2 => (k.keep i (Nat.lt_of_lt_of_le h1 h.next) h2).trans (h.keep i h1 (Nat.lt_of_lt_of_le h2 k.low))⟩

theorem new_mono {S S' : SW} {o : SObj} {id : Nat} (h : Sym.new S o = some (id, S')) : Grow S S' := by
  obtain ⟨rfl, hn, hl, hat⟩ := new_some h
  exact ⟨by omega, fun t i hi => by rw [hat, if_neg (by omega)]; exact t i (by omega), by omega, fun i h1 _ => by rw [hat, if_neg (by omega)]⟩
theorem put_mono {S S' : SW} {x : SObj} {o : Option SObj} {id : Nat} (hx : S.at id = some x) (h : Sym.put S id o = some S') : Grow S S' := by
  obtain ⟨hn, hl, hl', hat⟩ := put_some h
  refine ⟨by omega, fun t i hi => ?_, hl, fun i _ h2 => by rw [hat, if_neg (by omega)]⟩
  rw [hat]
  by_cases e : i = id
  · subst e; rw [t i (by omega)] at hx; cases hx
  · rw [if_neg e]; exact t i (by omega)
theorem kill_mono {S S' : SW} {id : Nat} (h : Sym.put S id none = some S') : Grow S S' := by
  obtain ⟨hn, hl, hl', hat⟩ := put_some h
  refine ⟨by omega, fun t i hi => ?_, hl, fun i _ h2 => by rw [hat, if_neg (by omega)]⟩
  rw [hat]
  by_cases e : i = id
  · rw [if_pos e]
  · rw [if_neg e]; exact t i (by omega)
theorem storeAt_mono {S S' : SW} {id off : Nat} {vs : List SV} (h : storeAt S id off vs = some S') : Grow S S' := by
  unfold storeAt at h
  repeat' split at h
  all_goals first | exact put_mono ‹_› h | cases h
theorem storeW_mono {S S' : SW} {n : Nat} {a v : SV} (h : storeW S n a v = some S') : Grow S S' := by
  unfold storeW at h
  repeat' split at h
  all_goals first | exact storeAt_mono h | cases h
theorem updateV_mono {S S' : SW} {kd : TypeDesc} {x k v : SV} (h : updateV kd S x k v = some S') : Grow S S' := by
  unfold updateV at h
  simp only [force_eq] at h
  repeat' split at h
  all_goals first | exact put_mono ‹_› h | cases h
theorem grow_mono {elem : TypeId} {size bytes len n : Nat} {S S' : SW} {old added : List SV} {x : SV} (h : Sym.grow elem size bytes S old len added n = some (x, S')) : Grow S S' := by
  unfold Sym.grow at h
  simp only [force_eq] at h
  split at h
  · split at h
    · rename_i id S1 hn
      simp only [Option.some.injEq, Prod.mk.injEq] at h
      obtain ⟨-, rfl⟩ := h
      exact new_mono hn
    · cases h
  · cases h
theorem withW_eq {S S' : SW} {r : Option SV} {x : SV} (h : withW S r = some (x, S')) : S' = S := by
  unfold withW at h
  split at h
  · simp only [Option.some.injEq, Prod.mk.injEq] at h; exact h.2.symm
  · cases h
theorem done_mono {S S' : SW} {r : Option SW} {x : SV} (hr : ∀ S', r = some S' → Grow S S') (h : done r = some (x, S')) : Grow S S' := by
  unfold done at h
  split at h
  · simp only [Option.some.injEq, Prod.mk.injEq] at h; obtain ⟨-, rfl⟩ := h; exact hr _ rfl
  · cases h
theorem ptrTo_mono {S S' : SW} {o : SObj} {x : SV} (h : ptrTo (Sym.new S o) = some (x, S')) : Grow S S' := by
  unfold ptrTo at h
  split at h
  · rename_i id S1 hn
    simp only [Option.some.injEq, Prod.mk.injEq] at h
    obtain ⟨-, rfl⟩ := h
    exact new_mono hn
  · cases h
theorem copyV_mono {size : Nat} {S S' : SW} {d s x : SV} (h : copyV size S d s = some (x, S')) : Grow S S' := by
  unfold copyV at h
  repeat' split at h
  all_goals first | (cases h; done) | skip
  · simp only [Option.some.injEq, Prod.mk.injEq] at h; obtain ⟨-, rfl⟩ := h; exact .refl _
  · rename_i hs; rw [withW_eq h]; exact storeAt_mono hs
theorem some_next {S S' : SW} {x y : SV} (h : some (x, S) = some (y, S')) : S' = S := by
  simp only [Option.some.injEq, Prod.mk.injEq] at h; exact h.2.symm
theorem appendV_mono {elem : TypeId} {size bytes : Nat} {S S' : SW} {s y x : SV} (h : appendV elem size bytes S s y = some (x, S')) : Grow S S' := by
  unfold appendV at h
  simp only [force_eq] at h
  split at h
  · cases h
  · split at h
    · rw [some_next h]; exact .refl _
    · split at h
      · rw [some_next h]; exact .refl _
      · cases h
    · rw [some_next h]; exact .refl _
    · cases h
  · split at h
    · split at h
      · exact grow_mono h
      · split at h
        · split at h
          · rename_i hs; rw [some_next h]; exact storeAt_mono hs
          · cases h
        · split at h
          · exact grow_mono h
          · cases h
      · split at h
        · split at h
          · rename_i hs; rw [some_next h]; exact storeAt_mono hs
          · cases h
        · split at h
          · rename_i hk; exact (kill_mono hk).trans (grow_mono h)
          · cases h
        · cases h
      · cases h
    · cases h
theorem appendZ_mono {elem : TypeId} {size bytes : Nat} {z : List SV} {S S' : SW} {s y x : SV} (h : appendZ elem size bytes z S s y = some (x, S')) : Grow S S' := by
  unfold appendZ at h
  split at h
  · split at h
    · cases h
    · split at h
      · exact grow_mono h
      · cases h
  · cases h
theorem nextV_mono {S S' : SW} {y x : SV} (h : nextV S y = some (x, S')) : Grow S S' := by
  unfold nextV at h
  simp only [force_eq] at h
  repeat' split at h
  all_goals first | (cases h; done) | skip
  all_goals
    simp only [Option.some.injEq, Prod.mk.injEq] at h; obtain ⟨-, rfl⟩ := h
    first | exact .refl _ | exact put_mono ‹_› ‹_›

structure CalleeMono (C : Sym.Callee) : Prop where
  call : ∀ f args S x S', C.call f args S = some (x, S') → Grow S S'
  round : ∀ l args S x S', C.round l args S = some (x, S') → Grow S S'

def Sym.KOp.Mono : KOp → Prop
  | .full f => ∀ e fr S x S', f e fr S = some (x, S') → Grow S S'
  | .call f => ∀ C, CalleeMono C → ∀ e fr S x S', f C e fr S = some (x, S') → Grow S S'
  | _ => True

theorem deleteV_mono {S S' : SW} {kd : TypeDesc} {x k : SV} (h : deleteV kd S x k = some S') : Grow S S' := by
  unfold deleteV at h
  repeat' split at h
  all_goals first | exact put_mono ‹_› h | (simp only [Option.some.injEq] at h; subst h; exact .refl _) | cases h
theorem estoreV_mono {S S' : SW} {x n v : SV} (h : estoreV S x n v = some S') : Grow S S' := by
  unfold estoreV at h
  repeat' split at h
  all_goals first | exact put_mono ‹_› h | cases h
theorem clearV_mono {S S' : SW} {z : List SV} {x : SV} (h : clearV z S x = some S') : Grow S S' := by
  unfold clearV at h
  repeat' split at h
  all_goals first | exact storeAt_mono h | (simp only [Option.some.injEq] at h; subst h; exact .refl _) | cases h
theorem entryV_mono {S S' : SW} {kd : TypeDesc} {z x k y : SV} (h : entryV kd z S x k = some (y, S')) : Grow S S' := by
  unfold entryV at h
  simp only [force_eq] at h
  repeat' split at h
  all_goals first | (cases h; done) | skip
  all_goals
    simp only [Option.some.injEq, Prod.mk.injEq] at h; obtain ⟨-, rfl⟩ := h
    exact put_mono ‹_› ‹_›
theorem nextM_mono {S S' : SW} {y x : SV} (h : nextM S y = some (x, S')) : Grow S S' := by
  unfold nextM at h
  repeat' split at h
  all_goals first | (cases h; done) | skip
  all_goals
    simp only [Option.some.injEq, Prod.mk.injEq] at h; obtain ⟨-, rfl⟩ := h
    first | exact .refl _ | exact put_mono ‹hget S _ = some (.mapIter _ _ _ _)› ‹_›

theorem kop0_mono {E : Env} {cx : Cx} {o : Oper} {k : KOp} (h : kop0 E cx o = some k) : k.Mono := by
  unfold kop0 at h
  split at h
  all_goals (try (cases h; done))
  all_goals (try simp only [force_eq] at h)
  all_goals (repeat' (first | (cases h; done) | split at h))
  all_goals (try (cases h; done))
  all_goals (first | (simp only [Option.some.injEq] at h; subst h) | skip)
  all_goals (first | trivial | skip)
  all_goals (first | (intro e fr S x S' hr; dsimp only at hr) | skip)
  all_goals (try (exact ptrTo_mono hr))
  all_goals (try (exact done_mono (fun _ => storeW_mono) hr))
  all_goals (try (exact done_mono (fun _ => updateV_mono) hr))
  all_goals (try (exact nextV_mono hr))
  all_goals (try (exact nextM_mono hr))
  all_goals (try (exact entryV_mono hr))
  all_goals (try (exact done_mono (fun _ => estoreV_mono) hr))
  all_goals (try (unfold convertK at h))
  all_goals (try (unfold builtinK at h))
  all_goals (try simp only [force_eq] at h)
  all_goals (repeat' (first | (cases h; done) | split at h))
  all_goals (try (cases h; done))
  all_goals (first | (simp only [Option.some.injEq] at h; subst h) | skip)
  all_goals (first | trivial | skip)
  all_goals (first | (intro e fr S x S' hr; dsimp only at hr) | skip)
  all_goals (try (exact copyV_mono hr))
  all_goals (try (exact appendV_mono hr))
  all_goals (try (exact appendZ_mono hr))
  all_goals (try (exact done_mono (fun _ => deleteV_mono) hr))
  all_goals (try (exact done_mono (fun _ => clearV_mono) hr))
  all_goals (try simp only [force_eq] at hr)
  all_goals (try (intro C hC e fr S x S' hr; dsimp only at hr))
  all_goals (repeat' (first | (cases hr; done) | split at hr))
  all_goals (try (cases hr; done))
  all_goals (first
    | exact hC.call _ _ _ _ _ hr
    | exact hC.round _ _ _ _ _ hr
    | exact ptrTo_mono hr
    | (rename_i hn; rw [some_next hr]; exact new_mono hn))

theorem kop_mono {E : Env} {cx : Cx} {o : Oper} {k : KOp} (h : kop E cx o = some k) : k.Mono := by
  unfold kop at h
  split at h
  · rename_i k' hk
    simp only [Option.some.injEq] at h; subst h
    exact kop0_mono hk
  · split at h
    · cases h
    · simp only [Option.some.injEq] at h; subst h
      intro e fr S x S' hr
      cases hr
end Go.RX
