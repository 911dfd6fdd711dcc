/- Regions in their written order: the slots; all operations. -/
import Derived.Test.YtjfagagjmdddcaaGreatDoorRxReg
import Derived.Test.YtjfagagjmdddcaaGreatDoorRxMono
set_option linter.all false
namespace Go.RX
open Sym

structure Slots (ρ : Ren) (n : Nat) (wr sl : List Nat) (e fr : List SV) (tmps : Array Value) : Prop where
  size : tmps.size = n
  wr : ∀ t i, posOf t wr = some i → VRel ρ (nthV .unknown e i) (tmps.getD t undef)
  fr : FRel ρ sl fr tmps

theorem Slots.mono {ρ ρ' : Ren} {n : Nat} {wr sl : List Nat} {e fr : List SV} {tmps : Array Value} (hle : ρ.le ρ') (h : Slots ρ n wr sl e fr tmps) : Slots ρ' n wr sl e fr tmps :=
  ⟨h.size, fun t i ht => (h.wr t i ht).mono hle, h.fr.mono hle⟩

theorem Slots.good {ρ : Ren} {n : Nat} {wr sl : List Nat} {e fr : List SV} {a : Act} (h : Slots ρ n wr sl e fr a.tmps) (x : Operand) : Good ρ ⟨wr, sl⟩ e fr a x := by
  cases x with
  | tmp t =>
    simp only [Good]
    unfold slotK
    split
    · rename_i i hi; exact h.wr t i hi
    · split
      · rename_i i hi; exact h.fr t i hi
      · exact .unknown _
  | _ => trivial

theorem getD_set_same {tmps : Array Value} {d : Nat} {v : Value} (h : d < tmps.size) : (tmps.setIfInBounds d v).getD d undef = v := by
  simp [h]
theorem getD_set_other {tmps : Array Value} {d t : Nat} {v : Value} (h : t ≠ d) : (tmps.setIfInBounds d v).getD t undef = tmps.getD t undef := by
  simp only [Array.getD_eq_getD_getElem?]
  rw [Array.getElem?_setIfInBounds_ne (fun e => h e.symm)]

theorem Slots.put {ρ : Ren} {n d : Nat} {wr sl : List Nat} {e fr : List SV} {a : Act} {p : Dst} {x : SV} {v : Value} {dst : Option Tmp} (h : Slots ρ n wr sl e fr a.tmps) (hd : dstK sl n dst = some (d, p)) (hv : VRel ρ x v) :
    Slots ρ n (d :: wr) sl (p.push x e) (p.keep fr x) (a.put dst v).tmps := by
  cases dst with
  | none =>
    simp only [dstK, Option.some.injEq, Prod.mk.injEq] at hd
    obtain ⟨rfl, rfl⟩ := hd
    refine ⟨h.size, fun t i ht => ?_, h.fr⟩
    rw [posOf_cons] at ht
    by_cases hn : n = t
    · subst hn
      rw [if_pos rfl] at ht; cases ht
      have : (a.put none v).tmps.getD n undef = undef := by
        show a.tmps.getD n undef = undef
        simp [Array.getD_eq_getD_getElem?, h.size]
      rw [this]
      exact .tuple .nil
    · rw [if_neg hn] at ht
      cases hi : posOf t wr with
      | none => rw [hi] at ht; cases ht
      | some j => rw [hi] at ht; cases ht; exact h.wr t j hi
  | some t0 =>
    simp only [dstK] at hd
    split at hd
    · rename_i hb
      have hb := Nat.le_of_ble_eq_true hb
      have hlt : t0 < a.tmps.size := by rw [h.size]; exact hb
      have key : ∀ p, d = t0 → (∀ e : List SV, Dst.push p x e = x :: e) → (∀ t i, posOf t sl = some i → t ≠ t0 → nthV .unknown (Dst.keep p fr x) i = nthV .unknown fr i ∨ nthV .unknown (Dst.keep p fr x) i = .unknown) →
          (∀ i, posOf t0 sl = some i → nthV .unknown (Dst.keep p fr x) i = x ∨ nthV .unknown (Dst.keep p fr x) i = .unknown) → Slots ρ n (d :: wr) sl (Dst.push p x e) (Dst.keep p fr x) (a.put (some t0) v).tmps := by
        intro p hdt hpush hother hsame
        subst hdt
        refine ⟨by simp [Act.put, h.size], fun t i ht => ?_, fun t i ht => ?_⟩
        · rw [hpush]
          rw [posOf_cons] at ht
          by_cases hn : d = t
          · subst hn
            rw [if_pos rfl] at ht; cases ht
            simp only [Act.put]
            rw [getD_set_same hlt]
            exact hv
          · rw [if_neg hn] at ht
            simp only [Act.put]
            rw [getD_set_other (fun e => hn e.symm)]
            cases hi : posOf t wr with
            | none => rw [hi] at ht; cases ht
            | some j => rw [hi] at ht; cases ht; exact h.wr t j hi
        · simp only [Act.put]
          by_cases hn : t = d
          · subst hn
            rw [getD_set_same hlt]
            rcases hsame i ht with e1 | e1
            · rw [e1]; exact hv
            · rw [e1]; exact .unknown _
          · rw [getD_set_other hn]
            rcases hother t i ht hn with e1 | e1
            · rw [e1]; exact h.fr t i ht
            · rw [e1]; exact .unknown _
      split at hd
      · rename_i hp
        simp only [Option.some.injEq, Prod.mk.injEq] at hd
        obtain ⟨rfl, rfl⟩ := hd
        exact key .lost rfl (fun _ => rfl) (fun _ _ _ _ => .inl rfl) (fun i hi => by rw [hp] at hi; cases hi)
      · rename_i q hp
        simp only [Option.some.injEq, Prod.mk.injEq] at hd
        obtain ⟨rfl, rfl⟩ := hd
        refine key (.kept q) rfl (fun _ => rfl) (fun t i hi hne => ?_) (fun i hi => ?_)
        · have h1 := posOf_some hi
          have h2 := posOf_some hp
          have hiq : i ≠ q := fun e => by subst e; rw [h1] at h2; cases h2; exact hne rfl
          simp only [Dst.keep]
          by_cases hq : q < fr.length
          · rw [nthV_eq, setNth_eq _ _ _ hq, List.getElem?_set_ne (fun e => hiq e.symm), ← nthV_eq]; exact .inl rfl
          · rw [setNth_beyond _ _ _ (by omega)]; exact .inr (by simp [nthV_eq])
        · rw [hp] at hi; cases hi
          simp only [Dst.keep]
          by_cases hq : q < fr.length
          · rw [nthV_eq, setNth_eq _ _ _ hq]; left; simp [hq]
          · rw [setNth_beyond _ _ _ (by omega)]; exact .inr (by simp [nthV_eq])
    · cases hd

/-! ### The chain -/
/-- Whatever its shape, the chain is: the operation as its guard says; the result pushed and kept; the rest. -/
theorem chain_eq (k : KOp) (g : Guard) (p : Dst) (r : Sym.Callee → List SV → List SV → SW → Option (List SV × SW)) (q : Sym.Callee → List SV → List SV → SW → Option (SV × SW)) (hq : guarded g (k1of k) = ⟨q⟩) :
    ∀ C e fr w, (chain k g p ⟨r⟩).f C e fr w = match q C e fr w with | some (v, w) => r C (p.push v e) (p.keep fr v) w | none => none := by
  intro C e fr w
  unfold chain
  split
  · rename_i f r' heq
    cases heq
    simp only [guarded, k1of, K1.mk.injEq] at hq
    subst hq
    rfl
  · rename_i f q' r' heq
    cases heq
    simp only [guarded, k1of, K1.mk.injEq] at hq
    subst hq
    rfl
  · rename_i f r' heq
    cases heq
    simp only [guarded, k1of, K1.mk.injEq] at hq
    subst hq
    simp only
    cases f e fr <;> rfl
  · rename_i f r' heq
    cases heq
    simp only [guarded, k1of, K1.mk.injEq] at hq
    subst hq
    simp only
    cases f e fr w <;> rfl
  all_goals
    have heq := ‹(KS.mk r) = KS.mk _›
    cases heq
    simp only [hq]
    cases q C e fr w <;> rfl
end Go.RX
