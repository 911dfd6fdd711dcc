/- Regions in their written order: all operations, one after the other. -/
import Derived.Test.YtjfagagjmdddcaaGreatDoorRxReg2
set_option linter.all false
namespace Go.RX
open Sym

theorem guarded_mono {k : KOp} (hk : k.Mono) {g : Guard} {q : Sym.Callee → List SV → List SV → SW → Option (SV × SW)} (hq : guarded g (k1of k) = ⟨q⟩) {C : Sym.Callee} (hM : CalleeMono C) {e fr : List SV} {S S' : SW} {x : SV}
    (h : q C e fr S = some (x, S')) : Grow S S' := by
  have base : ∀ {q'} , k1of k = ⟨q'⟩ → q' C e fr S = some (x, S') → Grow S S' := by
    intro q' hq' h
    cases k with
    | mv f => simp only [k1of, K1.mk.injEq] at hq'; subst hq'; rw [some_next h]; exact .refl _
    | pure f =>
      simp only [k1of, K1.mk.injEq] at hq'; subst hq'
      dsimp only at h
      split at h
      · rw [some_next h]; exact .refl _
      · cases h
    | rd f =>
      simp only [k1of, K1.mk.injEq] at hq'; subst hq'
      dsimp only at h
      split at h
      · rw [some_next h]; exact .refl _
      · cases h
    | full f => simp only [k1of, K1.mk.injEq] at hq'; subst hq'; exact hk e fr S x S' h
    | call f => simp only [k1of, K1.mk.injEq] at hq'; subst hq'; exact hk C hM e fr S x S' h
  generalize hk1 : k1of k = kk at hq base
  obtain ⟨q0⟩ := kk
  cases g with
  | always => simp only [guarded, K1.mk.injEq] at hq; subst hq; exact base rfl h
  | never => simp only [guarded, K1.mk.injEq] at hq; subst hq; rw [some_next h]; exact .refl _
  | slot p want =>
    simp only [guarded, K1.mk.injEq] at hq; subst hq
    dsimp only at h
    repeat' split at h
    all_goals first
      | exact base rfl h
      | (rw [some_next h]; exact .refl _)
      | cases h

theorem put_defers (a : Act) (d : Option Tmp) (v : Value) : (a.put d v).defers = a.defers := by cases d <;> rfl

section
variable {E : Env} {n : Nat} {sl : List Nat} {ops : Array Oper} {C : Sym.Callee} {r : Option Nat} {m : Nat}

theorem kops_cons {all : List Oper} {wr : List Nat} {o : Oper} {rest : List Oper} {f : Sym.Callee → List SV → List SV → SW → Option (List SV × SW)} (h : kops E n sl all wr (o :: rest) = some ⟨f⟩) :
    ∃ k d p g q, kop E ⟨wr, sl⟩ o = some k ∧ dstK sl n o.dst = some (d, p) ∧ kops E n sl all (d :: wr) rest = some ⟨g⟩ ∧ guarded (guardK ⟨wr, sl⟩ all o) (k1of k) = ⟨q⟩ ∧
      ∀ C e fr w, f C e fr w = match q C e fr w with | some (v, w) => g C (p.push v e) (p.keep fr v) w | none => none := by
  simp only [kops] at h
  split at h
  · rename_i k d p hk hd
    split at h
    · rename_i rr hr
      obtain ⟨g⟩ := rr
      generalize hq : guarded (guardK ⟨wr, sl⟩ all o) (k1of k) = qq
      obtain ⟨q⟩ := qq
      refine ⟨k, d, p, g, q, hk, hd, hr, hq, fun C e fr w => ?_⟩
      have h2 := chain_eq k _ p g q hq C e fr w
      generalize hc : chain k (guardK ⟨wr, sl⟩ all o) p ⟨g⟩ = cc at h h2
      obtain ⟨cf⟩ := cc
      simp only [Option.some.injEq, KS.mk.injEq] at h
      subst h
      exact h2.trans (by cases q C e fr w <;> rfl)
    · cases h
  · cases h

theorem kops_mono {all : List Oper} (hM : CalleeMono C) : ∀ (rest : List Oper) (wr : List Nat) (f : Sym.Callee → List SV → List SV → SW → Option (List SV × SW)), kops E n sl all wr rest = some ⟨f⟩ → ∀ e fr S fr' S', f C e fr S = some (fr', S') → Grow S S'
  | [], wr, f, h, e, fr, S, fr', S', hr => by
    simp only [kops, Option.some.injEq, KS.mk.injEq] at h
    subst h
    simp only [Option.some.injEq, Prod.mk.injEq] at hr
    obtain ⟨-, rfl⟩ := hr
    exact .refl _
  | o :: rest, wr, f, h, e, fr, S, fr', S', hr => by
    obtain ⟨k, d, p, g, q, hk, hd, hg, hq, hf⟩ := kops_cons h
    rw [hf] at hr
    split at hr
    · rename_i v w1 hq1
      exact (guarded_mono (kop_mono hk) hq hM hq1).trans (kops_mono hM rest _ g hg _ _ _ _ _ hr)
    · cases hr

theorem kops_sound (hC : CalleeSound E C) (hM : CalleeMono C) : ∀ (rest : List Oper) (i : Nat) (wr : List Nat) (f : Sym.Callee → List SV → List SV → SW → Option (List SV × SW)), rest = ops.toList.drop i → kops E n sl ops.toList wr rest = some ⟨f⟩ →
    ∀ ρ e fr a S w fr' S', Slots ρ n wr sl e fr a.tmps → Ok E ρ S w → f C e fr S = some (fr', S') → Fresh ρ S.next S'.next →
    ∀ Q : Exit → Act → World → Prop, (∀ ρ' a' w', Ext ρ S w ρ' S' w' → FRel ρ' sl fr' a'.tmps → a'.tmps.size = n → a'.defers = a.defers → Q .normal a' w') → wpOpsIn (Fr r) m E.P ops Q (List.range' i rest.length) a w
  | [], i, wr, f, _, h, ρ, e, fr, a, S, w, fr', S', hs, hok, hr, hfr, Q, hQ => by
    simp only [kops, Option.some.injEq, KS.mk.injEq] at h
    subst h
    simp only [Option.some.injEq, Prod.mk.injEq] at hr
    obtain ⟨rfl, rfl⟩ := hr
    exact hQ ρ a w hok.refl_ext hs.fr hs.size rfl
  | o :: rest, i, wr, f, hrest, h, ρ, e, fr, a, S, w, fr', S', hs, hok, hr, hfr, Q, hQ => by
    obtain ⟨k, d, p, g, q, hk, hd, hg, hq, hf⟩ := kops_cons h
    rw [hf] at hr
    split at hr
    · rename_i v S1 hq1
      have hm1 := guarded_mono (kop_mono hk) hq hM hq1
      have hm2 := kops_mono hM rest _ g hg _ _ _ _ _ hr
      have ho : ops[i]? = some o := by
        have : (ops.toList.drop i)[0]? = some o := by rw [← hrest]; rfl
        simpa using this
      have hrest' : rest = ops.toList.drop (i + 1) := by
        have : (o :: rest).tail = (ops.toList.drop i).tail := by rw [hrest]
        simpa [List.tail_drop] using this
      simp only [List.length_cons, List.range'_succ, wpOpsIn, ho]
      have := op_step (r := r) (n := m) (ops := ops) hk hC hq (fun x _ => hs.good x) (fun d _ => hs.good _) hok hq1 (hfr.left hm2.next)
        (next := wpOpsIn (Fr r) m E.P ops Q (List.range' (i + 1) rest.length)) (Q := Q) (fun ρ1 v1 w1 hext hv => by
          have hok1 := hok.ext hext
          have hs1 := (hs.mono hext.le).put hd hv
          exact kops_sound hC hM rest (i + 1) (d :: wr) g hrest' hg ρ1 _ _ _ S1 w1 fr' S' hs1 hok1 hr (hext.fresh_right hfr) Q fun ρ2 a2 w2 hext2 hf2 hsz hdf =>
            hQ ρ2 a2 w2 (hext.trans hext2) hf2 hsz (hdf.trans (put_defers _ _ _)))
      exact this
    · cases hr

/-- A region in its written order. -/
theorem region_sound (hC : CalleeSound E C) (hM : CalleeMono C) {id : Nat} {f : Sym.Callee → List SV → List SV → SW → Option (List SV × SW)} (h : kops E n sl ops.toList [] ops.toList = some ⟨f⟩)
    {ρ : Ren} {fr fr' : List SV} {a : Act} {S S' : SW} {w : World} (hsz : a.tmps.size = n) (hfr : FRel ρ sl fr a.tmps) (hok : Ok E ρ S w) (hr : f C [] fr S = some (fr', S')) (hfresh : Fresh ρ S.next S'.next)
    {Q : Exit → Act → World → Prop} (hQ : ∀ ρ' a' w', Ext ρ S w ρ' S' w' → FRel ρ' sl fr' a'.tmps → a'.tmps.size = n → a'.defers = a.defers → Q .normal a' w') : (Code.region id ops false).wpIn (Fr r) m E.P Q a w := by
  refine wpIn_region ?_
  have := kops_sound (r := r) (m := m) hC hM ops.toList 0 [] f (by simp) h ρ [] fr a S w fr' S' ⟨hsz, fun t i ht => by simp [posOf] at ht, hfr⟩ hok hr hfresh Q hQ
  rw [List.range_eq_range']
  simpa using this
end
end Go.RX
