/- The operations that look at no memory: built values and slices. -/
import Derived.Test.YtjfagagjmdddcaaGreatDoorRxOps3
set_option linter.all false
namespace Go.RX
open Sym
section
variable {E : Env}

/-! ### Built values -/
theorem foldl_set (off : Nat) : ∀ (l : List Value) (i : Nat) (cs : Array Value), off + i + l.length ≤ cs.size →
    ((l.zipIdx i).foldl (fun (cs : Array Value) (p : Value × Nat) => cs.setIfInBounds (off + p.2) p.1) cs).size = cs.size ∧
    ∀ k, ((l.zipIdx i).foldl (fun (cs : Array Value) (p : Value × Nat) => cs.setIfInBounds (off + p.2) p.1) cs)[k]? = if off + i ≤ k ∧ k < off + i + l.length then l[k - (off + i)]? else cs[k]?
  | [], i, cs, _ => ⟨rfl, fun k => by simp; omega⟩
  | v :: l, i, cs, h => by
    simp only [List.length_cons] at h
    obtain ⟨h1, h2⟩ := foldl_set off l (i + 1) (cs.setIfInBounds (off + i) v) (by simp; omega)
    refine ⟨by simpa using h1, fun k => ?_⟩
    simp only [List.zipIdx_cons, List.foldl_cons]
    rw [h2]
    by_cases a : off + (i + 1) ≤ k ∧ k < off + (i + 1) + l.length
    · rw [if_pos a, if_pos (by simp; omega), show k - (off + i) = (k - (off + (i + 1))) + 1 from by omega]; simp
    · rw [if_neg a]
      by_cases e : k = off + i
      · subst e; rw [if_pos (by simp)]; simp [show off + i < cs.size by omega]
      · rw [if_neg (by simp; omega), Array.getElem?_setIfInBounds_ne (fun h => e h.symm)]

theorem fill_sound {ρ : Ren} (place : Nat → Option (Nat × Nat)) : ∀ {ps : List (Nat × SV)} {qs : List (Nat × Value)} {cells l : List SV} {cs : Array Value},
    Sym.fill place cells ps = some l → PRel ρ ps qs → VRels ρ cells cs.toList → ∃ cs', Instr.fill place cs qs = some cs' ∧ VRels ρ l cs'.toList
  | [], _, cells, l, cs, h, .nil, hc => by
    simp [Sym.fill] at h; subst h
    exact ⟨cs, rfl, hc⟩
  | (i, x) :: ps, _, cells, l, cs, h, .cons (v := v) (vs := qs) hx hs, hc => by
    simp only [Sym.fill] at h
    split at h
    · rename_i off size hp
      split at h
      · cases h
      · rename_i hne
        split at h
        · rename_i hsz
          split at h
          · rename_i cells' hsp
            have hsz := Nat.eq_of_beq_eq_true hsz
            have hcv := hx.cells hne
            have hlen := hcv.length
            obtain ⟨hb, -⟩ := splice_some _ _ _ _ hsp
            have hcl := hc.length
            simp only [Array.length_toList] at hcl hlen
            obtain ⟨f1, f2⟩ := foldl_set off v.cells.toList 0 cs (by simp; omega)
            have hc' : VRels ρ cells' (v.cells.zipIdx.foldl (fun cs (c, j) => cs.setIfInBounds (off + j) c) cs).toList := by
              have heq : v.cells.zipIdx.foldl (fun cs (c, j) => cs.setIfInBounds (off + j) c) cs = (v.cells.toList.zipIdx 0).foldl (fun (cs : Array Value) (p : Value × Nat) => cs.setIfInBounds (off + p.2) p.1) cs := by
                rw [← Array.foldl_toList, Array.toList_zipIdx]
              rw [heq]
              refine VRels.of_get ?_ fun k a b ha hb' => ?_
              · rw [splice_length hsp, hcl, Array.length_toList, f1]
              · rw [Array.getElem?_toList, f2] at hb'
                rw [splice_get hsp] at ha
                by_cases hk : off ≤ k ∧ k < off + x.cells.length
                · rw [if_pos hk] at ha
                  rw [if_pos (by simp; omega)] at hb'
                  obtain ⟨u, hu1, hu2⟩ := hcv.get ha
                  rw [Nat.add_zero, hu1] at hb'; cases hb'; exact hu2
                · rw [if_neg hk] at ha
                  rw [if_neg (by simp; omega)] at hb'
                  obtain ⟨u, hu1, hu2⟩ := hc.get ha
                  rw [Array.getElem?_toList, hb'] at hu1; cases hu1; exact hu2
            obtain ⟨cs', h1, h2⟩ := fill_sound place h hs hc'
            refine ⟨cs', ?_, h2⟩
            simp only [Instr.fill, hp]
            rw [if_neg (by simp; omega)]
            exact h1
          · cases h
        · cases h
    · cases h

theorem fieldPlaces_run : ∀ {fs : List Field} {pl : List (Nat × Nat)}, fieldPlaces E fs = some pl → ∀ w, (fs.mapM fun f => (do pure (f.offset, ← Go.sizeOf f.type) : Sem (Nat × Nat))).run E.P w = .ok pl w
  | [], pl, h, w => by simp [fieldPlaces] at h; subst h; rfl
  | f :: fs, pl, h, w => by
    simp only [fieldPlaces] at h
    split at h
    · rename_i n hn
      split at h
      · rename_i l hl
        simp only [Option.some.injEq] at h; subst h
        simp only [List.mapM_cons, Sem.run_bind, sizeOf_run hn, Result.andThen_ok, Sem.run_pure, fieldPlaces_run hl]
      · cases h
    · cases h

theorem nthP_eq : ∀ (l : List (Nat × Nat)) (i : Nat), nthP l i = l[i]?
  | [], i => by simp [nthP]
  | c :: l, 0 => by simp [nthP]
  | c :: l, i + 1 => by simp [nthP, nthP_eq l i]

theorem fieldPlaces_runA {fs : Array Field} {pl : List (Nat × Nat)} (h : fieldPlaces E fs.toList = some pl) (w : World) :
    (fs.mapM fun f => (do pure (f.offset, ← Go.sizeOf f.type) : Sem (Nat × Nat))).run E.P w = .ok pl.toArray w := by
  rw [Array.mapM_eq_mapM_toList]
  simp only [Sem.run_map, fieldPlaces_run h, Result.andThen_ok]

/-! ### Slices -/
inductive ORelV (ρ : Ren) : Option SV → Option Value → Prop
  | none : ORelV ρ none none
  | some {x : SV} {v : Value} (h : VRel ρ x v) : ORelV ρ (some x) (some v)

theorem sliceBound_run {v : Value} {y i : Nat} {k : IntKind} (hv : v = .int k (i : Int)) (h : i ≤ y) (code : BoundsCode) (w : World) : (Instr.sliceBound v y code).run E.P w = .ok i w := by
  subst hv
  simp [Instr.sliceBound, asIntOf, h]

theorem cutAt_run {ρ : Ren} {hi lo : Option SV} {hi' lo' : Option Value} {dflt most cap : Nat} {k : Nat → Nat → Option SV} {r : SV} (h : cutAt hi lo dflt most k = some r) (hhi : ORelV ρ hi hi') (hlo : ORelV ρ lo lo') (hm : most ≤ cap) :
    ∃ h' l, k h' l = some r ∧ l ≤ h' ∧ h' ≤ most ∧ ∀ isSlice w, (Instr.sliceBounds isSlice dflt cap lo' hi' none).run E.P w = .ok (l, h', cap) w := by
  unfold cutAt at h
  split at h
  · rename_i h' l hb1 hb2
    split at h
    · rename_i c1 c2
      have c1 := Nat.le_of_ble_eq_true c1
      have c2 := Nat.le_of_ble_eq_true c2
      refine ⟨h', l, h, c2, c1, fun isSlice w => ?_⟩
      cases hhi with
      | none =>
        simp only [bound, Option.some.injEq] at hb1
        cases hlo with
        | none =>
          simp only [bound, Option.some.injEq] at hb2
          subst hb1; subst hb2
          simp [Instr.sliceBounds]
        | some hv =>
          simp only [bound] at hb2
          obtain ⟨k2, e2⟩ := asNat_rel hb2 hv
          subst hb1
          simp only [Instr.sliceBounds, Sem.run_bind, Sem.run_pure, Result.andThen_ok]
          rw [sliceBound_run e2 c2]
          rfl
      | some hv1 =>
        simp only [bound] at hb1
        obtain ⟨k1, e1⟩ := asNat_rel hb1 hv1
        cases hlo with
        | none =>
          simp only [bound, Option.some.injEq] at hb2
          subst hb2
          simp only [Instr.sliceBounds, Sem.run_bind, Sem.run_pure, Result.andThen_ok]
          rw [sliceBound_run e1 (Nat.le_trans c1 hm)]
          rfl
        | some hv =>
          simp only [bound] at hb2
          obtain ⟨k2, e2⟩ := asNat_rel hb2 hv
          simp only [Instr.sliceBounds, Sem.run_bind, Sem.run_pure, Result.andThen_ok]
          rw [sliceBound_run e1 (Nat.le_trans c1 hm)]
          simp only [Result.andThen_ok]
          rw [sliceBound_run e2 c2]
          rfl
    · cases h
  · cases h

theorem sliceV_sound {t : TypeId} {d : TypeDesc} {size : Option Nat} {x r : SV} {lo hi : Option SV} {ρ : Ren} {v : Value} {lo' hi' : Option Value} (hd : E.P.underlying t = some d)
    (hsz : ∀ n, size = some n → sliceElem E d = some n) (h : sliceV d size x lo hi = some r) (hx : VRel ρ x v) (hlo : ORelV ρ lo lo') (hhi : ORelV ρ hi hi') :
    ∃ u, VRel ρ r u ∧ ∀ w, (Instr.sliceAt t v lo' hi' none).run E.P w = .ok u w := by
  unfold sliceV at h
  split at h
  · cases hx
    rename_i s
    obtain ⟨h', l, hk, h1, h2, hrun⟩ := cutAt_run (E := E) h hhi hlo (Nat.le_refl _)
    simp only [Option.some.injEq] at hk; subst hk
    exact ⟨_, .string _, fun w => by simp [Instr.sliceAt, Instr.slice, run_underlying hd, hrun]⟩
  · rename_i n el id off sz
    cases hx with
    | ptr hp =>
      obtain ⟨h', l, hk, h1, h2, hrun⟩ := cutAt_run (E := E) h hhi hlo (Nat.le_refl _)
      simp only [force_eq, Option.some.injEq] at hk; subst hk
      have hs := sizeOf_run (hsz _ rfl)
      refine ⟨_, .sliceE hp, fun w => ?_⟩
      simp only [Instr.sliceAt, Sem.run_bind, run_underlying hd, Result.andThen_ok, Instr.sureAddr, Sem.run_pure, hrun, hs]
      rw [nbeq_eq]
      by_cases hn : n = l
      · subst hn; simp
      · simp [hn, add_win]; omega
  · cases hx
    obtain ⟨h', l, hk, h1, h2, hrun⟩ := cutAt_run (E := E) h hhi hlo (Nat.le_refl _)
    simp only [Option.some.injEq] at hk; subst hk
    have : h' = 0 ∧ l = 0 := by omega
    obtain ⟨rfl, rfl⟩ := this
    have hs := sizeOf_run (hsz _ rfl)
    refine ⟨_, .nilslice, fun w => ?_⟩
    simp only [Instr.sliceAt, Instr.slice, Sem.run_bind, run_underlying hd, Result.andThen_ok, hrun, hs]
    rfl
  · rename_i el id off len cap size
    cases hx with
    | sliceE hp =>
      obtain ⟨h', l, hk, h1, h2, hrun⟩ := cutAt_run (E := E) h hhi hlo (Nat.le_refl _)
      simp only [force_eq, Option.some.injEq] at hk; subst hk
      have hs := sizeOf_run (hsz _ rfl)
      refine ⟨_, .sliceE hp, fun w => ?_⟩
      simp only [Instr.sliceAt, Instr.slice, Sem.run_bind, run_underlying hd, Result.andThen_ok, hrun, hs]
      rw [nbeq_eq]
      by_cases hn : cap = l
      · subst hn; simp
      · simp [hn, add_win]; omega
  · rename_i el id off len sz least size
    cases hx with
    | sliceT hp ht hl hcap hxx =>
      rename_i bb oo tt xx cap
      split at h
      · rename_i hsz2
        have e := Nat.eq_of_beq_eq_true hsz2
        obtain ⟨h', l, hk, h1, h2, hrun⟩ := cutAt_run (E := E) h hhi hlo hcap
        simp only [force_eq, Option.some.injEq] at hk; subst hk
        have hs := sizeOf_run (hsz _ rfl)
        subst e
        refine ⟨.slice (some ⟨bb, if cap = l then xx else xx + l * size, none⟩) (h' - l) (cap - l), .sliceT hp ?_ ?_ ?_ ?_, fun w => ?_⟩
        · rw [← ht, Nat.sub_mul]
          have : l * size ≤ cap * size := Nat.mul_le_mul_right _ (by omega)
          omega
        · omega
        · omega
        · by_cases hn : cap = l
          · right; omega
          · left; rw [if_neg hn]; rcases hxx with rfl | h0
            · omega
            · omega
        · simp only [Instr.sliceAt, Instr.slice, Sem.run_bind, run_underlying hd, Result.andThen_ok, hrun, hs]
          by_cases hn : cap = l
          · subst hn; simp
          · simp [hn, add_win]
      · cases h
  · cases h
end
end Go.RX
