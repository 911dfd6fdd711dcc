/- Functions, rounds, and the whole evaluator. -/
import Derived.Test.YtjfagagjmdddcaaGreatDoorRxComp2
set_option linter.all false
namespace Go.RX
open Sym

section
variable {E : Env} {n : Nat} {sl : List Nat} {C : Sym.Callee}

/-! ### Leaving a function -/
theorem shut_sound {fn : Func} {tmps : Array Value} {R : Ending → World → Prop} {m : Nat} : ∀ {ds : List Nat} {qs : List Deferred} {ρ : Ren} {S S1 : SW} {w : World}, DRel ρ ds qs → Ok E ρ S w → shut S ds = some S1 →
    ∃ w', Ext ρ S w ρ S1 w' ∧ (LeavesInM Fence.wide m E.P fn tmps R [] .returning w' → LeavesInM Fence.wide m E.P fn tmps R qs .returning w)
  | [], _, ρ, S, S1, w, .nil, hok, h => by
    simp only [shut, Option.some.injEq] at h; subst h
    exact ⟨w, hok.refl_ext, id⟩
  | d :: ds, _, ρ, S, S1, w, .cons (b := b) (qs := qs) hd hs, hok, h => by
    simp only [shut] at h
    split at h
    · rename_i hobj
      split at h
      · rename_i S2 hput
        obtain ⟨ob, ho1, ho2⟩ := hok.wrel.obj _ _ _ hobj hd
        cases ho2 with
        | deferredOpen =>
          have hext := ext_put hok.wrel hok.tidy hobj hd hput (setBlock_same w b _) (setBlock_at (ob := .deferred none) ho1) .deferredShut
          obtain ⟨w', hext2, himp⟩ := shut_sound (fn := fn) (tmps := tmps) (R := R) (m := m) hs (hok.ext hext) h
          refine ⟨w', hext.trans hext2, fun hl => ?_⟩
          refine ⟨by simp, .inl ⟨b, _, rfl, ?_, himp hl⟩⟩
          have := run_takeDeferred (P := E.P) ho1
          rw [putObj_eq] at this
          exact this
      · cases h
    · cases h

theorem loadAt_asAddr {P : Program} {t : TypeId} {v u : Value} {w : World} (h : (Instr.loadAt t v).run P w = .ok u w) : (do loadVar t (← asAddr v) : Sem Value).run P w = .ok u w := by
  cases v <;> first | (simp [Instr.loadAt, Instr.sureAddr] at h; done) | skip
  rename_i a
  cases a with
  | none => simp [Instr.loadAt, Instr.sureAddr] at h
  | some a => simpa [Instr.loadAt, Instr.sureAddr, asAddr] using h

def readRes (tmps : Array Value) : ResultVar → Sem Value
  | .tmp t => pure (tmps.getD t undef)
  | .cell a t => do loadVar t (← asAddr (tmps.getD a undef))

theorem resK_sound {ρ : Ren} {fr : List SV} {tmps : Array Value} {S : SW} {w : World} (hf : FRel ρ sl fr tmps) (hok : Ok E ρ S w) : ∀ {rs : List ResultVar} {g : List SV → SW → Option (List SV)} {vs : List SV}, resK E sl rs = some ⟨g⟩ → g fr S = some vs →
    ∃ us, VRels ρ vs us ∧ (rs.mapM (readRes tmps)).run E.P w = .ok us w
  | [], g, vs, h, hr => by
    simp only [resK, Option.some.injEq, Sym.Res.mk.injEq] at h; subst h
    simp only [Option.some.injEq] at hr; subst hr
    exact ⟨[], .nil, rfl⟩
  | .tmp t :: rs, g, vs, h, hr => by
    have hs : Slots ρ tmps.size [] sl [] fr ({ tmps := tmps, defers := [] } : Act).tmps := ⟨rfl, fun t i ht => by simp [posOf] at ht, hf⟩
    have hg := hs.good (.tmp t)
    simp only [Good] at hg
    simp only [resK] at h
    split at h
    · rename_i g1 f1 h1 h2
      rw [h2] at hg
      simp only [Option.some.injEq, Sym.Res.mk.injEq] at h; subst h
      dsimp only at hr
      split at hr
      · rename_i vs1 hv1
        simp only [Option.some.injEq] at hr; subst hr
        obtain ⟨us, k1, k2⟩ := resK_sound hf hok h1 hv1
        exact ⟨_, .cons hg k1, by simp only [List.mapM_cons, readRes, Sem.run_bind, Sem.run_pure, Result.andThen_ok, k2]⟩
      · cases hr
    · cases h
  | .cell t ty :: rs, g, vs, h, hr => by
    have hs : Slots ρ tmps.size [] sl [] fr ({ tmps := tmps, defers := [] } : Act).tmps := ⟨rfl, fun t i ht => by simp [posOf] at ht, hf⟩
    have hg := hs.good (.tmp t)
    simp only [Good] at hg
    simp only [resK] at h
    split at h
    · rename_i g1 wd f1 h1 hwd h2
      rw [h2] at hg
      simp only [Option.some.injEq, Sym.Res.mk.injEq] at h; subst h
      dsimp only at hr
      split at hr
      · rename_i v1 vs1 hl1 hv1
        simp only [Option.some.injEq] at hr; subst hr
        obtain ⟨us, k1, k2⟩ := resK_sound hf hok h1 hv1
        obtain ⟨u, q1, q2⟩ := loadW_sound hok hwd hl1 hg
        have q3 := loadAt_asAddr q2
        refine ⟨_, .cons q1 k1, ?_⟩
        have q4 : (readRes tmps (.cell t ty)).run E.P w = .ok u w := q3
        simp only [List.mapM_cons, Sem.run_bind, q4, Result.andThen_ok, k2, Sem.run_pure]
      · cases hr
    · cases h

theorem results_run {fn : Func} {tmps : Array Value} {us : List Value} {w : World}
    (h : (fn.results.toList.mapM (readRes tmps)).run E.P w = .ok us w) :
    (results fn tmps).run E.P w = .ok (if h : us.toArray.size = 1 then us.toArray[0] else .tuple us.toArray) w := by
  have he : (fun x : ResultVar => match x with | .tmp t => (pure (tmps.getD t undef) : Sem Value) | .cell a t => (do loadVar t (← asAddr (tmps.getD a undef)) : Sem Value)) = readRes tmps := by
    funext x; cases x <;> rfl
  unfold results
  rw [Array.mapM_eq_mapM_toList]
  show ((do let vs ← Functor.map List.toArray (List.mapM (fun x : ResultVar => match x with | .tmp t => (pure (tmps.getD t undef) : Sem Value) | .cell a t => (do loadVar t (← asAddr (tmps.getD a undef)) : Sem Value)) fn.results.toList); pure (if h : vs.size = 1 then vs[0] else .tuple vs)) : Sem Value).run E.P w = _
  rw [he]
  simp only [Sem.run_bind, Sem.run_map, h, Result.andThen_ok, Sem.run_pure]

theorem leave_sound {fn : Func} {ρ : Ren} {st : St} {a : Act} {w : World} {g : List SV → SW → Option (List SV)} {v : SV} {S' : SW} {R : Ending → World → Prop} {m : Nat} (hg : resK E sl fn.results.toList = some ⟨g⟩)
    (hst : StOk E n sl none none ρ st a w) (h : leave g st = some (v, S')) (hR : ∀ u w', Ext ρ st.w w ρ S' w' → VRel ρ v u → R (.returned u) w') : LeavesInM Fence.wide m E.P fn a.tmps R a.defers .returning w := by
  unfold leave at h
  split at h
  · cases h
  · rename_i S1 hsh
    obtain ⟨w', hext, himp⟩ := shut_sound (fn := fn) (tmps := a.tmps) (R := R) (m := m) hst.defers hst.ok hsh
    apply himp
    have hok1 := hst.ok.ext hext
    split at h
    · rename_i v1 hv1
      simp only [Option.some.injEq, Prod.mk.injEq] at h
      obtain ⟨rfl, rfl⟩ := h
      obtain ⟨us, k1, k2⟩ := resK_sound hst.fr hok1 hg hv1
      cases k1 with
      | cons q1 q2 =>
        cases q2
        exact ⟨_, results_run k2, hR _ _ hext q1⟩
    · rename_i vs hne hv1
      simp only [Option.some.injEq, Prod.mk.injEq] at h
      obtain ⟨rfl, rfl⟩ := h
      obtain ⟨us, k1, k2⟩ := resK_sound hst.fr hok1 hg hv1
      refine ⟨_, results_run k2, ?_⟩
      have hlen := k1.length
      have : ¬ us.toArray.size = 1 := fun e => by
        simp only [List.size_toArray] at e
        rw [e] at hlen
        obtain ⟨x, rfl⟩ := List.length_eq_one_iff.1 hlen
        exact hne x rfl
      rw [dif_neg this]
      exact hR _ _ hext (.tuple k1)
    · cases h
end
end Go.RX
