/- Rounds; the evaluator at every depth. -/
import Derived.Test.YtjfagagjmdddcaaGreatDoorRxSem
set_option linter.all false
namespace Go.RX
open Sym

section
variable {E : Env} {C : Sym.Callee}

theorem setSlots_rel {ρ : Ren} {n : Nat} {sl : List Nat} : ∀ {ds : List Tmp} {vs : List SV} {us : List Value} {fr fr' : List SV} {tmps : Array Value}, setSlots n sl ds vs fr = some fr' → VRels ρ vs us → tmps.size = n → FRel ρ sl fr tmps →
    ds.length = us.length ∧ ((ds.zip us).foldl (fun t p => t.setIfInBounds p.1 p.2) tmps).size = n ∧ FRel ρ sl fr' ((ds.zip us).foldl (fun t p => t.setIfInBounds p.1 p.2) tmps)
  | [], _, _, fr, fr', tmps, h, .nil, hs, hf => by
    simp only [setSlots, Option.some.injEq] at h; subst h
    exact ⟨rfl, hs, hf⟩
  | [], _, _, _, _, _, h, .cons _ _, _, _ => by simp [setSlots] at h
  | _ :: _, _, _, _, _, _, h, .nil, _, _ => by simp [setSlots] at h
  | d :: ds, x :: xs, v :: us, fr, fr', tmps, h, .cons hx hs, hsz, hf => by
    simp only [setSlots] at h
    split at h
    · rename_i hb
      have hs0 : Slots ρ n [] sl [] fr ({ tmps := tmps, defers := [] } : Act).tmps := ⟨hsz, fun t i ht => by simp [posOf] at ht, hf⟩
      have hd : ∃ p, dstK sl n (some d) = some (d, p) ∧ keep (posOf d sl) fr x = p.keep fr x := by
        simp only [dstK, hb]
        cases hp : posOf d sl with
        | none => exact ⟨.lost, rfl, rfl⟩
        | some q => exact ⟨.kept q, rfl, rfl⟩
      obtain ⟨p, hd1, hd2⟩ := hd
      have h1 := hs0.put hd1 hx
      rw [hd2] at h
      obtain ⟨q1, q2, q3⟩ := setSlots_rel (tmps := tmps.setIfInBounds d v) h hs (by simpa using hsz) h1.fr
      exact ⟨by simp [q1], q2, q3⟩
    · cases h

theorem endRound_sound {n : Nat} {sl : List Nat} {rs r : Option Nat} {ρ : Ren} {st : St} {a : Act} {w : World} {l b : Nat} {jump : Option Code} {x : SV} {S' : SW} (hst : StOk E n sl rs r ρ st a w) (hl : ρ l = some (b, 0, 0)) (h : endRound l jump st = some (x, S')) :
    st.w.next ≤ S'.next ∧ ∃ v w', (Instr.endRound b jump).run E.P w = .ok v w' ∧ Ext ρ st.w w ρ S' w' ∧ VRel ρ x v := by
  unfold endRound at h
  split at h
  · cases h
  · split at h
    · rename_i L hobj
      split at h
      · rename_i S1 hput
        simp only [Option.some.injEq, Prod.mk.injEq] at h
        obtain ⟨rfl, rfl⟩ := h
        obtain ⟨ob, ho1, ho2⟩ := hst.ok.wrel.obj _ _ _ hobj hl
        cases ho2 with
        | loop lp hs hp hn hfr hps ha hb hd =>
          have hrun := run_endRound (P := E.P) jump ho1
          rw [putObj_eq] at hrun
          have hext := ext_put hst.ok.wrel hst.ok.tidy hobj hl hput (setBlock_same w b _) (setBlock_at (ob := .loop { lp with state := if jump.isNone then .ready else .done, pending := jump }) ho1) (.loop _ (by cases jump <;> rfl) rfl hn hfr hps ha hb hd)
          refine ⟨(put_mono hobj hput).next, _, _, hrun, hext, ?_⟩
          cases jump <;> exact .bool _
      · cases h
    · cases h

theorem endRound_mono {l : Nat} {jump : Option Code} {st : St} {x : SV} {S' : SW} (h : endRound l jump st = some (x, S')) : Grow st.w S' := by
  unfold endRound at h
  split at h
  · cases h
  · split at h
    · split at h
      · rename_i S1 hput; rw [some_next h]; exact put_mono ‹_› hput
      · cases h
    · cases h

theorem roundSem_some {l : Nat} {args : List SV} {S S' : SW} {x : SV} (h : roundSem E C l args S = some (x, S')) :
    ∃ L fr fa fb st1 L1 S2 out, S.at l = some (.loop L) ∧ setSlots L.n L.sl L.params.toList args L.fr = some fr ∧ comp E L.n L.sl L.assign = some ⟨fa⟩ ∧ comp E L.n L.sl L.body = some ⟨fb⟩ ∧
      fa C (some l) ⟨fr, [], S⟩ = some (.norm st1) ∧ st1.w.at l = some (.loop L1) ∧ L1.state = .ready ∧ put st1.w l (some (.loop { L1 with state := .busy })) = some S2 ∧
      fb C (some l) ⟨st1.fr, st1.defers, S2⟩ = some out ∧ endRound l (match out with | .norm _ => none | .ret _ => some .ret | .exit id _ => some (.exit id)) out.st = some (x, S') := by
  unfold roundSem at h
  split at h
  · rename_i L hL
    split at h
    · rename_i fr fa fb h1 h2 h3
      split at h
      · rename_i st1 h4
        split at h
        · rename_i L1 h5
          split at h
          · rename_i h6
            split at h
            · rename_i S2 h7
              split at h
              · rename_i st h8; exact ⟨L, fr, fa, fb, st1, L1, S2, _, hL, h1, h2, h3, h4, h5, h6, h7, h8, h⟩
              · rename_i st h8; exact ⟨L, fr, fa, fb, st1, L1, S2, _, hL, h1, h2, h3, h4, h5, h6, h7, h8, h⟩
              · rename_i id st h8; exact ⟨L, fr, fa, fb, st1, L1, S2, _, hL, h1, h2, h3, h4, h5, h6, h7, h8, h⟩
              · cases h
            · cases h
          · cases h
        · cases h
      · cases h
    · cases h
  · cases h

theorem roundSem_mono (hM : CalleeMono C) {l : Nat} {args : List SV} {S S' : SW} {x : SV} (h : roundSem E C l args S = some (x, S')) : Grow S S' := by
  obtain ⟨L, fr, fa, fb, st1, L1, S2, out, hL, h1, h2, h3, h4, h5, h6, h7, h8, h9⟩ := roundSem_some h
  have m1 := comp_mono hM _ fa h2 _ _ _ h4
  have m2 := put_mono h5 h7
  have m3 := comp_mono hM _ fb h3 _ _ _ h8
  have m4 := endRound_mono h9
  exact m1.trans (m2.trans (m3.trans m4))

theorem roundSem_sound (hC : CalleeSound E C) (hM : CalleeMono C) {l : Nat} {args : List SV} {S S' : SW} {x : SV} (h : roundSem E C l args S = some (x, S')) {ρ : Ren} {vals : List Value} {w : World} {b : Nat} (hok : Ok E ρ S w) (hfr : Fresh ρ S.next S'.next) (hl : ρ l = some (b, 0, 0)) (hv : VRels ρ args vals) :
    ∃ tmps f assign body, (Instr.yield b vals.toArray).run E.P w = .ok (.round b f tmps assign body) w ∧ RoundIn Fence.wide 0 E.P b f tmps assign body w (Res E ρ S w S' x) := by
  obtain ⟨L, fr, fa, fb, st1, L1, S2, out, hL, h1, h2, h3, h4, h5, h6, h7, h8, h9⟩ := roundSem_some h
  have m1 : S.next ≤ st1.w.next := (comp_mono hM _ fa h2 _ _ _ h4).next
  have m2 := (put_mono h5 h7).next
  have m3 : S2.next ≤ out.st.w.next := (comp_mono hM _ fb h3 _ _ _ h8).next
  have m4 := (endRound_mono h9).next
  obtain ⟨ob, ho1, ho2⟩ := hok.wrel.obj _ _ _ hL hl
  cases ho2 with
  | loop lp hs hp hn hf hps ha hb hd =>
    obtain ⟨q1, q2, q3⟩ := setSlots_rel h1 hv hn hf
    have hargs : vals.toArray.size = lp.params.size := by rw [hps]; simpa using q1.symm
    have hy := run_yield (P := E.P) ho1 hargs
    have htm : (lp.params.zip vals.toArray).foldl (fun tmps (t, a) => tmps.setIfInBounds t a) lp.tmps = (L.params.toList.zip vals).foldl (fun t p => t.setIfInBounds p.1 p.2) lp.tmps := by
      rw [hps, ← Array.foldl_toList, Array.toList_zip]
    refine ⟨_, _, _, _, hy, roundIn_of_wpIn trivial ?_⟩
    rw [ha, hb, htm]
    have hst0 : StOk E L.n L.sl (some l) (some b) ρ ⟨fr, [], S⟩ { tmps := (L.params.toList.zip vals).foldl (fun t p => t.setIfInBounds p.1 p.2) lp.tmps, defers := [] } w := ⟨q2, q3, hok, .nil, .some hl⟩
    refine comp_sound hC hM L.assign fa h2 (some l) (some b) 0 ρ _ _ w (.norm st1) hst0 h4 (hfr.left (by show st1.w.next ≤ _; omega)) _ fun ρ1 a1 w1 hext1 hst1 => ?_
    have hl1 := hext1.le _ _ hl
    obtain ⟨ob1, k1, k2⟩ := hst1.ok.wrel.obj _ _ _ h5 hl1
    cases k2 with
    | loop lp1 hs1 hp1 hn1 hf1 hps1 ha1 hb1 hd1 =>
      have hbr := run_beginRound (P := E.P) k1 (by rw [hs1]; exact h6)
      rw [putObj_eq] at hbr
      have hext2 := ext_put hst1.ok.wrel hst1.ok.tidy h5 hl1 h7 (setBlock_same w1 b _) (setBlock_at (ob := .loop { lp1 with state := .busy }) k1) (.loop _ rfl hp1 hn1 hf1 hps1 ha1 hb1 hd1)
      refine ⟨_, hbr, ?_⟩
      have hst2 : StOk E L.n L.sl (some l) (some b) ρ1 ⟨st1.fr, st1.defers, S2⟩ a1 (setBlock w1 b (.loop { lp1 with state := .busy })) := ⟨hst1.size, hst1.fr, hst1.ok.ext hext2, hst1.defers, hst1.round⟩
      have hf2 : Fresh ρ1 S2.next out.st.w.next := ((hext1.trans hext2).fresh_right hfr).left m4
      refine comp_sound hC hM L.body fb h3 (some l) (some b) 0 ρ1 _ _ _ out hst2 h8 hf2 _ fun ρ3 a3 w3 hext3 hst3 => ?_
      obtain ⟨-, v, w4, e1, e2, e3⟩ := endRound_sound hst3 (hext3.le _ _ hl1) h9
      have hres : Res E ρ S w S' x (.returned v) w4 := ⟨v, ρ3, rfl, (((hext1.trans hext2).trans hext3).trans e2), e3⟩
      cases out with
      | norm st => exact ⟨v, w4, e1, hres⟩
      | ret st => exact ⟨v, w4, e1, hres⟩
      | exit id st => exact ⟨v, w4, e1, hres⟩

theorem forget_some {S S1 S' : SW} {x y : SV} (h : forget S (some (x, S1)) = some (y, S')) : S'.next = S1.next := by
  unfold forget at h
  simp only at h
  repeat' split at h
  all_goals
    simp only [Option.some.injEq, Prod.mk.injEq] at h
    obtain ⟨-, rfl⟩ := h
    rfl

theorem sem_call {d f : Nat} {args : List SV} {S S' : SW} {x : SV} (h : (sem E (d + 1)).call f args S = some (x, S')) :
    ∃ g x1 S1, compFn E f = some ⟨g⟩ ∧ g (sem E d) args ⟨S.heap, S.next, S.next⟩ = some (x1, S1) ∧ forget S (some (x1, S1)) = some (x, S') := by
  simp only [sem] at h
  split at h
  · rename_i g hg
    cases hr : g (sem E d) args ⟨S.heap, S.next, S.next⟩ with
    | none => rw [hr] at h; simp [forget] at h
    | some p =>
      obtain ⟨x1, S1⟩ := p
      rw [hr] at h
      exact ⟨g, x1, S1, hg, hr, h⟩
  · cases h

theorem forget_mono {S S1 S' : SW} {x y : SV} (hg : Grow ⟨S.heap, S.next, S.next⟩ S1) (h : forget S (some (x, S1)) = some (y, S')) : Grow S S' := by
  unfold forget at h
  simp only at h
  have tidy : ∀ n l, S1.next = n → S.tidy → (SW.mk S1.heap n l).tidy := fun n l hn t i hi => hg.tidy t i (by rw [hn]; exact hi)
  split at h
  · rename_i hb
    have hb := Nat.le_of_ble_eq_true hb
    split at h
    · simp only [Option.some.injEq, Prod.mk.injEq] at h
      obtain ⟨-, rfl⟩ := h
      exact ⟨hg.next, fun t i hi => t i (Nat.le_trans hg.next hi), Nat.le_refl _, fun _ _ _ => rfl⟩
    · simp only [Option.some.injEq, Prod.mk.injEq] at h
      obtain ⟨-, rfl⟩ := h
      exact ⟨hg.next, tidy _ _ rfl, Nat.le_refl _, fun i h1 _ => hg.keep i h1 (Nat.lt_of_lt_of_le h1 hb)⟩
  · split at h
    · rename_i hb2
      have hb2 := Nat.le_of_ble_eq_true hb2
      simp only [Option.some.injEq, Prod.mk.injEq] at h
      obtain ⟨-, rfl⟩ := h
      exact ⟨hg.next, tidy _ _ rfl, Nat.le_refl _, fun i h1 h2 => hg.keep i h1 (Nat.lt_of_lt_of_le h2 hb2)⟩
    · rename_i hb2
      have hb2 : ¬ S.low ≤ S1.low := fun hle => by rw [Nat.ble_eq_true_of_le hle] at hb2; cases hb2
      simp only [Option.some.injEq, Prod.mk.injEq] at h
      obtain ⟨-, rfl⟩ := h
      exact ⟨hg.next, hg.tidy, by omega, fun i h1 h2 => hg.keep i h1 h2⟩

theorem sem_both : ∀ d, CalleeMono (sem E d) ∧ CalleeSound E (sem E d)
  | 0 => ⟨⟨fun _ _ _ _ _ h => by simp [sem] at h, fun _ _ _ _ _ h => by simp [sem] at h⟩,
      ⟨fun _ _ _ _ h => by simp [sem] at h, fun _ _ _ _ _ h => by simp [sem] at h, fun _ _ _ _ _ h => by simp [sem] at h⟩⟩
  | d + 1 => by
    obtain ⟨hM, hC⟩ := sem_both d
    refine ⟨⟨fun f args S x S' h => ?_, fun l args S x S' h => roundSem_mono hM h⟩, ⟨fun f args S r h vals w => ?_, fun f args S x S' h ρ vals w hok hfr hv => ?_, fun l args S x S' h ρ vals w b hok hfr hl hv => roundSem_sound hC hM h hok hfr hl hv⟩⟩
    · obtain ⟨g, x1, S1, h1, h2, h3⟩ := sem_call h
      exact forget_mono (compFn_sound hC hM h1 h2).1 h3
    · obtain ⟨x, S'⟩ := r
      obtain ⟨g, x1, S1, h1, h2, h3⟩ := sem_call h
      exact compFn_name h1 vals w
    · obtain ⟨g, x1, S1, h1, h2, h3⟩ := sem_call h
      have hn := forget_some h3
      have hcall := (compFn_sound hC hM h1 h2).2 ρ vals w (ok_low _ hok) (by rw [← hn]; exact hfr) hv
      refine callsIn_wide.1 (CallsIn.mono (callsIn_wide.2 hcall) (n := 0) ?_)
      rintro e w' ⟨v, ρ1, rfl, hext, hx⟩
      obtain ⟨-, rfl, ρ', k1, k2⟩ := forget_sound hok hext hx h3
      exact ⟨v, ρ', rfl, k1, k2⟩

/-- The evaluator is sound, at every depth. -/
theorem sem_sound (d : Nat) : CalleeSound E (sem E d) := (sem_both d).2
end
end Go.RX
