/- Code: the range over a function; all code. -/
import Derived.Test.YtjfagagjmdddcaaGreatDoorRxComp
set_option linter.all false
namespace Go.RX
open Sym

theorem putObj_eq (w : World) (b : Nat) (o : Obj) : w.putObj b o = setBlock w b o := rfl

section
variable {E : Env} {n : Nat} {sl : List Nat} {C : Sym.Callee}

theorem mark_sound {rs r : Option Nat} {ρ : Ren} {st : St} {a : Act} {w : World} {d : Nat} {S1 : SW} {defers : List Nat} (hst : StOk E n sl rs r ρ st a w) (h : Sym.mark rs st = some (d, S1, defers)) (hf : Fresh ρ st.w.next S1.next) (fn : FuncId) (ps : Array Tmp) (assign body : Code) :
    ∃ ρ1 w1 b mk, Ext ρ st.w w ρ1 S1 w1 ∧ ρ1 d = some (b, 0, 0) ∧ DRel ρ1 defers (mk ++ a.defers) ∧
      (Instr.enterLoop fn a.tmps ps assign body r).run E.P w = .ok (w1.heap.size, mk) (w1.alloc (.loop { state := .ready, pending := none, fn, tmps := a.tmps, params := ps, assign, body, defers := b })) := by
  unfold Sym.mark at h
  cases hst.round with
  | none =>
    simp only at h
    split at h
    · rename_i d' S' hn
      simp only [Option.some.injEq, Prod.mk.injEq] at h
      obtain ⟨rfl, rfl, rfl⟩ := h
      obtain ⟨ρ', hext, hid⟩ := new_obj (ob := .deferred (some [])) hst.ok hn hf (fun _ _ => .deferredOpen)
      refine ⟨ρ', _, w.heap.size, [{ target := .collected w.heap.size, args := #[] }], hext, hid, .cons hid (hst.defers.mono hext.le), ?_⟩
      rw [run_enterLoop_outer]
      simp
    · cases h
  | some hl =>
    rename_i l0 b0
    simp only at h
    split at h
    · rename_i L0 hobj
      simp only [Option.some.injEq, Prod.mk.injEq] at h
      obtain ⟨rfl, rfl, rfl⟩ := h
      obtain ⟨ob, ho1, ho2⟩ := hst.ok.wrel.obj _ _ _ hobj hl
      cases ho2 with
      | loop lp hs hp hn hfr hps ha hb hd =>
        refine ⟨ρ, w, lp.defers, [], hst.ok.refl_ext, hd, hst.defers, ?_⟩
        rw [run_enterLoop_inner ho1]
    · cases h

theorem endRange_sound {rs r : Option Nat} {m : Nat} {ρ : Ren} {fr : List SV} {defers : List Nat} {l b : Nat} {S : SW} {a : Act} {w : World} {out : Out} (hst : StOk E n sl rs r ρ ⟨fr, defers, S⟩ a w) (hl : ρ l = some (b, 0, 0)) (h : endRange fr defers l S = some out)
    {Q : Exit → Act → World → Prop} (hQ : ∀ w', Ext ρ S w ρ out.st.w w' → StOk E n sl rs r ρ out.st a w' → Q out.how a w') :
    ∃ jump w', (Instr.endLoop b).run E.P w = .ok jump w' ∧ (match jump with | none => Q .normal a w' | some c => c.wpIn (Fr r) m E.P Q a w') := by
  unfold endRange at h
  split at h
  · rename_i L hobj
    obtain ⟨ob, ho1, ho2⟩ := hst.ok.wrel.obj _ _ _ hobj hl
    cases ho2 with
    | loop lp hs hp hn hfr hps ha hb hd =>
      have main : L.state ≠ .busy → (match put S l (some (.loop { L with state := .exhausted })) with
          | none => none
          | some w => match L.pending with
            | none => some (Out.norm ⟨fr, defers, w⟩)
            | some .ret => some (.ret ⟨fr, defers, w⟩)
            | some (.exit id) => some (.exit id ⟨fr, defers, w⟩)
            | some _ => none) = some out → ∃ jump w', (Instr.endLoop b).run E.P w = .ok jump w' ∧ (match jump with | none => Q .normal a w' | some c => c.wpIn (Fr r) m E.P Q a w') := by
        intro hne h
        have hrun := run_endLoop (P := E.P) ho1 (by rw [hs]; exact hne)
        rw [putObj_eq] at hrun
        refine ⟨_, _, hrun, ?_⟩
        split at h
        · cases h
        · rename_i S1 hput
          have hext := ext_put hst.ok.wrel hst.ok.tidy hobj hl hput (setBlock_same w b _) (setBlock_at (ob := .loop { lp with state := .exhausted }) ho1) (.loop _ rfl hp hn hfr hps ha hb hd)
          have hst1 : StOk E n sl rs r ρ ⟨fr, defers, S1⟩ a (setBlock w b (.loop { lp with state := .exhausted })) := ⟨hst.size, hst.fr, hst.ok.ext hext, hst.defers, hst.round⟩
          split at h
          · rename_i hpend
            simp only [Option.some.injEq] at h; subst h
            have hpe := hp.trans hpend
            rw [hpe] at hext hst1 ⊢
            exact hQ _ hext hst1
          · rename_i hpend
            simp only [Option.some.injEq] at h; subst h
            have hpe := hp.trans hpend
            rw [hpe] at hext hst1 ⊢
            exact wpIn_ret (hQ _ hext hst1)
          · rename_i id hpend
            simp only [Option.some.injEq] at h; subst h
            have hpe := hp.trans hpend
            rw [hpe] at hext hst1 ⊢
            exact wpIn_exit (hQ _ hext hst1)
          · cases h
      split at h
      · cases h
      · rename_i hne
        exact main (fun e => hne e) h
  · cases h

theorem endRange_mono {fr : List SV} {defers : List Nat} {l : Nat} {S : SW} {out : Out} (h : endRange fr defers l S = some out) : Grow S out.st.w := by
  unfold endRange at h
  repeat' split at h
  all_goals first | (cases h; done) | skip
  all_goals
    rename_i hp _ _
    simp only [Option.some.injEq] at h; subst h
    exact put_mono ‹_› ‹_›

theorem mark_mono {rs : Option Nat} {st : St} {d : Nat} {S1 : SW} {defers : List Nat} (h : Sym.mark rs st = some (d, S1, defers)) : Grow st.w S1 := by
  unfold Sym.mark at h
  repeat' split at h
  all_goals first | (cases h; done) | skip
  all_goals
    simp only [Option.some.injEq, Prod.mk.injEq] at h
    obtain ⟨rfl, rfl, rfl⟩ := h
    first | exact .refl _ | exact new_mono ‹_›

theorem range_mono (hM : CalleeMono C) {g : List SV → List SV → SV} {ps : Array Tmp} {assign body : Code} : CodeMono C (fun C r st => rangeK n sl g ps assign body C r st) := by
  intro rs st out h
  dsimp only at h
  unfold rangeK at h
  split at h
  · cases h
  · rename_i d S1 defers hmk
    split at h
    · cases h
    · rename_i l S2 hn
      split at h
      · split at h
        · rename_i x S3 hc
          exact (mark_mono hmk).trans ((new_mono hn).trans ((hM.call _ _ _ _ _ hc).trans (endRange_mono h)))
        · cases h
      · cases h

theorem range_sound (hC : CalleeSound E C) (hM : CalleeMono C) {x : Operand} {g : List SV → List SV → SV} {ps : Array Tmp} {assign body : Code} (hx : opd ⟨[], sl⟩ x = some ⟨g⟩) : CodeSound E C n sl (.rangeFunc x ps assign body) (fun C r st => rangeK n sl g ps assign body C r st) := by
  intro rs r m ρ st a w out hst h hfr Q hQ
  dsimp only at h
  unfold rangeK at h
  split at h
  · cases h
  · rename_i d S1 defers hmk
    split at h
    · cases h
    · rename_i l S2 hn
      split at h
      · rename_i f fi cap hg
        split at h
        · rename_i xr S3 hc
          have m1 := (mark_mono hmk).next
          have m2 := (new_mono hn).next
          have m3 := (hM.call _ _ _ _ _ hc).next
          have m4 := (endRange_mono h).next
          refine wpIn_rangeFunc fun fn _ => ?_
          rw [Fr_round]
          obtain ⟨ρ1, w1, b, mk, hext1, hd1, hdr, hrun⟩ := mark_sound hst hmk (hfr.left (by omega)) fn ps assign body
          have hok1 := hst.ok.ext hext1
          have hfr1 := hext1.fresh_right hfr
          have hnl : l = S1.next := (new_some hn).1
          have hnn : S2.next = S1.next + 1 := (new_some hn).2.1
          obtain ⟨ρ2, hext2, hid2⟩ := new_obj (ob := .loop { state := .ready, pending := none, fn, tmps := a.tmps, params := ps, assign, body, defers := b }) hok1 hn (hfr1.left (by omega))
            (fun ρ' hle => .loop _ rfl rfl hst.size (hst.fr.mono (hext1.le.trans hle)) rfl rfl rfl (hle _ _ hd1))
          have hok2 := hok1.ext hext2
          have hs : Slots ρ n [] sl [] st.fr a.tmps := ⟨hst.size, fun t i ht => by simp [posOf] at ht, hst.fr⟩
          have hv := opd_sound hx (hs.good x)
          rw [hg] at hv
          generalize hb : a.eval x = bv at hv
          cases hv with
          | func _ hfi hcap =>
            rename_i us vs
            have hle2 : ρ.le ρ2 := hext1.le.trans hext2.le
            have hargs : VRels ρ2 (fi ++ (.yield l :: cap)) (us ++ ((Value.func (.yield w1.heap.size) #[] #[]) :: vs)) := (hfi.mono hle2).append (.cons (.yield hid2) (hcap.mono hle2))
            have hcall := hC.call f _ S2 xr S3 hc ρ2 _ _ hok2 ((hext2.fresh_right hfr1).left (by omega)) hargs
            refine ⟨w1.heap.size, mk, _, { target := .fn (.func f) vs.toArray, args := us.toArray ++ #[Value.func (.yield w1.heap.size) #[] #[]] }, w1.alloc (.loop { state := .ready, pending := none, fn, tmps := a.tmps, params := ps, assign, body, defers := b }), f, _, _, hrun, ?_, fun _ _ => Fr_fn r _, ?_, Fr_n r m, CallsIn.mono (Fr_calls hcall) ?_⟩
            · simp only [resolve, rangeCall, hb, Deferred.ofValue, Sem.run_pure]
              simp [Act.eval]
            · simp only [invoke]
              have : (us.toArray ++ #[Value.func (.yield w1.heap.size) #[] #[]] ++ vs.toArray : Array Value) = (us ++ ((Value.func (.yield w1.heap.size) #[] #[]) :: vs)).toArray := by
                apply Array.ext'; simp
              rw [this]
              exact hC.name f _ S2 _ hc _ _
            · rintro e' w' ⟨v, ρ3, rfl, hext3, hv3⟩
              have hle3 := hle2.trans hext3.le
              have hextA := (hext1.trans hext2).trans hext3
              have hst3 : StOk E n sl rs r ρ3 ⟨st.fr, defers, S3⟩ { a with defers := mk ++ a.defers } w' := ⟨hst.size, hst.fr.mono hle3, hok2.ext hext3, hdr.mono (hext2.le.trans hext3.le), hst.round.mono hle3⟩
              exact endRange_sound hst3 (hext3.le _ _ hid2) h fun w4 hext4 hst4 => hQ ρ3 _ w4 (hextA.trans hext4) hst4
        · cases h
      · cases h

/-! ### All code -/
theorem comp_mono (hM : CalleeMono C) : ∀ (c : Code) (f : Sym.Callee → Option Nat → St → Option Out), comp E n sl c = some ⟨f⟩ → CodeMono C f := by
  intro c
  induction c with
  | skip => intro f h rs st out hr; simp only [comp, Option.some.injEq, K.mk.injEq] at h; subst h; simp only [Option.some.injEq] at hr; subst hr; exact .refl _
  | ret => intro f h rs st out hr; simp only [comp, Option.some.injEq, K.mk.injEq] at h; subst h; simp only [Option.some.injEq] at hr; subst hr; exact .refl _
  | exit id => intro f h rs st out hr; simp only [comp, Option.some.injEq, K.mk.injEq] at h; subst h; simp only [Option.some.injEq] at hr; subst hr; exact .refl _
  | seq a b iha ihb =>
    intro f h rs st out hr
    simp only [comp] at h
    split at h
    · rename_i fa fb h1 h2
      simp only [Option.some.injEq, K.mk.injEq] at h; subst h
      dsimp only at hr
      split at hr
      · rename_i st1 h3
        exact (iha fa h1 rs st _ h3).trans (ihb fb h2 rs st1 out hr)
      · exact iha fa h1 rs st out hr
    · cases h
  | cond x a b iha ihb =>
    intro f h rs st out hr
    simp only [comp] at h
    split at h
    · rename_i q fa fb h0 h1 h2
      simp only [Option.some.injEq, K.mk.injEq] at h; subst h
      dsimp only at hr
      split at hr
      · exact iha fa h1 rs st out hr
      · exact ihb fb h2 rs st out hr
      · cases hr
    · cases h
  | block id b ih =>
    intro f h rs st out hr
    simp only [comp] at h
    split at h
    · rename_i fb h1
      simp only [Option.some.injEq, K.mk.injEq] at h; subst h
      dsimp only at hr
      split at hr
      · rename_i id' st1 h2
        have := ih fb h1 rs st _ h2
        split at hr
        · simp only [Option.some.injEq] at hr; subst hr; exact this
        · simp only [Option.some.injEq] at hr; subst hr; exact this
      · exact ih fb h1 rs st out hr
    · cases h
  | loop b ih =>
    intro f h rs st out hr
    simp only [comp] at h
    split at h
    · rename_i fb h1
      simp only [Option.some.injEq, K.mk.injEq] at h; subst h
      exact loopN_mono (ih fb h1) rs _ st out hr
    · cases h
  | region id os draw =>
    intro f h rs st out hr
    simp only [comp] at h
    cases draw with
    | false =>
      simp only at h
      split at h
      · rename_i g h1
        simp only [Option.some.injEq, K.mk.injEq] at h; subst h
        dsimp only at hr
        split at hr
        · rename_i fr1 S1 h2
          simp only [Option.some.injEq] at hr; subst hr
          exact kops_mono hM _ _ g h1 _ _ _ _ _ h2
        · cases hr
      · cases h
    | true =>
      simp only at h
      split at h
      · rename_i g h1
        simp only [Option.some.injEq, K.mk.injEq] at h; subst h
        dsimp only at hr
        split at hr
        · rename_i fr1 S1 h2
          simp only [Option.some.injEq] at hr; subst hr
          exact drawn_mono hM h1 h2
        · cases hr
      · cases h
  | rangeFunc g ps a b _ _ =>
    intro f h
    simp only [comp] at h
    split at h
    · simp only [Option.some.injEq, K.mk.injEq] at h; subst h
      exact range_mono hM
    · cases h
  | scope b ih => intro f h; simp only [comp] at h; exact ih f h
  | label l => intro f h rs st out hr; simp only [comp, Option.some.injEq, K.mk.injEq] at h; subst h; simp only [Option.some.injEq] at hr; subst hr; exact .refl _
  | _ => intro f h rs st out hr; simp only [comp, Option.some.injEq, K.mk.injEq] at h; subst h; cases hr

theorem comp_sound (hC : CalleeSound E C) (hM : CalleeMono C) : ∀ (c : Code) (f : Sym.Callee → Option Nat → St → Option Out), comp E n sl c = some ⟨f⟩ → CodeSound E C n sl c f := by
  intro c
  induction c with
  | skip => intro f h rs r m ρ st a w out hst hr hfr Q hQ; simp only [comp, Option.some.injEq, K.mk.injEq] at h; subst h; simp only [Option.some.injEq] at hr; subst hr; exact wpIn_skip (hQ ρ a w hst.ok.refl_ext hst)
  | ret => intro f h rs r m ρ st a w out hst hr hfr Q hQ; simp only [comp, Option.some.injEq, K.mk.injEq] at h; subst h; simp only [Option.some.injEq] at hr; subst hr; exact wpIn_ret (hQ ρ a w hst.ok.refl_ext hst)
  | exit id => intro f h rs r m ρ st a w out hst hr hfr Q hQ; simp only [comp, Option.some.injEq, K.mk.injEq] at h; subst h; simp only [Option.some.injEq] at hr; subst hr; exact wpIn_exit (hQ ρ a w hst.ok.refl_ext hst)
  | seq a b iha ihb =>
    intro f h
    simp only [comp] at h
    split at h
    · rename_i fa fb h1 h2
      simp only [Option.some.injEq, K.mk.injEq] at h; subst h
      exact seq_sound (comp_mono hM b fb h2) (iha fa h1) (ihb fb h2)
    · cases h
  | cond x a b iha ihb =>
    intro f h
    simp only [comp] at h
    split at h
    · rename_i q fa fb h0 h1 h2
      simp only [Option.some.injEq, K.mk.injEq] at h; subst h
      exact cond_sound h0 (iha fa h1) (ihb fb h2)
    · cases h
  | block id b ih =>
    intro f h
    simp only [comp] at h
    split at h
    · rename_i fb h1
      simp only [Option.some.injEq, K.mk.injEq] at h; subst h
      exact block_sound (ih fb h1)
    · cases h
  | loop b ih =>
    intro f h
    simp only [comp] at h
    split at h
    · rename_i fb h1
      simp only [Option.some.injEq, K.mk.injEq] at h; subst h
      exact loop_sound (comp_mono hM b fb h1) (ih fb h1) _
    · cases h
  | region id os draw =>
    intro f h rs r m ρ st a w out hst hr hfr Q hQ
    simp only [comp] at h
    cases draw with
    | false =>
      simp only at h
      split at h
      · rename_i g h1
        simp only [Option.some.injEq, K.mk.injEq] at h; subst h
        dsimp only at hr
        split at hr
        · rename_i fr1 S1 h2
          simp only [Option.some.injEq] at hr; subst hr
          exact region_sound hC hM h1 hst.size hst.fr hst.ok h2 hfr fun ρ' a' w' hext hf hs hd => hQ ρ' a' w' hext ⟨hs, hf, hst.ok.ext hext, by rw [hd]; exact hst.defers.mono hext.le, hst.round.mono hext.le⟩
        · cases hr
      · cases h
    | true =>
      simp only at h
      split at h
      · rename_i g h1
        simp only [Option.some.injEq, K.mk.injEq] at h; subst h
        dsimp only at hr
        split at hr
        · rename_i fr1 S1 h2
          simp only [Option.some.injEq] at hr; subst hr
          exact drawn_sound hC hM h1 hst.size hst.fr hst.ok h2 hfr fun ρ' a' w' hext hf hs hd => hQ ρ' a' w' hext ⟨hs, hf, hst.ok.ext hext, by rw [hd]; exact hst.defers.mono hext.le, hst.round.mono hext.le⟩
        · cases hr
      · cases h
  | rangeFunc g ps a b _ _ =>
    intro f h
    simp only [comp] at h
    split at h
    · rename_i q h1
      simp only [Option.some.injEq, K.mk.injEq] at h; subst h
      exact range_sound hC hM h1
    · cases h
  | scope b ih => intro f h; simp only [comp] at h; exact scope_sound (ih f h)
  | label l => intro f h rs r m ρ st a w out hst hr hfr Q hQ; simp only [comp, Option.some.injEq, K.mk.injEq] at h; subst h; simp only [Option.some.injEq] at hr; subst hr; exact wpIn_label (hQ ρ a w hst.ok.refl_ext hst)
  | _ => intro f h rs r m ρ st a w out hst hr hfr Q hQ; simp only [comp, Option.some.injEq, K.mk.injEq] at h; subst h; cases hr
end
end Go.RX
