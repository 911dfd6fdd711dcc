/- Code. -/
import Derived.Test.YtjfagagjmdddcaaGreatDoorRxDraw
import Derived.RangeFuncRecord
set_option linter.all false
namespace Go.RX
open Sym

def Out.st : Out → St
  | .norm st => st
  | .exit _ st => st
  | .ret st => st
def Out.how : Out → Exit
  | .norm _ => .normal
  | .exit id _ => .exit id
  | .ret _ => .ret

/-- The marks for deferred calls. -/
inductive DRel (ρ : Ren) : List Nat → List Deferred → Prop
  | nil : DRel ρ [] []
  | cons {d b : Nat} {ds : List Nat} {qs : List Deferred} (h : ρ d = some (b, 0, 0)) (hs : DRel ρ ds qs) : DRel ρ (d :: ds) ({ target := .collected b, args := #[] } :: qs)
theorem DRel.mono {ρ ρ' : Ren} (hle : ρ.le ρ') : ∀ {ds : List Nat} {qs : List Deferred}, DRel ρ ds qs → DRel ρ' ds qs
  | _, _, .nil => .nil
  | _, _, .cons h hs => .cons (hle _ _ h) (DRel.mono hle hs)

/-- The round in which code runs. -/
inductive RRel (ρ : Ren) : Option Nat → Option Nat → Prop
  | none : RRel ρ none none
  | some {l b : Nat} (h : ρ l = some (b, 0, 0)) : RRel ρ (some l) (some b)
theorem RRel.mono {ρ ρ' : Ren} (hle : ρ.le ρ') {x y : Option Nat} (h : RRel ρ x y) : RRel ρ' x y := by
  cases h with
  | none => exact .none
  | some h => exact .some (hle _ _ h)

structure StOk (E : Env) (n : Nat) (sl : List Nat) (rs r : Option Nat) (ρ : Ren) (st : St) (a : Act) (w : World) : Prop where
  size : a.tmps.size = n
  fr : FRel ρ sl st.fr a.tmps
  ok : Ok E ρ st.w w
  defers : DRel ρ st.defers a.defers
  round : RRel ρ rs r

/-- Code, compiled, is sound. -/
def CodeSound (E : Env) (C : Sym.Callee) (n : Nat) (sl : List Nat) (c : Code) (f : Sym.Callee → Option Nat → St → Option Out) : Prop :=
  ∀ rs r m ρ st a w out, StOk E n sl rs r ρ st a w → f C rs st = some out → Fresh ρ st.w.next out.st.w.next →
    ∀ Q : Exit → Act → World → Prop, (∀ ρ' a' w', Ext ρ st.w w ρ' out.st.w w' → StOk E n sl rs r ρ' out.st a' w' → Q out.how a' w') → c.wpIn (Fr r) m E.P Q a w

def CodeMono (C : Sym.Callee) (f : Sym.Callee → Option Nat → St → Option Out) : Prop := ∀ rs st out, f C rs st = some out → Grow st.w out.st.w

section
variable {E : Env} {n : Nat} {sl : List Nat} {C : Sym.Callee}

theorem loopN_zero (f : Sym.Callee → Option Nat → St → Option Out) (rs : Option Nat) (st : St) : loopN f C rs 0 st = none := rfl
theorem loopN_succ (f : Sym.Callee → Option Nat → St → Option Out) (rs : Option Nat) (k : Nat) (st : St) : loopN f C rs (k + 1) st = match f C rs st with | some (.norm st) => loopN f C rs k st | x => x := rfl

theorem loopN_mono {f : Sym.Callee → Option Nat → St → Option Out} (h : CodeMono C f) (rs : Option Nat) : ∀ k st out, loopN f C rs k st = some out → Grow st.w out.st.w
  | 0, st, out, e => by rw [loopN_zero] at e; cases e
  | k + 1, st, out, e => by
    rw [loopN_succ] at e
    split at e
    · rename_i st1 h1
      exact (h rs st _ h1).trans (loopN_mono h rs k st1 out e)
    · rename_i h1
      exact h rs st out e

theorem exists_min (p : Nat → Prop) (h : ∃ k, p k) : ∃ k, p k ∧ ∀ j, p j → k ≤ j := by
  obtain ⟨k, hk⟩ := h
  induction k using Nat.strongRecOn with
  | _ k ih =>
    by_cases hex : ∃ j, j < k ∧ p j
    · obtain ⟨j, hj, hpj⟩ := hex
      exact ih j hj hpj
    · exact ⟨k, hk, fun j hj => Nat.le_of_not_lt fun hlt => hex ⟨j, hlt, hj⟩⟩

theorem wpIn_loop_n {F : Fence} {m : Nat} {P : Program} {c : Code} {Q : Exit → Act → World → Prop} {a : Act} {w : World} (J : Nat → Act → World → Prop) {N : Nat} (h0 : J N a w)
    (round : ∀ k a w, J k a w → c.wpIn F m P (Exit.then (fun a' w' => ∃ k', k' < k ∧ J k' a' w') Q) a w) : (Code.loop c).wpIn F m P Q a w := by
  classical
  let μ : Act → World → Nat := fun a w => if h : ∃ k, J k a w then Classical.choose (exists_min _ h) else 0
  have hμ : ∀ a w (h : ∃ k, J k a w), J (μ a w) a w ∧ ∀ j, J j a w → μ a w ≤ j := fun a w h => by
    have := Classical.choose_spec (exists_min _ h)
    simp only [μ, dif_pos h]
    exact this
  refine wpIn_loop (fun a w => ∃ k, J k a w) μ ⟨N, h0⟩ fun a w h => ?_
  obtain ⟨h1, -⟩ := hμ a w h
  refine wpIn_mono (round _ a w h1) fun e a' w' hq => ?_
  cases e with
  | normal =>
    obtain ⟨k', hlt, hk'⟩ := hq
    exact ⟨⟨k', hk'⟩, Nat.lt_of_le_of_lt ((hμ a' w' ⟨k', hk'⟩).2 k' hk') hlt⟩
  | _ => exact hq

theorem loop_sound {c : Code} {f : Sym.Callee → Option Nat → St → Option Out} (hM : CodeMono C f) (h : CodeSound E C n sl c f) (N : Nat) : CodeSound E C n sl (.loop c) (fun C rs st => loopN f C rs N st) := by
  intro rs r m ρ st a w out hst hf hfr Q hQ
  refine wpIn_loop_n (J := fun k a1 w1 => ∃ ρ1 st1, Ext ρ st.w w ρ1 st1.w w1 ∧ StOk E n sl rs r ρ1 st1 a1 w1 ∧ loopN f C rs k st1 = some out ∧ Fresh ρ1 st1.w.next out.st.w.next) (N := N) ⟨ρ, st, hst.ok.refl_ext, hst, hf, hfr⟩ ?_
  rintro k a1 w1 ⟨ρ1, st1, hext, hst1, hl, hfr1⟩
  cases k with
  | zero => rw [loopN_zero] at hl; cases hl
  | succ k =>
    rw [loopN_succ] at hl
    split at hl
    · rename_i st2 h2
      have hm := loopN_mono hM rs k st2 out hl
      refine h rs r m ρ1 st1 a1 w1 _ hst1 h2 (hfr1.left hm.next) _ fun ρ2 a2 w2 hext2 hst2 => ?_
      exact ⟨k, Nat.lt_succ_self k, ρ2, st2, hext.trans hext2, hst2, hl, hext2.fresh_right hfr1⟩
    · rename_i h2
      refine h rs r m ρ1 st1 a1 w1 out hst1 hl hfr1 _ fun ρ2 a2 w2 hext2 hst2 => ?_
      have hne : out.how ≠ .normal := by
        cases out with
        | norm st3 => exact absurd hl (h2 st3)
        | exit id st3 => simp [Out.how]
        | ret st3 => simp [Out.how]
      have := hQ ρ2 a2 w2 (hext.trans hext2) hst2
      cases he : out.how with
      | normal => exact absurd he hne
      | _ => rw [he] at this; exact this

theorem seq_sound {c d : Code} {f g : Sym.Callee → Option Nat → St → Option Out} (hM : CodeMono C g) (hf : CodeSound E C n sl c f) (hg : CodeSound E C n sl d g) :
    CodeSound E C n sl (.seq c d) (fun C r st => match f C r st with | some (.norm st) => g C r st | x => x) := by
  intro rs r m ρ st a w out hst hr hfr Q hQ
  refine wpIn_seq ?_
  dsimp only at hr
  split at hr
  · rename_i st1 h1
    have hm := hM _ _ _ hr
    refine hf rs r m ρ st a w _ hst h1 (hfr.left hm.next) _ fun ρ1 a1 w1 hext hst1 => ?_
    exact hg rs r m ρ1 st1 a1 w1 out hst1 hr (hext.fresh_right hfr) Q fun ρ2 a2 w2 hext2 hst2 => hQ ρ2 a2 w2 (hext.trans hext2) hst2
  · rename_i h1
    refine hf rs r m ρ st a w out hst hr hfr _ fun ρ2 a2 w2 hext2 hst2 => ?_
    have hne : out.how ≠ .normal := by
      cases out with
      | norm st3 => exact absurd hr (h1 st3)
      | exit id st3 => simp [Out.how]
      | ret st3 => simp [Out.how]
    have := hQ ρ2 a2 w2 hext2 hst2
    cases he : out.how with
    | normal => exact absurd he hne
    | _ => rw [he] at this; exact this

theorem block_sound {c : Code} {id : Nat} {f : Sym.Callee → Option Nat → St → Option Out} (hf : CodeSound E C n sl c f) :
    CodeSound E C n sl (.block id c) (fun C r st => match f C r st with | some (.exit id' st) => (match Nat.beq id' id with | true => some (.norm st) | false => some (.exit id' st)) | x => x) := by
  intro rs r m ρ st a w out hst hr hfr Q hQ
  refine wpIn_block ?_
  dsimp only at hr
  split at hr
  · rename_i id' st1 h1
    rw [nbeq_eq] at hr
    by_cases he : id' = id
    · simp [he] at hr; subst hr
      refine hf rs r m ρ st a w _ hst h1 hfr _ fun ρ1 a1 w1 hext hst1 => ?_
      simp only [Out.how, Exit.inBlock, if_pos he]
      exact hQ ρ1 a1 w1 hext hst1
    · simp [he] at hr; subst hr
      refine hf rs r m ρ st a w _ hst h1 hfr _ fun ρ1 a1 w1 hext hst1 => ?_
      simp only [Out.how, Exit.inBlock, if_neg he]
      exact hQ ρ1 a1 w1 hext hst1
  · rename_i h1
    refine hf rs r m ρ st a w out hst hr hfr _ fun ρ2 a2 w2 hext2 hst2 => ?_
    have := hQ ρ2 a2 w2 hext2 hst2
    cases out with
    | norm st3 => exact this
    | exit id st3 => exact absurd hr (h1 id st3)
    | ret st3 => exact this

/-! A scope (of labels) that nothing jumps into. -/
def NoGoto (Q : Exit → Act → World → Prop) : Exit → Act → World → Prop
  | .goto _, _, _ => False
  | e, a, w => Q e a w

theorem wpIn_scope {F : Fence} {n : Nat} {P : Program} {Q : Exit → Act → World → Prop} {a : Act} {w : World} {c : Code} (h : c.wpIn F n P (NoGoto Q) a w) : (Code.scope c).wpIn F n P Q a w := by
  intro b k cs hro hb hr
  have h0 : (lone (b.atR a (.code (.scope c) :: k)) cs w).fenced P F := fenced_calm hb hr rfl
  have s1 : ∀ a k w, step P (lone (b.atR a (.code (.scope c) :: k)) cs w) = .next (lone (b.atR a (.code c :: .inScope c :: k)) cs w) := fun a k w => step_lone_go (by simp [stepG, stepG.exec, Frame.atR])
  have s2 : ∀ a k w, step P (lone (b.atR a (.inScope c :: k)) cs w) = .next (lone (b.atR a k) cs w) := fun a k w => step_lone_go (by simp [stepG, stepG.exec, Frame.atR])
  obtain ⟨e, a₁, w₁, hq, harr⟩ := h b (.inScope c :: k) cs hro hb hr
  cases e with
  | normal => exact ⟨.normal, a₁, w₁, hq, .head h0 (s1 _ _ _) (StepsIn.trans harr (.one (fenced_calm hb hr rfl) (s2 _ _ _)))⟩
  | exit id' =>
    have hx : exitTo id' (.inScope c :: k) = exitTo id' k := by simp [exitTo]
    exact ⟨.exit id', a₁, w₁, hq, fun k' hk => .head h0 (s1 _ _ _) (harr.1 k' (by rw [hx]; exact hk)),
      fun hr' hk => let ⟨k₁, h1, h2⟩ := harr.2 hr' (by rw [hx]; exact hk); ⟨k₁, h1, .head h0 (s1 _ _ _) h2⟩⟩
  | goto l => exact hq.elim
  | ret => exact ⟨_, a₁, w₁, hq, .of_steps (.one h0 (s1 _ _ _)) harr⟩
  | panic ch => exact ⟨_, a₁, w₁, hq, .of_steps (.one h0 (s1 _ _ _)) harr⟩
  | outgrown => exact ⟨_, a₁, w₁, hq, .of_steps (.one h0 (s1 _ _ _)) harr⟩

theorem scope_sound {c : Code} {f : Sym.Callee → Option Nat → St → Option Out} (hf : CodeSound E C n sl c f) : CodeSound E C n sl (.scope c) f := by
  intro rs r m ρ st a w out hst hr hfr Q hQ
  refine wpIn_scope (hf rs r m ρ st a w out hst hr hfr _ fun ρ1 a1 w1 hext hst1 => ?_)
  have := hQ ρ1 a1 w1 hext hst1
  cases out with
  | norm st3 => exact this
  | exit id st3 => exact this
  | ret st3 => exact this

theorem cond_sound {c d : Code} {x : Operand} {q : List SV → List SV → SV} {f g : Sym.Callee → Option Nat → St → Option Out} (hx : opd ⟨[], sl⟩ x = some ⟨q⟩) (hf : CodeSound E C n sl c f) (hg : CodeSound E C n sl d g) :
    CodeSound E C n sl (.cond x c d) (fun C r st => match q [] st.fr with | .bool true => f C r st | .bool false => g C r st | _ => none) := by
  intro rs r m ρ st a w out hst hr hfr Q hQ
  have hs : Slots ρ n [] sl [] st.fr a.tmps := ⟨hst.size, fun t i ht => by simp [posOf] at ht, hst.fr⟩
  have hv := opd_sound hx (hs.good x)
  dsimp only at hr
  split at hr
  · rename_i e1; rw [e1] at hv
    generalize hb : a.eval x = b at hv
    cases hv
    exact wpIn_cond_true hb (hf rs r m ρ st a w out hst hr hfr Q hQ)
  · rename_i e1; rw [e1] at hv
    generalize hb : a.eval x = b at hv
    cases hv
    exact wpIn_cond_false hb (hg rs r m ρ st a w out hst hr hfr Q hQ)
  · cases hr
end
end Go.RX
