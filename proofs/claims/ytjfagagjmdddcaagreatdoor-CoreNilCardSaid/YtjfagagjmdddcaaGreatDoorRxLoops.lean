/- Pieces of code with numbers in known slots: what is asked before, what is so after. -/
import Derived.Test.YtjfagagjmdddcaaGreatDoorRxSteps
set_option linter.all false
namespace Go.RX
open Sym

/-- A slot holds: a number; the row with number zero. -/
def wantOk : Option IE → SV → Bool
  | some e, .int k m => (match kindEq k .i64 with | true => IE.same e (.lit m) | false => false)
  | some e, .sint k e' => (match kindEq k .i64 with | true => IE.same e e' | false => false)
  | none, .row a => Nat.beq a 0
  | _, _ => false

def wantIs (σ : Sig) (o : Option IE) (v : Value) : Prop := match o with
  | some e => v = .int .i64 (e.val σ)
  | none => ∃ cap, v = .slice (some ⟨(σ.row 0).1, (σ.row 0).2.1, none⟩) (σ.row 0).2.2.2 cap ∧ (σ.row 0).2.2.2 ≤ cap

theorem wantOk_is {ρ : Ren} {o : Option IE} {x : SV} {v : Value} (h : wantOk o x = true) (hx : VRel ρ x v) : wantIs ρ.sig o v := by
  unfold wantOk at h
  split at h
  · split at h
    · rename_i e k m hk
      rw [kindEq_eq] at hk
      have := of_decide_eq_true hk
      subst this
      have := IE.same_eq h
      subst this
      have := hx.int_inv
      subst this
      simp [wantIs, IE.val]
    · cases h
  · split at h
    · rename_i e k e' hk
      rw [kindEq_eq] at hk
      have := of_decide_eq_true hk
      subst this
      have := IE.same_eq h
      subst this
      have := hx.sint_inv
      subst this
      simp [wantIs]
    · cases h
  · rename_i a
    have := Nat.eq_of_beq_eq_true h
    subst this
    obtain ⟨b, x, sz, n, cap, h1, rfl, hc⟩ := hx.row_inv
    simp only [wantIs, h1]
    exact ⟨cap, rfl, hc⟩
  · cases h

noncomputable def wantsOk (sl : List Nat) (fr : List SV) : List (Nat × Option IE) → Bool
  | [] => true
  | p :: l => match posOf p.1 sl with
    | some i => (match wantOk p.2 (nthV .unknown fr i) with | true => wantsOk sl fr l | false => false)
    | none => false

def Slotted (σ : Sig) (l : List (Nat × Option IE)) (a : Act) : Prop := ∀ p ∈ l, wantIs σ p.2 (a.tmps.getD p.1 undef)

theorem wantsOk_holds {ρ : Ren} {sl : List Nat} {fr : List SV} {a : Act} (hf : FRel ρ sl fr a.tmps) : ∀ {l : List (Nat × Option IE)}, wantsOk sl fr l = true → Slotted ρ.sig l a
  | [], _, p, hp => by simp at hp
  | q :: l, h, p, hp => by
    simp only [wantsOk] at h
    split at h
    · rename_i i hi
      split at h
      · rename_i hw
        rcases List.mem_cons.1 hp with rfl | hp
        · exact wantOk_is hw (FRel.at hf hi)
        · exact wantsOk_holds hf h p hp
      · cases h
    · cases h

/-- The frame in which these slots hold these. -/
def frIn : List Nat → List (Nat × Option IE) → List SV
  | [], _ => []
  | t :: sl, l => fslot t l :: frIn sl l
where fslot (t : Nat) : List (Nat × Option IE) → SV
  | [] => .unknown
  | p :: l => match Nat.beq p.1 t with
    | true => (match p.2 with | some e => .sint .i64 e | none => .row 0)
    | false => fslot t l

theorem fslot_rel {σ : Sig} {a : Act} {t : Nat} : ∀ {l : List (Nat × Option IE)}, Slotted σ l a → VRel (.nil σ) (frIn.fslot t l) (a.tmps.getD t undef)
  | [], _ => .unknown _
  | p :: l, h => by
    simp only [frIn.fslot]
    split
    · rename_i hb
      have := Nat.eq_of_beq_eq_true hb
      have hp := h p (by simp)
      rw [this] at hp
      split
      · rename_i e he
        rw [he] at hp
        simp only [wantIs] at hp
        rw [hp]
        exact VRel.sint (ρ := .nil σ) .i64 e
      · rename_i he
        rw [he] at hp
        obtain ⟨cap, hp, hc⟩ := hp
        rw [hp]
        exact .row (sz := (σ.row 0).2.2.1) (by simp [Ren.nil]) hc
    · exact fslot_rel fun q hq => h q (List.mem_cons_of_mem _ hq)

theorem frIn_get {l : List (Nat × Option IE)} : ∀ {sl : List Nat} {i t : Nat}, sl[i]? = some t → (frIn sl l)[i]? = some (frIn.fslot t l)
  | [], i, t, h => by simp at h
  | s :: sl, 0, t, h => by simp at h; subst h; simp [frIn]
  | s :: sl, i + 1, t, h => by simp only [frIn, List.getElem?_cons_succ] at h ⊢; exact frIn_get h

theorem frIn_rel {σ : Sig} {a : Act} {l : List (Nat × Option IE)} {sl : List Nat} (h : Slotted σ l a) : FRel (.nil σ) sl (frIn sl l) a.tmps := fun t i ht => by
  rw [nthV_eq, frIn_get (posOf_some ht)]
  exact fslot_rel h

def howOf : Nat → Exit
  | 0 => .normal
  | 1 => .ret
  | i + 2 => .exit i

def noDefers (st : St) : Bool := match st.defers with | [] => true | _ => false
theorem noDefers_eq {st : St} (h : noDefers st = true) : st.defers = [] := by
  unfold noDefers at h
  split at h
  · assumption
  · cases h

/-- A piece of code ended so. -/
noncomputable def outOk (how : Nat) (sl : List Nat) (l : List (Nat × Option IE)) : Option Out → Bool
  | some (.norm st) => (match Nat.beq how 0, noDefers st with | true, true => wantsOk sl st.fr l | _, _ => false)
  | some (.ret st) => (match Nat.beq how 1, noDefers st with | true, true => wantsOk sl st.fr l | _, _ => false)
  | some (.exit i st) => (match Nat.beq how (i + 2), noDefers st with | true, true => wantsOk sl st.fr l | _, _ => false)
  | none => false

theorem outOk_some {how : Nat} {sl : List Nat} {l : List (Nat × Option IE)} {o : Option Out} (h : outOk how sl l o = true) : ∃ out, o = some out ∧ out.how = howOf how ∧ out.st.defers = [] ∧ wantsOk sl out.st.fr l = true := by
  unfold outOk at h
  split at h
  · split at h
    · rename_i st h1 h2
      have := Nat.eq_of_beq_eq_true h1
      subst this
      exact ⟨_, rfl, rfl, noDefers_eq h2, h⟩
    · cases h
  · split at h
    · rename_i st h1 h2
      have := Nat.eq_of_beq_eq_true h1
      subst this
      exact ⟨_, rfl, rfl, noDefers_eq h2, h⟩
    · cases h
  · split at h
    · rename_i i st h1 h2
      have := Nat.eq_of_beq_eq_true h1
      subst this
      exact ⟨_, rfl, rfl, noDefers_eq h2, h⟩
    · cases h
  · cases h

section
variable {E : Env} {K : Nat → List SV → SW → Option (SV × SW)}

theorem piece_step (hK : Known E K) (hn : NumOk E) {d n m how : Nat} {sl : List Nat} {c : Code} {l0 l1 : List (Nat × Option IE)} (h : outOk how sl l1 (runCode E K d n sl c (bare (frIn sl l0))) = true)
    {a : Act} {w : World} (hs : a.tmps.size = n) (hd : a.defers = []) (h0 : Slotted E.sig l0 a) (hL : Lies E w) {Q : Exit → Act → World → Prop}
    (hQ : ∀ a' w', On w w' → Slotted E.sig l1 a' → a'.tmps.size = n → a'.defers = [] → Q (howOf how) a' w') : c.wpIn Fence.wide m E.P Q a w := by
  obtain ⟨out, ho, hhow, hdef, hw⟩ := outOk_some h
  refine code_step hK hn ho hs hd (frIn_rel h0) hL fun ρ a' w' he ho' hf hsz hdr => ?_
  rw [hdef] at hdr
  rw [hhow]
  have hd' : a'.defers = [] := by
    generalize a'.defers = z at hdr
    cases hdr
    rfl
  refine hQ a' w' ho' ?_ hsz hd'
  have := wantsOk_holds hf hw
  rw [he.sig] at this
  exact this

/-- What a function hands back. -/
noncomputable def resRun (E : Env) (sl : List Nat) (rs : List ResultVar) (fr : List SV) : Option (SV × SW) := match resK E sl rs with
  | some ⟨g⟩ => leave g (bare fr)
  | none => none

def isPair (x y : IE) : Option (SV × SW) → Bool
  | some (.tuple [a, b], _) => (match wantOk (some x) a with | true => wantOk (some y) b | false => false)
  | _ => false
theorem isPair_some {x y : IE} {r : Option (SV × SW)} (h : isPair x y r = true) : ∃ a b S, r = some (.tuple [a, b], S) ∧ wantOk (some x) a = true ∧ wantOk (some y) b = true := by
  unfold isPair at h
  split at h
  · split at h
    · rename_i h1
      exact ⟨_, _, _, rfl, h1, h⟩
    · cases h
  · cases h

theorem pair_leaves (hn : NumOk E) {n m : Nat} {sl : List Nat} {fn : Func} {l0 : List (Nat × Option IE)} {x y : IE} (h : isPair x y (resRun E sl fn.results.toList (frIn sl l0)) = true)
    {a : Act} {w : World} (hs : a.tmps.size = n) (hd : a.defers = []) (h0 : Slotted E.sig l0 a) (hL : Lies E w) {R : Ending → World → Prop}
    (hR : ∀ w', On w w' → R (.returned (.tuple #[.int .i64 (x.val E.sig), .int .i64 (y.val E.sig)])) w') : LeavesInM Fence.wide m E.P fn a.tmps R a.defers .returning w := by
  obtain ⟨u, v, S, hr, h1, h2⟩ := isPair_some h
  unfold resRun at hr
  split at hr
  · rename_i g hg
    have hst : StOk E n sl none none (.nil E.sig) (bare (frIn sl l0)) a w := ⟨hs, frIn_rel h0, empty_ok hn hL, by rw [hd]; exact .nil, .none⟩
    refine leave_sound hg hst hr fun z w' hext hz => ?_
    cases hz with
    | tuple hz =>
      cases hz with
      | cons k1 k2 =>
        cases k2 with
        | cons k2 k3 =>
          cases k3
          have e1 := wantOk_is h1 k1
          have e2 := wantOk_is h2 k2
          simp only [wantIs, Ren.nil] at e1 e2
          subst e1; subst e2
          exact hR w' ⟨hext.size, hext.os, hext.tape, hext.output, fun k hk => hext.frame k hk fun i p _ hp => by cases hp⟩
  · cases hr

/-- A function, begun. -/
theorem begun {f : Nat} {fn : Func} {body : Code} {args : Array Value} {w : World} {R : Ending → World → Prop} (hf : E.P.funcs[f]? = some fn) (hb : fn.body = some body) (hk : args.size ≤ fn.ntmps)
    (h : ∀ a, a.tmps.size = fn.ntmps → a.defers = [] → (∀ i, i < args.size → a.tmps.getD i undef = args.getD i undef) → body.wpIn Fence.wide 0 E.P (bodyPostM Fence.wide 0 E.P fn R) a w) : Calls E.P f args w R := by
  refine callsIn_wide.1 (callsIn_of_wp_marks (n := 0) hf hb trivial (h _ (by simp; omega) rfl fun i hi => ?_))
  simp only [Array.getD_eq_getD_getElem?]
  rw [Array.getElem?_append_left hi]
end

theorem IE.vals_map {σ : Sig} : ∀ (l : List IE), IE.vals σ l = l.map (IE.val σ)
  | [] => rfl
  | e :: l => by simp [IE.vals, IE.vals_map l]

def iesOf : List SV → Option (List IE)
  | [] => some []
  | x :: l => match x with
    | .sint k e => (match kindEq k .i64, iesOf l with | true, some es => some (e :: es) | _, _ => none)
    | _ => none

theorem iesOf_rel {ρ : Ren} : ∀ {l : List SV} {es : List IE} {us : List Value}, iesOf l = some es → VRels ρ l us → us = (es.map (IE.val ρ.sig)).map (Value.int .i64)
  | [], es, us, h, hv => by simp only [iesOf, Option.some.injEq] at h; subst h; cases hv; rfl
  | x :: l, es, us, h, hv => by
    cases hv with
    | cons h1 h2 =>
      simp only [iesOf] at h
      split at h
      · rename_i k e
        split at h
        · rename_i es' hk hes
          rw [kindEq_eq] at hk
          have := of_decide_eq_true hk
          subst this
          simp only [Option.some.injEq] at h
          subst h
          rw [iesOf_rel hes h2, h1.sint_inv]
          rfl
        · cases h
      · cases h
end Go.RX
