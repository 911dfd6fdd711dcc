/- The evaluator beside what is known of some calls. -/
import Derived.Test.YtjfagagjmdddcaaGreatDoorRxSem2
set_option linter.all false
namespace Go.RX
open Sym

/-- The evaluator, where what some calls do is known. -/
noncomputable def semK (E : Env) (K : Nat → List SV → SW → Option (SV × SW)) : Nat → Sym.Callee
  | 0 => ⟨fun _ _ _ => none, fun _ _ _ => none⟩
  | d + 1 => ⟨fun f args w => match K f args w with
      | some r => some r
      | none => match compFn E f with | some ⟨g⟩ => forget w (g (semK E K d) args ⟨w.heap, w.next, w.next⟩) | none => none,
    fun l args w => roundSem E (semK E K d) l args w⟩

/-- What is known is so. -/
structure Known (E : Env) (K : Nat → List SV → SW → Option (SV × SW)) : Prop where
  name : ∀ f args S r, K f args S = some r → ∀ (vals : Array Value) w, (callFunc f vals).run E.P w = .ok (.enter f vals) w
  mono : ∀ f args S x S', K f args S = some (x, S') → Grow S S'
  call : ∀ f args S x S', K f args S = some (x, S') → ∀ ρ vals w, Ok E ρ S w → Fresh ρ S.next S'.next → VRels ρ args vals → Calls E.P f vals.toArray w (Res E ρ S w S' x)

section
variable {E : Env} {K : Nat → List SV → SW → Option (SV × SW)}

theorem semK_call {d f : Nat} {args : List SV} {S S' : SW} {x : SV} (h : (semK E K (d + 1)).call f args S = some (x, S')) :
    K f args S = some (x, S') ∨ ∃ g x1 S1, compFn E f = some ⟨g⟩ ∧ g (semK E K d) args ⟨S.heap, S.next, S.next⟩ = some (x1, S1) ∧ forget S (some (x1, S1)) = some (x, S') := by
  simp only [semK] at h
  split at h
  · rename_i y hy
    rw [← h]
    exact .inl hy
  · right
    split at h
    · rename_i g hg
      cases hr : g (semK E K d) args ⟨S.heap, S.next, S.next⟩ with
      | none => rw [hr] at h; simp [forget] at h
      | some p =>
        obtain ⟨x1, S1⟩ := p
        rw [hr] at h
        exact ⟨g, x1, S1, hg, hr, h⟩
    · cases h

theorem semK_both (hK : Known E K) : ∀ d, CalleeMono (semK E K d) ∧ CalleeSound E (semK E K d)
  | 0 => ⟨⟨fun _ _ _ _ _ h => by simp [semK] at h, fun _ _ _ _ _ h => by simp [semK] at h⟩,
      ⟨fun _ _ _ _ h => by simp [semK] at h, fun _ _ _ _ _ h => by simp [semK] at h, fun _ _ _ _ _ h => by simp [semK] at h⟩⟩
  | d + 1 => by
    obtain ⟨hM, hC⟩ := semK_both hK d
    refine ⟨⟨fun f args S x S' h => ?_, fun l args S x S' h => roundSem_mono hM h⟩, ⟨fun f args S r h vals w => ?_, fun f args S x S' h ρ vals w hok hfr hv => ?_, fun l args S x S' h ρ vals w b hok hfr hl hv => roundSem_sound hC hM h hok hfr hl hv⟩⟩
    · rcases semK_call h with h1 | ⟨g, x1, S1, h1, h2, h3⟩
      · exact hK.mono f args S x S' h1
      · exact forget_mono (compFn_sound hC hM h1 h2).1 h3
    · obtain ⟨x, S'⟩ := r
      rcases semK_call h with h1 | ⟨g, x1, S1, h1, h2, h3⟩
      · exact hK.name f args S _ h1 vals w
      · exact compFn_name h1 vals w
    · rcases semK_call h with h1 | ⟨g, x1, S1, h1, h2, h3⟩
      · exact hK.call f args S x S' h1 ρ vals w hok hfr hv
      · have hn := forget_some h3
        have hcall := (compFn_sound hC hM h1 h2).2 ρ vals w (ok_low _ hok) (by rw [← hn]; exact hfr) hv
        refine callsIn_wide.1 (CallsIn.mono (callsIn_wide.2 hcall) (n := 0) ?_)
        rintro e w' ⟨v, ρ1, rfl, hext, hx⟩
        obtain ⟨-, rfl, ρ', k1, k2⟩ := forget_sound hok hext hx h3
        exact ⟨v, ρ', rfl, k1, k2⟩

theorem semK_sound (hK : Known E K) (d : Nat) : CalleeSound E (semK E K d) := (semK_both hK d).2

theorem known_nothing (E : Env) : Known E (fun _ _ _ => none) := ⟨fun _ _ _ _ h => (by cases h), fun _ _ _ _ _ h => (by cases h), fun _ _ _ _ _ h => (by cases h)⟩
end

/-! ### Runs without memory of their own -/
/-- The world goes on: what was there stays. -/
structure On (w w' : World) : Prop where
  size : w.heap.size ≤ w'.heap.size
  os : w'.os = w.os
  tape : w'.tape = w.tape
  output : w'.output = w.output
  old : ∀ k, k < w.heap.size → w'.heap[k]? = w.heap[k]?

theorem lies_on {E : Env} {w w' : World} (h : Lies E w) (o : On w w') : Lies E w' := h.on fun b hb => o.old b (h.lt hb)

/-- What is known of numbers is so, of the numbers as they are. -/
structure NumOk (E : Env) : Prop where
  lt : ∀ a b r, E.lt a b = some r → ltb (a.val E.sig) (b.val E.sig) = r
  eq : ∀ a b r, E.eq a b = some r → eqb (a.val E.sig) (b.val E.sig) = r
  rows : ∀ a ks, E.rows a = some ks → (E.sig.row a).2.2.1 = ks.length
  pre : ∀ a e a', E.pre a e = some a' → ∃ b x sz n m : Nat, E.sig.row a = (b, x, sz, n) ∧ E.sig.row a' = (b, x, sz, m) ∧ e.val E.sig = m ∧ m ≤ n
  overs : ∀ f ∈ E.overs, OverOk E.P f

theorem empty_ok {E : Env} {w : World} (hn : NumOk E) (h : Lies E w) : Ok E (.nil E.sig) ⟨.nil, 0, 0⟩ w where
  wrel :=
    { obj := fun i x p _ h => by cases h
      inj := fun i j p q _ _ h => by cases h }
  tidy := fun i _ => by simp [SW.at, hget, Tr.get_nil]
  glob :=
    { lies := h
      apart := fun b _ i p _ h => by cases h
      num := ⟨rfl, hn.lt, hn.eq, hn.rows, hn.pre, hn.overs⟩ }

/-- A run that begins with no object: what comes back is what the evaluator says; what was there is as it was. -/
theorem run_empty {E : Env} {K : Nat → List SV → SW → Option (SV × SW)} (hK : Known E K) {d f : Nat} {args : List SV} {x : SV} {S' : SW} (h : (semK E K d).call f args ⟨.nil, 0, 0⟩ = some (x, S')) {vals : List Value} (hv : VRels (.nil E.sig) args vals) (hn : NumOk E) {w : World} (hw : Lies E w) :
    Calls E.P f vals.toArray w fun e w' => ∃ v ρ, e = .returned v ∧ EOk E ρ ∧ VRel ρ x v ∧ On w w' := by
  have := (semK_sound hK d).call f args _ _ S' h (.nil E.sig) vals w (empty_ok hn hw) (fun _ _ _ => rfl) hv
  refine callsIn_wide.1 (CallsIn.mono (callsIn_wide.2 this) (n := 0) ?_)
  rintro e w' ⟨v, ρ', rfl, hext, hv⟩
  exact ⟨v, ρ', rfl, EOk.mono ⟨rfl, hn.lt, hn.eq, hn.rows, hn.pre, hn.overs⟩ hext.le, hv, hext.size, hext.os, hext.tape, hext.output, fun k hk => hext.frame k hk fun i p _ hp => by cases hp⟩

/-- The same, of a truth value. -/
theorem run_bool {E : Env} {K : Nat → List SV → SW → Option (SV × SW)} (hK : Known E K) {d f : Nat} {args : List SV} {b : Bool} {S' : SW} (h : (semK E K d).call f args ⟨.nil, 0, 0⟩ = some (.bool b, S')) {vals : List Value} (hv : VRels (.nil E.sig) args vals) (hn : NumOk E) {w : World} (hw : Lies E w) :
    Calls E.P f vals.toArray w fun e w' => e = .returned (.bool b) ∧ On w w' := by
  refine callsIn_wide.1 (CallsIn.mono (callsIn_wide.2 (run_empty hK h hv hn hw)) (n := 0) ?_)
  rintro e w' ⟨v, ρ, rfl, -, hv, ho⟩
  cases hv
  exact ⟨rfl, ho⟩

/-- A state goes on to a world that goes on. -/
theorem ext_on {ρ : Ren} {S : SW} {w w' : World} (hw : WRel ρ S.at w) (ht : S.tidy) (o : On w w') : Ext ρ S w ρ S w' :=
  ⟨.refl ρ, fun _ _ h => .inl h, Nat.le_refl _, ht, Nat.le_refl _, fun _ _ _ => rfl, o.size, o.os, o.tape, o.output, fun b hb _ => o.old b hb, fun i p h1 h2 => .inl ⟨i, p, h1, h2, rfl⟩,
    ⟨fun i x p hi hp => by
      obtain ⟨ob, h1, h2⟩ := hw.obj i x p hi hp
      exact ⟨ob, by rw [o.old p.1 (Array.getElem?_eq_some_iff.1 h1).1]; exact h1, h2⟩, hw.inj⟩⟩

/-- A call without arguments that answers a truth value is known. -/
theorem known_bool {E : Env} {K : Nat → List SV → SW → Option (SV × SW)} {f0 : Nat} {b : Bool} (hname : ∀ (vals : Array Value) w, (callFunc f0 vals).run E.P w = .ok (.enter f0 vals) w)
    (hcall : ∀ w, Lies E w → Calls E.P f0 #[] w fun e w' => e = .returned (.bool b) ∧ On w w') (hK : Known E K) :
    Known E (fun f args S => match Nat.beq f f0, args with | true, [] => some (.bool b, S) | _, _ => K f args S) where
  name f args S x h := by
    split at h
    · rename_i hb
      have := Nat.eq_of_beq_eq_true hb
      subst this
      exact hname
    · exact hK.name f _ S x h
  mono f args S x S' h := by
    split at h
    · simp only [Option.some.injEq, Prod.mk.injEq] at h
      obtain ⟨-, rfl⟩ := h
      exact .refl _
    · exact hK.mono f _ S x S' h
  call f args S x S' h ρ vals w hok hfr hv := by
    split at h
    · rename_i hb
      have := Nat.eq_of_beq_eq_true hb
      subst this
      simp only [Option.some.injEq, Prod.mk.injEq] at h
      obtain ⟨rfl, rfl⟩ := h
      cases hv
      refine callsIn_wide.1 (CallsIn.mono (callsIn_wide.2 (hcall w hok.glob.lies)) (n := 0) ?_)
      rintro e w' ⟨rfl, o⟩
      exact ⟨_, ρ, rfl, ext_on hok.wrel hok.tidy o, .bool b⟩
    · exact hK.call f _ S x S' h ρ vals w hok hfr hv

/-- Nothing is asked where nothing is known. -/
theorem num_nothing {E : Env} (h1 : E.lt = fun _ _ => none) (h2 : E.eq = fun _ _ => none) (h3 : E.rows = fun _ => none) (h4 : E.pre = fun _ _ => none := by rfl) (h5 : ∀ f ∈ E.overs, OverOk E.P f := by intro f h; cases h) : NumOk E :=
  ⟨fun _ _ _ h => (by rw [h1] at h; cases h), fun _ _ _ h => (by rw [h2] at h; cases h), fun _ _ h => (by rw [h3] at h; cases h), fun _ _ _ h => (by rw [h4] at h; cases h), h5⟩

/-- What a kernel's run is asked. -/
def isBool (b : Bool) (r : Option (SV × SW)) : Bool := match r with
  | some (.bool c, _) => b == c
  | _ => false
theorem isBool_some {b : Bool} {r : Option (SV × SW)} (h : isBool b r = true) : ∃ S', r = some (.bool b, S') := by
  unfold isBool at h
  split at h
  · rename_i c S'
    have : b = c := by simpa using h
    subst this
    exact ⟨S', rfl⟩
  · cases h
end Go.RX
