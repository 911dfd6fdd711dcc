/- Pieces of code, run by the evaluator from a state without objects: the glue for loops that are proved by hand. -/
import Derived.Test.YtjfagagjmdddcaaGreatDoorRxLaid
set_option linter.all false
namespace Go.RX
open Sym

/-- A piece of code, compiled and run. -/
noncomputable def runCode (E : Env) (K : Nat → List SV → SW → Option (SV × SW)) (d n : Nat) (sl : List Nat) (c : Code) (st : St) : Option Out :=
  match comp E n sl c with
  | some ⟨f⟩ => f (semK E K d) none st
  | none => none

/-- The state without objects. -/
def bare (fr : List SV) : St := ⟨fr, [], ⟨.nil, 0, 0⟩⟩

section
variable {E : Env} {K : Nat → List SV → SW → Option (SV × SW)}

theorem code_step (hK : Known E K) (hn : NumOk E) {d n m : Nat} {sl : List Nat} {c : Code} {fr : List SV} {out : Out} (h : runCode E K d n sl c (bare fr) = some out)
    {a : Act} {w : World} (hs : a.tmps.size = n) (hd : a.defers = []) (hf : FRel (.nil E.sig) sl fr a.tmps) (hL : Lies E w) {Q : Exit → Act → World → Prop}
    (hQ : ∀ ρ a' w', EOk E ρ → On w w' → FRel ρ sl out.st.fr a'.tmps → a'.tmps.size = n → DRel ρ out.st.defers a'.defers → Q out.how a' w') : c.wpIn Fence.wide m E.P Q a w := by
  unfold runCode at h
  split at h
  · rename_i f hc
    have hst : StOk E n sl none none (.nil E.sig) (bare fr) a w := ⟨hs, hf, empty_ok hn hL, by rw [hd]; exact .nil, .none⟩
    have := comp_sound (semK_sound hK d) (semK_both hK d).1 c f hc none none m (.nil E.sig) (bare fr) a w out hst h (fun _ _ _ => rfl) Q fun ρ' a' w' hext hst' =>
      hQ ρ' a' w' hst'.ok.num ⟨hext.size, hext.os, hext.tape, hext.output, fun k hk => hext.frame k hk fun i p _ hp => by cases hp⟩ hst'.fr hst'.size hst'.defers
    exact this
  · cases h

/-- A slot's value, off what is known of the frame. -/
theorem FRel.at {ρ : Ren} {sl : List Nat} {fr : List SV} {tmps : Array Value} (h : FRel ρ sl fr tmps) {t i : Nat} (ht : posOf t sl = some i) : VRel ρ (nthV .unknown fr i) (tmps.getD t undef) := h t i ht

/-- A frame of which each known slot is as it is said. -/
theorem FRel.of {ρ : Ren} {tmps : Array Value} : ∀ {sl : List Nat} {fr : List SV}, sl.length = fr.length → (∀ (i : Nat) (t : Nat) (x : SV), sl[i]? = some t → fr[i]? = some x → VRel ρ x (tmps.getD t undef)) → FRel ρ sl fr tmps := fun {sl fr} hl h t i ht => by
  have h1 := posOf_some ht
  rw [nthV_eq]
  cases hx : fr[i]? with
  | none => exact .unknown _
  | some x => exact h i t x h1 hx

theorem VRel.int_inv {ρ : Ren} {k : IntKind} {n : Int} {v : Value} (h : VRel ρ (.int k n) v) : v = .int k n := by cases h; rfl
theorem VRel.sint_inv {ρ : Ren} {k : IntKind} {e : IE} {v : Value} (h : VRel ρ (.sint k e) v) : v = .int k (e.val ρ.sig) := by cases h; rfl
theorem VRel.bool_inv {ρ : Ren} {b : Bool} {v : Value} (h : VRel ρ (.bool b) v) : v = .bool b := by cases h; rfl
theorem VRel.row_inv {ρ : Ren} {a : Nat} {v : Value} (h : VRel ρ (.row a) v) : ∃ b x sz n cap, ρ.sig.row a = (b, x, sz, n) ∧ v = .slice (some ⟨b, x, none⟩) n cap ∧ n ≤ cap := by
  cases h with
  | row h hc => exact ⟨_, _, _, _, _, h, rfl, hc⟩
end

/-! ### Facts -/
mutual
def IE.same : IE → IE → Bool
  | .var i, .var j => Nat.beq i j
  | .lit a, .lit b => eqb a b
  | .len a, .len b => Nat.beq a b
  | .sel a i c, .sel a' i' c' => match Nat.beq a a', Nat.beq c c' with | true, true => IE.same i i' | _, _ => false
  | .bin op k a b, .bin op' k' a' b' => match decide (op = op'), kindEq k k' with | true, true => (match IE.same a a' with | true => IE.same b b' | false => false) | _, _ => false
  | .conv k a, .conv k' a' => match kindEq k k' with | true => IE.same a a' | false => false
  | .neg k a, .neg k' a' => match kindEq k k' with | true => IE.same a a' | false => false
  | .max a b, .max a' b' => match IE.same a a' with | true => IE.same b b' | false => false
  | .min a b, .min a' b' => match IE.same a a' with | true => IE.same b b' | false => false
  | .fn f l, .fn f' l' => match Nat.beq f f' with | true => IE.sames l l' | false => false
  | _, _ => false
def IE.sames : List IE → List IE → Bool
  | [], [] => true
  | a :: l, a' :: l' => match IE.same a a' with | true => IE.sames l l' | false => false
  | _, _ => false
end

mutual
theorem IE.same_eq : ∀ {a b : IE}, IE.same a b = true → a = b
  | .var i, b, h => by cases b <;> simp [IE.same] at h; exact congrArg _ h
  | .lit x, b, h => by cases b <;> simp [IE.same, eqb_eq] at h; exact congrArg _ h
  | .len i, b, h => by cases b <;> simp [IE.same] at h; exact congrArg _ h
  | .sel a i c, b, h => by
    cases b <;> simp only [IE.same] at h <;> first | (cases h; done) | skip
    split at h
    · rename_i h1 h2
      have e1 := Nat.eq_of_beq_eq_true h1
      have e2 := Nat.eq_of_beq_eq_true h2
      have e3 := IE.same_eq h
      subst e1; subst e2; subst e3; rfl
    · cases h
  | .bin op k x y, b, h => by
    cases b <;> simp only [IE.same] at h <;> first | (cases h; done) | skip
    split at h
    · rename_i h1 h2
      split at h
      · rename_i h3
        have e1 := of_decide_eq_true h1
        rw [kindEq_eq] at h2
        have e2 := of_decide_eq_true h2
        have e3 := IE.same_eq h3
        have e4 := IE.same_eq h
        subst e1; subst e2; subst e3; subst e4; rfl
      · cases h
    · cases h
  | .conv k x, b, h => by
    cases b <;> simp only [IE.same] at h <;> first | (cases h; done) | skip
    split at h
    · rename_i h2
      rw [kindEq_eq] at h2
      have e2 := of_decide_eq_true h2
      have e3 := IE.same_eq h
      subst e2; subst e3; rfl
    · cases h
  | .neg k x, b, h => by
    cases b <;> simp only [IE.same] at h <;> first | (cases h; done) | skip
    split at h
    · rename_i h2
      rw [kindEq_eq] at h2
      have e2 := of_decide_eq_true h2
      have e3 := IE.same_eq h
      subst e2; subst e3; rfl
    · cases h
  | .max x y, b, h => by
    cases b <;> simp only [IE.same] at h <;> first | (cases h; done) | skip
    split at h
    · rename_i h3
      have e3 := IE.same_eq h3
      have e4 := IE.same_eq h
      subst e3; subst e4; rfl
    · cases h
  | .min x y, b, h => by
    cases b <;> simp only [IE.same] at h <;> first | (cases h; done) | skip
    split at h
    · rename_i h3
      have e3 := IE.same_eq h3
      have e4 := IE.same_eq h
      subst e3; subst e4; rfl
    · cases h
  | .fn f l, b, h => by
    cases b <;> simp only [IE.same] at h <;> first | (cases h; done) | skip
    split at h
    · rename_i h1
      have e1 := Nat.eq_of_beq_eq_true h1
      have e3 := IE.sames_eq h
      subst e1; subst e3; rfl
    · cases h
theorem IE.sames_eq : ∀ {l l' : List IE}, IE.sames l l' = true → l = l'
  | [], l', h => by cases l' <;> simp [IE.sames] at h; rfl
  | a :: l, l', h => by
    cases l' <;> simp only [IE.sames] at h <;> first | (cases h; done) | skip
    split at h
    · rename_i h3
      rw [IE.same_eq h3, IE.sames_eq h]
    · cases h
end

/-- Facts: is the first number less than the second? are they one? -/
structure Fact where
  isLt : Bool
  a : IE
  b : IE
  yes : Bool

def Fact.holds (σ : Sig) (f : Fact) : Prop := match f.isLt with
  | true => (IE.val σ f.a < IE.val σ f.b) ↔ f.yes = true
  | false => (IE.val σ f.a = IE.val σ f.b) ↔ f.yes = true

def findFact (isLt : Bool) (a b : IE) : List Fact → Option Bool
  | [] => none
  | f :: fs => match f.isLt == isLt with
    | false => findFact isLt a b fs
    | true => match IE.same f.a a with
      | false => findFact isLt a b fs
      | true => match IE.same f.b b with
        | false => findFact isLt a b fs
        | true => some f.yes

def factLt (F : List Fact) (a b : IE) : Option Bool :=
  match a, b with
  | .lit x, .lit y => some (ltb x y)
  | a, b => findFact true a b F

def factEq (F : List Fact) (a b : IE) : Option Bool :=
  match a, b with
  | .lit x, .lit y => some (eqb x y)
  | a, b => findFact false a b F

theorem findFact_some {isLt : Bool} {a b : IE} {r : Bool} : ∀ {F : List Fact}, findFact isLt a b F = some r → ∃ f ∈ F, f.isLt = isLt ∧ f.a = a ∧ f.b = b ∧ f.yes = r
  | [], h => by simp [findFact] at h
  | f :: fs, h => by
    simp only [findFact] at h
    split at h
    · obtain ⟨g, h1, h2⟩ := findFact_some h; exact ⟨g, List.mem_cons_of_mem _ h1, h2⟩
    · rename_i hi
      split at h
      · obtain ⟨g, h1, h2⟩ := findFact_some h; exact ⟨g, List.mem_cons_of_mem _ h1, h2⟩
      · rename_i ha
        split at h
        · obtain ⟨g, h1, h2⟩ := findFact_some h; exact ⟨g, List.mem_cons_of_mem _ h1, h2⟩
        · rename_i hb
          simp only [Option.some.injEq] at h
          exact ⟨f, by simp, by simpa using hi, IE.same_eq ha, IE.same_eq hb, h⟩

theorem fact_num {E : Env} {F : List Fact} (h1 : E.lt = factLt F) (h2 : E.eq = factEq F) (hF : ∀ f ∈ F, f.holds E.sig) (hr : ∀ a ks, E.rows a = some ks → (E.sig.row a).2.2.1 = ks.length) (hp : ∀ a e a', E.pre a e = some a' → ∃ b x sz n m : Nat, E.sig.row a = (b, x, sz, n) ∧ E.sig.row a' = (b, x, sz, m) ∧ e.val E.sig = m ∧ m ≤ n := by intro _ _ _ h; cases h) (ho : ∀ f ∈ E.overs, OverOk E.P f := by intro f h; cases h) : NumOk E where
  lt a b r h := by
    rw [h1] at h
    unfold factLt at h
    split at h
    · simp only [Option.some.injEq] at h; simpa [IE.val] using h
    · obtain ⟨f, hf, e1, rfl, rfl, rfl⟩ := findFact_some h
      have := hF f hf
      unfold Fact.holds at this
      rw [e1] at this
      rw [ltb_eq]
      cases hy : f.yes with
      | true => exact decide_eq_true (this.2 hy)
      | false => exact decide_eq_false fun hh => by have := this.1 hh; rw [hy] at this; cases this
  eq a b r h := by
    rw [h2] at h
    unfold factEq at h
    split at h
    · simp only [Option.some.injEq] at h; simpa [IE.val] using h
    · obtain ⟨f, hf, e1, rfl, rfl, rfl⟩ := findFact_some h
      have := hF f hf
      unfold Fact.holds at this
      rw [e1] at this
      rw [eqb_eq]
      cases hy : f.yes with
      | true => exact decide_eq_true (this.2 hy)
      | false => exact decide_eq_false fun hh => by have := this.1 hh; rw [hy] at this; cases this
  rows := hr
  pre := hp
  overs := ho
end Go.RX
