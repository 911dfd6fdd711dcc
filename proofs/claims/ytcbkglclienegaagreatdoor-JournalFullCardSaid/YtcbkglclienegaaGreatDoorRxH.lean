import Derived.Test.YtcbkglclienegaaGreatDoorRxG
import Derived.ProofKit
import Derived.OpenShut
import Derived.Lay
import Derived.LaidMore
import Derived.Stop.Joined
import GoSem.ClaimGoes
set_option linter.all false
/- From a run to a law's statement: the call answers true, and what was there stays. -/
namespace Go.RX
open Go.ChangeShapes Go.WideShapes Go.ChangeAt Go.RowKit

theorem On.below {w w' : World} (h : On w w') : Below w.heap.size w w' := ⟨h.os, h.tape, h.output, h.size, h.old⟩
theorem On.refl (w : World) : On w w := ⟨Nat.le_refl _, rfl, rfl, rfl, fun _ _ => rfl⟩
theorem On.trans {a b c : World} (h : On a b) (k : On b c) : On a c :=
  ⟨Nat.le_trans h.size k.size, k.os.trans h.os, k.tape.trans h.tape, k.output.trans h.output, fun i hi => (k.old i (Nat.lt_of_lt_of_le hi h.size)).trans (h.old i hi)⟩

theorem trodAll_below {H : Type} {enc : TypeId × Value → H} {P : Program} (hl : laidOutB P = true) {W W' : World} (hb : Below W.heap.size W W') :
    ∀ {ts : List TypeId} {vs : List Value} {ds : List (DataW H)} {ps : List MemPlace}, ts.all (fun t => P.readableRec t && decide (t < P.types.size)) = true → DataW.TrodAll enc P W 0 (fun _ => true) true ts vs ds ps → (∀ x ∈ ps, x.block < W.heap.size) →
      DataW.TrodAll enc P W' 0 (fun b => decide (b < W.heap.size)) true ts vs ds ps
  | [], vs, ds, ps, _, h, _ => by
    obtain ⟨rfl, rfl, rfl⟩ := trodAll_nil h
    exact rfl
  | t :: ts, vs, ds, ps, hr, h, hlt => by
    obtain ⟨v, vs', d, ds', p, q, rfl, rfl, rfl, h1, h2⟩ := trodAll_cons h
    simp only [List.all_cons, Bool.and_eq_true, decide_eq_true_eq] at hr
    exact trodAll_cons_mk (Below.trod hl hr.1.1 hr.1.2 h1 hb fun x hx => hlt x (List.mem_append.2 (.inl hx)))
      (trodAll_below hl hb (by simpa using hr.2) h2 fun x hx => hlt x (List.mem_append.2 (.inr hx)))

theorem law_post {H : Type} {enc : TypeId × Value → H} {P : Program} {f : Func} {s : ChangeSpec} {apart fresh : Bool} {W W' : World} {args : Array Value} {ds gs : List (DataW H)} {before : List MemPlace} {tb : TypeId}
    (hl : laidOutB P = true) (hvars : s.vars = []) (hres : f.resultTypes = #[tb]) (hb : P.underlying tb = some .bool) (hread : f.params.toList.all (fun t => P.readableRec t && decide (t < P.types.size)) = true)
    (hW : DataW.Whole enc P f.params.toList s.vars apart W args.toList ds gs before) (hs : s.fn H (ds ++ gs) = { results := [.lit (.bool true)], args := ds }) (ho : On W W') :
    s.post enc P f apart fresh false false W args (.bool true) W' := by
  have hW' := hW
  obtain ⟨p, q, hA, hV, rfl, hfz, hnd⟩ := hW
  rw [hvars] at hV
  obtain ⟨rfl, rfl⟩ := trodVars_none hV
  have hlt : ∀ x ∈ p, x.block < W.heap.size := fun x hx => hW'.lt x (by simpa using hx)
  refine ⟨ds, [], p ++ [], [], p, [], hW', ?_, ?_, ?_, ho.below.frame _, fun h => by cases h⟩
  · rw [hs, hres]
    exact trodAll_mk1 (shut_bool hb true)
  · rw [hs]
    exact trodAll_below hl ho.below hread hA hlt
  · rw [hs, hvars]
    rfl
end Go.RX

/- What a listed variable's datum says of its cells: numbers, truth values, texts, and arrays and structs of these. -/
namespace Go.RX
open Go.ChangeShapes Go.WideShapes Go.ChangeAt Go.RowKit
section
variable {H : Type}

def flatAll (P : Program) (flat : TypeId → DataW H → Option (List Value)) : Nat → List (Nat × TypeId) → List (DataW H) → Option (List Value)
  | _, [], [] => some []
  | pos, (off, t) :: ps, d :: ds =>
    match Nat.beq off pos, flat t d with
    | true, some l => (match Nat.beq l.length (P.cellsOf t) with
      | true => (match flatAll P flat (pos + l.length) ps ds with
        | some r => some (l ++ r)
        | none => none)
      | false => none)
    | _, _ => none
  | _, _, _ => none

def whole (P : Program) (t : TypeId) (l : Option (List Value)) : Option (List Value) :=
  match l with
  | some l => (match Nat.beq l.length (P.cellsOf t) with | true => some l | false => none)
  | none => none

def flat (P : Program) : Nat → TypeId → DataW H → Option (List Value)
  | 0, _, _ => none
  | f + 1, t, d =>
    match P.underlying t with
    | some (.int k) => (match d with | .lit (.int k' n) => (if k' = k then some [.int k n] else none) | _ => none)
    | some .string => (match d with | .lit (.string bs) => some [.string ⟨bs.toArray⟩] | _ => none)
    | some .bool => (match d with | .lit (.bool b) => some [.bool b] | _ => none)
    | some (.array n e) => (match d with | .agg ds => whole P t (flatAll P (flat P f) 0 ((List.range n).map fun i => (i * P.cellsOf e, e)) ds) | _ => none)
    | some (.struct fs) => (match d with | .agg ds => whole P t (flatAll P (flat P f) 0 (fs.toList.map fun x => (x.offset, x.type)) ds) | _ => none)
    | _ => none

theorem flatAll_sound {P : Program} {fl : TypeId → DataW H → Option (List Value)} {cs : List Value} : ∀ {ps : List (Nat × TypeId)} {ds : List (DataW H)} {pos : Nat} {l : List Value}, flatAll P fl pos ps ds = some l →
    (∀ (i off : Nat) (t : TypeId) (d : DataW H) (r : List Value), ps[i]? = some (off, t) → ds[i]? = some d → fl t d = some r → (cs.drop off).take (P.cellsOf t) = r) → (cs.drop pos).take l.length = l
  | [], [], pos, l, h, _ => by
    simp only [flatAll, Option.some.injEq] at h; subst h
    simp
  | [], _ :: _, _, _, h, _ => by simp [flatAll] at h
  | _ :: _, [], _, _, h, _ => by simp [flatAll] at h
  | (off, t) :: ps, d :: ds, pos, l, h, hc => by
    simp only [flatAll] at h
    split at h
    · rename_i r hb hr
      have hb := Nat.eq_of_beq_eq_true hb
      subst hb
      split at h
      · rename_i hlen
        have hlen := Nat.eq_of_beq_eq_true hlen
        split at h
        · rename_i r2 h2
          simp only [Option.some.injEq] at h; subst h
          have h3 := flatAll_sound h2 (fun i off' t' d' r' e1 e2 e3 => hc (i + 1) off' t' d' r' (by simpa using e1) (by simpa using e2) e3)
          have h4 := hc 0 off t d r rfl rfl hr
          rw [← hlen] at h4
          rw [List.length_append, List.take_add, h4, List.drop_drop, h3]
        · cases h
      · cases h
    · cases h

theorem whole_some {P : Program} {t : TypeId} {x : Option (List Value)} {l : List Value} (h : whole P t x = some l) : x = some l ∧ l.length = P.cellsOf t := by
  unfold whole at h
  split at h
  · split at h
    · rename_i hb
      simp only [Option.some.injEq] at h; subst h
      exact ⟨rfl, Nat.eq_of_beq_eq_true hb⟩
    · cases h
  · cases h

theorem flat_sound {enc : TypeId × Value → H} {P : Program} {w : World} {base : Nat} {sp : Nat → Bool} {held : Bool} : ∀ {f fuel : Nat} {t : TypeId} {cs : List Value} {d : DataW H} {p : List MemPlace} {l : List Value},
    DataW.trod enc P w base sp held fuel t cs = some (d, p) → flat P f t d = some l → cs = l
  | 0, _, _, _, _, _, _, _, h => by simp [flat] at h
  | f + 1, fuel, t, cs, d, p, l, ht, h => by
    unfold flat at h
    split at h
    · rename_i k hk
      obtain ⟨n, rfl, hx, -⟩ := DataW.trod_int hk ht
      simp only [Prod.mk.injEq] at hx
      obtain ⟨rfl, -⟩ := hx
      simp at h
      exact h
    · rename_i hk
      obtain ⟨s, rfl, hx, -⟩ := DataW.trod_string hk ht
      simp only [Prod.mk.injEq] at hx
      obtain ⟨rfl, -⟩ := hx
      simp at h
      exact h
    · rename_i hk
      split at h
      · simp only [Option.some.injEq] at h; subst h
        cases fuel with
        | zero => simp [DataW.trod] at ht
        | succ n =>
          unfold DataW.trod at ht
          rw [hk] at ht
          split at ht <;> simp_all
      · cases h
    · rename_i n e hk
      obtain ⟨xs, m, rfl, hx, hlen, hn, hel⟩ := DataW.trod_array hk ht
      simp only [Prod.mk.injEq] at hx
      obtain ⟨rfl, -⟩ := hx
      simp only at h
      obtain ⟨h1, h2⟩ := whole_some h
      have h3 := flatAll_sound (cs := cs) h1 (fun i off t' d' r e1 e2 e3 => by
        rw [List.getElem?_map, Option.map_eq_some_iff] at e1 e2
        obtain ⟨i', hi', e1⟩ := e1
        have hin : i < n := by
          have := (List.getElem?_eq_some_iff.1 hi').1
          simpa using this
        have : i' = i := by
          rw [List.getElem?_range hin] at hi'
          simpa using hi'.symm
        subst this
        simp only [Prod.mk.injEq] at e1
        obtain ⟨rfl, rfl⟩ := e1
        obtain ⟨x, hx1, hx2⟩ := e2
        have := hel i' hin
        rw [hx1] at this
        obtain ⟨d0, p0⟩ := x
        simp only at hx2; subst hx2
        exact flat_sound this e3)
      have : l.length = cs.length := by omega
      rw [this] at h3
      simpa using h3
    · rename_i fs hk
      obtain ⟨xs, m, rfl, hx, hlen, hn, hel⟩ := DataW.trod_struct hk ht
      simp only [Prod.mk.injEq] at hx
      obtain ⟨rfl, -⟩ := hx
      simp only at h
      obtain ⟨h1, h2⟩ := whole_some h
      have h3 := flatAll_sound (cs := cs) h1 (fun i off t' d' r e1 e2 e3 => by
        rw [List.getElem?_map, Option.map_eq_some_iff] at e1 e2
        obtain ⟨fd, hfd, e1⟩ := e1
        simp only [Prod.mk.injEq] at e1
        obtain ⟨rfl, rfl⟩ := e1
        obtain ⟨x, hx1, hx2⟩ := e2
        have := hel i fd (by simpa using hfd)
        rw [hx1] at this
        obtain ⟨d0, p0⟩ := x
        simp only at hx2; subst hx2
        exact flat_sound this e3)
      have : l.length = cs.length := by omega
      rw [this] at h3
      simpa using h3
    · cases h
end

/-- A listed variable's cells, off the list. -/
theorem laid_cells {P : Program} {W : World} : ∀ {l : List (String × DataW Unit)} {n : Nat} {s : String} {d : DataW Unit} {ps : List MemPlace}, DataW.LaidVars P W l ps → l[n]? = some (s, d) →
    ∀ (g : Nat) (t : TypeId) (f : Nat) (vs : List Value), P.globalNamed s = some g → (P.globals[g]?).map (·.type) = some t → flat P f t d = some vs →
    ∃ (arr : Array Value) (el : TypeId) (fz : Nat × Nat), W.heap[g]? = some (.cells arr el fz) ∧ ∀ (k : Nat) (x : Value), vs[k]? = some x → arr[k]? = some x
  | [], n, s, d, ps, _, h => by intros; simp at h
  | (n0, d0) :: r, n, s, d, ps, hL, h => by
    intro g t f vs hg ht hf
    obtain ⟨g0, t0, cs, fuel, p, q, hg0, ht0, hv, hd, hr, -⟩ := hL
    cases n with
    | zero =>
      simp only [List.getElem?_cons_zero, Option.some.injEq, Prod.mk.injEq] at h
      obtain ⟨rfl, rfl⟩ := h
      rw [hg] at hg0; cases hg0
      rw [ht] at ht0; cases ht0
      have hcs := flat_sound hd hf
      simp only [World.var?, hg, Option.bind_some] at hv
      split at hv
      · rename_i c el fz hb
        simp only [Option.some.injEq] at hv; subst hv
        exact ⟨c, el, fz, hb, fun k x hx => by rw [← hcs] at hx; simpa using hx⟩
      · cases hv
    | succ n => exact laid_cells hr (by simpa using h) g t f vs hg ht hf

/-- Cells that are numbers, truth values and texts are what the evaluator takes them for. -/
theorem cells_known {ρ : Ren} {vs : List Value} {xs : List SV} (h : Sym.ofValues vs = some xs) {arr : Array Value} (ha : ∀ (k : Nat) (x : Value), vs[k]? = some x → arr[k]? = some x) :
    ∀ (k : Nat) (x : SV), xs[k]? = some x → ∃ v, arr[k]? = some v ∧ VRel ρ x v := fun k x hx => by
  obtain ⟨v, h1, h2⟩ := (ofValues_sound (ρ := ρ) vs h).get hx
  exact ⟨v, ha k v h1, h2⟩
end Go.RX

/- No function of the program starts a goroutine: then no call does. -/
namespace Go.RX

theorem goes_false {P : Program} (h : P.funcs.any Func.goes = false) (f : FuncId) : P.goes f = false := by
  have one : ∀ g : Nat, (P.funcs[g]?).any Func.goes = false := fun g => by
    cases e : P.funcs[g]? with
    | none => rfl
    | some fn =>
      simp only [Option.any_some]
      cases hg : fn.goes with
      | false => rfl
      | true =>
        exfalso
        have hm : fn ∈ P.funcs := Array.mem_of_getElem? e
        have : P.funcs.any Func.goes = true := Array.any_eq_true'.2 ⟨fn, hm, hg⟩
        rw [h] at this; cases this
  unfold Program.goes
  rw [h, Bool.and_false, Bool.or_false]
  rw [List.any_eq_false]
  intro g _
  simp [one g]

theorem goesBy_false {c : OpenClaim} {P : Program} (hs : c.start = .entering) (h : P.funcs.any Func.goes = false) : false = c.goesBy P := by
  unfold OpenClaim.goesBy Program.goesAt Program.goesFrom
  rw [hs]
  cases e : P.funcNamed c.func with
  | none => rfl
  | some f => simp [goes_false h f]
end Go.RX

/- Pieces of code, run by the evaluator from a state without objects: the glue for loops that are proved by hand. -/
namespace Go.RX
open Sym

/-- A piece of code, compiled and run. -/
noncomputable def runCode (E : Env) (K : Nat → List SV → SW → Option (SV × SW)) (d n : Nat) (sl : List Nat) (c : Code) (st : St) : Option Out :=
  match comp E n sl c with
  | some ⟨f⟩ => f (semK E K d) none st
  | none => none

/-- The state without objects. -/
def bare (fr : List SV) : St := ⟨fr, [], ⟨.nil, 0, 0⟩⟩

section
variable {E : Env} {K : Nat → List SV → SW → Option (SV × SW)}

theorem code_step (hK : Known E K) (hn : NumOk E) {d n m : Nat} {sl : List Nat} {c : Code} {fr : List SV} {out : Out} (h : runCode E K d n sl c (bare fr) = some out)
    {a : Act} {w : World} (hs : a.tmps.size = n) (hd : a.defers = []) (hf : FRel (.nil E.sig) sl fr a.tmps) (hL : Lies E w) {Q : Exit → Act → World → Prop}
    (hQ : ∀ ρ a' w', EOk E ρ → On w w' → FRel ρ sl out.st.fr a'.tmps → a'.tmps.size = n → DRel ρ [] out.st.defers a'.defers → Q out.how a' w') : c.wpIn Fence.wide m E.P Q a w := by
  unfold runCode at h
  split at h
  · rename_i f hc
    have hst : StOk E n sl none none [] (.nil E.sig) (bare fr) a w := ⟨hs, hf, empty_ok hn hL, by rw [hd]; exact .nil, .none⟩
    have := comp_sound (semK_sound hK d) (semK_both hK d).1 c f hc none none [] m (.nil E.sig) (bare fr) a w out hst h (fun _ _ _ => rfl) Q fun ρ' a' w' hext hst' =>
      hQ ρ' a' w' hst'.ok.num ⟨hext.size, hext.os, hext.tape, hext.output, fun k hk => hext.frame k hk fun i p _ hp => by cases hp⟩ hst'.fr hst'.size hst'.defers
    exact this
  · cases h

/-- A slot's value, off what is known of the frame. -/
theorem FRel.at {ρ : Ren} {sl : List Nat} {fr : List SV} {tmps : Array Value} (h : FRel ρ sl fr tmps) {t i : Nat} (ht : posOf t sl = some i) : VRel ρ (nthV .unknown fr i) (tmps.getD t undef) := h t i ht

/-- A frame of which each known slot is as it is said. -/
theorem FRel.of {ρ : Ren} {tmps : Array Value} : ∀ {sl : List Nat} {fr : List SV}, sl.length = fr.length → (∀ (i : Nat) (t : Nat) (x : SV), sl[i]? = some t → fr[i]? = some x → VRel ρ x (tmps.getD t undef)) → FRel ρ sl fr tmps := fun {sl fr} hl h t i ht => by
  have h1 := posOf_some ht
  rw [nthV_eq]
  cases hx : fr[i]? with
  | none => exact .unknown _
  | some x => exact h i t x h1 hx

theorem VRel.int_inv {ρ : Ren} {k : IntKind} {n : Int} {v : Value} (h : VRel ρ (.int k n) v) : v = .int k n := by cases h; rfl
theorem VRel.sint_inv {ρ : Ren} {k : IntKind} {e : IE} {v : Value} (h : VRel ρ (.sint k e) v) : v = .int k (e.val ρ.sig) := by cases h; rfl
theorem VRel.bool_inv {ρ : Ren} {b : Bool} {v : Value} (h : VRel ρ (.bool b) v) : v = .bool b := by cases h; rfl
/-- What a row is. -/
def RowIs (σ : Sig) (a : Nat) (v : Value) : Prop := (∃ cap, v = .slice (some ⟨(σ.row a).1, (σ.row a).2.1, none⟩) (σ.row a).2.2.2 cap ∧ (σ.row a).2.2.2 ≤ cap) ∨ ((σ.row a).2.2.2 = 0 ∧ ∃ p, v = .slice (some p) 0 0)
theorem VRel.row_inv {ρ : Ren} {a : Nat} {v : Value} (h : VRel ρ (.row a) v) : RowIs ρ.sig a v := by
  cases h with
  | row h hc => exact .inl ⟨_, by rw [h], by rw [h]; exact hc⟩
  | rowE h => exact .inr ⟨by rw [h], _, rfl⟩
theorem RowIs.rel {ρ : Ren} {a : Nat} {v : Value} (h : RowIs ρ.sig a v) : VRel ρ (.row a) v := by
  rcases h with ⟨cap, rfl, hc⟩ | ⟨h0, p, rfl⟩
  · exact .row (b := (ρ.sig.row a).1) (x := (ρ.sig.row a).2.1) (sz := (ρ.sig.row a).2.2.1) rfl hc
  · exact .rowE (b := (ρ.sig.row a).1) (x := (ρ.sig.row a).2.1) (sz := (ρ.sig.row a).2.2.1) (by rw [← h0])
end

/-! ### Facts -/
/-- Facts: is the first number less than the second? are they one? -/
structure Fact where
  isLt : Bool
  a : IE
  b : IE
  yes : Bool

def Fact.holds (σ : Sig) (f : Fact) : Prop := match f.isLt with
  | true => (IE.val σ f.a < IE.val σ f.b) ↔ f.yes = true
  | false => (IE.val σ f.a = IE.val σ f.b) ↔ f.yes = true

def findFact (isLt : Bool) (a b : IE) : List Fact → Option Bool
  | [] => none
  | f :: fs => match f.isLt == isLt with
    | false => findFact isLt a b fs
    | true => match IE.same f.a a with
      | false => findFact isLt a b fs
      | true => match IE.same f.b b with
        | false => findFact isLt a b fs
        | true => some f.yes

def factLt (F : List Fact) (a b : IE) : Option Bool :=
  match a, b with
  | .lit x, .lit y => some (ltb x y)
  | a, b => findFact true a b F

def factEq (F : List Fact) (a b : IE) : Option Bool :=
  match a, b with
  | .lit x, .lit y => some (eqb x y)
  | a, b => findFact false a b F

theorem findFact_some {isLt : Bool} {a b : IE} {r : Bool} : ∀ {F : List Fact}, findFact isLt a b F = some r → ∃ f ∈ F, f.isLt = isLt ∧ f.a = a ∧ f.b = b ∧ f.yes = r
  | [], h => by simp [findFact] at h
  | f :: fs, h => by
    simp only [findFact] at h
    split at h
    · obtain ⟨g, h1, h2⟩ := findFact_some h; exact ⟨g, List.mem_cons_of_mem _ h1, h2⟩
    · rename_i hi
      split at h
      · obtain ⟨g, h1, h2⟩ := findFact_some h; exact ⟨g, List.mem_cons_of_mem _ h1, h2⟩
      · rename_i ha
        split at h
        · obtain ⟨g, h1, h2⟩ := findFact_some h; exact ⟨g, List.mem_cons_of_mem _ h1, h2⟩
        · rename_i hb
          simp only [Option.some.injEq] at h
          exact ⟨f, by simp, by simpa using hi, IE.same_eq ha, IE.same_eq hb, h⟩

theorem fact_num {E : Env} {F : List Fact} (h1 : E.lt = factLt F) (h2 : E.eq = factEq F) (hF : ∀ f ∈ F, f.holds E.sig) (hr : ∀ a ks, E.rows a = some ks → (E.sig.row a).2.2.1 = ks.length) (hp : ∀ a e a', E.pre a e = some a' → ∃ b x sz n m : Nat, E.sig.row a = (b, x, sz, n) ∧ E.sig.row a' = (b, x, sz, m) ∧ e.val E.sig = m ∧ m ≤ n := by intro _ _ _ h; cases h) (ho : ∀ f ∈ E.overs, OverOk E.P f := by intro f h; cases h) (hi : ∀ f ∈ E.idxs, IdxOk E.P f := by intro f h; cases h) (hsm : ∀ f ∈ E.sames, SameOk E.P f := by intro f h; cases h) (hmz : ∀ f t, assocN f E.mkzs = some t → MkzOk E.P f t := by intro f t h; cases h) (hce : CellsOk E := by exact cellsOk_none rfl rfl rfl rfl rfl) : NumOk E where
  cells := hce.cells
  str := hce.str
  bool := hce.bool
  maps := hce.maps
  lt a b r h := by
    rw [h1] at h
    unfold factLt at h
    split at h
    · simp only [Option.some.injEq] at h; simpa [IE.val] using h
    · obtain ⟨f, hf, e1, rfl, rfl, rfl⟩ := findFact_some h
      have := hF f hf
      unfold Fact.holds at this
      rw [e1] at this
      rw [ltb_eq]
      cases hy : f.yes with
      | true => exact decide_eq_true (this.2 hy)
      | false => exact decide_eq_false fun hh => by have := this.1 hh; rw [hy] at this; cases this
  eq a b r h := by
    rw [h2] at h
    unfold factEq at h
    split at h
    · simp only [Option.some.injEq] at h; simpa [IE.val] using h
    · obtain ⟨f, hf, e1, rfl, rfl, rfl⟩ := findFact_some h
      have := hF f hf
      unfold Fact.holds at this
      rw [e1] at this
      rw [eqb_eq]
      cases hy : f.yes with
      | true => exact decide_eq_true (this.2 hy)
      | false => exact decide_eq_false fun hh => by have := this.1 hh; rw [hy] at this; cases this
  rows := hr
  pre := hp
  overs := ho
  idxs := hi
  sames := hsm
  mkzs := hmz
end Go.RX

/- Pieces of code with numbers in known slots: what is asked before, what is so after. -/
namespace Go.RX
open Sym

/-- A slot holds: a number; the row with number zero. -/
def wantOk : Option IE → SV → Bool
  | some e, .int k m => (match kindEq k .i64 with | true => IE.same e (.lit m) | false => false)
  | some e, .sint k e' => (match kindEq k .i64 with | true => IE.same e e' | false => false)
  | none, .row a => Nat.beq a 0
  | _, _ => false

def wantIs (σ : Sig) (o : Option IE) (v : Value) : Prop := match o with
  | some e => v = .int .i64 (e.val σ)
  | none => RowIs σ 0 v

theorem wantOk_is {ρ : Ren} {o : Option IE} {x : SV} {v : Value} (h : wantOk o x = true) (hx : VRel ρ x v) : wantIs ρ.sig o v := by
  unfold wantOk at h
  split at h
  · split at h
    · rename_i e k m hk
      rw [kindEq_eq] at hk
      have := of_decide_eq_true hk
      subst this
      have := IE.same_eq h
      subst this
      have := hx.int_inv
      subst this
      simp [wantIs, IE.val]
    · cases h
  · split at h
    · rename_i e k e' hk
      rw [kindEq_eq] at hk
      have := of_decide_eq_true hk
      subst this
      have := IE.same_eq h
      subst this
      have := hx.sint_inv
      subst this
      simp [wantIs]
    · cases h
  · rename_i a
    have := Nat.eq_of_beq_eq_true h
    subst this
    exact hx.row_inv
  · cases h

noncomputable def wantsOk (sl : List Nat) (fr : List SV) : List (Nat × Option IE) → Bool
  | [] => true
  | p :: l => match posOf p.1 sl with
    | some i => (match wantOk p.2 (nthV .unknown fr i) with | true => wantsOk sl fr l | false => false)
    | none => false

def Slotted (σ : Sig) (l : List (Nat × Option IE)) (a : Act) : Prop := ∀ p ∈ l, wantIs σ p.2 (a.tmps.getD p.1 undef)

theorem wantsOk_holds {ρ : Ren} {sl : List Nat} {fr : List SV} {a : Act} (hf : FRel ρ sl fr a.tmps) : ∀ {l : List (Nat × Option IE)}, wantsOk sl fr l = true → Slotted ρ.sig l a
  | [], _, p, hp => by simp at hp
  | q :: l, h, p, hp => by
    simp only [wantsOk] at h
    split at h
    · rename_i i hi
      split at h
      · rename_i hw
        rcases List.mem_cons.1 hp with rfl | hp
        · exact wantOk_is hw (FRel.at hf hi)
        · exact wantsOk_holds hf h p hp
      · cases h
    · cases h

/-- The frame in which these slots hold these. -/
def frIn : List Nat → List (Nat × Option IE) → List SV
  | [], _ => []
  | t :: sl, l => fslot t l :: frIn sl l
where fslot (t : Nat) : List (Nat × Option IE) → SV
  | [] => .unknown
  | p :: l => match Nat.beq p.1 t with
    | true => (match p.2 with | some e => .sint .i64 e | none => .row 0)
    | false => fslot t l

theorem fslot_rel {σ : Sig} {a : Act} {t : Nat} : ∀ {l : List (Nat × Option IE)}, Slotted σ l a → VRel (.nil σ) (frIn.fslot t l) (a.tmps.getD t undef)
  | [], _ => .unknown _
  | p :: l, h => by
    simp only [frIn.fslot]
    split
    · rename_i hb
      have := Nat.eq_of_beq_eq_true hb
      have hp := h p (by simp)
      rw [this] at hp
      split
      · rename_i e he
        rw [he] at hp
        simp only [wantIs] at hp
        rw [hp]
        exact VRel.sint (ρ := .nil σ) .i64 e
      · rename_i he
        rw [he] at hp
        exact RowIs.rel (ρ := .nil σ) hp
    · exact fslot_rel fun q hq => h q (List.mem_cons_of_mem _ hq)

theorem frIn_get {l : List (Nat × Option IE)} : ∀ {sl : List Nat} {i t : Nat}, sl[i]? = some t → (frIn sl l)[i]? = some (frIn.fslot t l)
  | [], i, t, h => by simp at h
  | s :: sl, 0, t, h => by simp at h; subst h; simp [frIn]
  | s :: sl, i + 1, t, h => by simp only [frIn, List.getElem?_cons_succ] at h ⊢; exact frIn_get h

theorem frIn_rel {σ : Sig} {a : Act} {l : List (Nat × Option IE)} {sl : List Nat} (h : Slotted σ l a) : FRel (.nil σ) sl (frIn sl l) a.tmps := fun t i ht => by
  rw [nthV_eq, frIn_get (posOf_some ht)]
  exact fslot_rel h

def howOf : Nat → Exit
  | 0 => .normal
  | 1 => .ret
  | i + 2 => .exit i

def noDefers (st : St) : Bool := match st.defers with | [] => true | _ => false
theorem noDefers_eq {st : St} (h : noDefers st = true) : st.defers = [] := by
  unfold noDefers at h
  split at h
  · assumption
  · cases h

/-- A piece of code ended so. -/
noncomputable def outOk (how : Nat) (sl : List Nat) (l : List (Nat × Option IE)) : Option Out → Bool
  | some (.norm st) => (match Nat.beq how 0, noDefers st with | true, true => wantsOk sl st.fr l | _, _ => false)
  | some (.ret st) => (match Nat.beq how 1, noDefers st with | true, true => wantsOk sl st.fr l | _, _ => false)
  | some (.exit i st) => (match Nat.beq how (i + 2), noDefers st with | true, true => wantsOk sl st.fr l | _, _ => false)
  | none => false

theorem outOk_some {how : Nat} {sl : List Nat} {l : List (Nat × Option IE)} {o : Option Out} (h : outOk how sl l o = true) : ∃ out, o = some out ∧ out.how = howOf how ∧ out.st.defers = [] ∧ wantsOk sl out.st.fr l = true := by
  unfold outOk at h
  split at h
  · split at h
    · rename_i st h1 h2
      have := Nat.eq_of_beq_eq_true h1
      subst this
      exact ⟨_, rfl, rfl, noDefers_eq h2, h⟩
    · cases h
  · split at h
    · rename_i st h1 h2
      have := Nat.eq_of_beq_eq_true h1
      subst this
      exact ⟨_, rfl, rfl, noDefers_eq h2, h⟩
    · cases h
  · split at h
    · rename_i i st h1 h2
      have := Nat.eq_of_beq_eq_true h1
      subst this
      exact ⟨_, rfl, rfl, noDefers_eq h2, h⟩
    · cases h
  · cases h

section
variable {E : Env} {K : Nat → List SV → SW → Option (SV × SW)}

theorem piece_step (hK : Known E K) (hn : NumOk E) {d n m how : Nat} {sl : List Nat} {c : Code} {l0 l1 : List (Nat × Option IE)} (h : outOk how sl l1 (runCode E K d n sl c (bare (frIn sl l0))) = true)
    {a : Act} {w : World} (hs : a.tmps.size = n) (hd : a.defers = []) (h0 : Slotted E.sig l0 a) (hL : Lies E w) {Q : Exit → Act → World → Prop}
    (hQ : ∀ a' w', On w w' → Slotted E.sig l1 a' → a'.tmps.size = n → a'.defers = [] → Q (howOf how) a' w') : c.wpIn Fence.wide m E.P Q a w := by
  obtain ⟨out, ho, hhow, hdef, hw⟩ := outOk_some h
  refine code_step hK hn ho hs hd (frIn_rel h0) hL fun ρ a' w' he ho' hf hsz hdr => ?_
  rw [hdef] at hdr
  rw [hhow]
  have hd' : a'.defers = [] := by
    generalize a'.defers = z at hdr
    cases hdr
    rfl
  refine hQ a' w' ho' ?_ hsz hd'
  have := wantsOk_holds hf hw
  rw [he.sig] at this
  exact this

/-- What a function hands back. -/
noncomputable def resRun (E : Env) (sl : List Nat) (rs : List ResultVar) (fr : List SV) : Option (SV × SW) := match resK E sl rs with
  | some ⟨g⟩ => leave g (bare fr)
  | none => none

def isPair (x y : IE) : Option (SV × SW) → Bool
  | some (.tuple [a, b], _) => (match wantOk (some x) a with | true => wantOk (some y) b | false => false)
  | _ => false
theorem isPair_some {x y : IE} {r : Option (SV × SW)} (h : isPair x y r = true) : ∃ a b S, r = some (.tuple [a, b], S) ∧ wantOk (some x) a = true ∧ wantOk (some y) b = true := by
  unfold isPair at h
  split at h
  · split at h
    · rename_i h1
      exact ⟨_, _, _, rfl, h1, h⟩
    · cases h
  · cases h

theorem pair_leaves (hn : NumOk E) {n m : Nat} {sl : List Nat} {fn : Func} {l0 : List (Nat × Option IE)} {x y : IE} (h : isPair x y (resRun E sl fn.results.toList (frIn sl l0)) = true)
    {a : Act} {w : World} (hs : a.tmps.size = n) (hd : a.defers = []) (h0 : Slotted E.sig l0 a) (hL : Lies E w) {R : Ending → World → Prop}
    (hR : ∀ w', On w w' → R (.returned (.tuple #[.int .i64 (x.val E.sig), .int .i64 (y.val E.sig)])) w') : LeavesInM Fence.wide m E.P fn a.tmps R a.defers .returning w := by
  obtain ⟨u, v, S, hr, h1, h2⟩ := isPair_some h
  unfold resRun at hr
  split at hr
  · rename_i g hg
    have hst : StOk E n sl none none [] (.nil E.sig) (bare (frIn sl l0)) a w := ⟨hs, frIn_rel h0, empty_ok hn hL, by rw [hd]; exact .nil, .none⟩
    refine leave_sound hg hst hr fun z w' hext hz => ?_
    cases hz with
    | tuple hz =>
      cases hz with
      | cons k1 k2 =>
        cases k2 with
        | cons k2 k3 =>
          cases k3
          have e1 := wantOk_is h1 k1
          have e2 := wantOk_is h2 k2
          simp only [wantIs, Ren.nil] at e1 e2
          subst e1; subst e2
          exact hR w' ⟨hext.size, hext.os, hext.tape, hext.output, fun k hk => hext.frame k hk fun i p _ hp => by cases hp⟩
  · cases hr

/-- A function, begun. -/
theorem begun {f : Nat} {fn : Func} {body : Code} {args : Array Value} {w : World} {R : Ending → World → Prop} (hf : E.P.funcs[f]? = some fn) (hb : fn.body = some body) (hk : args.size ≤ fn.ntmps)
    (h : ∀ a, a.tmps.size = fn.ntmps → a.defers = [] → (∀ i, i < args.size → a.tmps.getD i undef = args.getD i undef) → body.wpIn Fence.wide 0 E.P (bodyPostM Fence.wide 0 E.P fn R) a w) : Calls E.P f args w R := by
  refine callsIn_wide.1 (callsIn_of_wp_marks (n := 0) hf hb trivial (h _ (by simp; omega) rfl fun i hi => ?_))
  simp only [Array.getD_eq_getD_getElem?]
  rw [Array.getElem?_append_left hi]
end

theorem IE.vals_map {σ : Sig} : ∀ (l : List IE), IE.vals σ l = l.map (IE.val σ)
  | [] => rfl
  | e :: l => by simp [IE.vals, IE.vals_map l]

def iesOf : List SV → Option (List IE)
  | [] => some []
  | x :: l => match x with
    | .sint k e => (match kindEq k .i64, iesOf l with | true, some es => some (e :: es) | _, _ => none)
    | _ => none

theorem iesOf_rel {ρ : Ren} : ∀ {l : List SV} {es : List IE} {us : List Value}, iesOf l = some es → VRels ρ l us → us = (es.map (IE.val ρ.sig)).map (Value.int .i64)
  | [], es, us, h, hv => by simp only [iesOf, Option.some.injEq] at h; subst h; cases hv; rfl
  | x :: l, es, us, h, hv => by
    cases hv with
    | cons h1 h2 =>
      simp only [iesOf] at h
      split at h
      · rename_i k e
        split at h
        · rename_i es' hk hes
          rw [kindEq_eq] at hk
          have := of_decide_eq_true hk
          subst this
          simp only [Option.some.injEq] at h
          subst h
          rw [iesOf_rel hes h2, h1.sint_inv]
          rfl
        · cases h
      · cases h
/-- Nothing is placed from the next number on. -/
def Ahead (ρ : Ren) (S : SW) : Prop := ∀ i, S.next ≤ i → ρ i = none
theorem Ahead.fresh {ρ : Ren} {S : SW} (h : Ahead ρ S) (n : Nat) : Fresh ρ S.next n := fun i h1 _ => h i h1
theorem Ahead.ext {ρ ρ' : Ren} {S S' : SW} {w w' : World} (h : Ahead ρ S) (e : Ext ρ S w ρ' S' w') : Ahead ρ' S' := fun i hi => by
  cases hx : ρ' i with
  | none => rfl
  | some p =>
    rcases e.fresh i p hx with h1 | ⟨_, h2⟩
    · rw [h i (Nat.le_trans e.next hi)] at h1; cases h1
    · omega
def isSV (x : SV) : Option (SV × SW) → Bool
  | some (y, _) => svEq y x
  | none => false

end Go.RX

/- Numbers between bounds: what is less than what, off their intervals. -/
namespace Go.RX
open Sym

def lowOf : IntKind → Int
  | .i8 => -128 | .i16 => -32768 | .i32 => -2147483648 | .i64 => -9223372036854775808
  | _ => 0
def highOf : IntKind → Int
  | .i8 => 127 | .i16 => 32767 | .i32 => 2147483647 | .i64 => 9223372036854775807
  | .u8 => 255 | .u16 => 65535 | .u32 => 4294967295 | .u64 => 18446744073709551615
theorem wrap_fits {k : IntKind} {z : Int} (h1 : lowOf k ≤ z) (h2 : z ≤ highOf k) : k.wrap z = z := by
  cases k <;> simp only [lowOf, highOf, IntKind.wrap, IntKind.bits, IntKind.signed] at * <;> simp <;> omega

noncomputable def leb (a b : Int) : Bool := match ltb b a with | true => false | false => true
theorem leb_le {a b : Int} (h : leb a b = true) : a ≤ b := by
  unfold leb at h
  split at h
  · cases h
  · rename_i h1
    rw [ltb_eq] at h1
    have := of_decide_eq_false h1
    omega
theorem ltb_lt {a b : Int} (h : ltb a b = true) : a < b := by
  rw [ltb_eq] at h
  exact of_decide_eq_true h

noncomputable def fitR (k : IntKind) (l h : Int) : Option (Int × Int) := match leb (lowOf k) l, leb h (highOf k) with
  | true, true => some (l, h)
  | _, _ => none
theorem fitR_some {k : IntKind} {l h : Int} {r : Int × Int} (e : fitR k l h = some r) {z : Int} (h1 : l ≤ z) (h2 : z ≤ h) : k.wrap z = z ∧ r.1 ≤ z ∧ z ≤ r.2 := by
  unfold fitR at e
  split at e
  · rename_i g1 g2
    simp only [Option.some.injEq] at e
    subst e
    have g1 := leb_le g1
    have g2 := leb_le g2
    exact ⟨wrap_fits (by omega) (by omega), h1, h2⟩
  · cases e

noncomputable def opRng (op : BinOp) (k : IntKind) (x y : Int × Int) : Option (Int × Int) := match op with
  | .add => fitR k (Int.add x.1 y.1) (Int.add x.2 y.2)
  | .sub => fitR k (Int.sub x.1 y.2) (Int.sub x.2 y.1)
  | .mul => (match leb 0 x.1, leb 0 y.1 with | true, true => fitR k (Int.mul x.1 y.1) (Int.mul x.2 y.2) | _, _ => none)
  | .rem => (match leb 0 x.1, ltb 0 y.1 with | true, true => fitR k 0 (Int.sub y.2 1) | _, _ => none)
  | _ => none

theorem opRng_some {op : BinOp} {k : IntKind} {x y r : Int × Int} (h : opRng op k x y = some r) {a b : Int} (h1 : x.1 ≤ a) (h2 : a ≤ x.2) (h3 : y.1 ≤ b) (h4 : b ≤ y.2) : r.1 ≤ opVal op k a b ∧ opVal op k a b ≤ r.2 := by
  cases op <;> simp only [opRng] at h <;> first | (cases h; done) | skip
  · have hs := fitR_some h (z := a + b) (show x.1 + y.1 ≤ a + b by omega) (show a + b ≤ x.2 + y.2 by omega)
    rw [opVal_int (op := .add) (k := k) (x := a) (y := b) (n := a + b) (by simp) (by simp) (by simp only [Sym.intOp]; rw [wrapped_eq, show Int.add a b = a + b from rfl, hs.1])]
    exact hs.2
  · have hs := fitR_some h (z := a - b) (show x.1 - y.2 ≤ a - b by omega) (show a - b ≤ x.2 - y.1 by omega)
    rw [opVal_int (op := .sub) (k := k) (x := a) (y := b) (n := a - b) (by simp) (by simp) (by simp only [Sym.intOp]; rw [wrapped_eq, show Int.sub a b = a - b from rfl, hs.1])]
    exact hs.2
  · split at h
    · rename_i g1 g2
      have g1 := leb_le g1
      have g2 := leb_le g2
      have hs := fitR_some h (z := a * b) (show x.1 * y.1 ≤ a * b from Int.mul_le_mul h1 h3 g2 (by omega)) (show a * b ≤ x.2 * y.2 from Int.mul_le_mul h2 h4 (by omega) (by omega))
      rw [opVal_int (op := .mul) (k := k) (x := a) (y := b) (n := a * b) (by simp) (by simp) (by simp only [Sym.intOp]; rw [wrapped_eq, show Int.mul a b = a * b from rfl, hs.1])]
      exact hs.2
    · cases h
  · split at h
    · rename_i g1 g2
      have g1 := leb_le g1
      have g2 := ltb_lt g2
      have e1 : a.tmod b = a % b := Int.tmod_eq_emod_of_nonneg (by omega)
      have e2 : 0 ≤ a % b := Int.emod_nonneg _ (by omega)
      have e3 : a % b < b := Int.emod_lt_of_pos _ (by omega)
      have hs := fitR_some h (z := a % b) e2 (show a % b ≤ y.2 - 1 by omega)
      have hb : eqb b (Int.ofNat 0) = false := by rw [eqb_eq]; exact decide_eq_false (by simp; omega)
      rw [opVal_int (op := .rem) (k := k) (x := a) (y := b) (n := a % b) (by simp) (by simp) (by simp only [Sym.intOp, hb]; rw [int_eq, e1])]
      exact hs.2
    · cases h

noncomputable def maxI (a b : Int) : Int := match ltb a b with | true => b | false => a
noncomputable def minI (a b : Int) : Int := match ltb b a with | true => b | false => a
theorem maxI_eq (a b : Int) : maxI a b = if a < b then b else a := by unfold maxI; rw [ltb_eq]; by_cases h : a < b <;> simp [h]
theorem minI_eq (a b : Int) : minI a b = if b < a then b else a := by unfold minI; rw [ltb_eq]; by_cases h : b < a <;> simp [h]

/-- Is the first at most the second, by their shapes alone? -/
noncomputable def leP : Nat → IE → IE → Bool
  | 0, _, _ => false
  | n + 1, a, b => match IE.same a b with
    | true => true
    | false => match a with
      | .max x y => (match leP n x b with | true => leP n y b | false => false)
      | a => match b with
        | .min x y => (match leP n a x with | true => leP n a y | false => false)
        | b => match (match b with | .max x y => (match leP n a x with | true => true | false => leP n a y) | _ => false) with
          | true => true
          | false => match a with
            | .min x y => (match leP n x b with | true => true | false => leP n y b)
            | _ => false
theorem leP_val {σ : Sig} : ∀ {n : Nat} {a b : IE}, leP n a b = true → a.val σ ≤ b.val σ
  | 0, _, _, h => by simp [leP] at h
  | n + 1, a, b, h => by
    have ih : ∀ {a b : IE}, leP n a b = true → a.val σ ≤ b.val σ := fun h => leP_val h
    have hmax : ∀ x y : IE, (IE.max x y).val σ = if x.val σ < y.val σ then y.val σ else x.val σ := fun _ _ => rfl
    have hmin : ∀ x y : IE, (IE.min x y).val σ = if y.val σ < x.val σ then y.val σ else x.val σ := fun _ _ => rfl
    simp only [leP] at h
    split at h
    · rename_i hs
      rw [IE.same_eq hs]
      exact Int.le_refl _
    · split at h
      · split at h
        · rename_i g
          have g := ih g
          have h := ih h
          rw [hmax]
          split <;> omega
        · cases h
      · split at h
        · split at h
          · rename_i g
            have g := ih g
            have h := ih h
            rw [hmin]
            split <;> omega
          · cases h
        · split at h
          · rename_i g
            split at g
            · split at g
              · next hh =>
                have hh := ih hh
                rw [hmax]
                split <;> omega
              · have g := ih g
                rw [hmax]
                split <;> omega
            · cases g
          · split at h
            · split at h
              · next hh =>
                have hh := ih hh
                rw [hmin]
                split <;> omega
              · have h := ih h
                rw [hmin]
                split <;> omega
            · cases h

/-- A difference that is, by its shape, not below 0. -/
noncomputable def subRng (k : IntKind) (a b : IE) (x y : Int × Int) : Option (Int × Int) := match leP 16 b a with
  | true => fitR k (maxI 0 (Int.sub x.1 y.2)) (Int.sub x.2 y.1)
  | false => opRng .sub k x y

/-- The interval of a number; of a base it is given. -/
noncomputable def rng (B : IE → Option (Int × Int)) : IE → Option (Int × Int)
  | .lit n => some (n, n)
  | .bin op k a b => (match rng B a, rng B b with | some x, some y => (match op with | .sub => subRng k a b x y | op => opRng op k x y) | _, _ => none)
  | .conv k a => (match rng B a with | some x => fitR k x.1 x.2 | none => none)
  | .neg _ _ => none
  | .max a b => (match rng B a, rng B b with | some x, some y => some (maxI x.1 y.1, maxI x.2 y.2) | _, _ => none)
  | .min a b => (match rng B a, rng B b with | some x, some y => some (minI x.1 y.1, minI x.2 y.2) | _, _ => none)
  | e => B e

/-- The bases lie so. -/
def Based (σ : Sig) (B : IE → Option (Int × Int)) : Prop := ∀ e r, B e = some r → r.1 ≤ e.val σ ∧ e.val σ ≤ r.2

theorem rng_some {σ : Sig} {B : IE → Option (Int × Int)} (hB : Based σ B) : ∀ {e : IE} {r : Int × Int}, rng B e = some r → r.1 ≤ e.val σ ∧ e.val σ ≤ r.2
  | .lit n, r, h => by simp only [rng, Option.some.injEq] at h; subst h; simp [IE.val]
  | .var i, r, h => hB _ _ h
  | .len i, r, h => hB _ _ h
  | .sel a i c, r, h => hB _ _ h
  | .fn f l, r, h => hB _ _ h
  | .neg k a, r, h => by simp [rng] at h
  | .bin op k a b, r, h => by
    simp only [rng] at h
    split at h
    · rename_i x y hx hy
      have hx := rng_some hB hx
      have hy := rng_some hB hy
      simp only [IE.val]
      split at h
      · unfold subRng at h
        split at h
        · rename_i g
          have g := leP_val (σ := σ) g
          have e0 : Int.sub x.1 y.2 = x.1 - y.2 := rfl
          rw [e0, maxI_eq] at h
          have hs := fitR_some h (z := a.val σ - b.val σ) (by split <;> omega) (show a.val σ - b.val σ ≤ x.2 - y.1 by omega)
          rw [opVal_int (op := .sub) (k := k) (x := a.val σ) (y := b.val σ) (n := a.val σ - b.val σ) (by simp) (by simp) (by simp only [Sym.intOp]; rw [wrapped_eq, show Int.sub (a.val σ) (b.val σ) = a.val σ - b.val σ from rfl, hs.1])]
          exact hs.2
        · exact opRng_some h hx.1 hx.2 hy.1 hy.2
      · exact opRng_some h hx.1 hx.2 hy.1 hy.2
    · cases h
  | .conv k a, r, h => by
    simp only [rng] at h
    split at h
    · rename_i x hx
      have hx := rng_some hB hx
      have := fitR_some h hx.1 hx.2
      simp only [IE.val]
      rw [this.1]
      exact this.2
    · cases h
  | .max a b, r, h => by
    simp only [rng] at h
    split at h
    · rename_i x y hx hy
      have hx := rng_some hB hx
      have hy := rng_some hB hy
      simp only [Option.some.injEq] at h
      subst h
      simp only [IE.val, maxI_eq]
      repeat' split
      all_goals omega
    · cases h
  | .min a b, r, h => by
    simp only [rng] at h
    split at h
    · rename_i x y hx hy
      have hx := rng_some hB hx
      have hy := rng_some hB hy
      simp only [Option.some.injEq] at h
      subst h
      simp only [IE.val, minI_eq]
      repeat' split
      all_goals omega
    · cases h

/-- What is less, off intervals; else off facts. -/
noncomputable def rngLt (B : IE → Option (Int × Int)) (F : List Fact) (a b : IE) : Option Bool := match rng B a, rng B b with
  | some x, some y => (match ltb x.2 y.1, leb y.2 x.1 with | true, _ => some true | _, true => some false | _, _ => factLt F a b)
  | _, _ => factLt F a b
noncomputable def rngEq (B : IE → Option (Int × Int)) (F : List Fact) (a b : IE) : Option Bool := match IE.same a b with
  | true => some true
  | false => match rng B a, rng B b with
    | some x, some y => (match ltb x.2 y.1, ltb y.2 x.1 with | true, _ => some false | _, true => some false | _, _ => factEq F a b)
    | _, _ => factEq F a b

theorem rng_num {E : Env} {B : IE → Option (Int × Int)} {F : List Fact} (h1 : E.lt = rngLt B F) (h2 : E.eq = rngEq B F) (hB : Based E.sig B) (hF : ∀ f ∈ F, f.holds E.sig) (hr : ∀ a ks, E.rows a = some ks → (E.sig.row a).2.2.1 = ks.length) (hp : ∀ a e a', E.pre a e = some a' → ∃ b x sz n m : Nat, E.sig.row a = (b, x, sz, n) ∧ E.sig.row a' = (b, x, sz, m) ∧ e.val E.sig = m ∧ m ≤ n := by intro _ _ _ h; cases h) (ho : ∀ f ∈ E.overs, OverOk E.P f := by intro f h; cases h) (hi : ∀ f ∈ E.idxs, IdxOk E.P f := by intro f h; cases h) (hsm : ∀ f ∈ E.sames, SameOk E.P f := by intro f h; cases h) (hmz : ∀ f t, assocN f E.mkzs = some t → MkzOk E.P f t := by intro f t h; cases h) (hce : CellsOk E := by exact cellsOk_none rfl rfl rfl rfl rfl) : NumOk E := by
  have base : NumOk { E with lt := factLt F, eq := factEq F } := fact_num rfl rfl hF hr hp ho hi hsm hmz ⟨hce.cells, hce.str, hce.bool, ⟨hce.maps.get, hce.maps.set, hce.maps.del, hce.maps.sub⟩⟩
  refine ⟨fun a b r h => ?_, fun a b r h => ?_, hr, hp, ho, hi, hsm, hmz, hce.cells, hce.str, hce.bool, hce.maps⟩
  · rw [h1] at h
    unfold rngLt at h
    split at h
    · rename_i x y hx hy
      have hx := rng_some hB hx
      have hy := rng_some hB hy
      split at h
      · rename_i g
        have g := ltb_lt g
        simp only [Option.some.injEq] at h
        subst h
        rw [ltb_eq]
        exact decide_eq_true (by omega)
      · rename_i g _
        have g := leb_le g
        simp only [Option.some.injEq] at h
        subst h
        rw [ltb_eq]
        exact decide_eq_false (by omega)
      · exact base.lt a b r h
    · exact base.lt a b r h
  · rw [h2] at h
    unfold rngEq at h
    split at h
    · rename_i g
      have g := IE.same_eq g
      subst g
      simp only [Option.some.injEq] at h
      subst h
      rw [eqb_eq]
      exact decide_eq_true rfl
    · split at h
      · rename_i x y hx hy
        have hx := rng_some hB hx
        have hy := rng_some hB hy
        split at h
        · rename_i g
          have g := ltb_lt g
          simp only [Option.some.injEq] at h
          subst h
          rw [eqb_eq]
          exact decide_eq_false (by omega)
        · rename_i g _
          have g := ltb_lt g
          simp only [Option.some.injEq] at h
          subst h
          rw [eqb_eq]
          exact decide_eq_false (by omega)
        · exact base.eq a b r h
      · exact base.eq a b r h
end Go.RX

/- Pieces of code with values in known slots (numbers of any kind, the row with number zero): what is asked before, what is so after. -/
namespace Go.RX
open Sym

inductive Want where
  | num (k : IntKind) (e : IE)
  | bool (b : Bool)
  | row
  | rowN (a : Nat)
  | rptr (a : Nat) (e : IE)

def wantOkV : Want → SV → Bool
  | .num j e, .int k m => (match kindEq k j with | true => IE.same e (.lit m) | false => false)
  | .num j e, .sint k e' => (match kindEq k j with | true => IE.same e e' | false => false)
  | .bool b, .bool c => (match b, c with | true, true => true | false, false => true | _, _ => false)
  | .row, .row a => Nat.beq a 0
  | .rowN b, .row a => Nat.beq a b
  | .rptr b e, .rptr a e' 0 => (match Nat.beq a b with | true => IE.same e e' | false => false)
  | _, _ => false

def wantIsV (σ : Sig) (o : Want) (v : Value) : Prop := match o with
  | .num k e => v = .int k (e.val σ)
  | .bool b => v = .bool b
  | .row => RowIs σ 0 v
  | .rptr a e => 0 ≤ e.val σ ∧ e.val σ < (σ.row a).2.2.2 ∧ v = .pointer (some ⟨(σ.row a).1, (σ.row a).2.1 + (e.val σ).toNat * (σ.row a).2.2.1, none⟩)
  | .rowN a => RowIs σ a v

theorem wantOkV_is {ρ : Ren} {o : Want} {x : SV} {v : Value} (h : wantOkV o x = true) (hx : VRel ρ x v) : wantIsV ρ.sig o v := by
  unfold wantOkV at h
  split at h
  · split at h
    · rename_i j e k m hk
      rw [kindEq_eq] at hk
      have := of_decide_eq_true hk
      subst this
      have := IE.same_eq h
      subst this
      have := hx.int_inv
      subst this
      simp [wantIsV, IE.val]
    · cases h
  · split at h
    · rename_i j e k e' hk
      rw [kindEq_eq] at hk
      have := of_decide_eq_true hk
      subst this
      have := IE.same_eq h
      subst this
      have := hx.sint_inv
      subst this
      simp [wantIsV]
    · cases h
  · have := hx.bool_inv
    subst this
    split at h <;> first | rfl | cases h
  · rename_i a
    have := Nat.eq_of_beq_eq_true h
    subst this
    exact hx.row_inv
  · rename_i a b
    have := Nat.eq_of_beq_eq_true h
    subst this
    exact hx.row_inv
  · split at h
    · rename_i b e a e' hb
      have := Nat.eq_of_beq_eq_true hb
      subst this
      have := IE.same_eq h
      subst this
      cases hx with
      | rptr h1 h2 h3 =>
        simp only [wantIsV, h1]
        exact ⟨h2, h3, rfl⟩
    · cases h
  · cases h

noncomputable def wantsOkV (sl : List Nat) (fr : List SV) : List (Nat × Want) → Bool
  | [] => true
  | p :: l => match posOf p.1 sl with
    | some i => (match wantOkV p.2 (nthV .unknown fr i) with | true => wantsOkV sl fr l | false => false)
    | none => false

def SlottedV (σ : Sig) (l : List (Nat × Want)) (a : Act) : Prop := ∀ p ∈ l, wantIsV σ p.2 (a.tmps.getD p.1 undef)

theorem wantsOkV_holds {ρ : Ren} {sl : List Nat} {fr : List SV} {a : Act} (hf : FRel ρ sl fr a.tmps) : ∀ {l : List (Nat × Want)}, wantsOkV sl fr l = true → SlottedV ρ.sig l a
  | [], _, p, hp => by simp at hp
  | q :: l, h, p, hp => by
    simp only [wantsOkV] at h
    split at h
    · rename_i i hi
      split at h
      · rename_i hw
        rcases List.mem_cons.1 hp with rfl | hp
        · exact wantOkV_is hw (FRel.at hf hi)
        · exact wantsOkV_holds hf h p hp
      · cases h
    · cases h

/-- The frame in which these slots hold these. -/
def frInV : List Nat → List (Nat × Want) → List SV
  | [], _ => []
  | t :: sl, l => fslotV t l :: frInV sl l
where fslotV (t : Nat) : List (Nat × Want) → SV
  | [] => .unknown
  | p :: l => match Nat.beq p.1 t with
    | true => (match p.2 with | .num k e => .sint k e | .bool b => .bool b | .row => .row 0 | .rowN a => .row a | .rptr a e => .rptr a e 0)
    | false => fslotV t l

theorem fslotV_rel {σ : Sig} {a : Act} {t : Nat} : ∀ {l : List (Nat × Want)}, SlottedV σ l a → VRel (.nil σ) (frInV.fslotV t l) (a.tmps.getD t undef)
  | [], _ => .unknown _
  | p :: l, h => by
    simp only [frInV.fslotV]
    split
    · rename_i hb
      have := Nat.eq_of_beq_eq_true hb
      have hp := h p (by simp)
      rw [this] at hp
      split
      · rename_i k e he
        rw [he] at hp
        simp only [wantIsV] at hp
        rw [hp]
        exact VRel.sint (ρ := .nil σ) k e
      · rename_i b he
        rw [he] at hp
        simp only [wantIsV] at hp
        rw [hp]
        exact .bool b
      · rename_i he
        rw [he] at hp
        exact RowIs.rel (ρ := .nil σ) hp
      · rename_i a' he
        rw [he] at hp
        exact RowIs.rel (ρ := .nil σ) hp
      · rename_i a' e' he
        rw [he] at hp
        obtain ⟨h1, h2, hp⟩ := hp
        rw [hp]
        have := VRel.rptr (ρ := .nil σ) (a := a') (b := (σ.row a').1) (x := (σ.row a').2.1) (sz := (σ.row a').2.2.1) (n := (σ.row a').2.2.2) (off := 0) (i := e') (by simp [Ren.nil]) (by simpa [Ren.nil] using h1) (by simpa [Ren.nil] using h2)
        simpa [Ren.nil] using this
    · exact fslotV_rel fun q hq => h q (List.mem_cons_of_mem _ hq)

theorem frInV_get {l : List (Nat × Want)} : ∀ {sl : List Nat} {i t : Nat}, sl[i]? = some t → (frInV sl l)[i]? = some (frInV.fslotV t l)
  | [], i, t, h => by simp at h
  | s :: sl, 0, t, h => by simp at h; subst h; simp [frInV]
  | s :: sl, i + 1, t, h => by simp only [frInV, List.getElem?_cons_succ] at h ⊢; exact frInV_get h

theorem frInV_rel {σ : Sig} {a : Act} {l : List (Nat × Want)} {sl : List Nat} (h : SlottedV σ l a) : FRel (.nil σ) sl (frInV sl l) a.tmps := fun t i ht => by
  rw [nthV_eq, frInV_get (posOf_some ht)]
  exact fslotV_rel h

noncomputable def outOkV (how : Nat) (sl : List Nat) (l : List (Nat × Want)) : Option Out → Bool
  | some (.norm st) => (match Nat.beq how 0, noDefers st with | true, true => wantsOkV sl st.fr l | _, _ => false)
  | some (.ret st) => (match Nat.beq how 1, noDefers st with | true, true => wantsOkV sl st.fr l | _, _ => false)
  | some (.exit i st) => (match Nat.beq how (i + 2), noDefers st with | true, true => wantsOkV sl st.fr l | _, _ => false)
  | none => false

theorem outOkV_some {how : Nat} {sl : List Nat} {l : List (Nat × Want)} {o : Option Out} (h : outOkV how sl l o = true) : ∃ out, o = some out ∧ out.how = howOf how ∧ out.st.defers = [] ∧ wantsOkV sl out.st.fr l = true := by
  unfold outOkV at h
  split at h
  · split at h
    · rename_i st h1 h2
      have := Nat.eq_of_beq_eq_true h1
      subst this
      exact ⟨_, rfl, rfl, noDefers_eq h2, h⟩
    · cases h
  · split at h
    · rename_i st h1 h2
      have := Nat.eq_of_beq_eq_true h1
      subst this
      exact ⟨_, rfl, rfl, noDefers_eq h2, h⟩
    · cases h
  · split at h
    · rename_i i st h1 h2
      have := Nat.eq_of_beq_eq_true h1
      subst this
      exact ⟨_, rfl, rfl, noDefers_eq h2, h⟩
    · cases h
  · cases h

section
variable {E : Env} {K : Nat → List SV → SW → Option (SV × SW)}

theorem piece_stepV (hK : Known E K) (hn : NumOk E) {d n m how : Nat} {sl : List Nat} {c : Code} {l0 l1 : List (Nat × Want)} (h : outOkV how sl l1 (runCode E K d n sl c (bare (frInV sl l0))) = true)
    {a : Act} {w : World} (hs : a.tmps.size = n) (hd : a.defers = []) (h0 : SlottedV E.sig l0 a) (hL : Lies E w) {Q : Exit → Act → World → Prop}
    (hQ : ∀ a' w', On w w' → SlottedV E.sig l1 a' → a'.tmps.size = n → a'.defers = [] → Q (howOf how) a' w') : c.wpIn Fence.wide m E.P Q a w := by
  obtain ⟨out, ho, hhow, hdef, hw⟩ := outOkV_some h
  refine code_step hK hn ho hs hd (frInV_rel h0) hL fun ρ a' w' he ho' hf hsz hdr => ?_
  rw [hdef] at hdr
  rw [hhow]
  have hd' : a'.defers = [] := by
    generalize a'.defers = z at hdr
    cases hdr
    rfl
  refine hQ a' w' ho' ?_ hsz hd'
  have := wantsOkV_holds hf hw
  rw [he.sig] at this
  exact this

def isOne (x : Want) : Option (SV × SW) → Bool
  | some (a, _) => wantOkV x a
  | none => false

/-- What a function with one result hands back. -/
theorem one_leaves (hn : NumOk E) {n m : Nat} {sl : List Nat} {fn : Func} {l0 : List (Nat × Want)} {k : IntKind} {x : IE} (h : isOne (.num k x) (resRun E sl fn.results.toList (frInV sl l0)) = true)
    {a : Act} {w : World} (hs : a.tmps.size = n) (hd : a.defers = []) (h0 : SlottedV E.sig l0 a) (hL : Lies E w) {R : Ending → World → Prop}
    (hR : ∀ w', On w w' → R (.returned (.int k (x.val E.sig))) w') : LeavesInM Fence.wide m E.P fn a.tmps R a.defers .returning w := by
  unfold isOne at h
  split at h
  · rename_i u S hr
    unfold resRun at hr
    split at hr
    · rename_i g hg
      have hst : StOk E n sl none none [] (.nil E.sig) (bare (frInV sl l0)) a w := ⟨hs, frInV_rel h0, empty_ok hn hL, by rw [hd]; exact .nil, .none⟩
      refine leave_sound hg hst hr fun z w' hext hz => ?_
      have e1 := wantOkV_is h hz
      simp only [wantIsV, Ren.nil] at e1
      subst e1
      exact hR w' ⟨hext.size, hext.os, hext.tape, hext.output, fun k hk => hext.frame k hk fun i p _ hp => by cases hp⟩
    · cases hr
  · cases h

/-- What a function with one result hands back, whatever it is. -/
theorem one_leavesV (hn : NumOk E) {n m : Nat} {sl : List Nat} {fn : Func} {l0 : List (Nat × Want)} {x : Want} (h : isOne x (resRun E sl fn.results.toList (frInV sl l0)) = true)
    {a : Act} {w : World} (hs : a.tmps.size = n) (hd : a.defers = []) (h0 : SlottedV E.sig l0 a) (hL : Lies E w) {R : Ending → World → Prop}
    (hR : ∀ v w', wantIsV E.sig x v → On w w' → R (.returned v) w') : LeavesInM Fence.wide m E.P fn a.tmps R a.defers .returning w := by
  unfold isOne at h
  split at h
  · rename_i u S hr
    unfold resRun at hr
    split at hr
    · rename_i g hg
      have hst : StOk E n sl none none [] (.nil E.sig) (bare (frInV sl l0)) a w := ⟨hs, frInV_rel h0, empty_ok hn hL, by rw [hd]; exact .nil, .none⟩
      refine leave_sound hg hst hr fun z w' hext hz => ?_
      have e1 := wantOkV_is h hz
      simp only [Ren.nil] at e1
      exact hR z w' e1 ⟨hext.size, hext.os, hext.tape, hext.output, fun k hk => hext.frame k hk fun i p _ hp => by cases hp⟩
    · cases hr
  · cases h
end
end Go.RX

/- Regions cut into parts: some operations run by the evaluator, others by hand. -/
namespace Go.RX
open Sym

section
variable {E : Env} {K : Nat → List SV → SW → Option (SV × SW)}

/-- No operation writes a slot. -/
def notDst (t : Nat) : List Oper → Bool
  | [] => true
  | o :: os => (match o.dst with
    | some d => (match Nat.beq d t with | true => false | false => notDst t os)
    | none => notDst t os)

theorem put_keep {a : Act} {o : Oper} {os : List Oper} {t : Nat} {v : Value} (h : notDst t (o :: os) = true) : (a.put o.dst v).tmps.getD t undef = a.tmps.getD t undef ∧ notDst t os = true := by
  simp only [notDst] at h
  split at h
  · rename_i d hd
    split at h
    · cases h
    · rename_i hne
      rw [hd]
      exact ⟨getD_set_other (fun e => by subst e; rw [Nat.beq_refl] at hne; cases hne), h⟩
  · rename_i hd
    rw [hd]
    exact ⟨rfl, h⟩

theorem kops_part2 {n : Nat} {sl : List Nat} {ops : Array Oper} {C : Sym.Callee} {r : Option Nat} {m : Nat} (hC : CalleeSound E C) (hM : CalleeMono C) (L : List Nat) : ∀ (rest : List Oper) (i : Nat) (wr : List Nat) (f : Sym.Callee → List SV → List SV → SW → Option (List SV × SW)), (∀ (j : Nat) (o : Oper), rest[j]? = some o → ops[i + j]? = some o) → kops E n sl ops.toList wr rest = some ⟨f⟩ →
    ∀ ρ e fr a S w fr' S', Slots ρ n wr sl e fr a.tmps → Ok E ρ S w → f C e fr S = some (fr', S') → Fresh ρ S.next S'.next →
    ∀ Q : Exit → Act → World → Prop, (∀ ρ' a' w', Ext ρ S w ρ' S' w' → FRel ρ' sl fr' a'.tmps → a'.tmps.size = n → a'.defers = a.defers → (∀ t, notDst t rest = true → a'.tmps.getD t undef = a.tmps.getD t undef) → wpOpsIn (Fr r) m E.P ops Q L a' w') → wpOpsIn (Fr r) m E.P ops Q (List.range' i rest.length ++ L) a w
  | [], i, wr, f, _, h, ρ, e, fr, a, S, w, fr', S', hs, hok, hr, hfr, Q, hQ => by
    simp only [kops, Option.some.injEq, KS.mk.injEq] at h
    subst h
    simp only [Option.some.injEq, Prod.mk.injEq] at hr
    obtain ⟨rfl, rfl⟩ := hr
    exact hQ ρ a w hok.refl_ext hs.fr hs.size rfl fun _ _ => rfl
  | o :: rest, i, wr, f, hrest, h, ρ, e, fr, a, S, w, fr', S', hs, hok, hr, hfr, Q, hQ => by
    obtain ⟨k, d, p, g, q, hk, hd, hg, hq, hf⟩ := kops_cons h
    rw [hf] at hr
    split at hr
    · rename_i v S1 hq1
      have hm1 := guarded_mono (kop_mono hk) hq hM hq1
      have hm2 := kops_mono hM rest _ g hg _ _ _ _ _ hr
      have ho : ops[i]? = some o := hrest 0 o rfl
      have hrest' : ∀ (j : Nat) (o : Oper), rest[j]? = some o → ops[i + 1 + j]? = some o := fun j o h => by
        have := hrest (j + 1) o (by simpa using h)
        rw [show i + 1 + j = i + (j + 1) by omega]
        exact this
      simp only [List.length_cons, List.range'_succ, List.cons_append, wpOpsIn, ho]
      have := op_step (r := r) (n := m) (ops := ops) hk hC hq (fun x _ => hs.good x) (fun d _ => hs.good _) hok hq1 (hfr.left hm2.next)
        (next := wpOpsIn (Fr r) m E.P ops Q (List.range' (i + 1) rest.length ++ L)) (Q := Q) (fun ρ1 v1 w1 hext hv => by
          have hok1 := hok.ext hext
          have hs1 := (hs.mono hext.le).put hd hv
          exact kops_part2 hC hM L rest (i + 1) (d :: wr) g hrest' hg ρ1 _ _ _ S1 w1 fr' S' hs1 hok1 hr (hext.fresh_right hfr) Q fun ρ2 a2 w2 hext2 hf2 hsz hdf hkeep =>
            hQ ρ2 a2 w2 (hext.trans hext2) hf2 hsz (hdf.trans (put_defers _ _ _)) fun t ht => by
              obtain ⟨h1, h2⟩ := put_keep (a := a) (v := v1) ht
              rw [hkeep t h2, h1])
      exact this
    · cases hr

/-- Some operations of a region, compiled and run from a state without objects. -/
noncomputable def opsRun (E : Env) (K : Nat → List SV → SW → Option (SV × SW)) (d n : Nat) (sl : List Nat) (ops : Array Oper) (i len : Nat) (fr : List SV) : Option (List SV × SW) :=
  match kops E n sl ops.toList [] ((ops.toList.drop i).take len) with
  | some ⟨f⟩ => f (semK E K d) [] fr ⟨.nil, 0, 0⟩
  | none => none

theorem ops_step (hK : Known E K) (hn : NumOk E) {d n m i len : Nat} {sl : List Nat} {ops : Array Oper} {L : List Nat} {fr fr' : List SV} {S' : SW} (h : opsRun E K d n sl ops i len fr = some (fr', S')) (hlen : i + len ≤ ops.size)
    {a : Act} {w : World} (hs : a.tmps.size = n) (hf : FRel (.nil E.sig) sl fr a.tmps) (hL : Lies E w) {Q : Exit → Act → World → Prop}
    (hQ : ∀ ρ' a' w', Ext (.nil E.sig) ⟨.nil, 0, 0⟩ w ρ' S' w' → Ok E ρ' S' w' → FRel ρ' sl fr' a'.tmps → a'.tmps.size = n → a'.defers = a.defers → (∀ t, notDst t ((ops.toList.drop i).take len) = true → a'.tmps.getD t undef = a.tmps.getD t undef) → wpOpsIn Fence.wide m E.P ops Q L a' w') :
    wpOpsIn Fence.wide m E.P ops Q (List.range' i len ++ L) a w := by
  unfold opsRun at h
  split at h
  · rename_i f hk
    have hl : ((ops.toList.drop i).take len).length = len := by
      rw [List.length_take, List.length_drop, Array.length_toList]; omega
    have hok := empty_ok hn hL
    have := kops_part2 (r := none) (m := m) (semK_sound hK d) (semK_both hK d).1 L ((ops.toList.drop i).take len) i [] f (fun j o hj => by
      rw [List.getElem?_take] at hj
      split at hj
      · rw [List.getElem?_drop, Array.getElem?_toList] at hj; exact hj
      · cases hj) hk (.nil E.sig) [] fr a ⟨.nil, 0, 0⟩ w fr' S' ⟨hs, fun t i ht => by simp [posOf] at ht, hf⟩ hok h (fun _ _ _ => rfl) Q fun ρ' a' w' hext hfr hsz hdf hkeep => hQ ρ' a' w' hext (hok.ext hext) hfr hsz hdf hkeep
    rw [hl] at this
    exact this
  · cases h

/-- These slots hold these behind some operations. -/
noncomputable def opsOkV (sl : List Nat) (l : List (Nat × Want)) : Option (List SV × SW) → Bool
  | some (fr, _) => wantsOkV sl fr l
  | none => false

theorem ops_stepV (hK : Known E K) (hn : NumOk E) {d n m i len : Nat} {sl : List Nat} {ops : Array Oper} {L : List Nat} {l0 l1 : List (Nat × Want)} (h : opsOkV sl l1 (opsRun E K d n sl ops i len (frInV sl l0)) = true) (hlen : i + len ≤ ops.size)
    {a : Act} {w : World} (hs : a.tmps.size = n) (hd : a.defers = []) (h0 : SlottedV E.sig l0 a) (hL : Lies E w) {Q : Exit → Act → World → Prop}
    (hQ : ∀ a' w', On w w' → SlottedV E.sig l1 a' → a'.tmps.size = n → a'.defers = [] → wpOpsIn Fence.wide m E.P ops Q L a' w') :
    wpOpsIn Fence.wide m E.P ops Q (List.range' i len ++ L) a w := by
  unfold opsOkV at h
  split at h
  · rename_i fr S' hr
    refine ops_step hK hn hr hlen hs (frInV_rel h0) hL fun ρ' a' w' hext hok hf hsz hdf _ => ?_
    refine hQ a' w' ⟨hext.size, hext.os, hext.tape, hext.output, fun k hk => hext.frame k hk fun i p _ hp => by cases hp⟩ ?_ hsz (hdf.trans hd)
    have := wantsOkV_holds hf h
    rw [hok.glob.num.sig] at this
    exact this
  · cases h

/-- A slot holds a row of the run's own, of these numbers. -/
def cellsIs (k : IntKind) : List SV → List IE → Bool
  | [], [] => true
  | x :: l, e :: es => (match wantOkV (.num k e) x with | true => cellsIs k l es | false => false)
  | _, _ => false
noncomputable def boxOk (sl : List Nat) (t : Nat) (k : IntKind) (es : List IE) : Option (List SV × SW) → Bool
  | some (fr, S) => (match posOf t sl with
    | some i => (match nthV .unknown fr i with
      | .slice id 0 n (.exact c) => (match Nat.beq n es.length, Nat.beq c es.length, hget S id with
        | true, true, some (.cells cs _) => cellsIs k cs es
        | _, _, _ => false)
      | _ => false)
    | none => false)
  | none => false
theorem cellsIs_get {k : IntKind} {ρ : Ren} {arr : Array Value} {o : Nat} : ∀ {cs : List SV} {es : List IE}, cellsIs k cs es = true → (∀ j x, cs[j]? = some x → ∃ v, arr[o + j]? = some v ∧ VRel ρ x v) → ∀ j e, es[j]? = some e → arr[o + j]? = some (.int k (e.val ρ.sig))
  | [], [], _, _, j, e, he => by simp at he
  | [], _ :: _, h, _, _, _, _ => by simp [cellsIs] at h
  | _ :: _, [], h, _, _, _, _ => by simp [cellsIs] at h
  | x :: cs, e0 :: es, h, hc, j, e, he => by
    simp only [cellsIs] at h
    split at h
    · rename_i hw
      cases j with
      | zero =>
        simp only [List.getElem?_cons_zero, Option.some.injEq] at he
        subst he
        obtain ⟨v, h1, h2⟩ := hc 0 x rfl
        have := wantOkV_is hw h2
        simp only [wantIsV] at this
        rw [h1, this]
      | succ j =>
        have := cellsIs_get (o := o + 1) h (fun j x hj => by
          obtain ⟨v, h1, h2⟩ := hc (j + 1) x (by simpa using hj)
          exact ⟨v, by rw [show o + 1 + j = o + (j + 1) by omega]; exact h1, h2⟩) j e (by simpa using he)
        rw [show o + (j + 1) = o + 1 + j by omega]
        exact this
    · cases h
theorem cellsIs_len {k : IntKind} : ∀ {cs : List SV} {es : List IE}, cellsIs k cs es = true → cs.length = es.length
  | [], [], _ => rfl
  | [], _ :: _, h => by simp [cellsIs] at h
  | _ :: _, [], h => by simp [cellsIs] at h
  | x :: cs, e0 :: es, h => by
    simp only [cellsIs] at h
    split at h
    · simp [cellsIs_len h]
    · cases h
theorem boxOk_some {E : Env} {ρ : Ren} {sl : List Nat} {t : Nat} {k : IntKind} {es : List IE} {fr : List SV} {S : SW} {w : World} {tmps : Array Value} (h : boxOk sl t k es (some (fr, S)) = true) (hok : Ok E ρ S w) {w0 : World} (hext : Ext (.nil E.sig) ⟨.nil, 0, 0⟩ w0 ρ S w) (hf : FRel ρ sl fr tmps) :
    ∃ (b o : Nat) (arr : Array Value) (el : TypeId) (fz : Nat × Nat), tmps.getD t undef = .slice (some ⟨b, o, none⟩) es.length es.length ∧ w.heap[b]? = some (.cells arr el fz) ∧ w0.heap.size ≤ b ∧ (∀ k, k < arr.size → ¬ (fz.1 ≤ k ∧ k < fz.2)) ∧ o + es.length ≤ arr.size ∧ ∀ j e, es[j]? = some e → arr[o + j]? = some (.int k (e.val E.sig)) := by
  simp only [boxOk] at h
  split at h
  · rename_i i hi
    have hv := FRel.at hf hi
    generalize hx : nthV .unknown fr i = x at h hv
    split at h
    · rename_i id n c
      split at h
      · rename_i cs el0 hn hn2 hobj
        have hn := Nat.eq_of_beq_eq_true hn
        have hn2 := Nat.eq_of_beq_eq_true hn2
        subst hn
        subst hn2
        generalize hy : tmps.getD t undef = y at hv
        cases hv with
        | sliceE hp =>
          rename_i b o tt
          obtain ⟨ob, ho1, ho2⟩ := hok.wrel.obj id _ _ hobj hp
          cases ho2 with
          | cells arr el' fz ht hlen hfz hmk hwh hc =>
            have hfresh : w0.heap.size ≤ b := by
              rcases hext.own id _ (by rw [← hget_eq, hobj]; simp) hp with ⟨j, q, h1, -⟩ | h1
              · exact absurd (by simp [SW.at, hget, Tr.get_nil]) h1
              · exact h1
            refine ⟨_, _, arr, el', fz, rfl, ho1, hfresh, hfz, by rw [← cellsIs_len h, ht]; exact hlen, fun j e he => ?_⟩
            rw [← hok.glob.num.sig]
            exact cellsIs_get h hc j e he
      · cases h
    · cases h
  · cases h

/-- These slots hold these, and a slot holds a row of the run's own. -/
noncomputable def opsBox (sl : List Nat) (l : List (Nat × Want)) (t : Nat) (k : IntKind) (es : List IE) : Option (List SV × SW) → Bool
  | some r => (match opsOkV sl l (some r) with | true => boxOk sl t k es (some r) | false => false)
  | none => false
theorem opsBox_some {sl : List Nat} {l1 : List (Nat × Want)} {t : Nat} {k : IntKind} {es : List IE} {r : Option (List SV × SW)} (h : opsBox sl l1 t k es r = true) :
    ∃ fr S, r = some (fr, S) ∧ wantsOkV sl fr l1 = true ∧ boxOk sl t k es (some (fr, S)) = true := by
  unfold opsBox at h
  split at h
  · rename_i r
    obtain ⟨fr, S⟩ := r
    split at h
    · rename_i h1
      exact ⟨fr, S, rfl, h1, h⟩
    · cases h
  · cases h

/-- One operation by hand. -/
theorem op_hand {P : Program} {ops : Array Oper} {Q : Exit → Act → World → Prop} {m i : Nat} {L : List Nat} {o : Oper} {a : Act} {w w' : World} {v : Value} (ho : ops[i]? = some o) (hg : o.guard = none) (hd : ∀ c, o.op ≠ .defer c)
    (h : (execOp a.eval o).run P w = .ok (.value v) w') (hn : wpOpsIn Fence.wide m P ops Q L (a.put o.dst v) w') : wpOpsIn Fence.wide m P ops Q (i :: L) a w := by
  simp only [wpOpsIn, ho]
  rw [if_pos (by simp [Region.wanted, hg])]
  refine ⟨fun f _ => trivial, ?_⟩
  rw [Oper.semAt_eq _ _ _ hd, h]
  exact hn
theorem op_hand_skip {P : Program} {ops : Array Oper} {Q : Exit → Act → World → Prop} {m i : Nat} {L : List Nat} {o : Oper} {a : Act} {w w' : World} (ho : ops[i]? = some o) (hg : o.guard = none) (hd : ∀ c, o.op ≠ .defer c)
    (h : (execOp a.eval o).run P w = .ok .skip w') (hn : wpOpsIn Fence.wide m P ops Q L (a.put o.dst undef) w') : wpOpsIn Fence.wide m P ops Q (i :: L) a w := by
  simp only [wpOpsIn, ho]
  rw [if_pos (by simp [Region.wanted, hg])]
  refine ⟨fun f _ => trivial, ?_⟩
  rw [Oper.semAt_eq _ _ _ hd, h]
  exact hn
theorem op_call_hand {P : Program} {ops : Array Oper} {Q : Exit → Act → World → Prop} {m i f : Nat} {L : List Nat} {o : Oper} {c : Call} {a : Act} {w : World} {vals : Array Value} {R : Ending → World → Prop} (ho : ops[i]? = some o) (hg : o.guard = none) (hop : o.op = .call c) (hc : c.callee = .value (.func f))
    (hv : c.args.map a.eval = vals) (hname : (callFunc f vals).run P w = .ok (.enter f vals) w) (h : Calls P f vals w R)
    (hn : ∀ e w', R e w' → ∃ v, e = .returned v ∧ wpOpsIn Fence.wide m P ops Q L (a.put o.dst v) w') : wpOpsIn Fence.wide m P ops Q (i :: L) a w := by
  simp only [wpOpsIn, ho]
  rw [if_pos (by simp [Region.wanted, hg])]
  have hd : ∀ c, o.op ≠ .defer c := fun c e => by rw [hop] at e; cases e
  have hx : (execOp a.eval o).run P w = (callFunc f vals).run P w := by
    have := run_value_call (E := { P := P, G := fun _ => none }) (o := o) (c := c) hop hc a w
    refine this.trans ?_
    simp only [Act.eval, Deferred.ofValue, Sem.run_bind, Sem.run_pure, Result.andThen_ok, invoke]
    rw [← hv]
    congr 2
    apply Array.ext'
    simp
  refine ⟨fun f _ => trivial, ?_⟩
  rw [Oper.semAt_eq _ _ _ hd, hx, hname]
  refine ⟨Fr_n none m, CallsIn.mono (Fr_calls (r := none) h) ?_⟩
  rintro e' w' hr
  obtain ⟨v, rfl, hh⟩ := hn e' w' hr
  exact hh
end

/-- An assignment by hand. -/
theorem op_assign_hand {P : Program} {ops : Array Oper} {Q : Exit → Act → World → Prop} {m i : Nat} {L : List Nat} {o : Oper} {x : Operand} {a : Act} {w : World} (ho : ops[i]? = some o) (hg : o.guard = none) (hop : o.op = .assign x)
    (hn : wpOpsIn Fence.wide m P ops Q L (a.put o.dst (a.eval x)) w) : wpOpsIn Fence.wide m P ops Q (i :: L) a w :=
  op_hand (v := a.eval x) ho hg (fun c e => by rw [hop] at e; cases e) (by simp only [execOp, hop]; rfl) hn
/-- A function with one result, left by hand. -/
theorem leave_one {P : Program} {fn : Func} {tmps : Array Value} {R : Ending → World → Prop} {w : World} {t m : Nat} (h : fn.results.toList = [.tmp t]) (hR : R (.returned (tmps.getD t undef)) w) : LeavesInM Fence.wide m P fn tmps R [] .returning w :=
  ⟨_, results_run (E := { P := P, G := fun _ => none }) (us := [tmps.getD t undef]) (by rw [h]; simp only [List.mapM_cons, List.mapM_nil, readRes, Sem.run_bind, Sem.run_pure, Result.andThen_ok]), by simpa using hR⟩

/-- The operations of a region. -/
def opsOf : Code → Array Oper
  | .region _ os _ => os
  | _ => #[]
theorem region_parts {P : Program} {m id k : Nat} {ops : Array Oper} {Q : Exit → Act → World → Prop} {a : Act} {w : World} (hk : ops.size = k) (h : wpOpsIn Fence.wide m P ops Q (List.range' 0 k) a w) : (Code.region id ops false).wpIn Fence.wide m P Q a w := by
  refine wpIn_region ?_
  rw [List.range_eq_range', hk]
  exact h
theorem put_same {a : Act} {d : Nat} {v : Value} (h : d < a.tmps.size) : (a.put (some d) v).tmps.getD d undef = v := getD_set_same h
theorem put_other {a : Act} {d t : Nat} {v : Value} (h : t ≠ d) : (a.put (some d) v).tmps.getD t undef = a.tmps.getD t undef := getD_set_other h
theorem put_size {a : Act} {d : Option Tmp} {v : Value} : (a.put d v).tmps.size = a.tmps.size := by cases d <;> simp [Act.put]
end Go.RX

/- A loop over a map of several entries, all there when it begins: all orders are run. -/
namespace Go.RX
open Sym

/-! ### The loop's shape -/
structure PickF where
  id : Nat
  ops : Array Oper
  o0 : Oper
  o1 : Oper
  it : Tmp
  t0 : Tmp
  t1 : Tmp
  rest : Code

def pickOps (id : Nat) (ops : Array Oper) (rest : Code) (o0 o1 : Oper) : Option PickF :=
  match o0.guard, o0.dst, o0.op with
  | none, some t0, .next (.tmp it) false =>
    match o1.guard, o1.dst, o1.op with
    | none, some t1, .extract (.tmp t) 0 => match Nat.beq t t0 with
      | true => some ⟨id, ops, o0, o1, it, t0, t1, rest⟩
      | false => none
    | _, _, _ => none
  | _, _, _ => none

def pickShape (c : Code) : Option PickF :=
  match c with
  | .seq (.region id ops false) rest =>
    match ops.toList with
    | [o0, o1] => pickOps id ops rest o0 o1
    | _ => none
  | _ => none

theorem pickShape_some {c : Code} {s : PickF} (h : pickShape c = some s) : c = .seq (.region s.id s.ops false) s.rest ∧ s.ops.toList = [s.o0, s.o1] ∧
    s.o0.guard = none ∧ s.o0.dst = some s.t0 ∧ s.o0.op = .next (.tmp s.it) false ∧ s.o1.guard = none ∧ s.o1.dst = some s.t1 ∧ s.o1.op = .extract (.tmp s.t0) 0 := by
  unfold pickShape at h
  split at h
  · rename_i id ops rest
    split at h
    · rename_i o0 o1 hops
      unfold pickOps at h
      split at h
      · rename_i t0 it h1 h2 h3
        split at h
        · rename_i t1 t h4 h5 h6
          split at h
          · rename_i hb
            have := Nat.eq_of_beq_eq_true hb
            subst this
            simp only [Option.some.injEq] at h
            subst h
            exact ⟨rfl, hops, h1, h2, h3, h4, h5, h6⟩
          · cases h
        · cases h
      · cases h
    · cases h
  · cases h

/-! ### A step of the iterator -/
def allOld (since : Nat) : List (SV × SV × Nat) → Bool
  | [] => true
  | (_, _, n) :: es => match Nat.ble (Nat.succ n) since with | true => allOld since es | false => false

def someLeft (seen : List Nat) : List (SV × SV × Nat) → Bool
  | [] => false
  | (_, _, n) :: es => match memNat n seen with | true => someLeft seen es | false => true

def headOld (last : Nat) : List (SV × SV × Nat) → Bool
  | [] => false
  | (_, _, n) :: _ => Nat.ble (Nat.succ n) last

theorem allOld_mem {ρ : Ren} {since : Nat} {es : List (SV × SV × Nat)} {fs : List MapEntry} (h : ERel ρ es fs) (ha : allOld since es = true) : ∀ e ∈ fs, e.born < since := by
  induction h with
  | nil => intro e he; cases he
  | cons hk hv hn hs ih =>
    simp only [allOld] at ha
    split at ha
    · rename_i hb
      have hb := Nat.le_of_ble_eq_true hb
      intro e he
      rcases List.mem_cons.1 he with rfl | he
      · omega
      · exact ih ha e he
    · cases ha

theorem memNat_false {t : Nat} : ∀ {l : List Nat}, memNat t l = false ↔ t ∉ l
  | [] => by simp [memNat]
  | x :: l => by
    have ih := memNat_false (t := t) (l := l)
    simp only [memNat]
    split
    · rename_i hb
      have := Nat.eq_of_beq_eq_true hb
      subst this
      simp
    · rename_i hb
      rw [ih]
      have : t ≠ x := fun e => by subst e; rw [Nat.beq_refl] at hb; cases hb
      simp [this]

theorem someLeft_mem {ρ : Ren} {seen : List Nat} {es : List (SV × SV × Nat)} {fs : List MapEntry} (h : ERel ρ es fs) (ha : someLeft seen es = true) : ∃ e ∈ fs, e.born ∉ seen := by
  induction h with
  | nil => cases ha
  | @cons k v n e xs es hk hv hn hs ih =>
    simp only [someLeft] at ha
    split at ha
    · obtain ⟨e, h1, h2⟩ := ih ha
      exact ⟨e, List.mem_cons_of_mem _ h1, h2⟩
    · rename_i hb
      refine ⟨e, by simp, ?_⟩
      rw [hn]
      exact memNat_false.1 hb

theorem headOld_mem {ρ : Ren} {last : Nat} {es : List (SV × SV × Nat)} {fs : List MapEntry} (h : ERel ρ es fs) (ha : headOld last es = true) : ∃ e ∈ fs, e.born < last := by
  cases h with
  | nil => cases ha
  | cons hk hv hn hs =>
    have := Nat.le_of_ble_eq_true ha
    exact ⟨_, List.mem_cons_self .., by omega⟩

theorem ERel.mem {ρ : Ren} {es : List (SV × SV × Nat)} {fs : List MapEntry} (h : ERel ρ es fs) : ∀ e ∈ fs, ∃ k v, (k, v, e.born) ∈ es ∧ VRel ρ k e.key ∧ VRel ρ v e.val := by
  induction h with
  | nil => intro e he; cases he
  | @cons k v n e xs es hk hv hn hs ih =>
    intro e' he
    rcases List.mem_cons.1 he with rfl | he
    · exact ⟨k, v, by rw [hn]; simp, hk, hv⟩
    · obtain ⟨k', v', h1, h2, h3⟩ := ih e' he
      exact ⟨k', v', List.mem_cons_of_mem _ h1, h2, h3⟩

theorem choose_next (P : Program) (w : World) {n : Nat} (hn : 0 < n) : ∃ i w1, (choose (.mapNext n)).run P w = .ok i w1 ∧ i < n ∧ (w1 = w ∨ w1 = w.drew) := by
  rw [run_choose_drew]
  split
  · exact ⟨0, w, rfl, hn, .inl rfl⟩
  · exact ⟨_, _, rfl, Nat.mod_lt _ hn, .inr rfl⟩

section
variable {E : Env}

theorem pick_next {ρ : Ren} {S : SW} {w : World} {id m since last clock b : Nat} {seen : List Nat} {es : List (SV × SV × Nat)} (hok : Ok E ρ S w) (hobj : hget S id = some (.mapIter (some m) since seen last)) (hmap : hget S m = some (.map es clock)) (hp : ρ id = some (b, 0, 0))
    (hold : allOld since es = true) (hleft : someLeft seen es = true) (hhead : headOld last es = true) (ty : TypeId) :
    ∃ k v n u1 u2 w1, (k, v, n) ∈ es ∧ memNat n seen = false ∧ VRel ρ k u1 ∧ VRel ρ v u2 ∧ (Instr.next (.pointer (some ⟨b, 0, none⟩)) false ty).run E.P w = .ok (.tuple #[.bool true, u1, u2]) w1 ∧
      ∀ S1, put S id (some (.mapIter (some m) since (seen ++ [n]) clock)) = some S1 → Ext ρ S w ρ S1 w1 := by
  obtain ⟨ob, ho1, ho2⟩ := hok.wrel.obj id _ _ hobj hp
  cases ho2 with
  | @mapIter _ _ rr _ _ _ hm =>
    have hgo := run_getObj (P := E.P) ho1 (by simp)
    obtain ⟨ob2, hm1, hm2⟩ := hok.wrel.obj m _ _ hmap hm
    cases hm2 with
    | map arr clock her =>
      have hgm := run_getObj (P := E.P) hm1 (by simp)
      have hold' : ∀ e ∈ arr, e.born < since := fun e he => allOld_mem her hold e (by simpa using he)
      obtain ⟨e1, he1, hl1⟩ := headOld_mem her hhead
      have hall : (arr.all fun e => decide (e.born ≥ last)) = false := by
        rw [← Array.all_toList, List.all_eq_false]
        exact ⟨e1, he1, by simp; omega⟩
      obtain ⟨e0, he0, hs0⟩ := someLeft_mem her hleft
      have hgen : ∃ L : Array MapEntry, (arr.filter fun e => !seen.toArray.contains e.born) = L ∧ 0 < L.size ∧ (∀ e ∈ L, e ∈ arr ∧ e.born ∉ seen) := by
        refine ⟨_, rfl, ?_, fun e he => ?_⟩
        · have : e0 ∈ (arr.filter fun e => !seen.toArray.contains e.born) := by
            rw [Array.mem_filter]
            exact ⟨by simpa using he0, by simpa using hs0⟩
          exact Array.size_pos_of_mem this
        · rw [Array.mem_filter] at he
          exact ⟨he.1, by simpa using he.2⟩
      obtain ⟨L, hL, hLpos, hLmem⟩ := hgen
      have h1 : (L.filter fun e => decide (e.born < since)) = L := by
        rw [Array.filter_eq_self]
        intro e he
        simpa using hold' e (hLmem e he).1
      have h2 : (L.filter fun e => decide (e.born ≥ since)) = #[] := by
        rw [Array.filter_eq_empty_iff]
        intro e he
        have := hold' e (hLmem e he).1
        simp; omega
      have hemp : L.isEmpty = false := by
        simp only [Array.isEmpty]
        simp; intro h; rw [h] at hLpos; simp at hLpos
      obtain ⟨i, w1, hc, hi, hw1⟩ := choose_next E.P w hLpos
      have hgi : (L.map some)[i]? = some (some L[i]) := by simp [hi]
      have hin := hLmem L[i] (Array.getElem_mem hi)
      obtain ⟨k, v, k1, k2, k3⟩ := ERel.mem her L[i] (by simpa using hin.1)
      have hgo1 : w1.heap[b]? = some (.mapIter (some rr) since seen.toArray last) := by
        rcases hw1 with rfl | rfl
        · exact ho1
        · exact ho1
      have hso := run_setObj (P := E.P) (ob := .mapIter (some rr) since (seen ++ [L[i].born]).toArray clock) hgo1 (by simp)
      refine ⟨k, v, L[i].born, L[i].key, L[i].val, setBlock w1 b (.mapIter (some rr) since (seen ++ [L[i].born]).toArray clock), k1, memNat_false.2 hin.2, k2, k3, ?_, fun S1 hput => ?_⟩
      · have hcond : ((!seen.toArray.isEmpty) && (!arr.isEmpty) && (arr.all fun e => decide (e.born ≥ last))) = false := by rw [hall]; simp
        have hcand : ((if L.isEmpty = true then #[none] else #[]) ++ (L ++ #[]).map some : Array (Option MapEntry)) = L.map some := by rw [hemp]; simp
        simp only [Instr.next, Sem.run_bind, hgo, Result.andThen_ok, hgm, hcond, Bool.false_eq_true, if_false, Sem.run_pure, hL, h1, h2, hcand, Array.size_map, hc, hgi, List.push_toArray, hso]
      · rcases hw1 with rfl | rfl
        · exact ext_put hok.wrel hok.tidy hobj hp hput (setBlock_same _ _ _) (setBlock_at hgo1) (.mapIter since (seen ++ [L[i].born]) clock hm)
        · have hd := ext_drew hok.wrel hok.tidy
          have hok2 := hok.ext hd
          exact hd.trans (ext_put hok2.wrel hok2.tidy hobj hp hput (setBlock_same _ _ _) (setBlock_at hgo1) (.mapIter since (seen ++ [L[i].born]) clock hm))
end

/-! ### The loop, run in all orders -/
def allE (p : SV → SV → Nat → Bool) : List (SV × SV × Nat) → Bool
  | [] => true
  | (k, v, n) :: es => match p k v n with | true => allE p es | false => false
theorem allE_mem {p : SV → SV → Nat → Bool} : ∀ {es : List (SV × SV × Nat)}, allE p es = true → ∀ k v n, (k, v, n) ∈ es → p k v n = true
  | [], _, k, v, n, h => by cases h
  | (k0, v0, n0) :: es, h, k, v, n, hm => by
    simp only [allE] at h
    split at h
    · rename_i hp
      rcases List.mem_cons.1 hm with e | hm
      · cases e; exact hp
      · exact allE_mem h k v n hm
    · cases h

/-- The slot of the iterator in the frame, where the results go; what the rest of a round does; what is asked of the end. -/
noncomputable def pickAll (C : Sym.Callee) (i : Nat) (p0 p1 : Dst) (kr : Sym.Callee → Option Nat → St → Option Out) (fin : St → Bool) : Nat → St → Bool
  | 0, _ => false
  | f + 1, st =>
    match nthV .unknown st.fr i with
    | .ptr id 0 => (match hget st.w id with
      | some (.mapIter (some m) since seen last) => (match hget st.w m with
        | some (.map es clock) => (match allOld since es, someLeft seen es, headOld last es with
          | true, true, true => allE (fun k v n => match memNat n seen with
            | true => true
            | false => match put st.w id (some (.mapIter (some m) since (seen ++ [n]) clock)) with
              | some S1 => (match kr C none ⟨p1.keep (p0.keep st.fr (.tuple [.bool true, k, v])) (.bool true), st.defers, S1⟩ with
                | some (.norm st2) => pickAll C i p0 p1 kr fin f st2
                | some (.ret st2) => fin st2
                | _ => false)
              | none => false) es
          | _, _, _ => false)
        | _ => false)
      | _ => false)
    | _ => false

section
variable {E : Env} {C : Sym.Callee}

theorem pick_sound (hC : CalleeSound E C) (hM : CalleeMono C) {n i d0 d1 m : Nat} {sl : List Nat} {c : Code} {s : PickF} {p0 p1 : Dst} {kr : Sym.Callee → Option Nat → St → Option Out} {fin : St → Bool} (hs : pickShape c = some s) (hk : comp E n sl s.rest = some ⟨kr⟩)
    (hi : posOf s.it sl = some i) (h0 : dstK sl n (some s.t0) = some (d0, p0)) (h1 : dstK sl n (some s.t1) = some (d1, p1)) (hlt : s.t0 < n) (hne : s.t0 ≠ s.it) {f : Nat} {st : St} {ρ : Ren} {a : Act} {w : World} (hst : StOk E n sl none none [] ρ st a w) (ha : Ahead ρ st.w) (h : pickAll C i p0 p1 kr fin f st = true)
    {Q : Exit → Act → World → Prop} (hQ : ∀ ρ' st' a' w', Ext ρ st.w w ρ' st'.w w' → StOk E n sl none none [] ρ' st' a' w' → fin st' = true → Q .ret a' w') : (Code.loop c).wpIn Fence.wide m E.P Q a w := by
  obtain ⟨rfl, hops, g0, e0, o0, g1, e1, o1⟩ := pickShape_some hs
  refine wpIn_loop_n (J := fun k a1 w1 => ∃ ρ1 st1, Ext ρ st.w w ρ1 st1.w w1 ∧ StOk E n sl none none [] ρ1 st1 a1 w1 ∧ pickAll C i p0 p1 kr fin k st1 = true ∧ Ahead ρ1 st1.w) (N := f) ⟨ρ, st, hst.ok.refl_ext, hst, h, ha⟩ ?_
  rintro k a1 w1 ⟨ρ1, st1, hext, hst1, hl, ha1⟩
  cases k with
  | zero => simp [pickAll] at hl
  | succ k =>
    simp only [pickAll] at hl
    split at hl
    · rename_i id hid
      split at hl
      · rename_i m' since seen last hobj
        split at hl
        · rename_i es clock hmap
          split at hl
          · rename_i hold hleft hhead
            have hit := hst1.fr s.it i hi
            rw [hid] at hit
            generalize hv : a1.tmps.getD s.it undef = vv at hit
            cases hit with
            | @ptr _ _ b o t hp =>
              obtain ⟨ob, ho1, ho2⟩ := hst1.ok.wrel.obj id _ _ hobj hp
              have hz : o = 0 ∧ t = 0 := by cases ho2; exact ⟨rfl, rfl⟩
              obtain ⟨rfl, rfl⟩ := hz
              obtain ⟨kk, kv, kn, u1, u2, w2, hmem, hns, r1, r2, hrun, hput⟩ := pick_next hst1.ok hobj hmap hp hold hleft hhead s.o0.type
              have hthis := allE_mem hl kk kv kn hmem
              simp only [hns] at hthis
              split at hthis
              · rename_i S1 hS1
                have hext2 := hput S1 hS1
                have hok2 := hst1.ok.ext hext2
                have hs0 : Slots ρ1 n [] sl [] st1.fr a1.tmps := ⟨hst1.size, fun t i ht => by simp [posOf] at ht, hst1.fr⟩
                have hs1 := hs0.put (a := a1) h0 (.tuple (.cons (.bool true) (.cons r1 (.cons r2 .nil))))
                have hs2 := hs1.put (a := a1.put (some s.t0) (.tuple #[.bool true, u1, u2])) h1 (.bool true)
                have hst2 : StOk E n sl none none [] ρ1 ⟨p1.keep (p0.keep st1.fr (.tuple [.bool true, kk, kv])) (.bool true), st1.defers, S1⟩ ((a1.put (some s.t0) (.tuple #[.bool true, u1, u2])).put (some s.t1) (.bool true)) w2 :=
                  ⟨hs2.size, hs2.fr, hok2, by rw [put_defers, put_defers]; exact hst1.defers, .none⟩
                have ha2 : Ahead ρ1 S1 := ha1.ext hext2
                have hops0 : s.ops[0]? = some s.o0 := by rw [← Array.getElem?_toList, hops]; rfl
                have hops1 : s.ops[1]? = some s.o1 := by rw [← Array.getElem?_toList, hops]; rfl
                have hsz : s.ops.size = 2 := by rw [← Array.length_toList, hops]; rfl
                refine wpIn_seq (region_parts hsz ?_)
                show wpOpsIn Fence.wide m E.P s.ops _ [0, 1] a1 w1
                refine op_hand (v := .tuple #[.bool true, u1, u2]) (w' := w2) hops0 g0 (fun c e => by rw [o0] at e; cases e) ?_ ?_
                · simp only [execOp, o0, Act.eval, hv]
                  exact run_v (by simpa using hrun)
                rw [e0]
                refine op_hand (v := .bool true) (w' := w2) hops1 g1 (fun c e => by rw [o1] at e; cases e) ?_ ?_
                · simp only [execOp, o1, Act.eval]
                  rw [put_same (by rw [hst1.size]; exact hlt)]
                  exact run_v (by simp [Instr.extract])
                rw [e1]
                show Code.wpIn _ _ _ _ _ _ _
                split at hthis
                · rename_i st3 h3
                  refine comp_sound hC hM s.rest kr hk none none [] m ρ1 _ _ w2 _ hst2 h3 (ha2.fresh _) _ fun ρ3 a3 w3 hext3 hst3 => ?_
                  exact ⟨k, Nat.lt_succ_self k, ρ3, st3, (hext.trans hext2).trans hext3, hst3, hthis, ha2.ext hext3⟩
                · rename_i st3 h3
                  refine comp_sound hC hM s.rest kr hk none none [] m ρ1 _ _ w2 _ hst2 h3 (ha2.fresh _) _ fun ρ3 a3 w3 hext3 hst3 => ?_
                  exact hQ ρ3 st3 a3 w3 ((hext.trans hext2).trans hext3) hst3 hthis
                · cases hthis
              · cases hthis
          · cases hl
        · cases hl
      · cases hl
    · cases hl
end

/-! ### A function that has such a loop -/
structure LoopF where
  r0 : Code
  x : Code
  r4 : Code
  b : Nat
  c : Code
  post : Code
  s : PickF

def loopShape (fn : Func) : Option LoopF :=
  match fn.body with
  | some (.seq r0 (.seq x (.seq (.seq r4 (.block b (.loop c))) post))) => (match pickShape c with
    | some s => some ⟨r0, x, r4, b, c, post, s⟩
    | none => none)
  | _ => none
theorem loopShape_some {fn : Func} {s : LoopF} (h : loopShape fn = some s) : fn.body = some (.seq s.r0 (.seq s.x (.seq (.seq s.r4 (.block s.b (.loop s.c))) s.post))) ∧ pickShape s.c = some s.s := by
  unfold loopShape at h
  split at h
  · rename_i r0 x r4 b c post hb
    split at h
    · rename_i p hp
      simp only [Option.some.injEq] at h
      subst h
      exact ⟨hb, hp⟩
    · cases h
  · cases h

/-- The function's run from no object, in all orders, hands back this. -/
noncomputable def pickRun (E : Env) (C : Sym.Callee) (f : Nat) (args : List SV) (x : SV) : Bool :=
  match nth E.P.funcs.toList f with
  | none => false
  | some fn => match fn.name == "runtime.NumGoroutine" with
    | true => false
    | false => match loopShape fn with
      | none => false
      | some s => match upTo fn.ntmps [] with
        | sl => match comp E fn.ntmps sl s.r0, comp E fn.ntmps sl s.x, comp E fn.ntmps sl s.r4, comp E fn.ntmps sl s.s.rest, resK E sl fn.results.toList, Nat.ble args.length fn.ntmps with
          | some ⟨k0⟩, some ⟨kx⟩, some ⟨k4⟩, some ⟨kr⟩, some ⟨q⟩, true =>
            (match posOf s.s.it sl, dstK sl fn.ntmps (some s.s.t0), dstK sl fn.ntmps (some s.s.t1), Nat.ble (Nat.succ s.s.t0) fn.ntmps, Nat.beq s.s.t0 s.s.it with
            | some i, some (_, p0), some (_, p1), true, false =>
              (match k0 C none ⟨frameOf args sl, [], ⟨.nil, 0, 0⟩⟩ with
              | some (.norm st1) => (match kx C none st1 with
                | some (.norm st2) => (match k4 C none st2 with
                  | some (.norm st3) => pickAll C i p0 p1 kr (fun st => isSV x (leave q st)) 20 st3
                  | _ => false)
                | _ => false)
              | _ => false)
            | _, _, _, _, _ => false)
          | _, _, _, _, _, _ => false

section
variable {E : Env} {C : Sym.Callee}

theorem pickRun_calls (hC : CalleeSound E C) (hM : CalleeMono C) (hn : NumOk E) {f : Nat} {args : List SV} {x : SV} (h : pickRun E C f args x = true) :
    (∀ (vals : Array Value) w, (callFunc f vals).run E.P w = .ok (.enter f vals) w) ∧
    ∀ vals w, Lies E w → VRels (.nil E.sig) args vals → Calls E.P f vals.toArray w fun e w' => ∃ u ρ, e = .returned u ∧ EOk E ρ ∧ VRel ρ x u ∧ On w w' := by
  unfold pickRun at h
  split at h
  · cases h
  · rename_i fn hfn
    rw [nth_eq, Array.getElem?_toList] at hfn
    split at h
    · cases h
    · rename_i hname
      split at h
      · cases h
      · rename_i s hs
        obtain ⟨hbody, hp⟩ := loopShape_some hs
        dsimp only at h
        split at h
        · rename_i k0 kx k4 kr q hk0 hkx hk4 hkr hq hble
          have hble := Nat.le_of_ble_eq_true hble
          split at h
          · rename_i i d0 p0 d1 p1 hi h0 h1 hlt hne
            have hlt := Nat.le_of_ble_eq_true hlt
            have hne : s.s.t0 ≠ s.s.it := fun e => by rw [e, Nat.beq_refl] at hne; cases hne
            split at h
            · rename_i st1 hr1
              split at h
              · rename_i st2 hr2
                split at h
                · rename_i st3 hr3
                  refine ⟨fun vals w => ?_, fun vals w hL hv => ?_⟩
                  · simp [callFunc, hfn, hbody]
                    simpa using hname
                  have hlen := hv.length
                  refine callsIn_wide.1 (callsIn_of_wp_marks (n := 0) hfn hbody trivial ?_)
                  have hst : StOk E fn.ntmps (upTo fn.ntmps []) none none [] (.nil E.sig) ⟨frameOf args (upTo fn.ntmps []), [], ⟨.nil, 0, 0⟩⟩ { tmps := vals.toArray ++ Array.replicate (fn.ntmps - vals.toArray.size) undef, defers := [] } w :=
                    ⟨by simp; omega, frame_rel hv _ _, empty_ok hn hL, .nil, .none⟩
                  have ah0 : Ahead (.nil E.sig) (⟨.nil, 0, 0⟩ : SW) := fun _ _ => rfl
                  refine wpIn_seq ?_
                  refine comp_sound hC hM s.r0 k0 hk0 none none [] 0 _ _ _ w _ hst hr1 (ah0.fresh _) _ fun ρ1 a1 w1 ext1 hst1 => ?_
                  have ah1 := ah0.ext ext1
                  refine wpIn_seq ?_
                  refine comp_sound hC hM s.x kx hkx none none [] 0 _ _ _ w1 _ hst1 hr2 (ah1.fresh _) _ fun ρ2 a2 w2 ext2 hst2 => ?_
                  have ah2 := ah1.ext ext2
                  refine wpIn_seq (wpIn_seq ?_)
                  refine comp_sound hC hM s.r4 k4 hk4 none none [] 0 _ _ _ w2 _ hst2 hr3 (ah2.fresh _) _ fun ρ3 a3 w3 ext3 hst3 => ?_
                  have ah3 := ah2.ext ext3
                  refine wpIn_block ?_
                  refine pick_sound hC hM hp hkr hi h0 h1 hlt hne hst3 ah3 h fun ρ4 st4 a4 w4 ext4 hst4 hfin => ?_
                  unfold isSV at hfin
                  split at hfin
                  · rename_i y S5 hlv
                    have := svEq_sound _ _ hfin
                    subst this
                    exact leave_sound (m := 0) hq hst4 hlv fun u w5 ext5 hu => ⟨u, ρ4, rfl, hst4.ok.num, hu, by
                      have e := (((ext1.trans ext2).trans ext3).trans ext4).trans ext5
                      exact ⟨e.size, e.os, e.tape, e.output, fun k hk => e.frame k hk fun i p _ hp => by cases hp⟩⟩
                  · cases hfin
                · cases h
              · cases h
            · cases h
          · cases h
        · cases h

/-- A call with arguments that name nothing is known. -/
theorem known_pure {K : Nat → List SV → SW → Option (SV × SW)} {f0 : Nat} {args0 : List SV} {x : SV} (hx : noRef x = true) (hargs : noRef.noRefs args0 = true) (hname : ∀ (vals : Array Value) w, (callFunc f0 vals).run E.P w = .ok (.enter f0 vals) w)
    (hcall : ∀ vals w, Lies E w → VRels (.nil E.sig) args0 vals → Calls E.P f0 vals.toArray w fun e w' => ∃ u ρ, e = .returned u ∧ EOk E ρ ∧ VRel ρ x u ∧ On w w') (hK : Known E K) :
    Known E (fun f args S => match Nat.beq f f0, svsEq args args0 with | true, true => some (x, S) | _, _ => K f args S) where
  name f args S r h := by
    split at h
    · rename_i hb _
      have := Nat.eq_of_beq_eq_true hb
      subst this
      exact hname
    · exact hK.name f _ S r h
  mono f args S x S' h := by
    split at h
    · simp only [Option.some.injEq, Prod.mk.injEq] at h
      obtain ⟨-, rfl⟩ := h
      exact .refl _
    · exact hK.mono f _ S x S' h
  call f args S y S' h ρ vals w hok hfr hv := by
    split at h
    · rename_i hb he
      have := Nat.eq_of_beq_eq_true hb
      subst this
      have := svsEq_sound _ _ he
      subst this
      simp only [Option.some.injEq, Prod.mk.injEq] at h
      obtain ⟨rfl, rfl⟩ := h
      have hv0 : VRels (.nil E.sig) args vals := noRefs_rel hok.glob.num.sig hargs hv
      refine callsIn_wide.1 (CallsIn.mono (callsIn_wide.2 (hcall vals w hok.glob.lies hv0)) (n := 0) ?_)
      rintro e w' ⟨u, ρ', rfl, he', hu, o⟩
      exact ⟨_, ρ, rfl, ext_on hok.wrel hok.tidy o, noRef_rel (he'.sig.trans hok.glob.num.sig.symm) hx hu⟩
    · exact hK.call f _ S y S' h ρ vals w hok hfr hv
end
end Go.RX

/- A run cut into parts: each part goes from a state that is written out to a state that is written out; what is not needed any more is let go. -/
namespace Go.RX
open Sym

noncomputable def frLe : List SV → List SV → Bool
  | [], y => (match y with | [] => true | _ => false)
  | x :: xs, y => (match y with
    | [] => false
    | y :: ys => (match x with
      | .unknown => frLe xs ys
      | x => (match svEq x y with | true => frLe xs ys | false => false)))

theorem frLe_get : ∀ {xs ys : List SV}, frLe xs ys = true → ∀ i, nthV .unknown xs i = .unknown ∨ nthV .unknown xs i = nthV .unknown ys i
  | [], _, _, i => .inl rfl
  | x :: xs, [], h, i => by simp [frLe] at h
  | x :: xs, y :: ys, h, i => by
    simp only [frLe] at h
    split at h
    · cases i with
      | zero => exact .inl rfl
      | succ i => exact frLe_get h i
    · split at h
      · rename_i he
        cases i with
        | zero => exact .inr (svEq_sound _ _ he)
        | succ i => exact frLe_get h i
      · cases h

noncomputable def heapOf : List (Nat × SObj) → Tr (Option SObj)
  | [] => .nil
  | (id, o) :: l => Tr.set none (some o) (path id) (heapOf l)
noncomputable def cutSt (fr : List SV) (objs : List (Nat × SObj)) (next : Nat) : St := ⟨fr, [], ⟨heapOf objs, next, 0⟩⟩
noncomputable def objsIn (w : SW) (next : Nat) : List (Nat × SObj) → Bool
  | [] => true
  | (id, o) :: l => match Nat.ble (Nat.succ id) next, objEq (hget w id) (some o) with
    | true, true => objsIn w next l
    | _, _ => false

theorem objsIn_mem {S : SW} {next : Nat} : ∀ {l : List (Nat × SObj)}, objsIn S next l = true → ∀ id o, (id, o) ∈ l → id < next ∧ S.at id = some o
  | [], _, id, o, h => by cases h
  | (id0, o0) :: l, h, id, o, hm => by
    simp only [objsIn] at h
    split at h
    · rename_i h1 h2
      rcases List.mem_cons.1 hm with e | hm
      · cases e
        exact ⟨Nat.le_of_ble_eq_true h1, objEq_sound h2⟩
      · exact objsIn_mem h id o hm
    · cases h

theorem heapOf_at {n m : Nat} : ∀ {l : List (Nat × SObj)} {i : Nat} {x : SObj}, (SW.mk (heapOf l) n m).at i = some x → (i, x) ∈ l
  | [], i, x, h => by
    rw [at_of_heap] at h
    simp only [heapOf, Tr.get_nil] at h
    cases h
  | (id, o) :: l, i, x, h => by
    rw [at_of_heap] at h
    simp only [heapOf] at h
    rw [Tr.get_set] at h
    split at h
    · rename_i hp
      have := path_inj hp
      subst this
      simp only [Option.some.injEq] at h
      subst h
      simp
    · exact List.mem_cons_of_mem _ (heapOf_at (n := n) (m := m) (by rw [at_of_heap]; exact h))

noncomputable def cutOk (fr : List SV) (objs : List (Nat × SObj)) (next : Nat) : Option Out → Bool
  | some (.norm st) => (match noDefers st, frLe fr st.fr, Nat.ble st.w.next next, objsIn st.w next objs with
    | true, true, true, true => true
    | _, _, _, _ => false)
  | _ => false

section
variable {E : Env} {C : Sym.Callee}

/-- How a run stands that began without objects. -/
structure Inv (E : Env) (n : Nat) (sl : List Nat) (w0 : World) (ρ : Ren) (st : St) (a : Act) (w : World) : Prop where
  ext : Ext (.nil E.sig) ⟨.nil, 0, 0⟩ w0 ρ st.w w
  ok : StOk E n sl none none [] ρ st a w
  ahead : Ahead ρ st.w

theorem cut_inv {n : Nat} {sl : List Nat} {w0 w : World} {ρ : Ren} {st : St} {a : Act} {fr : List SV} {objs : List (Nat × SObj)} {next : Nat} (h : Inv E n sl w0 ρ st a w) (hc : cutOk fr objs next (some (.norm st)) = true) :
    Inv E n sl w0 ρ (cutSt fr objs next) a w := by
  simp only [cutOk] at hc
  split at hc
  · · rename_i h1 h2 h3 h4
      have h1 := noDefers_eq h1
      have h3 := Nat.le_of_ble_eq_true h3
      have hsub : ∀ i x, (cutSt fr objs next).w.at i = some x → i < next ∧ st.w.at i = some x := fun i x hx => objsIn_mem h4 i x (heapOf_at hx)
      have hwrel : WRel ρ (cutSt fr objs next).w.at w := h.ok.ok.wrel.less fun i x _ hx => (hsub i x hx).2
      have htidy : (cutSt fr objs next).w.tidy := fun i hi => by
        cases hx : (cutSt fr objs next).w.at i with
        | none => rfl
        | some x =>
          have := (hsub i x hx).1
          have hi : next ≤ i := hi
          omega
      have hnone : ∀ i, (cutSt fr objs next).w.at i ≠ none → st.w.at i ≠ none := fun i hi => by
        cases hx : (cutSt fr objs next).w.at i with
        | none => exact absurd hx hi
        | some x => rw [(hsub i x hx).2]; simp
      refine ⟨?_, ⟨h.ok.size, fun t i ht => ?_, ⟨hwrel, htidy, ⟨h.ok.ok.glob.lies, fun b hb i p hi hp => h.ok.ok.glob.apart b hb i p (hnone i hi) hp, h.ok.ok.glob.num⟩⟩, ?_, .none⟩, fun i hi => h.ahead i (Nat.le_trans h3 hi)⟩
      · exact ⟨h.ext.le, fun i p hp => by
          rcases h.ext.fresh i p hp with e | ⟨e1, e2⟩
          · exact .inl e
          · exact .inr ⟨e1, Nat.lt_of_lt_of_le e2 h3⟩, Nat.zero_le _, htidy, Nat.le_refl _, fun i hi => absurd hi (Nat.not_lt_zero i), h.ext.size, h.ext.os, h.ext.tape, h.ext.output, h.ext.frame, fun i p hi hp => h.ext.own i p (hnone i hi) hp, hwrel⟩
      · show VRel ρ (nthV .unknown fr i) _
        rcases frLe_get h2 i with e | e
        · rw [e]; exact .unknown _
        · rw [e]; exact h.ok.fr t i ht
      · have := h.ok.defers
        rw [h1] at this
        exact this
  · cases hc

/-- From code and a state to the code that is left and a state. -/
def Leads (E : Env) (n : Nat) (sl : List Nat) (c : Code) (st : St) (c' : Code) (st' : St) : Prop :=
  ∀ (w0 : World) (Q : Exit → Act → World → Prop), (∀ ρ a w, Inv E n sl w0 ρ st' a w → c'.wpIn Fence.wide 0 E.P Q a w) → ∀ ρ a w, Inv E n sl w0 ρ st a w → c.wpIn Fence.wide 0 E.P Q a w

theorem Leads.refl {n : Nat} {sl : List Nat} {c : Code} {st : St} : Leads E n sl c st c st := fun _ _ h => h
theorem Leads.trans {n : Nat} {sl : List Nat} {c c1 c2 : Code} {st st1 st2 : St} (h : Leads E n sl c st c1 st1) (k : Leads E n sl c1 st1 c2 st2) : Leads E n sl c st c2 st2 :=
  fun w0 Q hQ => h w0 Q (k w0 Q hQ)

noncomputable def partRun (E : Env) (C : Sym.Callee) (n : Nat) (sl : List Nat) (c : Code) (st : St) : Option Out := match comp E n sl c with
  | some ⟨f⟩ => f C none st
  | none => none

theorem leads_part (hC : CalleeSound E C) (hM : CalleeMono C) {n : Nat} {sl : List Nat} {a b : Code} {st : St} {fr : List SV} {objs : List (Nat × SObj)} {next : Nat} (h : cutOk fr objs next (partRun E C n sl a st) = true) : Leads E n sl (.seq a b) st b (cutSt fr objs next) := by
  intro w0 Q hQ ρ ac w hi
  unfold partRun at h
  split at h
  · rename_i f hf
    have ho : ∃ st1, f C none st = some (.norm st1) := by
      unfold cutOk at h
      split at h
      · rename_i st1 e; exact ⟨st1, e⟩
      · cases h
    obtain ⟨st1, ho⟩ := ho
    rw [ho] at h
    refine wpIn_seq ?_
    refine comp_sound hC hM a f hf none none [] 0 ρ st ac w _ hi.ok ho (hi.ahead.fresh _) _ fun ρ' a' w' hext hst => ?_
    exact hQ ρ' a' w' (cut_inv ⟨hi.ext.trans hext, hst, hi.ahead.ext hext⟩ h)
  · cases h

noncomputable def endOk (E : Env) (C : Sym.Callee) (n : Nat) (sl : List Nat) (rs : List ResultVar) (c : Code) (st : St) (x : SV) : Bool :=
  match resK E sl rs, partRun E C n sl c st with
  | some ⟨q⟩, some (.norm st') => isSV x (leave q st')
  | some ⟨q⟩, some (.ret st') => isSV x (leave q st')
  | _, _ => false

/-- A function without parameters, run in parts. -/
theorem parts_call (hC : CalleeSound E C) (hM : CalleeMono C) (hn : NumOk E) {f : FuncId} {fn : Func} {body c' : Code} {sl : List Nat} {st' : St} {x : SV} (hf : E.P.funcs[f]? = some fn) (hb : fn.body = some body)
    (hl : Leads E fn.ntmps sl body ⟨frameOf [] sl, [], ⟨.nil, 0, 0⟩⟩ c' st') (he : endOk E C fn.ntmps sl fn.results.toList c' st' x = true) {w : World} (hL : Lies E w) :
    Calls E.P f #[] w fun e w' => ∃ u ρ, e = .returned u ∧ EOk E ρ ∧ VRel ρ x u ∧ On w w' := by
  refine callsIn_wide.1 (callsIn_of_wp_marks (n := 0) hf hb trivial ?_)
  have hst : StOk E fn.ntmps sl none none [] (.nil E.sig) ⟨frameOf [] sl, [], ⟨.nil, 0, 0⟩⟩ { tmps := (#[] : Array Value) ++ Array.replicate (fn.ntmps - (#[] : Array Value).size) undef, defers := [] } w :=
    ⟨by simp, frame_rel .nil _ _, empty_ok hn hL, .nil, .none⟩
  have hok := empty_ok hn hL
  refine hl w _ (fun ρ a w1 hi => ?_) (.nil E.sig) _ w ⟨hok.refl_ext, hst, fun _ _ => rfl⟩
  unfold endOk at he
  have fin : ∀ (q : List SV → SW → Option (List SV)) (out : Out), resK E sl fn.results.toList = some ⟨q⟩ → partRun E C fn.ntmps sl c' st' = some out → (out.how = .normal ∨ out.how = .ret) → isSV x (leave q out.st) = true →
      c'.wpIn Fence.wide 0 E.P (bodyPostM Fence.wide 0 E.P fn fun e w' => ∃ u ρ, e = .returned u ∧ EOk E ρ ∧ VRel ρ x u ∧ On w w') a w1 := by
    intro q out hq hp hhow hx
    unfold partRun at hp
    split at hp
    · rename_i g hg
      refine comp_sound hC hM c' g hg none none [] 0 ρ st' a w1 out hi.ok hp (hi.ahead.fresh _) _ fun ρ2 a2 w2 ext2 hst2 => ?_
      unfold isSV at hx
      split at hx
      · rename_i y S5 hlv
        have := svEq_sound _ _ hx
        subst this
        have := leave_sound (m := 0) (R := fun e w' => ∃ u ρ, e = .returned u ∧ EOk E ρ ∧ VRel ρ y u ∧ On w w') hq hst2 hlv fun u w5 ext5 hu => ⟨u, ρ2, rfl, hst2.ok.num, hu, by
          have e := (hi.ext.trans ext2).trans ext5
          exact ⟨e.size, e.os, e.tape, e.output, fun k hk => e.frame k hk fun i p _ hp => by cases hp⟩⟩
        rcases hhow with e1 | e1 <;> rw [e1] <;> exact this
      · cases hx
    · cases hp
  split at he
  · rename_i q st1 hq hp
    exact fin q _ hq hp (.inl rfl) he
  · rename_i q st1 hq hp
    exact fin q _ hq hp (.inr rfl) he
  · cases he
end

/-! ### Parts of code -/
def partA : Code → Code
  | .seq a _ => a
  | c => c
def partB : Code → Code
  | .seq _ b => b
  | c => c
def isSeq : Code → Bool
  | .seq _ _ => true
  | _ => false
theorem seq_parts {c : Code} (h : isSeq c = true) : c = .seq (partA c) (partB c) := by
  cases c <;> first | rfl | cases h
theorem leads_next {E : Env} {C : Sym.Callee} (hC : CalleeSound E C) (hM : CalleeMono C) {n : Nat} {sl : List Nat} {c : Code} {st : St} {fr : List SV} {objs : List (Nat × SObj)} {next : Nat} (hs : isSeq c = true) (h : cutOk fr objs next (partRun E C n sl (partA c) st) = true) :
    Leads E n sl c st (partB c) (cutSt fr objs next) := by
  have := leads_part hC hM (b := partB c) h
  rw [← seq_parts hs] at this
  exact this
end Go.RX
