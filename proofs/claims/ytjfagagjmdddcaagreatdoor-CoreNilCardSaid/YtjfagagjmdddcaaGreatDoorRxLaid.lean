/- What a listed variable's datum says of its cells: numbers, truth values, texts, and arrays and structs of these. -/
import Derived.Test.YtjfagagjmdddcaaGreatDoorRxShut
set_option linter.all false
namespace Go.RX
open Go.ChangeShapes Go.WideShapes Go.ChangeAt Go.RowKit
section
variable {H : Type}

def flatAll (P : Program) (flat : TypeId → DataW H → Option (List Value)) : Nat → List (Nat × TypeId) → List (DataW H) → Option (List Value)
  | _, [], [] => some []
  | pos, (off, t) :: ps, d :: ds =>
    match Nat.beq off pos, flat t d with
    | true, some l => (match Nat.beq l.length (P.cellsOf t) with
      | true => (match flatAll P flat (pos + l.length) ps ds with
        | some r => some (l ++ r)
        | none => none)
      | false => none)
    | _, _ => none
  | _, _, _ => none

def whole (P : Program) (t : TypeId) (l : Option (List Value)) : Option (List Value) :=
  match l with
  | some l => (match Nat.beq l.length (P.cellsOf t) with | true => some l | false => none)
  | none => none

def flat (P : Program) : Nat → TypeId → DataW H → Option (List Value)
  | 0, _, _ => none
  | f + 1, t, d =>
    match P.underlying t with
    | some (.int k) => (match d with | .lit (.int k' n) => (if k' = k then some [.int k n] else none) | _ => none)
    | some .string => (match d with | .lit (.string bs) => some [.string ⟨bs.toArray⟩] | _ => none)
    | some .bool => (match d with | .lit (.bool b) => some [.bool b] | _ => none)
    | some (.array n e) => (match d with | .agg ds => whole P t (flatAll P (flat P f) 0 ((List.range n).map fun i => (i * P.cellsOf e, e)) ds) | _ => none)
    | some (.struct fs) => (match d with | .agg ds => whole P t (flatAll P (flat P f) 0 (fs.toList.map fun x => (x.offset, x.type)) ds) | _ => none)
    | _ => none

theorem flatAll_sound {P : Program} {fl : TypeId → DataW H → Option (List Value)} {cs : List Value} : ∀ {ps : List (Nat × TypeId)} {ds : List (DataW H)} {pos : Nat} {l : List Value}, flatAll P fl pos ps ds = some l →
    (∀ (i off : Nat) (t : TypeId) (d : DataW H) (r : List Value), ps[i]? = some (off, t) → ds[i]? = some d → fl t d = some r → (cs.drop off).take (P.cellsOf t) = r) → (cs.drop pos).take l.length = l
  | [], [], pos, l, h, _ => by
    simp only [flatAll, Option.some.injEq] at h; subst h
    simp
  | [], _ :: _, _, _, h, _ => by simp [flatAll] at h
  | _ :: _, [], _, _, h, _ => by simp [flatAll] at h
  | (off, t) :: ps, d :: ds, pos, l, h, hc => by
    simp only [flatAll] at h
    split at h
    · rename_i r hb hr
      have hb := Nat.eq_of_beq_eq_true hb
      subst hb
      split at h
      · rename_i hlen
        have hlen := Nat.eq_of_beq_eq_true hlen
        split at h
        · rename_i r2 h2
          simp only [Option.some.injEq] at h; subst h
          have h3 := flatAll_sound h2 (fun i off' t' d' r' e1 e2 e3 => hc (i + 1) off' t' d' r' (by simpa using e1) (by simpa using e2) e3)
          have h4 := hc 0 off t d r rfl rfl hr
          rw [← hlen] at h4
          rw [List.length_append, List.take_add, h4, List.drop_drop, h3]
        · cases h
      · cases h
    · cases h

theorem whole_some {P : Program} {t : TypeId} {x : Option (List Value)} {l : List Value} (h : whole P t x = some l) : x = some l ∧ l.length = P.cellsOf t := by
  unfold whole at h
  split at h
  · split at h
    · rename_i hb
      simp only [Option.some.injEq] at h; subst h
      exact ⟨rfl, Nat.eq_of_beq_eq_true hb⟩
    · cases h
  · cases h

theorem flat_sound {enc : TypeId × Value → H} {P : Program} {w : World} {base : Nat} {sp : Nat → Bool} {held : Bool} : ∀ {f fuel : Nat} {t : TypeId} {cs : List Value} {d : DataW H} {p : List MemPlace} {l : List Value},
    DataW.trod enc P w base sp held fuel t cs = some (d, p) → flat P f t d = some l → cs = l
  | 0, _, _, _, _, _, _, _, h => by simp [flat] at h
  | f + 1, fuel, t, cs, d, p, l, ht, h => by
    unfold flat at h
    split at h
    · rename_i k hk
      obtain ⟨n, rfl, hx, -⟩ := DataW.trod_int hk ht
      simp only [Prod.mk.injEq] at hx
      obtain ⟨rfl, -⟩ := hx
      simp at h
      exact h
    · rename_i hk
      obtain ⟨s, rfl, hx, -⟩ := DataW.trod_string hk ht
      simp only [Prod.mk.injEq] at hx
      obtain ⟨rfl, -⟩ := hx
      simp at h
      exact h
    · rename_i hk
      split at h
      · simp only [Option.some.injEq] at h; subst h
        cases fuel with
        | zero => simp [DataW.trod] at ht
        | succ n =>
          unfold DataW.trod at ht
          rw [hk] at ht
          split at ht <;> simp_all
      · cases h
    · rename_i n e hk
      obtain ⟨xs, m, rfl, hx, hlen, hn, hel⟩ := DataW.trod_array hk ht
      simp only [Prod.mk.injEq] at hx
      obtain ⟨rfl, -⟩ := hx
      simp only at h
      obtain ⟨h1, h2⟩ := whole_some h
      have h3 := flatAll_sound (cs := cs) h1 (fun i off t' d' r e1 e2 e3 => by
        rw [List.getElem?_map, Option.map_eq_some_iff] at e1 e2
        obtain ⟨i', hi', e1⟩ := e1
        have hin : i < n := by
          have := (List.getElem?_eq_some_iff.1 hi').1
          simpa using this
        have : i' = i := by
          rw [List.getElem?_range hin] at hi'
          simpa using hi'.symm
        subst this
        simp only [Prod.mk.injEq] at e1
        obtain ⟨rfl, rfl⟩ := e1
        obtain ⟨x, hx1, hx2⟩ := e2
        have := hel i' hin
        rw [hx1] at this
        obtain ⟨d0, p0⟩ := x
        simp only at hx2; subst hx2
        exact flat_sound this e3)
      have : l.length = cs.length := by omega
      rw [this] at h3
      simpa using h3
    · rename_i fs hk
      obtain ⟨xs, m, rfl, hx, hlen, hn, hel⟩ := DataW.trod_struct hk ht
      simp only [Prod.mk.injEq] at hx
      obtain ⟨rfl, -⟩ := hx
      simp only at h
      obtain ⟨h1, h2⟩ := whole_some h
      have h3 := flatAll_sound (cs := cs) h1 (fun i off t' d' r e1 e2 e3 => by
        rw [List.getElem?_map, Option.map_eq_some_iff] at e1 e2
        obtain ⟨fd, hfd, e1⟩ := e1
        simp only [Prod.mk.injEq] at e1
        obtain ⟨rfl, rfl⟩ := e1
        obtain ⟨x, hx1, hx2⟩ := e2
        have := hel i fd (by simpa using hfd)
        rw [hx1] at this
        obtain ⟨d0, p0⟩ := x
        simp only at hx2; subst hx2
        exact flat_sound this e3)
      have : l.length = cs.length := by omega
      rw [this] at h3
      simpa using h3
    · cases h
end

/-- A listed variable's cells, off the list. -/
theorem laid_cells {P : Program} {W : World} : ∀ {l : List (String × DataW Unit)} {n : Nat} {s : String} {d : DataW Unit} {ps : List MemPlace}, DataW.LaidVars P W l ps → l[n]? = some (s, d) →
    ∀ (g : Nat) (t : TypeId) (f : Nat) (vs : List Value), P.globalNamed s = some g → (P.globals[g]?).map (·.type) = some t → flat P f t d = some vs →
    ∃ (arr : Array Value) (el : TypeId) (fz : Nat × Nat), W.heap[g]? = some (.cells arr el fz) ∧ ∀ (k : Nat) (x : Value), vs[k]? = some x → arr[k]? = some x
  | [], n, s, d, ps, _, h => by intros; simp at h
  | (n0, d0) :: r, n, s, d, ps, hL, h => by
    intro g t f vs hg ht hf
    obtain ⟨g0, t0, cs, fuel, p, q, hg0, ht0, hv, hd, hr, -⟩ := hL
    cases n with
    | zero =>
      simp only [List.getElem?_cons_zero, Option.some.injEq, Prod.mk.injEq] at h
      obtain ⟨rfl, rfl⟩ := h
      rw [hg] at hg0; cases hg0
      rw [ht] at ht0; cases ht0
      have hcs := flat_sound hd hf
      simp only [World.var?, hg, Option.bind_some] at hv
      split at hv
      · rename_i c el fz hb
        simp only [Option.some.injEq] at hv; subst hv
        exact ⟨c, el, fz, hb, fun k x hx => by rw [← hcs] at hx; simpa using hx⟩
      · cases hv
    | succ n => exact laid_cells hr (by simpa using h) g t f vs hg ht hf

/-- Cells that are numbers, truth values and texts are what the evaluator takes them for. -/
theorem cells_known {ρ : Ren} {vs : List Value} {xs : List SV} (h : Sym.ofValues vs = some xs) {arr : Array Value} (ha : ∀ (k : Nat) (x : Value), vs[k]? = some x → arr[k]? = some x) :
    ∀ (k : Nat) (x : SV), xs[k]? = some x → ∃ v, arr[k]? = some v ∧ VRel ρ x v := fun k x hx => by
  obtain ⟨v, h1, h2⟩ := (ofValues_sound (ρ := ρ) vs h).get hx
  exact ⟨v, ha k v h1, h2⟩
end Go.RX
