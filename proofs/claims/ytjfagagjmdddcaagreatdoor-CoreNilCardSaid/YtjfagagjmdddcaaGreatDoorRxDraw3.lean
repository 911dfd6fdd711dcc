/- Regions that draw their order: how a state that is described in parts goes on. -/
import Derived.Test.YtjfagagjmdddcaaGreatDoorRxDraw2
set_option linter.all false
namespace Go.RX
open Sym

/-- From a described world to a later one, whatever describes it. -/
structure ExtH (ρ : Ren) (H : Nat → Option SObj) (w : World) (ρ' : Ren) (H' : Nat → Option SObj) (w' : World) : Prop where
  le : ρ.le ρ'
  size : w.heap.size ≤ w'.heap.size
  os : w'.os = w.os
  tape : w'.tape = w.tape
  output : w'.output = w.output
  frame : ∀ b, b < w.heap.size → (∀ i p, H i ≠ none → ρ i = some p → p.1 ≠ b) → w'.heap[b]? = w.heap[b]?
  own : ∀ i p, H' i ≠ none → ρ' i = some p → (∃ j q, H j ≠ none ∧ ρ j = some q ∧ q.1 = p.1) ∨ w.heap.size ≤ p.1
  wrel : WRel ρ' H' w'

theorem Ext.toH {ρ ρ' : Ren} {S S' : SW} {w w' : World} (h : Ext ρ S w ρ' S' w') : ExtH ρ S.at w ρ' S'.at w' :=
  ⟨h.le, h.size, h.os, h.tape, h.output, h.frame, h.own, h.wrel⟩

/-- One operation that sees a part (M) of what is described. -/
structure PartStep (ρ ρ' : Ren) (S S' : SW) (HA HB : Nat → Option SObj) (M : Nat → Prop) : Prop where
  inside : ∀ i, S.at i ≠ none → ρ i ≠ none → HA i ≠ none ∧ M i
  here : ∀ i, M i → ρ' i ≠ none → HB i = S'.at i
  apart : ∀ i p, ¬ M i → ρ' i = some p → HB i = HA i ∧ ρ i = some p

section
variable {E : Env} {ρ0 ρ ρ' : Ren} {H0 HA HB : Nat → Option SObj} {w0 w w' : World} {S S' : SW} {M : Nat → Prop}

theorem part_wrel (hA : WRel ρ HA w) (hx : Ext ρ S w ρ' S' w') (hp : PartStep ρ ρ' S S' HA HB M) : WRel ρ' HB w' := by
  have old : ∀ i p, ¬ M i → HB i ≠ none → ρ' i = some p → HA i ≠ none ∧ ρ i = some p ∧ p.1 < w.heap.size ∧ ∀ j q, S.at j ≠ none → ρ j = some q → q.1 ≠ p.1 := fun i p hM hi hp' => by
    obtain ⟨h1, h2⟩ := hp.apart i p hM hp'
    rw [h1] at hi
    refine ⟨hi, h2, hA.lt hi h2, fun j q hj hq e => ?_⟩
    obtain ⟨h3, h4⟩ := hp.inside j hj (by simp [hq])
    have := hA.inj j i q p h3 hi hq h2 e
    subst this
    exact hM h4
  refine ⟨fun i x p hi hpp => ?_, fun i j p q hi hj hpp hq e => ?_⟩
  · by_cases hM : M i
    · rw [hp.here i hM (by simp [hpp])] at hi
      exact hx.wrel.obj i x p hi hpp
    · obtain ⟨h1, h2, h3, h4⟩ := old i p hM (by simp [hi]) hpp
      rw [(hp.apart i p hM hpp).1] at hi
      obtain ⟨o, k1, k2⟩ := hA.obj i x p hi h2
      exact ⟨o, by rw [hx.frame p.1 h3 h4]; exact k1, k2.mono hx.le⟩
  · by_cases hMi : M i <;> by_cases hMj : M j
    · rw [hp.here i hMi (by simp [hpp])] at hi
      rw [hp.here j hMj (by simp [hq])] at hj
      exact hx.wrel.inj i j p q hi hj hpp hq e
    · exfalso
      obtain ⟨h1, h2, h3, h4⟩ := old j q hMj hj hq
      rw [hp.here i hMi (by simp [hpp])] at hi
      rcases hx.own i p hi hpp with ⟨k, r, k1, k2, k3⟩ | hge
      · exact h4 k r k1 k2 (k3.trans e)
      · omega
    · exfalso
      obtain ⟨h1, h2, h3, h4⟩ := old i p hMi hi hpp
      rw [hp.here j hMj (by simp [hq])] at hj
      rcases hx.own j q hj hq with ⟨k, r, k1, k2, k3⟩ | hge
      · exact h4 k r k1 k2 (k3.trans e.symm)
      · omega
    · obtain ⟨h1, h2, -⟩ := old i p hMi hi hpp
      obtain ⟨h3, h4, -⟩ := old j q hMj hj hq
      exact hA.inj i j p q h1 h3 h2 h4 e

theorem part_own (hA : WRel ρ HA w) (hx : Ext ρ S w ρ' S' w') (hp : PartStep ρ ρ' S S' HA HB M) : ∀ i p, HB i ≠ none → ρ' i = some p → (∃ j q, HA j ≠ none ∧ ρ j = some q ∧ q.1 = p.1) ∨ w.heap.size ≤ p.1 := fun i p hi hpp => by
  by_cases hM : M i
  · rw [hp.here i hM (by simp [hpp])] at hi
    rcases hx.own i p hi hpp with ⟨j, q, h1, h2, h3⟩ | h
    · exact .inl ⟨j, q, (hp.inside j h1 (by simp [h2])).1, h2, h3⟩
    · exact .inr h
  · obtain ⟨h1, h2⟩ := hp.apart i p hM hpp
    rw [h1] at hi
    exact .inl ⟨i, p, hi, h2, rfl⟩

theorem part_ext (h : ExtH ρ0 H0 w0 ρ HA w) (hx : Ext ρ S w ρ' S' w') (hp : PartStep ρ ρ' S S' HA HB M) : ExtH ρ0 H0 w0 ρ' HB w' where
  le := h.le.trans hx.le
  size := Nat.le_trans h.size hx.size
  os := hx.os.trans h.os
  tape := hx.tape.trans h.tape
  output := hx.output.trans h.output
  frame b hb hn := by
    refine (hx.frame b (Nat.lt_of_lt_of_le hb h.size) fun i p hi hpp e => ?_).trans (h.frame b hb hn)
    rcases h.own i p (hp.inside i hi (by simp [hpp])).1 hpp with ⟨j, q, hj, hq, hqp⟩ | hge
    · exact hn j q hj hq (hqp.trans e)
    · omega
  own i p hi hpp := by
    rcases part_own h.wrel hx hp i p hi hpp with ⟨j, q, h1, h2, h3⟩ | hge
    · rcases h.own j q h1 h2 with ⟨j2, q2, k1, k2, k3⟩ | hge
      · exact .inl ⟨j2, q2, k1, k2, k3.trans h3⟩
      · exact .inr (by omega)
    · exact .inr (Nat.le_trans h.size hge)
  wrel := part_wrel h.wrel hx hp

theorem part_glob (hA : WRel ρ HA w) (hg : Glob E ρ HA w) (hx : Ext ρ S w ρ' S' w') (hp : PartStep ρ ρ' S S' HA HB M) : Glob E ρ' HB w' where
  lies := hg.lies.on fun b hb => hx.frame b (hg.lies.lt hb) fun i p hi hpp => hg.apart b hb i p (hp.inside i hi (by simp [hpp])).1 hpp
  apart b hb i p hi hpp e := by
    have hlt := hg.lies.lt hb
    rcases part_own hA hx hp i p hi hpp with ⟨j, q, k1, k2, k3⟩ | hge
    · exact hg.apart b hb j q k1 k2 (k3.trans e)
    · omega
  num := hg.num.mono hx.le

/-- A part of what is described. -/
theorem part_ok (hA : WRel ρ HA w) (hg : Glob E ρ HA w) (ht : S.tidy) (hs : ∀ i x, ρ i ≠ none → S.at i = some x → HA i = some x) : Ok E ρ S w where
  wrel := hA.less hs
  tidy := ht
  glob := ⟨hg.lies, fun b hb i p hi hpp => by
    cases e : S.at i with
    | none => exact absurd e hi
    | some x => exact hg.apart b hb i p (by simp [hs i x (by simp [hpp]) e]) hpp, hg.num⟩
end

/-! ### A state of some objects -/
theorem some_state (S : SW) (ob : List Nat) : ∃ S2 : SW, S2.next = S.next ∧ ∀ i, S2.at i = if i ∈ ob then S.at i else none := by
  induction ob with
  | nil => exact ⟨⟨.nil, S.next, S.low⟩, rfl, fun i => by simp [SW.at, hget, Tr.get_nil]⟩
  | cons id ob ih =>
    obtain ⟨S1, h1, h2⟩ := ih
    refine ⟨⟨Tr.set none (S.at id) (path id) S1.heap, S.next, S.low⟩, rfl, fun i => ?_⟩
    rw [at_of_heap, Tr.get_set]
    by_cases h : i = id
    · subst h; simp
    · rw [if_neg (fun e => h (path_inj e))]
      have := h2 i
      simp only [List.mem_cons, h, false_or]
      exact this

/-! ### What stands where, behind some of the operations -/
section
variable (N : Nat) (H : Nat → Nat → Option SObj)

/-- Of those that change an object, the ones that have been carried out are the first i. -/
def Agree (D : Nat → Prop) (i id : Nat) : Prop := ∀ j, j < N → H (j + 1) id ≠ H j id → (D j ↔ j < i)

open Classical in
noncomputable def HD (D : Nat → Prop) (id : Nat) : Option SObj := if h : ∃ i, i ≤ N ∧ Agree N H D i id then H (Classical.choose h) id else none

variable {N : Nat} {H : Nat → Nat → Option SObj} {D D' : Nat → Prop}

theorem Agree.same_le {i i2 id : Nat} (h : Agree N H D i id) (h2 : Agree N H D i2 id) (hi : i2 ≤ N) (hle : i ≤ i2) : H i id = H i2 id := by
  obtain ⟨k, rfl⟩ := Nat.exists_eq_add_of_le hle
  clear hle
  have key : ∀ m, m ≤ k → H (i + m) id = H i id := by
    intro m
    induction m with
    | zero => intro _; rfl
    | succ m ih =>
      intro hm
      rw [← ih (by omega)]
      apply Classical.byContradiction
      intro hne
      have e1 := h (i + m) (by omega) hne
      have e2 := h2 (i + m) (by omega) hne
      have : i + m < i := e1.1 (e2.2 (by omega))
      omega
  exact (key k (Nat.le_refl _)).symm

theorem HD_eq {i id : Nat} (hi : i ≤ N) (h : Agree N H D i id) : HD N H D id = H i id := by
  unfold HD
  have hex : ∃ i, i ≤ N ∧ Agree N H D i id := ⟨i, hi, h⟩
  rw [dif_pos hex]
  obtain ⟨c1, c2⟩ := Classical.choose_spec hex
  rcases Nat.le_total (Classical.choose hex) i with hle | hle
  · exact c2.same_le h hi hle
  · exact (h.same_le c2 c1 hle).symm

theorem HD_same {id : Nat} (h : ∀ j, j < N → H (j + 1) id ≠ H j id → (D j ↔ D' j)) : HD N H D id = HD N H D' id := by
  have key : ∀ i, Agree N H D i id ↔ Agree N H D' i id := fun i =>
    ⟨fun a j hj ht => (h j hj ht).symm.trans (a j hj ht), fun a j hj ht => (h j hj ht).trans (a j hj ht)⟩
  by_cases hex : ∃ i, i ≤ N ∧ Agree N H D i id
  · obtain ⟨i, h1, h2⟩ := hex
    rw [HD_eq h1 h2, HD_eq h1 ((key i).1 h2)]
  · have hex' : ¬ ∃ i, i ≤ N ∧ Agree N H D' i id := fun ⟨i, h1, h2⟩ => hex ⟨i, h1, (key i).2 h2⟩
    unfold HD
    rw [dif_neg hex, dif_neg hex']
end
end Go.RX
