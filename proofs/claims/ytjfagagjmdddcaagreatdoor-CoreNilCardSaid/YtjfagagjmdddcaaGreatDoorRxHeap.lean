/- The evaluator's steps on its heap, and the world's. -/
import Derived.Test.YtjfagagjmdddcaaGreatDoorRxRel
import Derived.Laws.Cells
import Derived.Laws.NewFold
set_option linter.all false
namespace Go.RX
open Sym

/-! ### The evaluator's heap -/
theorem force_eq {α : Type} (n : Nat) (k : Nat → α) : force n k = k n := by cases n <;> rfl

theorem hget_eq (S : SW) (i : Nat) : hget S i = S.at i := rfl

theorem at_of_heap {h : Tr (Option SObj)} {n l : Nat} (i : Nat) : (SW.mk h n l).at i = Tr.get none (path i) h := rfl

theorem at_mk (S : SW) (n l : Nat) (i : Nat) : (SW.mk S.heap n l).at i = S.at i := rfl

theorem new_some {S S' : SW} {o : SObj} {id : Nat} (h : Sym.new S o = some (id, S')) :
    id = S.next ∧ S'.next = S.next + 1 ∧ S'.low = S.low ∧ ∀ i, S'.at i = if i = S.next then some o else S.at i := by
  unfold Sym.new at h
  rw [force_eq] at h
  split at h
  · cases h
  · rename_i l x r e
    simp only [Option.some.injEq, Prod.mk.injEq] at h
    obtain ⟨rfl, rfl⟩ := h
    refine ⟨rfl, rfl, rfl, fun i => ?_⟩
    rw [at_of_heap, ← e, Tr.get_set]
    by_cases hi : i = S.next
    · subst hi; simp
    · rw [if_neg hi, if_neg (fun h => hi (path_inj h))]; rfl

theorem put_some {S S' : SW} {o : Option SObj} {id : Nat} (h : Sym.put S id o = some S') :
    S'.next = S.next ∧ S'.low ≤ S.low ∧ S'.low ≤ id ∧ ∀ i, S'.at i = if i = id then o else S.at i := by
  unfold Sym.put at h
  split at h
  · cases h
  · rename_i l x r e
    have hat : ∀ i, Tr.get none (path i) (Tr.node l x r) = if i = id then o else S.at i := fun i => by
      rw [← e, Tr.get_set]
      by_cases hi : i = id
      · subst hi; simp
      · rw [if_neg hi, if_neg (fun h => hi (path_inj h))]; rfl
    split at h
    · rename_i hb
      simp only [Option.some.injEq] at h
      subst h
      exact ⟨rfl, Nat.le_refl _, Nat.le_of_ble_eq_true hb, fun i => hat i⟩
    · rename_i hb
      rw [force_eq] at h
      simp only [Option.some.injEq] at h
      subst h
      refine ⟨rfl, ?_, Nat.le_refl _, fun i => hat i⟩
      have : ¬ S.low ≤ id := fun hle => by rw [Nat.ble_eq_true_of_le hle] at hb; cases hb
      show id ≤ S.low
      omega

/-! ### The world's -/
/-- The same world but for one block. -/
structure SameBut (b : Nat) (w w' : World) : Prop where
  os : w'.os = w.os
  tape : w'.tape = w.tape
  output : w'.output = w.output
  size : w'.heap.size = w.heap.size
  block : ∀ k, k ≠ b → w'.heap[k]? = w.heap[k]?

theorem SameBut.refl (b : Nat) (w : World) : SameBut b w w := ⟨rfl, rfl, rfl, rfl, fun _ _ => rfl⟩
theorem SameBut.trans {b : Nat} {w w1 w2 : World} (h : SameBut b w w1) (k : SameBut b w1 w2) : SameBut b w w2 :=
  ⟨k.os.trans h.os, k.tape.trans h.tape, k.output.trans h.output, k.size.trans h.size, fun i hi => (k.block i hi).trans (h.block i hi)⟩

theorem sameBut_setCell (w : World) (b o : Nat) (v : Value) : SameBut b w (w.setCell ⟨b, o, none⟩ v) :=
  ⟨rfl, rfl, rfl, by simp [World.setCell], fun k hk => by
    simp only [World.setCell, Array.getElem?_modify]
    rw [if_neg (fun h => hk h.symm)]⟩

theorem heap_setCell_at {w : World} {b o : Nat} {arr : Array Value} {el : TypeId} {fz : Nat × Nat} (v : Value) (h : w.heap[b]? = some (.cells arr el fz)) :
    (w.setCell ⟨b, o, none⟩ v).heap[b]? = some (.cells (arr.setIfInBounds o v) el fz) := by
  simp only [World.setCell, Array.getElem?_modify, if_pos, h]
  simp

theorem cell_at {w : World} {b o : Nat} {arr : Array Value} {el : TypeId} {fz : Nat × Nat} (h : w.heap[b]? = some (.cells arr el fz)) : w.cell? ⟨b, o, none⟩ = arr[o]? := by
  simp [World.cell?, h]

theorem frozen_at {w : World} {b o : Nat} {arr : Array Value} {el : TypeId} {fz : Nat × Nat} (h : w.heap[b]? = some (.cells arr el fz)) (hfz : ∀ k, k < arr.size → ¬ (fz.1 ≤ k ∧ k < fz.2)) (ho : o < arr.size) :
    w.frozen? ⟨b, o, none⟩ = false := by
  have := hfz o ho
  obtain ⟨lo, hi⟩ := fz
  simp [World.frozen?, h]
  omega

theorem add_win (b o i : Nat) : (⟨b, o, none⟩ : Addr).add i = ⟨b, o + i, none⟩ := by unfold Addr.add; split <;> simp_all

theorem run_storeCells_win (P : Program) (b o : Nat) (el : TypeId) (fz : Nat × Nat) : ∀ (vs : List Value) (i : Nat) (arr : Array Value) (w : World), w.heap[b]? = some (.cells arr el fz) →
    (∀ k, k < arr.size → ¬ (fz.1 ≤ k ∧ k < fz.2)) → o + i + vs.length ≤ arr.size → (∀ v ∈ vs, v.oneCell' = true) →
    ∃ w', (storeCells ⟨b, o, none⟩ vs i).run P w = .ok () w' ∧ SameBut b w w' ∧
      ∃ arr' : Array Value, w'.heap[b]? = some (.cells arr' el fz) ∧ arr'.size = arr.size ∧ ∀ k, arr'[k]? = if o + i ≤ k ∧ k < o + i + vs.length then vs[k - (o + i)]? else arr[k]?
  | [], i, arr, w, hb, _, _, _ => ⟨w, rfl, .refl b w, arr, hb, rfl, fun k => by simp; omega⟩
  | v :: vs, i, arr, w, hb, hfz, hl, h1 => by
    have hi : o + i < arr.size := by simp at hl; omega
    have hst : (store ((⟨b, o, none⟩ : Addr).add i) v).run P w = .ok () (w.setCell ⟨b, o + i, none⟩ v) := by
      rw [add_win, run_store P w _ v _ (h1 v (by simp)), cell_at hb, frozen_at hb hfz hi]
      simp [hi]
    obtain ⟨w', hrun, hsame, arr', hb', hs', hk'⟩ := run_storeCells_win P b o el fz vs (i + 1) (arr.setIfInBounds (o + i) v) (w.setCell ⟨b, o + i, none⟩ v) (heap_setCell_at v hb)
      (by simpa using hfz) (by simp at hl ⊢; omega) (fun x hx => h1 x (by simp [hx]))
    refine ⟨w', ?_, (sameBut_setCell w b (o + i) v).trans hsame, arr', hb', by simpa using hs', fun k => ?_⟩
    · simp only [storeCells, Sem.run_bind, hst, Result.andThen_ok, hrun]
    · rw [hk']
      by_cases a : o + (i + 1) ≤ k ∧ k < o + (i + 1) + vs.length
      · rw [if_pos a, if_pos (by simp; omega), show k - (o + i) = (k - (o + (i + 1))) + 1 from by omega]; simp
      · rw [if_neg a]
        by_cases e : k = o + i
        · subst e; rw [if_pos (by simp)]; simp [hi]
        · rw [if_neg (by simp; omega), Array.getElem?_setIfInBounds_ne (fun h => e h.symm)]

theorem run_loadCells_win (P : Program) {w : World} {b o : Nat} {arr : Array Value} {el : TypeId} {fz : Nat × Nat} (hb : w.heap[b]? = some (.cells arr el fz)) (vs : List Value)
    (h : ∀ k v, vs[k]? = some v → arr[o + k]? = some v) : (loadCells ⟨b, o, none⟩ vs.length).run P w = .ok vs.toArray w :=
  run_loadCells_list w _ vs fun j v hj => by rw [add_win, cell_at hb]; exact h j v hj

/-! ### Steps -/
/-- A number more. -/
def Ren.set (ρ : Ren) (i : Nat) (p : Nat × Nat × Nat) : Ren := ⟨fun j => if j = i then some p else ρ j, ρ.sig⟩
theorem Ren.set_same (ρ : Ren) (i : Nat) (p : Nat × Nat × Nat) : ρ.set i p i = some p := by simp [Ren.set]
theorem Ren.set_other {ρ : Ren} {i j : Nat} {p : Nat × Nat × Nat} (h : j ≠ i) : ρ.set i p j = ρ j := by simp [Ren.set, h]
theorem Ren.le_set {ρ : Ren} {i : Nat} {p : Nat × Nat × Nat} (h : ρ i = none) : ρ.le (ρ.set i p) := ⟨fun j q e => by
  by_cases hj : j = i
  · subst hj; rw [h] at e; cases e
  · rw [Ren.set_other hj]; exact e, rfl⟩

theorem heap_alloc_new (w : World) (o : Obj) : (w.alloc o).heap[w.heap.size]? = some o := by
  show (w.heap.push o)[w.heap.size]? = some o
  simp
theorem heap_alloc_old (w : World) (o : Obj) (k : Nat) (h : k < w.heap.size) : (w.alloc o).heap[k]? = w.heap[k]? := by
  show (w.heap.push o)[k]? = _
  rw [Array.getElem?_push, if_neg (by omega)]

theorem WRel.lt {ρ : Ren} {H : Nat → Option SObj} {w : World} (h : WRel ρ H w) {i : Nat} {p : Nat × Nat × Nat} (hi : H i ≠ none) (hp : ρ i = some p) : p.1 < w.heap.size := by
  cases e : H i with
  | none => exact absurd e hi
  | some x =>
    obtain ⟨o, ho, _⟩ := h.obj i x p e hp
    exact (Array.getElem?_eq_some_iff.1 ho).1

/-- A new object. -/
theorem ext_new {ρ : Ren} {S S' : SW} {w : World} {x : SObj} {o : Obj} {id : Nat} {p : Nat × Nat × Nat} (hw : WRel ρ S.at w) (ht : S.tidy) (hf : ρ S.next = none)
    (h : Sym.new S x = some (id, S')) (hp : p.1 = w.heap.size) (ho : ORel (ρ.set S.next p) x p o) : Ext ρ S w (ρ.set S.next p) S' (w.alloc o) := by
  obtain ⟨rfl, hn, hl, hat⟩ := new_some h
  have hle : ρ.le (ρ.set S.next p) := Ren.le_set hf
  have hold : ∀ i q, ρ.set S.next p i = some q → i ≠ S.next → ρ i = some q := fun i q e hi => by rwa [Ren.set_other hi] at e
  refine ⟨hle, fun i q e => ?_, by omega, fun i hi => ?_, by omega, fun i hi _ => ?_, by simp, rfl, rfl, rfl, fun b hb _ => heap_alloc_old w o b hb, fun i q hi e => ?_, ⟨fun i y q hy e => ?_, fun i j q r hi hj hq hr e => ?_⟩⟩
  · by_cases hi : i = S.next
    · subst hi; exact .inr ⟨Nat.le_refl _, by omega⟩
    · exact .inl (hold i q e hi)
  · rw [hat, if_neg (by omega)]; exact ht i (by omega)
  · rw [hat, if_neg (by omega)]
  · by_cases hi' : i = S.next
    · subst hi'; rw [Ren.set_same] at e; cases e; exact .inr (by omega)
    · rw [hat, if_neg hi'] at hi; exact .inl ⟨i, q, hi, hold i q e hi', rfl⟩
  · by_cases hi' : i = S.next
    · subst hi'; rw [Ren.set_same] at e; cases e; rw [hat, if_pos rfl] at hy; cases hy
      exact ⟨o, by rw [hp]; exact heap_alloc_new w o, ho⟩
    · rw [hat, if_neg hi'] at hy
      have e' := hold i q e hi'
      obtain ⟨o', h1, h2⟩ := hw.obj i y q hy e'
      exact ⟨o', by rw [heap_alloc_old w o _ (Array.getElem?_eq_some_iff.1 h1).1]; exact h1, h2.mono hle⟩
  · rw [hat] at hi hj
    by_cases hi' : i = S.next <;> by_cases hj' : j = S.next
    · omega
    · subst hi'; rw [Ren.set_same] at hq; cases hq; rw [if_neg hj'] at hj
      have := hw.lt hj (hold j r hr hj'); omega
    · subst hj'; rw [Ren.set_same] at hr; cases hr; rw [if_neg hi'] at hi
      have := hw.lt hi (hold i q hq hi'); omega
    · rw [if_neg hi'] at hi; rw [if_neg hj'] at hj
      exact hw.inj i j q r hi hj (hold i q hq hi') (hold j r hr hj') e

/-- An object struck. -/
theorem ext_kill {ρ : Ren} {S S' : SW} {w : World} {id : Nat} (hw : WRel ρ S.at w) (ht : S.tidy) (h : Sym.put S id none = some S') : Ext ρ S w ρ S' w := by
  obtain ⟨hn, hl, hl', hat⟩ := put_some h
  have hlive : ∀ i, S'.at i ≠ none → S.at i ≠ none ∧ i ≠ id := fun i hi => by
    rw [hat] at hi
    by_cases e : i = id
    · rw [if_pos e] at hi; exact absurd rfl hi
    · rw [if_neg e] at hi; exact ⟨hi, e⟩
  refine ⟨.refl ρ, fun _ _ e => .inl e, by omega, fun i hi => ?_, hl, fun i hi hlow => ?_, Nat.le_refl _, rfl, rfl, rfl, fun _ _ _ => rfl, fun i q hi e => .inl ⟨i, q, (hlive i hi).1, e, rfl⟩,
    ⟨fun i y q hy e => ?_, fun i j q r hi hj hq hr e => hw.inj i j q r (hlive i hi).1 (hlive j hj).1 hq hr e⟩⟩
  · rw [hat]; split
    · rfl
    · exact ht i (by omega)
  · rw [hat, if_neg (by omega)]
  · have := (hlive i (by simp [hy])).2
    rw [hat, if_neg this] at hy
    exact hw.obj i y q hy e

/-- An object's block goes over to a new object. -/
theorem ext_move {ρ : Ren} {S S1 S' : SW} {w w' : World} {x x' : SObj} {o' : Obj} {id id' : Nat} {p q : Nat × Nat × Nat} (hw : WRel ρ S.at w) (ht : S.tidy) (hf : ρ S.next = none) (hx : S.at id = some x) (hp : ρ id = some p)
    (hk : Sym.put S id none = some S1) (h : Sym.new S1 x' = some (id', S')) (hs : SameBut p.1 w w') (hq : q.1 = p.1) (hb : w'.heap[q.1]? = some o') (ho : ORel (ρ.set S.next q) x' q o') :
    Ext ρ S w (ρ.set S.next q) S' w' ∧ id' = S.next := by
  obtain ⟨hn1, hl1, hl1', hat1⟩ := put_some hk
  obtain ⟨rfl, hn, hl, hat⟩ := new_some h
  rw [hn1] at hn hat
  have hle : ρ.le (ρ.set S.next q) := Ren.le_set hf
  have hold : ∀ i r, ρ.set S.next q i = some r → i ≠ S.next → ρ i = some r := fun i r e hi => by rwa [Ren.set_other hi] at e
  have hlive : ∀ i, S'.at i ≠ none → i = S.next ∨ (i ≠ S.next ∧ i ≠ id ∧ S.at i ≠ none ∧ S'.at i = S.at i) := fun i hi => by
    by_cases e : i = S.next
    · exact .inl e
    · refine .inr ?_
      have h2 := hat i
      rw [if_neg e, hat1] at h2
      by_cases e2 : i = id
      · rw [if_pos e2] at h2; exact absurd h2 hi
      · rw [if_neg e2] at h2; exact ⟨e, e2, h2 ▸ hi, h2⟩
  have hne : S.at id ≠ none := by simp [hx]
  have hother : ∀ i r, S.at i ≠ none → ρ i = some r → i ≠ id → r.1 ≠ p.1 := fun i r hi hr hne' e => hne' (hw.inj i id r p hi hne hr hp e)
  refine ⟨⟨hle, fun i r e => ?_, by omega, fun i hi => ?_, by omega, fun i hi hlow => ?_, by rw [hs.size]; exact Nat.le_refl _, hs.os, hs.tape, hs.output, fun b _ hnb => hs.block b fun e => hnb id p hne hp e.symm,
    fun i r hi e => ?_, ⟨fun i y r hy e => ?_, fun i j r r' hi hj hr hr' e => ?_⟩⟩, hn1⟩
  · by_cases hi : i = S.next
    · subst hi; exact .inr ⟨Nat.le_refl _, by omega⟩
    · exact .inl (hold i r e hi)
  · rw [hat, if_neg (by omega), hat1]; split
    · rfl
    · exact ht i (by omega)
  · rw [hat, if_neg (by omega), hat1, if_neg (by omega)]
  · rcases hlive i hi with rfl | ⟨h1, h2, h3, h4⟩
    · rw [Ren.set_same] at e; cases e; exact .inl ⟨id, p, hne, hp, hq.symm⟩
    · exact .inl ⟨i, r, h3, hold i r e h1, rfl⟩
  · rcases hlive i (by simp [hy]) with rfl | ⟨h1, h2, h3, h4⟩
    · rw [Ren.set_same] at e; cases e; rw [hat, if_pos rfl] at hy; cases hy; exact ⟨o', hb, ho⟩
    · have e' := hold i r e h1
      rw [h4] at hy
      obtain ⟨o1, g1, g2⟩ := hw.obj i y r hy e'
      exact ⟨o1, by rw [hs.block _ (hother i r h3 e' h2)]; exact g1, g2.mono hle⟩
  · rcases hlive i hi with rfl | ⟨h1, h2, h3, h4⟩ <;> rcases hlive j hj with rfl | ⟨k1, k2, k3, k4⟩
    · rfl
    · rw [Ren.set_same] at hr; cases hr
      exact absurd (e.symm.trans hq) (hother j r' k3 (hold j r' hr' k1) k2)
    · rw [Ren.set_same] at hr'; cases hr'
      exact absurd (e.trans hq) (hother i r h3 (hold i r hr h1) h2)
    · exact hw.inj i j r r' h3 k3 (hold i r hr h1) (hold j r' hr' k1) e

/-- A draw. -/
theorem ext_drew {ρ : Ren} {S : SW} {w : World} (hw : WRel ρ S.at w) (ht : S.tidy) : Ext ρ S w ρ S w.drew :=
  ⟨.refl ρ, fun _ _ h => .inl h, Nat.le_refl _, ht, Nat.le_refl _, fun _ _ _ => rfl, Nat.le_refl _, rfl, rfl, rfl, fun _ _ _ => rfl, fun i p h1 h2 => .inl ⟨i, p, h1, h2, rfl⟩, ⟨hw.obj, hw.inj⟩⟩

/-- An object written. -/
theorem ext_put {ρ : Ren} {S S' : SW} {w w' : World} {x x' : SObj} {o' : Obj} {id : Nat} {p : Nat × Nat × Nat} (hw : WRel ρ S.at w) (ht : S.tidy) (hx : S.at id = some x) (hp : ρ id = some p)
    (h : Sym.put S id (some x') = some S') (hs : SameBut p.1 w w') (hb : w'.heap[p.1]? = some o') (ho : ORel ρ x' p o') : Ext ρ S w ρ S' w' := by
  obtain ⟨hn, hl, hl', hat⟩ := put_some h
  have hne : S.at id ≠ none := by simp [hx]
  have hlive : ∀ i, S'.at i ≠ none → S.at i ≠ none := fun i hi => by
    rw [hat] at hi
    by_cases e : i = id
    · subst e; exact hne
    · rwa [if_neg e] at hi
  have hother : ∀ i q, S.at i ≠ none → ρ i = some q → i ≠ id → q.1 ≠ p.1 := fun i q hi hq hne' e => hne' (hw.inj i id q p hi hne hq hp e)
  refine ⟨.refl ρ, fun _ _ e => .inl e, by omega, fun i hi => ?_, hl, fun i hi hlow => ?_, by rw [hs.size]; exact Nat.le_refl _, hs.os, hs.tape, hs.output, fun b _ hnb => hs.block b fun e => hnb id p hne hp e.symm,
    fun i q hi e => .inl ⟨i, q, hlive i hi, e, rfl⟩, ⟨fun i y q hy e => ?_, fun i j q r hi hj hq hr e => hw.inj i j q r (hlive i hi) (hlive j hj) hq hr e⟩⟩
  · have hi' : S.next ≤ i := by omega
    have : i ≠ id := fun e => by subst e; rw [ht i hi'] at hx; cases hx
    rw [hat, if_neg this]; exact ht i hi'
  · rw [hat, if_neg (by omega)]
  · rw [hat] at hy
    by_cases hi : i = id
    · subst hi; rw [hp] at e; cases e; rw [if_pos rfl] at hy; cases hy; exact ⟨o', hb, ho⟩
    · rw [if_neg hi] at hy
      obtain ⟨o1, h1, h2⟩ := hw.obj i y q hy e
      exact ⟨o1, by rw [hs.block _ (hother i q (by simp [hy]) e hi)]; exact h1, h2⟩

end Go.RX
