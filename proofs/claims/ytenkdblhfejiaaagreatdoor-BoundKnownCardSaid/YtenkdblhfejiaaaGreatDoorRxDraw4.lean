/- Regions that draw their order: slots; what interferes with what. -/
import Derived.Test.YtenkdblhfejiaaaGreatDoorRxDraw3
set_option linter.all false
namespace Go.RX
open Sym

/-! ### One slot -/
structure SlotAt (sl : List Nat) (ρ : Ren) (x : D1) (t : Nat) (v : Value) : Prop where
  wr : ∀ p, posOf t x.wr = some p → VRel ρ (nthV .unknown x.e p) v
  fr : ∀ p, posOf t sl = some p → VRel ρ (nthV .unknown x.fr p) v

theorem SlotAt.mono {sl : List Nat} {ρ ρ' : Ren} {x : D1} {t : Nat} {v : Value} (hle : ρ.le ρ') (h : SlotAt sl ρ x t v) : SlotAt sl ρ' x t v := ⟨fun p hp => (h.wr p hp).mono hle, fun p hp => (h.fr p hp).mono hle⟩

theorem SlotAt.good {sl : List Nat} {ρ : Ren} {x : D1} {t : Nat} {a : Act} (h : SlotAt sl ρ x t (a.tmps.getD t undef)) : Good ρ ⟨x.wr, sl⟩ x.e x.fr a (.tmp t) := by
  simp only [Good]
  unfold slotK
  split
  · rename_i i hi; exact h.wr i hi
  · split
    · rename_i i hi; exact h.fr i hi
    · exact .unknown _

section
variable {E : Env} {n : Nat} {sl : List Nat} {all : List Oper} {bs : List Nat} {ms : List Look} {C : Sym.Callee} {i : Nat} {o : Oper} {x y : D1} {k : KOp} {d : Nat} {p : Dst}
  {q : Sym.Callee → List SV → List SV → SW → Option (SV × SW)} {ps : Pass} {v : SV}

theorem keep_nthV {sl : List Nat} {fr : List SV} {v : SV} {d t pd pt : Nat} (hd : posOf d sl = some pd) (ht : posOf t sl = some pt) :
    (t = d → nthV .unknown (setNth v fr pd) pt = v ∨ nthV .unknown (setNth v fr pd) pt = .unknown) ∧ (t ≠ d → nthV .unknown (setNth v fr pd) pt = nthV .unknown fr pt ∨ nthV .unknown (setNth v fr pd) pt = .unknown) := by
  rw [nthV_setNth]
  refine ⟨fun e => ?_, fun e => ?_⟩
  · subst e; rw [hd] at ht; cases ht
    by_cases h : pd < fr.length
    · left; simp [h]
    · right; simp [h]
  · have h1 := posOf_some hd
    have h2 := posOf_some ht
    have hne : pt ≠ pd := fun e2 => by subst e2; rw [h1] at h2; cases h2; exact e rfl
    by_cases h : pd < fr.length
    · left; simp [h, hne]
    · right; simp [h]

theorem VRel.of_or {ρ : Ren} {a b : SV} {v : Value} (h : a = b ∨ a = .unknown) (hb : VRel ρ b v) : VRel ρ a v := by
  rcases h with e | e <;> rw [e]
  · exact hb
  · exact .unknown _

theorem StepD.slot_same (hs : StepD E n sl all bs ms C i o x y k d p q ps v) {ρ : Ren} {t : Nat} {u : Value} (ht : o.dst = some t) (hv : VRel ρ v u) : t < n ∧ SlotAt sl ρ y t u := by
  have hd := hs.dst
  rw [ht] at hd
  simp only [dstK] at hd
  split at hd
  · rename_i hb
    have hlt : t < n := Nat.le_of_ble_eq_true hb
    refine ⟨hlt, ?_⟩
    split at hd
    · rename_i hp
      simp only [Option.some.injEq, Prod.mk.injEq] at hd
      obtain ⟨rfl, rfl⟩ := hd
      refine ⟨fun r hr => ?_, fun r hr => ?_⟩
      · rw [hs.wr, posOf_cons, if_pos rfl] at hr; cases hr
        rw [hs.e]; exact hv
      · rw [hp] at hr; cases hr
    · rename_i pp hp
      simp only [Option.some.injEq, Prod.mk.injEq] at hd
      obtain ⟨rfl, rfl⟩ := hd
      refine ⟨fun r hr => ?_, fun r hr => ?_⟩
      · rw [hs.wr, posOf_cons, if_pos rfl] at hr; cases hr
        rw [hs.e]; exact hv
      · rw [hs.fr]
        exact VRel.of_or ((keep_nthV hp hr).1 rfl) hv
  · cases hd

theorem StepD.slot_other (hs : StepD E n sl all bs ms C i o x y k d p q ps v) {ρ : Ren} {t : Nat} {u : Value} (ht : o.dst ≠ some t) (hn : n ≤ t → u = undef) (h : SlotAt sl ρ x t u) : SlotAt sl ρ y t u := by
  have hd := hs.dst
  cases hdst : o.dst with
  | none =>
    rw [hdst] at hd
    simp only [dstK, Option.some.injEq, Prod.mk.injEq] at hd
    obtain ⟨rfl, rfl⟩ := hd
    refine ⟨fun r hr => ?_, fun r hr => ?_⟩
    · rw [hs.wr, posOf_cons] at hr
      by_cases e : n = t
      · rw [if_pos e] at hr; cases hr
        rw [hs.e, hn (by omega)]
        exact .tuple .nil
      · rw [if_neg e] at hr
        cases hq : posOf t x.wr with
        | none => rw [hq] at hr; cases hr
        | some j => rw [hq] at hr; cases hr; rw [hs.e]; exact h.wr j hq
    · rw [hs.fr]; exact h.fr r hr
  | some t0 =>
    have hne : t0 ≠ t := fun e => ht (by rw [hdst, e])
    rw [hdst] at hd
    simp only [dstK] at hd
    have wrp : ∀ p : Nat, d = t0 → y.wr = d :: x.wr → y.e = v :: x.e → ∀ r, posOf t y.wr = some r → VRel ρ (nthV .unknown y.e r) u := by
      intro p hd0 hw he r hr
      rw [hw, posOf_cons, if_neg (by rw [hd0]; exact hne)] at hr
      cases hq : posOf t x.wr with
      | none => rw [hq] at hr; cases hr
      | some j => rw [hq] at hr; cases hr; rw [he]; exact h.wr j hq
    split at hd
    · split at hd
      · rename_i hp
        simp only [Option.some.injEq, Prod.mk.injEq] at hd
        obtain ⟨rfl, rfl⟩ := hd
        exact ⟨wrp 0 rfl hs.wr hs.e, fun r hr => by rw [hs.fr]; exact h.fr r hr⟩
      · rename_i pp hp
        simp only [Option.some.injEq, Prod.mk.injEq] at hd
        obtain ⟨rfl, rfl⟩ := hd
        exact ⟨wrp 0 rfl hs.wr hs.e, fun r hr => by rw [hs.fr]; exact VRel.of_or ((keep_nthV hp hr).2 (fun e => hne e.symm)) (h.fr r hr)⟩
    · cases hd

/-! ### Growth -/
theorem StepD.grow (hs : StepD E n sl all bs ms C i o x y k d p q ps v) (hM : CalleeMono C) : Grow x.S y.S := by
  have hk := kop_mono hs.kop
  have hr := hs.run
  cases ps with
  | free => exact guarded_mono hk hs.guard hM hr.1
  | wary a rs => obtain ⟨id, off, h1, h2, h3, h4⟩ := hr; exact guarded_mono hk hs.guard hM h3
  | calm =>
    obtain ⟨w', h1, h2, h3, h4⟩ := hr
    have hg := guarded_mono hk hs.guard hM h1
    rw [h3]
    exact ⟨hg.next, fun t i hi => hg.tidy t i hi, Nat.le_refl _, fun i h5 _ => hg.keep i h5 (Nat.lt_of_lt_of_le h5 h2)⟩

theorem StepD.lg (hs : StepD E n sl all bs ms C i o x y k d p q ps v) : ∀ z ∈ x.lg, z ∈ y.lg := fun z hz => by
  have hr := hs.run
  cases ps with
  | free => rw [hr.2]; exact hz
  | wary a rs => obtain ⟨id, off, h1, h2, h3, h4⟩ := hr; rw [h4]; exact List.mem_cons_of_mem _ hz
  | calm => obtain ⟨w', h1, h2, h3, h4⟩ := hr; rw [h4]; exact hz

/-! ### The checks of what looks at memory -/
theorem firm_spec {bs : List Nat} {i : Nat} : ∀ {ms : List Look} {b : Nat}, firm bs i ms b = true → ∀ j m, ms[j]? = some m → m ≠ .no → i ≠ b + j → inOrder bs i (b + j) = true
  | [], _, _, j, m, hm, _, _ => by simp at hm
  | m0 :: ms, b, h, j, m, hm, hno, hne => by
    simp only [firm] at h
    cases j with
    | zero =>
      simp at hm; subst hm
      split at h
      · exact absurd rfl hno
      · split at h
        · rename_i hb; exact absurd (Nat.eq_of_beq_eq_true hb) hne
        · split at h
          · assumption
          · cases h
    | succ j =>
      rw [show b + (j + 1) = Nat.succ b + j from by omega]
      refine firm_spec ?_ j m (by simpa using hm) hno (by omega)
      repeat' split at h
      all_goals first | exact h | cases h

theorem firmS_spec {bs : List Nat} {i : Nat} : ∀ {ms : List Look} {b : Nat}, firmS bs i ms b = true → ∀ j, ms[j]? = some .store → inOrder bs i (b + j) = true
  | [], _, _, j, hm => by simp at hm
  | m0 :: ms, b, h, j, hm => by
    simp only [firmS] at h
    cases j with
    | zero =>
      simp at hm; subst hm
      dsimp only at h
      split at h
      · assumption
      · cases h
    | succ j =>
      rw [show b + (j + 1) = Nat.succ b + j from by omega]
      refine firmS_spec ?_ j (by simpa using hm)
      repeat' split at h
      all_goals first | exact h | cases h

theorem rivals_spec {bs : List Nat} {i : Nat} {st : Bool} : ∀ {ms : List Look} {b j : Nat} {m : Look}, ms[j]? = some m → (m = .store ∨ (m = .load ∧ st = true)) → i ≠ b + j → inOrder bs i (b + j) ≠ true → (b + j) ∈ rivals bs i st ms b
  | [], _, j, m, hm, _, _, _ => by simp at hm
  | m0 :: ms, b, j, m, hm, hst, hne, hno => by
    have hno' : inOrder bs i (b + j) = false := by simpa using hno
    cases j with
    | zero =>
      simp at hm; subst hm
      simp only [rivals]
      rcases hst with rfl | ⟨rfl, rfl⟩
      · dsimp only
        split
        · rename_i hb; exact absurd (Nat.eq_of_beq_eq_true hb) hne
        · rw [show b = b + 0 from rfl, hno']; simp
      · dsimp only
        rw [show b = b + 0 from rfl, hno']; simp
    | succ j =>
      have ih : (b + (j + 1)) ∈ rivals bs i st ms (Nat.succ b) := by
        rw [show b + (j + 1) = Nat.succ b + j from by omega]
        exact rivals_spec (by simpa using hm) hst (by omega) (by rw [show Nat.succ b + j = b + (j + 1) from by omega]; exact hno)
      simp only [rivals]
      repeat' split
      all_goals first | exact ih | exact List.mem_cons_of_mem _ ih

theorem clear_spec {rs : List Nat} {id : Nat} : ∀ {l : List (Nat × Nat)}, clear rs id l = true → ∀ j, (j, id) ∈ l → j ∉ rs
  | [], _, j, hj => by simp at hj
  | (j0, id0) :: l, h, j, hj => by
    simp only [clear] at h
    rcases List.mem_cons.1 hj with e | hj
    · simp only [Prod.mk.injEq] at e
      obtain ⟨rfl, rfl⟩ := e
      split at h
      · rename_i hb; simp at hb
      · split at h
        · cases h
        · rename_i hm
          intro hmem
          rw [memNat_spec.2 hmem] at hm; cases hm
    · split at h
      · exact clear_spec h j hj
      · split at h
        · cases h
        · exact clear_spec h j hj

/-! ### Kinds of operations -/
def isStore (m : Look) : Bool := match m with | .store => true | _ => false

/-- How an operation stands to memory. -/
inductive Kind (bs : List Nat) (ms : List Look) (C : Sym.Callee) (i : Nat) (m : Look) (x y : D1) (q : Sym.Callee → List SV → List SV → SW → Option (SV × SW)) (v : SV) : Prop
  | small (ob : Option Nat) (h : Small C q x.e x.fr x.S y.S v ob) (hm : m ≠ .other) (hno : m = .no → ob = none) (hld : m = .load → ∀ id, y.S.at id = x.S.at id)
      (hw : ∀ id, ob = some id → rivals bs i (isStore m) ms 0 ≠ [] → clear (rivals bs i (isStore m) ms 0) id x.lg = true ∧ (i, id) ∈ y.lg) : Kind bs ms C i m x y q v
  | firm (hm : m = .other) (hf : firm bs i ms 0 = true) (h : q C x.e x.fr x.S = some (v, y.S)) : Kind bs ms C i m x y q v
  | calm (hm : m = .other) (hf : firmS bs i ms 0 = true) (S2' : SW) (h : q C x.e x.fr ⟨x.S.heap, x.S.next, x.S.next⟩ = some (v, S2')) (hn : S2'.next = y.S.next) (hat : ∀ id, S2'.at id = y.S.at id) (hold : ∀ id, id < x.S.next → y.S.at id = x.S.at id) : Kind bs ms C i m x y q v

theorem StepD.kind (hs : StepD E n sl all bs ms C i o x y k d p q ps v) (hM : CalleeMono C) : Kind bs ms C i (lookOf k o) x y q v := by
  have hp := hs.pass
  have hr := hs.run
  have small : ∀ (h : q C x.e x.fr x.S = some (v, y.S)) (hm : lookOf k o ≠ .other),
      (∀ id a off, addrK ⟨x.wr, sl⟩ o = some ⟨a⟩ ∨ rivals bs i (isStore (lookOf k o)) ms 0 = [] → (addrK ⟨x.wr, sl⟩ o = some ⟨a⟩ → a x.e x.fr = .ptr id off) → rivals bs i (isStore (lookOf k o)) ms 0 ≠ [] → clear (rivals bs i (isStore (lookOf k o)) ms 0) id x.lg = true ∧ (i, id) ∈ y.lg) →
      (rivals bs i (isStore (lookOf k o)) ms 0 ≠ [] → ∃ a, addrK ⟨x.wr, sl⟩ o = some ⟨a⟩) → Kind bs ms C i (lookOf k o) x y q v := by
    intro h hm hw ha
    obtain ⟨ob, h1, h2, h3, h4⟩ := look_small hs.kop hm hs.guard h
    refine .small ob h1 hm h2 h3 fun id hid hne => ?_
    obtain ⟨a, haa⟩ := ha hne
    obtain ⟨off, hoff⟩ := h4 a haa id hid
    exact hw id a off (.inl haa) (fun _ => hoff) hne
  unfold passK at hp
  cases hl : lookOf k o with
  | no =>
    rw [hl] at hp
    simp only [Option.some.injEq] at hp; subst hp
    obtain ⟨ob, h1, h2, h3, h4⟩ := look_small hs.kop (by rw [hl]; simp) hs.guard hr.1
    have hob : ob = none := h2 hl
    subst hob
    exact .small none h1 (by simp) (fun _ => rfl) (fun h => by cases h) (fun _ h => by cases h)
  | other =>
    rw [hl] at hp
    dsimp only at hp
    split at hp
    · rename_i hf
      simp only [Option.some.injEq] at hp; subst hp
      exact .firm rfl hf hr.1
    · split at hp
      · rename_i hf
        simp only [Option.some.injEq] at hp; subst hp
        obtain ⟨w', h1, h2, h3, h4⟩ := hr
        have hg := guarded_mono (kop_mono hs.kop) hs.guard hM h1
        refine .calm rfl hf w' h1 (by rw [h3]) (fun id => by rw [h3]; rfl) fun id hid => ?_
        rw [h3]
        exact hg.keep id hid (Nat.lt_of_lt_of_le hid h2)
      · cases hp
  | load =>
    rw [hl] at hp
    dsimp only at hp
    rw [← hl]
    split at hp
    · rename_i hriv
      simp only [Option.some.injEq] at hp; subst hp
      exact small hr.1 (by rw [hl]; simp) (fun id a off _ _ hne => absurd (by rw [hl]; exact hriv) hne) (fun hne => absurd (by rw [hl]; exact hriv) hne)
    · rename_i r rs hriv
      split at hp
      · rename_i a ha
        simp only [Option.some.injEq] at hp; subst hp
        obtain ⟨id, off, h1, h2, h3, h4⟩ := hr
        refine small h3 (by rw [hl]; simp) (fun id' a' off' hor hptr hne => ?_) (fun _ => ⟨a, ha⟩)
        rcases hor with haa | he
        · have hpp := hptr haa
          rw [ha] at haa
          simp only [Option.some.injEq, Opd.mk.injEq] at haa; subst haa
          rw [h1] at hpp
          simp only [SV.ptr.injEq] at hpp
          obtain ⟨rfl, rfl⟩ := hpp
          rw [hl]
          exact ⟨by rw [show isStore .load = false from rfl, hriv]; exact h2, by rw [h4]; simp⟩
        · exact absurd he hne
      · cases hp
  | store =>
    rw [hl] at hp
    dsimp only at hp
    rw [← hl]
    split at hp
    · rename_i hriv
      simp only [Option.some.injEq] at hp; subst hp
      exact small hr.1 (by rw [hl]; simp) (fun id a off _ _ hne => absurd (by rw [hl]; exact hriv) hne) (fun hne => absurd (by rw [hl]; exact hriv) hne)
    · rename_i r rs hriv
      split at hp
      · rename_i a ha
        simp only [Option.some.injEq] at hp; subst hp
        obtain ⟨id, off, h1, h2, h3, h4⟩ := hr
        refine small h3 (by rw [hl]; simp) (fun id' a' off' hor hptr hne => ?_) (fun _ => ⟨a, ha⟩)
        rcases hor with haa | he
        · have hpp := hptr haa
          rw [ha] at haa
          simp only [Option.some.injEq, Opd.mk.injEq] at haa; subst haa
          rw [h1] at hpp
          simp only [SV.ptr.injEq] at hpp
          obtain ⟨rfl, rfl⟩ := hpp
          rw [hl]
          exact ⟨by rw [show isStore .store = true from rfl, hriv]; exact h2, by rw [h4]; simp⟩
        · exact absurd he hne
      · cases hp
end
end Go.RX
