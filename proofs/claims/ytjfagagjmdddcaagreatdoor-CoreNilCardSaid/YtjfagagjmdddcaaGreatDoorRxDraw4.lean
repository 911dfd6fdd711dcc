/- Regions that draw their order: slots; what interferes with what. -/
import Derived.Test.YtjfagagjmdddcaaGreatDoorRxDraw3
set_option linter.all false
namespace Go.RX
open Sym

/-! ### One slot -/
structure SlotAt (sl : List Nat) (ρ : Ren) (x : D1) (t : Nat) (v : Value) : Prop where
  wr : ∀ p, posOf t x.wr = some p → VRel ρ (nthV .unknown x.e p) v
  fr : ∀ p, posOf t sl = some p → VRel ρ (nthV .unknown x.fr p) v

theorem SlotAt.mono {sl : List Nat} {ρ ρ' : Ren} {x : D1} {t : Nat} {v : Value} (hle : ρ.le ρ') (h : SlotAt sl ρ x t v) : SlotAt sl ρ' x t v := ⟨fun p hp => (h.wr p hp).mono hle, fun p hp => (h.fr p hp).mono hle⟩

theorem SlotAt.good {sl : List Nat} {ρ : Ren} {x : D1} {t : Nat} {a : Act} (h : SlotAt sl ρ x t (a.tmps.getD t undef)) : Good ρ ⟨x.wr, sl⟩ x.e x.fr a (.tmp t) := by
  simp only [Good]
  unfold slotK
  split
  · rename_i i hi; exact h.wr i hi
  · split
    · rename_i i hi; exact h.fr i hi
    · exact .unknown _

section
variable {E : Env} {n : Nat} {sl : List Nat} {all : List Oper} {bs : List Nat} {ms : List Look} {C : Sym.Callee} {i : Nat} {o : Oper} {x y : D1} {k : KOp} {d : Nat} {p : Dst}
  {q : Sym.Callee → List SV → List SV → SW → Option (SV × SW)} {ps : Pass} {v : SV}

theorem keep_nthV {sl : List Nat} {fr : List SV} {v : SV} {d t pd pt : Nat} (hd : posOf d sl = some pd) (ht : posOf t sl = some pt) :
    (t = d → nthV .unknown (setNth v fr pd) pt = v ∨ nthV .unknown (setNth v fr pd) pt = .unknown) ∧ (t ≠ d → nthV .unknown (setNth v fr pd) pt = nthV .unknown fr pt ∨ nthV .unknown (setNth v fr pd) pt = .unknown) := by
  rw [nthV_setNth]
  refine ⟨fun e => ?_, fun e => ?_⟩
  · subst e; rw [hd] at ht; cases ht
    by_cases h : pd < fr.length
    · left; simp [h]
    · right; simp [h]
  · have h1 := posOf_some hd
    have h2 := posOf_some ht
    have hne : pt ≠ pd := fun e2 => by subst e2; rw [h1] at h2; cases h2; exact e rfl
    by_cases h : pd < fr.length
    · left; simp [h, hne]
    · right; simp [h]

theorem VRel.of_or {ρ : Ren} {a b : SV} {v : Value} (h : a = b ∨ a = .unknown) (hb : VRel ρ b v) : VRel ρ a v := by
  rcases h with e | e <;> rw [e]
  · exact hb
  · exact .unknown _

theorem StepD.slot_same (hs : StepD E n sl all bs ms C i o x y k d p q ps v) {ρ : Ren} {t : Nat} {u : Value} (ht : o.dst = some t) (hv : VRel ρ v u) : t < n ∧ SlotAt sl ρ y t u := by
  have hd := hs.dst
  rw [ht] at hd
  simp only [dstK] at hd
  split at hd
  · rename_i hb
    have hlt : t < n := Nat.le_of_ble_eq_true hb
    refine ⟨hlt, ?_⟩
    split at hd
    · rename_i hp
      simp only [Option.some.injEq, Prod.mk.injEq] at hd
      obtain ⟨rfl, rfl⟩ := hd
      refine ⟨fun r hr => ?_, fun r hr => ?_⟩
      · rw [hs.wr, posOf_cons, if_pos rfl] at hr; cases hr
        rw [hs.e]; exact hv
      · rw [hp] at hr; cases hr
    · rename_i pp hp
      simp only [Option.some.injEq, Prod.mk.injEq] at hd
      obtain ⟨rfl, rfl⟩ := hd
      refine ⟨fun r hr => ?_, fun r hr => ?_⟩
      · rw [hs.wr, posOf_cons, if_pos rfl] at hr; cases hr
        rw [hs.e]; exact hv
      · rw [hs.fr]
        exact VRel.of_or ((keep_nthV hp hr).1 rfl) hv
  · cases hd

theorem StepD.slot_other (hs : StepD E n sl all bs ms C i o x y k d p q ps v) {ρ : Ren} {t : Nat} {u : Value} (ht : o.dst ≠ some t) (hn : n ≤ t → u = undef) (h : SlotAt sl ρ x t u) : SlotAt sl ρ y t u := by
  have hd := hs.dst
  cases hdst : o.dst with
  | none =>
    rw [hdst] at hd
    simp only [dstK, Option.some.injEq, Prod.mk.injEq] at hd
    obtain ⟨rfl, rfl⟩ := hd
    refine ⟨fun r hr => ?_, fun r hr => ?_⟩
    · rw [hs.wr, posOf_cons] at hr
      by_cases e : n = t
      · rw [if_pos e] at hr; cases hr
        rw [hs.e, hn (by omega)]
        exact .tuple .nil
      · rw [if_neg e] at hr
        cases hq : posOf t x.wr with
        | none => rw [hq] at hr; cases hr
        | some j => rw [hq] at hr; cases hr; rw [hs.e]; exact h.wr j hq
    · rw [hs.fr]; exact h.fr r hr
  | some t0 =>
    have hne : t0 ≠ t := fun e => ht (by rw [hdst, e])
    rw [hdst] at hd
    simp only [dstK] at hd
    have wrp : ∀ p : Nat, d = t0 → y.wr = d :: x.wr → y.e = v :: x.e → ∀ r, posOf t y.wr = some r → VRel ρ (nthV .unknown y.e r) u := by
      intro p hd0 hw he r hr
      rw [hw, posOf_cons, if_neg (by rw [hd0]; exact hne)] at hr
      cases hq : posOf t x.wr with
      | none => rw [hq] at hr; cases hr
      | some j => rw [hq] at hr; cases hr; rw [he]; exact h.wr j hq
    split at hd
    · split at hd
      · rename_i hp
        simp only [Option.some.injEq, Prod.mk.injEq] at hd
        obtain ⟨rfl, rfl⟩ := hd
        exact ⟨wrp 0 rfl hs.wr hs.e, fun r hr => by rw [hs.fr]; exact h.fr r hr⟩
      · rename_i pp hp
        simp only [Option.some.injEq, Prod.mk.injEq] at hd
        obtain ⟨rfl, rfl⟩ := hd
        exact ⟨wrp 0 rfl hs.wr hs.e, fun r hr => by rw [hs.fr]; exact VRel.of_or ((keep_nthV hp hr).2 (fun e => hne e.symm)) (h.fr r hr)⟩
    · cases hd

/-! ### Growth -/
theorem lower_left (a b : Nat) : lower a b ≤ a := by
  unfold lower
  split
  · exact Nat.le_refl _
  · rename_i h
    have : ¬ a ≤ b := fun hle => by rw [Nat.ble_eq_true_of_le hle] at h; cases h
    omega
theorem lower_right (a b : Nat) : lower a b ≤ b := by
  unfold lower
  split
  · rename_i h; exact Nat.le_of_ble_eq_true h
  · exact Nat.le_refl _

theorem StepD.grow (hs : StepD E n sl all bs ms C i o x y k d p q ps v) (hM : CalleeMono C) : Grow x.S y.S := by
  have hk := kop_mono hs.kop
  have hr := hs.run
  cases ps with
  | free => exact guarded_mono hk hs.guard hM hr.1
  | wary a rs =>
    obtain ⟨w', h1, h2, h3, h4⟩ := hr
    have hg := guarded_mono hk hs.guard hM h1
    rw [h3]
    exact ⟨hg.next, fun t i hi => hg.tidy t i hi, lower_left _ _, fun i h5 h6 => hg.keep i h5 (Nat.lt_of_lt_of_le h6 (lower_right _ _))⟩

theorem StepD.lg (hs : StepD E n sl all bs ms C i o x y k d p q ps v) : ∀ z ∈ x.lg, z ∈ y.lg := fun z hz => by
  have hr := hs.run
  cases ps with
  | free => rw [hr.2]; exact hz
  | wary a rs => obtain ⟨w', h1, h2, h3, h4⟩ := hr; rw [h4]; exact List.mem_cons_of_mem _ hz

/-! ### The checks of what looks at memory -/
theorem rivals_spec {bs : List Nat} {i : Nat} {m : Look} : ∀ {ms : List Look} {b j : Nat} {m' : Look}, ms[j]? = some m' → clash m m' = true → i ≠ b + j → inOrder bs i (b + j) ≠ true → (b + j) ∈ rivals bs i m ms b
  | [], _, j, _, hm, _, _, _ => by simp at hm
  | m0 :: ms, b, j, m', hm, hc, hne, hno => by
    have hno' : inOrder bs i (b + j) = false := by simpa using hno
    cases j with
    | zero =>
      simp at hm; subst hm
      simp only [rivals, hc]
      split
      · rename_i hb; exact absurd (Nat.eq_of_beq_eq_true hb) hne
      · rw [show b = b + 0 from rfl, hno']; simp
    | succ j =>
      have ih : (b + (j + 1)) ∈ rivals bs i m ms (Nat.succ b) := by
        rw [show b + (j + 1) = Nat.succ b + j from by omega]
        exact rivals_spec (by simpa using hm) hc (by omega) (by rw [show Nat.succ b + j = b + (j + 1) from by omega]; exact hno)
      simp only [rivals]
      repeat' split
      all_goals first | exact ih | exact List.mem_cons_of_mem _ ih

theorem rivals_no {bs : List Nat} {i : Nat} : ∀ {ms : List Look} {b : Nat}, rivals bs i .no ms b = []
  | [], _ => rfl
  | m :: ms, b => by
    simp only [rivals, clash]
    exact rivals_no

theorem clear_spec {rs : List Nat} {s : Option (List Nat)} {w w' : SW} : ∀ {l : List Ent}, clear rs s w w' l = true → ∀ en ∈ l, en.i ∈ rs → spares en.w en.w' s = true ∧ spares w w' en.sight = true
  | [], _, en, hj, _ => by simp at hj
  | ⟨j, s', u, u'⟩ :: l, h, en, hj, hr => by
    simp only [clear] at h
    rcases List.mem_cons.1 hj with rfl | hj
    · split at h
      · rename_i hm
        rw [memNat_spec.2 hr] at hm; cases hm
      · split at h
        · rename_i h1 h2; exact ⟨h1, h2⟩
        · cases h
    · split at h
      · exact clear_spec h en hj hr
      · split at h
        · exact clear_spec h en hj hr
        · cases h

theorem keptAll_spec {w w' : SW} : ∀ {l : List Nat}, keptAll w w' l = true → ∀ id ∈ l, kept w w' id = true
  | [], _, id, hi => by simp at hi
  | a :: l, h, id, hi => by
    simp only [keptAll] at h
    split at h
    · rename_i h1
      rcases List.mem_cons.1 hi with rfl | hi
      · exact h1
      · exact keptAll_spec h id hi
    · cases h

theorem spares_spec {w w' : SW} {s : Option (List Nat)} (hg : Grow ⟨w.heap, w.next, w.next⟩ w') (h : spares w w' s = true) :
    (∀ id, id < w.next → w'.at id = w.at id) ∨ ∃ l, s = some l ∧ ∀ id ∈ l, id < w.next → w'.at id = w.at id := by
  unfold spares at h
  split at h
  · rename_i hb
    have hb := Nat.le_of_ble_eq_true hb
    exact .inl fun id hid => hg.keep id hid (Nat.lt_of_lt_of_le hid hb)
  · split at h
    · cases h
    · rename_i l
      refine .inr ⟨l, rfl, fun id hid hlt => ?_⟩
      have hk := keptAll_spec h id hid
      unfold kept at hk
      split at hk
      · rename_i hb
        exact hg.keep id hlt (Nat.le_of_ble_eq_true hb)
      · split at hk
        · rename_i hb
          have := Nat.le_of_ble_eq_true hb
          omega
        · exact (objEq_sound hk).symm

theorem rangeN_mem : ∀ {n a id : Nat}, a ≤ id → id < a + n → id ∈ rangeN a n
  | 0, a, id, h1, h2 => by omega
  | n + 1, a, id, h1, h2 => by
    simp only [rangeN]
    by_cases h : id = a
    · subst h; simp
    · exact List.mem_cons_of_mem _ (rangeN_mem (by show a + 1 ≤ id; omega) (by show id < a + 1 + n; omega))

/-! ### Kinds of operations -/
/-- How an operation stands to memory: it runs so (S0 and S1: the states before and behind it, but for their low marks); what it looks at; what has been noted of it. -/
structure Kind (bs : List Nat) (ms : List Look) (C : Sym.Callee) (i : Nat) (m : Look) (x y : D1) (q : Sym.Callee → List SV → List SV → SW → Option (SV × SW)) (v : SV) (S0 S1 : SW) (ob : List Nat) : Prop where
  n0 : S0.next = x.S.next
  a0 : ∀ id, S0.at id = x.S.at id
  run : q C x.e x.fr S0 = some (v, S1)
  n1 : S1.next = y.S.next
  a1 : ∀ id, S1.at id = y.S.at id
  part : m ≠ .big → PartAt (q C x.e x.fr) ob S0 S1 v
  no : m = .no → ob = [] ∧ S1.next = S0.next ∧ ∀ id, S1.at id = S0.at id
  rd : m = .rd → ∀ id, id < S0.next → S1.at id = S0.at id
  log : rivals bs i m ms 0 ≠ [] → ∃ en, en ∈ y.lg ∧ en.i = i ∧ en.w = x.S ∧ (∀ id, en.w'.at id = y.S.at id) ∧ Grow ⟨x.S.heap, x.S.next, x.S.next⟩ en.w' ∧ clear (rivals bs i m ms 0) en.sight x.S en.w' x.lg = true ∧
    ∀ l, en.sight = some l → m ≠ .big ∧ ∀ id, id ∈ ob ∨ (x.S.next ≤ id ∧ id < y.S.next) → id ∈ l

theorem StepD.kind (hs : StepD E n sl all bs ms C i o x y k d p q ps v) (hM : CalleeMono C) : ∃ S0 S1 ob, Kind bs ms C i (lookOf k o) x y q v S0 S1 ob := by
  have hp := hs.pass
  have hr := hs.run
  unfold passK at hp
  split at hp
  · rename_i hriv
    simp only [Option.some.injEq] at hp; subst hp
    have hlog : rivals bs i (lookOf k o) ms 0 ≠ [] → False := fun h => h hriv
    by_cases hb : lookOf k o = .big
    · exact ⟨x.S, y.S, [], rfl, fun _ => rfl, hr.1, rfl, fun _ => rfl, fun h => absurd hb h, fun h => (by rw [hb] at h; cases h), fun h => (by rw [hb] at h; cases h), fun h => (hlog h).elim⟩
    · obtain ⟨ob, h1, h2, h3, h4⟩ := step_part hs.kop hb hs.guard hr.1
      exact ⟨x.S, y.S, ob, rfl, fun _ => rfl, hr.1, rfl, fun _ => rfl, fun _ => h1, h2, h3, fun h => (hlog h).elim⟩
  · rename_i r rs hriv
    have hno : lookOf k o ≠ .no := fun h => by rw [h, rivals_no] at hriv; cases hriv
    split at hp
    · rename_i hb
      simp only [Option.some.injEq] at hp; subst hp
      obtain ⟨w', h1, h2, h3, h4⟩ := hr
      have hg := guarded_mono (kop_mono hs.kop) hs.guard hM h1
      have hat : ∀ id, w'.at id = y.S.at id := fun id => by rw [h3]; rfl
      refine ⟨⟨x.S.heap, x.S.next, x.S.next⟩, w', [], rfl, fun _ => rfl, h1, by rw [h3], hat, fun h => absurd hb h, fun h => absurd h hno, fun h => (by rw [hb] at h; cases h), fun _ => ?_⟩
      exact ⟨_, by rw [h4]; exact List.mem_cons_self, rfl, rfl, hat, hg, by rw [hriv]; exact h2, fun l hl => by cases hl⟩
    · rename_i hb
      split at hp
      · rename_i g hg0
        simp only [Option.some.injEq] at hp; subst hp
        obtain ⟨w', h1, h2, h3, h4⟩ := hr
        have hb' : lookOf k o ≠ .big := fun h => hb h
        have hg := guarded_mono (kop_mono hs.kop) hs.guard hM h1
        have hat : ∀ id, w'.at id = y.S.at id := fun id => by rw [h3]; rfl
        obtain ⟨ob, p1, p2, p3, p4⟩ := step_part hs.kop hb' hs.guard h1
        have hob : ob = namedL (g x.e x.fr) := p4 (by
          cases hc : lookOf k o with
          | no => exact absurd hc hno
          | rd => exact .inl rfl
          | wr => exact .inr rfl
          | big => exact absurd hc hb') g hg0
        refine ⟨⟨x.S.heap, x.S.next, x.S.next⟩, w', ob, rfl, fun _ => rfl, h1, by rw [h3], hat, fun _ => p1, p2, p3, fun _ => ?_⟩
        refine ⟨_, by rw [h4]; exact List.mem_cons_self, rfl, rfl, hat, hg, by rw [hriv]; exact h2, fun l hl => ⟨hb', fun id hid => ?_⟩⟩
        simp only [sightV, Option.some.injEq] at hl
        subst hl
        rcases hid with hid | ⟨hid1, hid2⟩
        · exact List.mem_append_left _ (by rw [← hob]; exact hid)
        · refine List.mem_append_right _ (rangeN_mem hid1 ?_)
          have := hg.next
          have e : y.S.next = w'.next := by rw [h3]
          simp only at this
          omega
      · cases hp
end
end Go.RX
