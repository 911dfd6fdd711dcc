/- Regions that draw their order: sound in every order. -/
import Derived.Test.YtjfagagjmdddcaaGreatDoorRxDraw4
set_option linter.all false
namespace Go.RX
open Sym

theorem slotsOf_spec {t : Nat} : ∀ {os : List Operand}, Operand.tmp t ∈ os → t ∈ slotsOf os
  | [], h => by simp at h
  | x :: os, h => by
    rcases List.mem_cons.1 h with e | h
    · subst e; simp [slotsOf]
    · have := slotsOf_spec h
      cases x <;> simp [slotsOf, this]

theorem Listed.closed {ops : Array Oper} : ∀ {acc : List Nat}, Listed .any ops acc → Closed ops (· ∈ acc)
  | [], _ => fun i o _ hi => by simp at hi
  | j :: acc, .cons (o := o') ho' hn hd h => fun i o ho hi e he hb => by
    rcases List.mem_cons.1 hi with rfl | hi
    · rw [ho'] at ho; cases ho
      exact List.mem_cons_of_mem _ (hd e he hb)
    · exact List.mem_cons_of_mem _ (h.closed i o ho hi e he hb)

theorem Listed.right {m : Region.Mode} {ops : Array Oper} : ∀ {xs ys : List Nat}, Listed m ops (xs ++ ys) → Listed m ops ys
  | [], _, h => h
  | _ :: xs, ys, .cons _ _ _ h => Listed.right (xs := xs) h

section
variable {E : Env} {n : Nat} {sl : List Nat} {ops : Array Oper} {bs : List Nat} {ms : List Look} {C : Sym.Callee} {r : Option Nat} {m : Nat}

/-- The run in the order of the text, and what has been checked. -/
structure Run (E : Env) (n : Nat) (sl : List Nat) (ops : Array Oper) (bs : List Nat) (ms : List Look) (C : Sym.Callee) (T : Nat → D1) : Prop where
  step : ∀ i o, ops[i]? = some o → ∃ k d p q ps v, StepD E n sl ops.toList bs ms C i o (T i) (T (i + 1)) k d p q ps v
  tidy : tidy bs ops.toList ops.toList 0 = true
  bok : BOk ops bs
  wr0 : (T 0).wr = []
  tidy0 : (T 0).S.tidy

variable {T : Nat → D1}

theorem Run.grow (hT : Run E n sl ops bs ms C T) (hM : CalleeMono C) {i : Nat} (hi : i < ops.size) : Grow (T i).S (T (i + 1)).S := by
  obtain ⟨k, d, p, q, ps, v, h⟩ := hT.step i ops[i] (by simp [hi])
  exact h.grow hM

theorem Run.grows (hT : Run E n sl ops bs ms C T) (hM : CalleeMono C) {i j : Nat} (hij : i ≤ j) (hj : j ≤ ops.size) : Grow (T i).S (T j).S := by
  obtain ⟨k, rfl⟩ := Nat.exists_eq_add_of_le hij
  clear hij
  induction k with
  | zero => exact .refl _
  | succ k ih => exact (ih (by omega)).trans (hT.grow hM (by omega))

theorem Run.log (hT : Run E n sl ops bs ms C T) {i j : Nat} (hij : i ≤ j) (hj : j ≤ ops.size) : ∀ z ∈ (T i).lg, z ∈ (T j).lg := by
  obtain ⟨k, rfl⟩ := Nat.exists_eq_add_of_le hij
  clear hij
  induction k with
  | zero => exact fun _ h => h
  | succ k ih =>
    intro z hz
    obtain ⟨k', d, p, q, ps, v, h⟩ := hT.step (i + k) ops[i + k] (by simp)
    exact h.lg z (ih (by omega) z hz)

theorem Run.tidyAt (hT : Run E n sl ops bs ms C T) (hM : CalleeMono C) {i : Nat} (hi : i ≤ ops.size) : (T i).S.tidy := (hT.grows hM (Nat.zero_le i) hi).tidy hT.tidy0

/-- What changes an object that an operation sees is in order with it, or has made the object. -/
theorem Run.compat (hT : Run E n sl ops bs ms C T) (hM : CalleeMono C) {i j id : Nat} {oi oj : Oper} (hi : ops[i]? = some oi) (hj : ops[j]? = some oj) (hne : i ≠ j)
    {ki : KOp} {di : Nat} {pi : Dst} {qi : Sym.Callee → List SV → List SV → SW → Option (SV × SW)} {psi : Pass} {vi : SV} (hsi : StepD E n sl ops.toList bs ms C i oi (T i) (T (i + 1)) ki di pi qi psi vi)
    {S0 S1 : SW} {ob : List Nat} (hki : Kind bs ms C i (lookOf ki oi) (T i) (T (i + 1)) qi vi S0 S1 ob)
    (hsee : lookOf ki oi = .big ∨ id ∈ ob ∨ ((T i).S.next ≤ id ∧ id < (T (i + 1)).S.next))
    (htouch : (T (j + 1)).S.at id ≠ (T j).S.at id) : inOrder bs i j = true ∨ ((T j).S.next ≤ id ∧ id < (T (j + 1)).S.next) := by
  obtain ⟨kj, dj, pj, qj, psj, vj, hsj⟩ := hT.step j oj hj
  have hjN : j < ops.size := (Array.getElem?_eq_some_iff.1 hj).1
  have hiN : i < ops.size := (Array.getElem?_eq_some_iff.1 hi).1
  by_cases hold : id < (T j).S.next
  · left
    apply Classical.byContradiction
    intro hord
    obtain ⟨U0, U1, ob2, hkj⟩ := hsj.kind hM
    have hmj : lookOf kj oj = .wr ∨ lookOf kj oj = .big := by
      cases hc : lookOf kj oj with
      | no =>
        exfalso
        obtain ⟨-, -, h3⟩ := hkj.no hc
        exact htouch (by rw [← hkj.a1, h3, hkj.a0])
      | rd =>
        exfalso
        exact htouch (by rw [← hkj.a1, hkj.rd hc id (by rw [hkj.n0]; exact hold), hkj.a0])
      | wr => exact .inl rfl
      | big => exact .inr rfl
    have hmi : lookOf ki oi ≠ .no := fun hc => by
      obtain ⟨h1, h2, -⟩ := hki.no hc
      rcases hsee with h | h | ⟨h3, h4⟩
      · rw [hc] at h; cases h
      · rw [h1] at h; simp at h
      · have := hki.n0; have := hki.n1; omega
    have hc1 : clash (lookOf ki oi) (lookOf kj oj) = true := by
      rcases hmj with h | h <;> rw [h] <;> cases hc : lookOf ki oi <;> first | rfl | exact absurd hc hmi
    have hc2 : clash (lookOf kj oj) (lookOf ki oi) = true := by
      rcases hmj with h | h <;> rw [h] <;> cases hc : lookOf ki oi <;> first | rfl | exact absurd hc hmi
    have hri : j ∈ rivals bs i (lookOf ki oi) ms 0 := by
      have := rivals_spec (bs := bs) (i := i) (b := 0) hsj.look hc1 (by omega) (by simpa using hord)
      simpa using this
    have hrj : i ∈ rivals bs j (lookOf kj oj) ms 0 := by
      have := rivals_spec (bs := bs) (i := j) (b := 0) hsi.look hc2 (by omega) (by
        intro h2; exact hord (inOrder_symm (by simpa using h2)))
      simpa using this
    obtain ⟨ei, i1, i2, i3, i4, i5, i6, i7⟩ := hki.log (List.ne_nil_of_mem hri)
    obtain ⟨ej, j1, j2, j3, j4, j5, j6, j7⟩ := hkj.log (List.ne_nil_of_mem hrj)
    have fin : spares (T j).S ej.w' ei.sight = true → False := fun hsp => by
      rcases spares_spec j5 hsp with h | ⟨l, h1, h2⟩
      · exact htouch (by rw [← j4]; exact h id hold)
      · obtain ⟨hnb, hin⟩ := i7 l h1
        have hmem : id ∈ l := by
          rcases hsee with h | h
          · exact absurd h hnb
          · exact hin id h
        exact htouch (by rw [← j4]; exact h2 id hmem hold)
    rcases Nat.lt_or_gt_of_ne hne with hlt | hlt
    · have hmem := hT.log (i := i + 1) (j := j) (by omega) (by omega) _ i1
      exact fin (clear_spec j6 ei hmem (by rw [i2]; exact hrj)).2
    · have hmem := hT.log (i := j + 1) (j := i) (by omega) (by omega) _ j1
      have := (clear_spec i6 ej hmem (by rw [j2]; exact hri)).1
      rw [j3] at this
      exact fin this
  · right
    refine ⟨by omega, Nat.lt_of_not_le fun hge => htouch ?_⟩
    rw [hT.tidyAt hM (by omega) id hge, hT.tidyAt hM (by omega) id (by omega)]

/-! ### The invariant -/
noncomputable abbrev Ht (T : Nat → D1) (i id : Nat) : Option SObj := (T i).S.at id

structure DInv (E : Env) (n : Nat) (sl : List Nat) (ops : Array Oper) (T : Nat → D1) (ρ0 : Ren) (a0 : Act) (w0 : World) (done : List Nat) (ρ : Ren) (a : Act) (w : World) : Prop where
  size : a.tmps.size = n
  defers : a.defers = a0.defers
  slots : ∀ i t, i ≤ ops.size → (∀ j o, ops[j]? = some o → o.dst = some t → (j ∈ done ↔ j < i)) → SlotAt sl ρ (T i) t (a.tmps.getD t undef)
  ext : ExtH ρ0 (T 0).S.at w0 ρ (HD ops.size (Ht T) (· ∈ done)) w
  glob : Glob E ρ (HD ops.size (Ht T) (· ∈ done)) w
  born : ∀ id p, ρ id = some p → ρ0 id = some p ∨ ∃ j, j ∈ done ∧ j < ops.size ∧ (T j).S.next ≤ id ∧ id < (T (j + 1)).S.next

/-- The numbers of two operations lie apart. -/
theorem Run.apart (hT : Run E n sl ops bs ms C T) (hM : CalleeMono C) {i j id : Nat} (hi : i < ops.size) (hj : j < ops.size) (h1 : (T i).S.next ≤ id) (h2 : id < (T (i + 1)).S.next) (h3 : (T j).S.next ≤ id) (h4 : id < (T (j + 1)).S.next) : i = j := by
  apply Classical.byContradiction
  intro hne
  rcases Nat.lt_or_gt_of_ne hne with hlt | hlt
  · have := (hT.grows hM (i := i + 1) (j := j) (by omega) (by omega)).next; omega
  · have := (hT.grows hM (i := j + 1) (j := i) (by omega) (by omega)).next; omega

theorem draw_step (hT : Run E n sl ops bs ms C T) (hC : CalleeSound E C) (hM : CalleeMono C) {ρ0 : Ren} {a0 : Act} {w0 : World} (hfresh : Fresh ρ0 (T 0).S.next (T ops.size).S.next)
    {done : List Nat} {i : Nat} {o : Oper} (ho : ops[i]? = some o) (hni : i ∉ done) (hcl : Closed ops (· ∈ done)) (hcl' : Closed ops (· ∈ i :: done)) {ρ : Ren} {a : Act} {w : World} (hinv : DInv E n sl ops T ρ0 a0 w0 done ρ a w)
    {next : Act → World → Prop} {Q : Exit → Act → World → Prop} (hn : ∀ ρ' a' w', DInv E n sl ops T ρ0 a0 w0 (i :: done) ρ' a' w' → next a' w') : stepIn (Fr r) m E.P ops o a w next Q := by
  obtain ⟨k, d, p, q, ps, v, hs⟩ := hT.step i o ho
  have hiN : i < ops.size := (Array.getElem?_eq_some_iff.1 ho).1
  have hcl2 : Closed ops (fun k => k = i ∨ k ∈ done) := by simpa using hcl'
  have htid := tidy_at hT.tidy i o (by simpa using ho)
  simp only [Nat.zero_add] at htid
  have ord : ∀ j, inOrder bs i j = true → (j ∈ done ↔ j < i) := fun j h => inOrder_next hT.bok hcl hcl2 hni h
  -- the slots that the operation reads
  have hslot : ∀ t, t ∈ touches ops.toList o → SlotAt sl ρ (T i) t (a.tmps.getD t undef) := fun t ht =>
    hinv.slots i t (Nat.le_of_lt hiN) fun j o' ho' hd' => by
      by_cases e : j = i
      · subst e; simp [hni]
      · have := tidyAt_spec (k := 0) htid.1 j o' t (by simpa using ho') hd' ht (by omega)
        exact ord j (by simpa using this)
  have hgood : Goods ρ ⟨(T i).wr, sl⟩ (T i).e (T i).fr a o := fun x hx => by
    cases x with
    | tmp t => exact (hslot t (by unfold touches; simp [slotsOf_spec hx])).good
    | _ => trivial
  have hguard : ∀ d, guardSlot ops.toList o = some d → Good ρ ⟨(T i).wr, sl⟩ (T i).e (T i).fr a (.tmp d) := fun d hd =>
    (hslot d (by unfold touches guardNeeds; simp [hd, slotsOf])).good
  -- what is behind the operation
  have fin : ∀ (S2 S2' : SW) (M : Nat → Prop), S2.next = (T i).S.next → S2'.next = (T (i + 1)).S.next → S2.tidy → q C (T i).e (T i).fr S2 = some (v, S2') →
      (∀ id, S2.at id ≠ none → ρ id ≠ none → HD ops.size (Ht T) (· ∈ done) id = S2.at id ∧ M id) →
      (∀ id, M id → (ρ id ≠ none ∨ ((T i).S.next ≤ id ∧ id < (T (i + 1)).S.next)) → HD ops.size (Ht T) (· ∈ i :: done) id = S2'.at id) →
      (∀ id, ¬ M id → (T (i + 1)).S.at id = (T i).S.at id) → (∀ id, (T i).S.next ≤ id → id < (T (i + 1)).S.next → M id) → stepIn (Fr r) m E.P ops o a w next Q := by
    intro S2 S2' M hn2 hn2' ht2 hq2 hin hhere hother hnew
    have hok : Ok E ρ S2 w := part_ok hinv.ext.wrel hinv.glob ht2 fun id x hid hx => by rw [(hin id (by simp [hx]) hid).1, hx]
    have hfr2 : Fresh ρ S2.next S2'.next := fun id h1 h2 => by
      rw [hn2] at h1; rw [hn2'] at h2
      cases e : ρ id with
      | none => rfl
      | some pp =>
        exfalso
        rcases hinv.born id pp e with e0 | ⟨j, hj, hjN, h3, h4⟩
        · have := (hT.grows hM (i := 0) (j := i) (Nat.zero_le _) (by omega)).next
          have := (hT.grows hM (i := i + 1) (j := ops.size) (by omega) (Nat.le_refl _)).next
          rw [hfresh id (by omega) (by omega)] at e0; cases e0
        · have := hT.apart hM hiN hjN h1 h2 h3 h4
          subst this; exact hni hj
    refine op_step hs.kop hC hs.guard hgood hguard hok hq2 hfr2 fun ρ' u w' hx hu => hn ρ' _ w' ?_
    have hle := hx.le
    have hmap : ∀ id pp, ρ' id = some pp → ρ id = some pp ∨ ((T i).S.next ≤ id ∧ id < (T (i + 1)).S.next) := fun id pp e => by
      have := hx.fresh id pp e
      rw [hn2, hn2'] at this; exact this
    have hps : PartStep ρ ρ' S2 S2' (HD ops.size (Ht T) (· ∈ done)) (HD ops.size (Ht T) (· ∈ i :: done)) M := by
      refine ⟨fun id h1 h2 => ?_, fun id h1 h2 => ?_, fun id pp h1 h2 => ?_⟩
      · obtain ⟨e1, e2⟩ := hin id h1 h2
        exact ⟨by rw [e1]; exact h1, e2⟩
      · cases e : ρ' id with
        | none => exact absurd e h2
        | some pp =>
          refine hhere id h1 ?_
          rcases hmap id pp e with e1 | e1
          · exact .inl (by simp [e1])
          · exact .inr e1
      · have hold : ρ id = some pp := by
          rcases hmap id pp h2 with e1 | ⟨e1, e2⟩
          · exact e1
          · exact absurd (hnew id e1 e2) h1
        refine ⟨(HD_same fun j hj ht => ?_).symm, hold⟩
        have : j ≠ i := fun e => by subst e; exact ht (hother id h1)
        simp [this]
    refine ⟨?_, (put_defers _ _ _).trans hinv.defers, fun i2 t hi2 hag => ?_, part_ext hinv.ext hx hps, part_glob hinv.ext.wrel hinv.glob hx hps, fun id pp e => ?_⟩
    · cases o.dst <;> simp [Act.put, hinv.size]
    · by_cases hdt : o.dst = some t
      · have hi1 : i < i2 := (hag i o ho hdt).1 (by simp)
        obtain ⟨hlt, h1⟩ := hs.slot_same hdt hu
        have htm : (a.put o.dst u).tmps.getD t undef = u := by
          rw [hdt]
          exact getD_set_same (by rw [hinv.size]; exact hlt)
        rw [htm]
        have hwr : ∀ j o', ops[j]? = some o' → i < j → j < i2 → o'.dst ≠ some t := fun j o' ho' h2 h3 hd' => by
          have hmem := (hag j o' ho' hd').2 h3
          have hjd : j ∈ done := by
            rcases List.mem_cons.1 hmem with e | e
            · omega
            · exact e
          have hto : t ∈ touches ops.toList o := by unfold touches; simp [hdt]
          have := tidyAt_spec (k := 0) htid.1 j o' t (by simpa using ho') hd' hto (by omega)
          have := (ord j (by simpa using this)).1 hjd
          omega
        have go : ∀ c, i + 1 + c ≤ i2 → SlotAt sl ρ' (T (i + 1 + c)) t u := by
          intro c
          induction c with
          | zero => intro _; exact h1
          | succ c ih =>
            intro hc
            obtain ⟨k', d', p', q', ps', v', hs'⟩ := hT.step (i + 1 + c) ops[i + 1 + c] (by simp)
            exact hs'.slot_other (hwr (i + 1 + c) _ (by simp) (by omega) (by omega)) (fun h => by omega) (ih (by omega))
        have := go (i2 - (i + 1)) (by omega)
        rw [show i + 1 + (i2 - (i + 1)) = i2 from by omega] at this
        exact this
      · have htm : (a.put o.dst u).tmps.getD t undef = a.tmps.getD t undef := by
          cases hd0 : o.dst with
          | none => rfl
          | some d0 => exact getD_set_other (fun e => hdt (by rw [hd0, e]))
        rw [htm]
        refine (hinv.slots i2 t hi2 fun j o' ho' hd' => ?_).mono hle
        have hji : j ≠ i := fun e => by subst e; rw [ho] at ho'; cases ho'; exact hdt hd'
        have := hag j o' ho' hd'
        simpa [hji] using this
    · rcases hmap id pp e with e1 | ⟨e1, e2⟩
      · rcases hinv.born id pp e1 with e2 | ⟨j, h1, h2⟩
        · exact .inl e2
        · exact .inr ⟨j, List.mem_cons_of_mem _ h1, h2⟩
      · exact .inr ⟨i, by simp, hiN, e1, e2⟩
  -- agreement on what the operation sees
  have agree : ∀ id, ρ id ≠ none → id < (T i).S.next → (∀ j oj, ops[j]? = some oj → i ≠ j → (T (j + 1)).S.at id ≠ (T j).S.at id → inOrder bs i j = true ∨ ((T j).S.next ≤ id ∧ id < (T (j + 1)).S.next)) →
      HD ops.size (Ht T) (· ∈ done) id = (T i).S.at id ∧ HD ops.size (Ht T) (· ∈ i :: done) id = (T (i + 1)).S.at id := by
    intro id hid hlt hcomp
    have key : ∀ j, j < ops.size → j ≠ i → (T (j + 1)).S.at id ≠ (T j).S.at id → (j ∈ done ↔ j < i) := fun j hj hne ht => by
      rcases hcomp j ops[j] (by simp [hj]) (fun e => hne e.symm) ht with h | ⟨h1, h2⟩
      · exact ord j h
      · have hji : j < i := by
          apply Nat.lt_of_not_le
          intro hle
          have := (hT.grows hM (i := i) (j := j) hle (by omega)).next
          omega
        refine ⟨fun _ => hji, fun _ => ?_⟩
        cases e : ρ id with
        | none => exact absurd e hid
        | some pp =>
          rcases hinv.born id pp e with e0 | ⟨j2, hj2, hjN, h3, h4⟩
          · have := (hT.grows hM (i := 0) (j := j) (Nat.zero_le _) (by omega)).next
            have := (hT.grows hM (i := j + 1) (j := ops.size) (by omega) (Nat.le_refl _)).next
            rw [hfresh id (by omega) (by omega)] at e0; cases e0
          · have := hT.apart hM hj hjN h1 h2 h3 h4
            subst this; exact hj2
    refine ⟨HD_eq (Nat.le_of_lt hiN) fun j hj ht => ?_, HD_eq hiN fun j hj ht => ?_⟩
    · by_cases e : j = i
      · subst e; simp [hni]
      · exact key j hj e ht
    · by_cases e : j = i
      · subst e; simp
      · have := key j hj e ht
        simp only [List.mem_cons, e, false_or, this]
        omega
  have hti := hT.tidyAt hM (i := i) (Nat.le_of_lt hiN)
  have hti' := hT.tidyAt hM (i := i + 1) hiN
  have hnx := (hT.grow hM hiN).next
  obtain ⟨S0, S1, ob, hk⟩ := hs.kind hM
  -- what the operation has made
  have made : ∀ id, (lookOf k o = .big ∨ id ∈ ob ∨ ((T i).S.next ≤ id ∧ id < (T (i + 1)).S.next)) → (T i).S.next ≤ id → id < (T (i + 1)).S.next → HD ops.size (Ht T) (· ∈ i :: done) id = (T (i + 1)).S.at id := by
    intro id hsee h1 h2
    refine HD_eq hiN fun j hj ht => ?_
    by_cases e : j = i
    · subst e; simp
    · rcases Nat.lt_or_gt_of_ne e with hlt3 | hlt3
      · exfalso
        have := (hT.grows hM (i := j + 1) (j := i) (by omega) (by omega)).next
        exact ht (by rw [Ht, Ht, hT.tidyAt hM (i := j + 1) (by omega) id (by omega), hT.tidyAt hM (i := j) (by omega) id (by have := (hT.grow hM hj).next; omega)])
      · rcases hT.compat hM ho (show ops[j]? = some ops[j] by simp [hj]) (fun e2 => e e2.symm) hs hk hsee ht with h6 | ⟨h6, h7⟩
        · have := ord j h6
          simp only [List.mem_cons, e, false_or, this]; omega
        · have := (hT.grows hM (i := i + 1) (j := j) (by omega) (by omega)).next
          omega
  by_cases hb : lookOf k o = .big
  · have hcomp : ∀ id j oj, ops[j]? = some oj → i ≠ j → (T (j + 1)).S.at id ≠ (T j).S.at id → inOrder bs i j = true ∨ ((T j).S.next ≤ id ∧ id < (T (j + 1)).S.next) := fun id j oj hoj hne ht =>
      hT.compat hM ho hoj hne hs hk (.inl hb) ht
    refine fin S0 S1 (fun id => id < (T (i + 1)).S.next) hk.n0 hk.n1 (fun id hid => by rw [hk.a0]; exact hti id (by rw [← hk.n0]; exact hid)) hk.run (fun id hl hr => ?_) (fun id hlt hor => ?_) (fun id hge => ?_) (fun id _ h => h)
    · have hlt : id < (T i).S.next := Nat.lt_of_not_le fun hge => hl (by rw [hk.a0]; exact hti id hge)
      exact ⟨by rw [hk.a0]; exact (agree id hr hlt (hcomp id)).1, by omega⟩
    · rw [hk.a1]
      by_cases hlt2 : id < (T i).S.next
      · rcases hor with hr | hr
        · exact (agree id hr hlt2 (hcomp id)).2
        · omega
      · exact made id (.inl hb) (by omega) hlt
    · rw [hti' id (by omega), hti id (by omega)]
  · have hpart := hk.part hb
    have hcomp : ∀ id, id ∈ ob → ∀ j oj, ops[j]? = some oj → i ≠ j → (T (j + 1)).S.at id ≠ (T j).S.at id → inOrder bs i j = true ∨ ((T j).S.next ≤ id ∧ id < (T (j + 1)).S.next) := fun id hid j oj hoj hne ht =>
      hT.compat hM ho hoj hne hs hk (.inr (.inl hid)) ht
    obtain ⟨S2, e1, e3⟩ := some_state S0 ob
    obtain ⟨S2', f1, f2, f3, f4⟩ := hpart.part S2 e1 (fun id hid => by rw [e3, if_pos hid])
    refine fin S2 S2' (fun id => (id ∈ ob ∧ id < (T i).S.next) ∨ ((T i).S.next ≤ id ∧ id < (T (i + 1)).S.next)) (by rw [e1, hk.n0]) (by rw [f2, hk.n1]) (fun id hid => ?_) f1 (fun id hl hr => ?_) (fun id hM' hor => ?_) (fun id hM' => ?_) (fun id h1 h2 => .inr ⟨h1, h2⟩)
    · rw [e3]
      split
      · rw [hk.a0]; exact hti id (by rw [← hk.n0, ← e1]; exact hid)
      · rfl
    · rw [e3] at hl ⊢
      by_cases hob : id ∈ ob
      · rw [if_pos hob] at hl ⊢
        have hlt : id < (T i).S.next := Nat.lt_of_not_le fun hge => hl (by rw [hk.a0]; exact hti id hge)
        exact ⟨by rw [hk.a0]; exact (agree id hr hlt (hcomp id hob)).1, .inl ⟨hob, hlt⟩⟩
      · rw [if_neg hob] at hl; exact absurd rfl hl
    · rcases hM' with ⟨hob, hlt⟩ | ⟨h1, h2⟩
      · rw [f3 id (.inl hob), hk.a1]
        rcases hor with hr | ⟨hr, -⟩
        · exact (agree id hr hlt (hcomp id hob)).2
        · omega
      · rw [f3 id (.inr ⟨by rw [hk.n0]; exact h1, by rw [hk.n1]; exact h2⟩), hk.a1]
        exact made id (.inr (.inr ⟨h1, h2⟩)) h1 h2
    · by_cases hlt : id < (T i).S.next
      · have hob : id ∉ ob := fun h => hM' (.inl ⟨h, hlt⟩)
        rw [← hk.a1, hpart.rest id hob (by rw [hk.n0]; exact hlt), hk.a0]
      · rw [hti' id (by
          apply Nat.le_of_not_lt
          intro h2
          exact hM' (.inr ⟨by omega, h2⟩)), hti id (by omega)]

theorem draw_all (hT : Run E n sl ops bs ms C T) (hC : CalleeSound E C) (hM : CalleeMono C) {ρ0 : Ren} {a0 : Act} {w0 : World} (hfresh : Fresh ρ0 (T 0).S.next (T ops.size).S.next) {Q : Exit → Act → World → Prop}
    (hQ : ∀ done ρ a w, (∀ i, i < ops.size → i ∈ done) → DInv E n sl ops T ρ0 a0 w0 done ρ a w → Q .normal a w) :
    ∀ (rest done : List Nat), Listed .any ops (rest.reverse ++ done) → (∀ i, i < ops.size → i ∈ rest.reverse ++ done) → ∀ ρ a w, DInv E n sl ops T ρ0 a0 w0 done ρ a w → wpOpsIn (Fr r) m E.P ops Q rest a w
  | [], done, hl, hall, ρ, a, w, hinv => hQ done ρ a w (by simpa using hall) hinv
  | i :: rest, done, hl, hall, ρ, a, w, hinv => by
    have heq : (i :: rest).reverse ++ done = rest.reverse ++ (i :: done) := by simp
    rw [heq] at hl hall
    have h1 := hl.right
    cases h1 with
    | cons ho hni hd h2 =>
      simp only [wpOpsIn, ho]
      exact draw_step (r := r) (m := m) hT hC hM hfresh ho hni h2.closed (Listed.cons ho hni hd h2).closed hinv fun ρ' a' w' hinv' => draw_all hT hC hM hfresh hQ rest (i :: done) hl hall ρ' a' w' hinv'

/-! ### The region -/
theorem drawn_some {f : Sym.Callee → List Ent → List SV → List SV → SW → Option (List SV × SW)} (h : drawn E n sl ops = some ⟨f⟩) :
    ∃ bs ms, BOk ops bs ∧ looks E n sl [] ops.toList = some ms ∧ tidy bs ops.toList ops.toList 0 = true ∧ gcFix ops.toList ops.toList.length ops.toList.length 0 = true ∧ kopsD E n sl ops.toList bs ms [] ops.toList 0 = some ⟨f⟩ := by
  cases hm : looks E n sl [] ops.toList with
  | none => simp only [drawn, hm] at h; cases h
  | some ms =>
    simp only [drawn, hm] at h
    split at h
    · rename_i h1 h2
      refine ⟨_, ms, ?_, rfl, h1, h2, h⟩
      refine befores_spec (fun i o ho => ?_) ops.toList [] (by simp) (fun i m hi => by simp at hi)
      have := (tidy_at h1 i o (by simpa using ho)).2
      simpa using this
    · cases h

theorem drawn_run {f : Sym.Callee → List Ent → List SV → List SV → SW → Option (List SV × SW)} (h : drawn E n sl ops = some ⟨f⟩) {fr fr' : List SV} {S S' : SW} (hr : f C [] [] fr S = some (fr', S')) :
    ∃ (bs : List Nat) (ms : List Look) (T : Nat → D1), T 0 = ⟨[], [], fr, S, []⟩ ∧ (T ops.size).fr = fr' ∧ (T ops.size).S = S' ∧ BOk ops bs ∧ tidy bs ops.toList ops.toList 0 = true ∧ gcFix ops.toList ops.toList.length ops.toList.length 0 = true ∧
      ∀ i o, ops[i]? = some o → ∃ k d p q ps v, StepD E n sl ops.toList bs ms C i o (T i) (T (i + 1)) k d p q ps v := by
  obtain ⟨bs, ms, h1, h2, h3, h4, h5⟩ := drawn_some h
  obtain ⟨T, t0, t1, t2, t3⟩ := trace (C := C) ops.toList 0 [] f ms h5 h2 (fun j _ => by simp) [] [] fr S fr' S' hr
  exact ⟨bs, ms, T, t0, by simpa using t1, by simpa using t2, h1, h3, h4, fun i o ho => by simpa using t3 i o (by simpa using ho)⟩

theorem drawn_mono (hM : CalleeMono C) {f : Sym.Callee → List Ent → List SV → List SV → SW → Option (List SV × SW)} (h : drawn E n sl ops = some ⟨f⟩) {fr fr' : List SV} {S S' : SW} (hr : f C [] [] fr S = some (fr', S')) : Grow S S' := by
  obtain ⟨bs, ms, T, t0, t1, t2, h1, h2, h3, h4⟩ := drawn_run h hr
  have key : ∀ i, i ≤ ops.size → Grow (T 0).S (T i).S := by
    intro i
    induction i with
    | zero => intro _; exact .refl _
    | succ i ih =>
      intro hi
      obtain ⟨k, d, p, q, ps, v, hs⟩ := h4 i ops[i] (by simp)
      exact (ih (by omega)).trans (hs.grow hM)
  have := key ops.size (Nat.le_refl _)
  rw [t0, t2] at this
  exact this

theorem drawn_sound (hC : CalleeSound E C) (hM : CalleeMono C) {id : Nat} {f : Sym.Callee → List Ent → List SV → List SV → SW → Option (List SV × SW)} (h : drawn E n sl ops = some ⟨f⟩)
    {ρ : Ren} {fr fr' : List SV} {a : Act} {S S' : SW} {w : World} (hsz : a.tmps.size = n) (hfr : FRel ρ sl fr a.tmps) (hok : Ok E ρ S w) (hr : f C [] [] fr S = some (fr', S')) (hfresh : Fresh ρ S.next S'.next)
    {Q : Exit → Act → World → Prop} (hQ : ∀ ρ' a' w', Ext ρ S w ρ' S' w' → FRel ρ' sl fr' a'.tmps → a'.tmps.size = n → a'.defers = a.defers → Q .normal a' w') : (Code.region id ops true).wpIn (Fr r) m E.P Q a w := by
  obtain ⟨bs, ms, T, t0, t1, t2, h1, h2, h3, h4⟩ := drawn_run h hr
  have hT : Run E n sl ops bs ms C T := ⟨h4, h2, h1, by rw [t0], by rw [t0]; exact hok.tidy⟩
  have hS0 : (T 0).S = S := by rw [t0]
  have hg : Grow S S' := by
    have := hT.grows hM (Nat.zero_le ops.size) (Nat.le_refl _)
    rw [hS0, t2] at this; exact this
  refine wpIn_region_draw fun t => ?_
  obtain ⟨acc, e1, e2, e3⟩ := schedule_spec h2 h3 (E.P.follows .mixedOrders) t
  rw [e1]
  have hd : Ok E ρ S w.drew := hok.ext (ext_drew hok.wrel hok.tidy)
  have hHD0 : ∀ i, HD ops.size (Ht T) (· ∈ ([] : List Nat)) i = S.at i := fun i => by
    rw [HD_eq (i := 0) (Nat.zero_le _) (fun j _ _ => by simp)]
    show (T 0).S.at i = _
    rw [hS0]
  have hHD0' : HD ops.size (Ht T) (· ∈ ([] : List Nat)) = S.at := funext hHD0
  refine draw_all (r := r) (m := m) hT hC hM (ρ0 := ρ) (a0 := a) (w0 := w) (by rw [hS0, t2]; exact hfresh) (fun done ρ' a' w' hall hinv => ?_) acc.reverse [] (by simpa using e2) (by simpa using e3) ρ a w.drew ?_
  · have hHD : ∀ i, HD ops.size (Ht T) (· ∈ done) i = S'.at i := fun i => by
      rw [HD_eq (i := ops.size) (Nat.le_refl _) (fun j hj _ => ⟨fun _ => hj, fun _ => hall j hj⟩)]
      show (T ops.size).S.at i = _
      rw [t2]
    have hHD' : HD ops.size (Ht T) (· ∈ done) = S'.at := funext hHD
    have hx := hinv.ext
    rw [hHD', hS0] at hx
    refine hQ ρ' a' w' ⟨hx.le, fun i p e => ?_, hg.next, hg.tidy hok.tidy, hg.low, hg.keep, hx.size, hx.os, hx.tape, hx.output, hx.frame, hx.own, hx.wrel⟩ (fun s i hs => ?_) hinv.size hinv.defers
    · rcases hinv.born i p e with e0 | ⟨j, hj, hjN, k1, k2⟩
      · exact .inl e0
      · right
        have g1 := (hT.grows hM (i := 0) (j := j) (Nat.zero_le _) (by omega)).next
        have g2 := (hT.grows hM (i := j + 1) (j := ops.size) (by omega) (Nat.le_refl _)).next
        rw [hS0] at g1; rw [t2] at g2
        omega
    · have := (hinv.slots ops.size s (Nat.le_refl _) (fun j o ho _ => by
        have hj := (Array.getElem?_eq_some_iff.1 ho).1
        exact ⟨fun _ => hj, fun _ => hall j hj⟩)).fr i hs
      rw [t1] at this; exact this
  · refine ⟨hsz, rfl, fun i s hi hag => ?_, ?_, ?_, fun id p e => .inl e⟩
    · have base : SlotAt sl ρ (T 0) s (a.tmps.getD s undef) := ⟨fun p hp => by rw [t0] at hp; simp at hp, fun p hp => by rw [t0]; exact hfr s p hp⟩
      have go : ∀ c, c ≤ i → SlotAt sl ρ (T c) s (a.tmps.getD s undef) := by
        intro c
        induction c with
        | zero => intro _; exact base
        | succ c ih =>
          intro hc
          obtain ⟨k', d', p', q', ps', v', hs'⟩ := hT.step c ops[c] (by simp)
          refine hs'.slot_other (fun hd' => ?_) (fun hge => ?_) (ih (by omega))
          · have := (hag c _ (by simp) hd').2 (by omega)
            simp at this
          · simp [Array.getD_eq_getD_getElem?, hsz, hge]
      exact go i (Nat.le_refl _)
    · rw [hHD0', hS0]
      exact (ext_drew hok.wrel hok.tidy).toH
    · rw [hHD0']
      exact hd.glob
end
end Go.RX
