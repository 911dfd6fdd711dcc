/- Regions that draw their order: the run in the order of the text, step by step; what each operation looks at. -/
import Derived.Test.YtenkdblhfejiaaaGreatDoorRxDraw1
set_option linter.all false
namespace Go.RX
open Sym

/-- Where the run in the order of the text stands before an operation. -/
structure D1 where
  wr : List Nat
  e : List SV
  fr : List SV
  S : SW
  lg : List (Nat × Nat)

def PassD (C : Sym.Callee) (q : Sym.Callee → List SV → List SV → SW → Option (SV × SW)) (i : Nat) (v : SV) (x y : D1) : Pass → Prop
  | .free => q C x.e x.fr x.S = some (v, y.S) ∧ y.lg = x.lg
  | .calm => ∃ w', q C x.e x.fr ⟨x.S.heap, x.S.next, x.S.next⟩ = some (v, w') ∧ x.S.next ≤ w'.low ∧ y.S = ⟨w'.heap, w'.next, x.S.low⟩ ∧ y.lg = x.lg
  | .wary a rs => ∃ id off, a x.e x.fr = .ptr id off ∧ clear rs id x.lg = true ∧ q C x.e x.fr x.S = some (v, y.S) ∧ y.lg = (i, id) :: x.lg

structure StepD (E : Env) (n : Nat) (sl : List Nat) (all : List Oper) (bs : List Nat) (ms : List Look) (C : Sym.Callee) (i : Nat) (o : Oper) (x y : D1)
    (k : KOp) (d : Nat) (p : Dst) (q : Sym.Callee → List SV → List SV → SW → Option (SV × SW)) (ps : Pass) (v : SV) : Prop where
  kop : kop E ⟨x.wr, sl⟩ o = some k
  dst : dstK sl n o.dst = some (d, p)
  guard : guarded (guardK ⟨x.wr, sl⟩ all o) (k1of k) = ⟨q⟩
  pass : passK ⟨x.wr, sl⟩ bs ms i k o = some ps
  wr : y.wr = d :: x.wr
  e : y.e = p.push v x.e
  fr : y.fr = p.keep x.fr v
  run : PassD C q i v x y ps
  look : ms[i]? = some (lookOf k o)

section
variable {E : Env} {n : Nat} {sl : List Nat} {all : List Oper} {bs : List Nat} {ms : List Look} {C : Sym.Callee}

theorem looks_cons {wr : List Nat} {o : Oper} {rest : List Oper} {l : List Look} (h : looks E n sl wr (o :: rest) = some l) :
    ∃ k d p l', kop E ⟨wr, sl⟩ o = some k ∧ dstK sl n o.dst = some (d, p) ∧ looks E n sl (d :: wr) rest = some l' ∧ l = lookOf k o :: l' := by
  simp only [looks] at h
  split at h
  · rename_i k d p hk hd
    split at h
    · rename_i l' hl
      simp only [Option.some.injEq] at h
      exact ⟨k, d, p, l', hk, hd, hl, h.symm⟩
    · cases h
  · cases h

theorem kopsD_cons {wr : List Nat} {o : Oper} {rest : List Oper} {i : Nat} {f : Sym.Callee → List (Nat × Nat) → List SV → List SV → SW → Option (List SV × SW)} (h : kopsD E n sl all bs ms wr (o :: rest) i = some ⟨f⟩) :
    ∃ k d p r ps q, kop E ⟨wr, sl⟩ o = some k ∧ dstK sl n o.dst = some (d, p) ∧ kopsD E n sl all bs ms (d :: wr) rest (i + 1) = some ⟨r⟩ ∧ passK ⟨wr, sl⟩ bs ms i k o = some ps ∧
      guarded (guardK ⟨wr, sl⟩ all o) (k1of k) = ⟨q⟩ ∧ ∀ lg e fr S fr' S', f C lg e fr S = some (fr', S') →
        ∃ v y, PassD C q i v ⟨wr, e, fr, S, lg⟩ y ps ∧ y.wr = d :: wr ∧ y.e = p.push v e ∧ y.fr = p.keep fr v ∧ r C y.lg y.e y.fr y.S = some (fr', S') := by
  simp only [kopsD] at h
  split at h
  · rename_i k d p hk hd
    split at h
    · rename_i rr ps hr hp
      obtain ⟨r⟩ := rr
      generalize hq : guarded (guardK ⟨wr, sl⟩ all o) (k1of k) = qq
      obtain ⟨q⟩ := qq
      refine ⟨k, d, p, r, ps, q, hk, hd, hr, hp, hq, fun lg e fr S fr' S' hf => ?_⟩
      unfold chainD at h
      rw [hq] at h
      cases ps with
      | free =>
        simp only [Option.some.injEq, KD.mk.injEq] at h
        subst h
        dsimp only at hf
        split at hf
        · rename_i v S1 hv
          exact ⟨v, ⟨d :: wr, p.push v e, p.keep fr v, S1, lg⟩, ⟨hv, rfl⟩, rfl, rfl, rfl, hf⟩
        · cases hf
      | calm =>
        simp only [Option.some.injEq, KD.mk.injEq] at h
        subst h
        dsimp only at hf
        split at hf
        · rename_i v S1 hv
          split at hf
          · rename_i hb
            exact ⟨v, ⟨d :: wr, p.push v e, p.keep fr v, ⟨S1.heap, S1.next, S.low⟩, lg⟩, ⟨S1, hv, Nat.le_of_ble_eq_true hb, rfl, rfl⟩, rfl, rfl, rfl, hf⟩
          · cases hf
        · cases hf
      | wary a rs =>
        simp only [Option.some.injEq, KD.mk.injEq] at h
        subst h
        dsimp only at hf
        split at hf
        · rename_i id off ha
          split at hf
          · rename_i hc
            split at hf
            · rename_i v S1 hv
              exact ⟨v, ⟨d :: wr, p.push v e, p.keep fr v, S1, (i, id) :: lg⟩, ⟨id, off, ha, hc, hv, rfl⟩, rfl, rfl, rfl, hf⟩
            · cases hf
          · cases hf
        · cases hf
    · cases h
  · cases h

/-- The run in the order of the text. -/
theorem trace : ∀ (rest : List Oper) (i : Nat) (wr : List Nat) (f : Sym.Callee → List (Nat × Nat) → List SV → List SV → SW → Option (List SV × SW)) (l : List Look), kopsD E n sl all bs ms wr rest i = some ⟨f⟩ → looks E n sl wr rest = some l →
    (∀ j, j < rest.length → ms[i + j]? = l[j]?) → ∀ lg e fr S fr' S', f C lg e fr S = some (fr', S') →
    ∃ T : Nat → D1, T 0 = ⟨wr, e, fr, S, lg⟩ ∧ (T rest.length).fr = fr' ∧ (T rest.length).S = S' ∧ ∀ j o, rest[j]? = some o → ∃ k d p q ps v, StepD E n sl all bs ms C (i + j) o (T j) (T (j + 1)) k d p q ps v
  | [], i, wr, f, l, h, hl, hm, lg, e, fr, S, fr', S', hf => by
    simp only [kopsD, Option.some.injEq, KD.mk.injEq] at h
    subst h
    simp only [Option.some.injEq, Prod.mk.injEq] at hf
    obtain ⟨rfl, rfl⟩ := hf
    exact ⟨fun _ => ⟨wr, e, fr, S, lg⟩, rfl, rfl, rfl, fun j o ho => by simp at ho⟩
  | o :: rest, i, wr, f, l, h, hl, hm, lg, e, fr, S, fr', S', hf => by
    obtain ⟨k, d, p, r, ps, q, hk, hd, hr, hp, hq, hrun⟩ := kopsD_cons (C := C) h
    obtain ⟨v, y, h1, h2, h3, h4, h5⟩ := hrun lg e fr S fr' S' hf
    obtain ⟨k', d', p', l', hk', hd', hl', rfl⟩ := looks_cons hl
    rw [hk] at hk'; cases hk'
    rw [hd] at hd'; cases hd'
    obtain ⟨T, t0, t1, t2, t3⟩ := trace rest (i + 1) (d :: wr) r l' hr hl' (fun j hj => by
      have := hm (j + 1) (by simpa using hj)
      rw [show i + 1 + j = i + (j + 1) from by omega, this]; simp) y.lg y.e y.fr y.S fr' S' h5
    have hy : T 0 = y := by rw [t0, ← h2]
    refine ⟨fun j => match j with | 0 => ⟨wr, e, fr, S, lg⟩ | j + 1 => T j, rfl, t1, t2, fun j o' ho' => ?_⟩
    cases j with
    | zero =>
      simp at ho'; subst ho'
      refine ⟨k, d, p, q, ps, v, hk, hd, hq, hp, ?_, ?_, ?_, ?_, ?_⟩
      · show (T 0).wr = _; rw [hy, h2]
      · show (T 0).e = _; rw [hy, h3]
      · show (T 0).fr = _; rw [hy, h4]
      · show PassD C q _ v _ (T 0) ps; rw [hy]; exact h1
      · have := hm 0 (by simp); simpa using this
    | succ j =>
      obtain ⟨k2, d2, p2, q2, ps2, v2, hs⟩ := t3 j o' (by simpa using ho')
      refine ⟨k2, d2, p2, q2, ps2, v2, ?_⟩
      rw [show i + (j + 1) = i + 1 + j from by omega]
      exact hs

/-! ### What an operation looks at -/
theorem put_total (S : SW) (id : Nat) (o : Option SObj) : ∃ S', Sym.put S id o = some S' := by
  unfold Sym.put
  have := Tr.set_isNode none o (path id) S.heap
  cases h : Tr.set none o (path id) S.heap with
  | nil => rw [h] at this; exact absurd this (by simp [Tr.isNode])
  | node l x r =>
    simp only
    split
    · exact ⟨_, rfl⟩
    · rw [force_eq]; exact ⟨_, rfl⟩

/-- An operation that looks at one object at most. -/
structure Small (C : Sym.Callee) (q : Sym.Callee → List SV → List SV → SW → Option (SV × SW)) (e fr : List SV) (S S' : SW) (v : SV) (ob : Option Nat) : Prop where
  there : ∀ id, ob = some id → S.at id ≠ none
  next : S'.next = S.next
  rest : ∀ id, ob ≠ some id → S'.at id = S.at id
  part : ∀ S2 : SW, (∀ id, ob = some id → S2.at id = S.at id) → ∃ S2', q C e fr S2 = some (v, S2') ∧ S2'.next = S2.next ∧ (∀ id, ob = some id → S2'.at id = S'.at id) ∧ ∀ id, ob ≠ some id → S2'.at id = S2.at id

theorem Small.same {q : Sym.Callee → List SV → List SV → SW → Option (SV × SW)} {e fr : List SV} {S : SW} {v : SV} (h : ∀ S2, q C e fr S2 = some (v, S2)) : Small C q e fr S S v none :=
  ⟨fun _ h => (by cases h), rfl, fun _ _ => rfl, fun S2 _ => ⟨S2, h S2, rfl, fun _ h => (by cases h), fun _ _ => rfl⟩⟩

theorem guarded_cases {g : Guard} {q0 q : Sym.Callee → List SV → List SV → SW → Option (SV × SW)} (hq : guarded g ⟨q0⟩ = ⟨q⟩) {e fr : List SV} {S S' : SW} {v : SV} (h : q C e fr S = some (v, S')) :
    (q0 C e fr S = some (v, S') ∧ ∀ C S2, q C e fr S2 = q0 C e fr S2) ∨ (S' = S ∧ ∀ S2, q C e fr S2 = some (v, S2)) := by
  cases g with
  | always => simp only [guarded, K1.mk.injEq] at hq; subst hq; exact .inl ⟨h, fun _ _ => rfl⟩
  | never =>
    simp only [guarded, K1.mk.injEq] at hq; subst hq
    simp only [Option.some.injEq, Prod.mk.injEq] at h
    obtain ⟨rfl, rfl⟩ := h
    exact .inr ⟨rfl, fun _ => rfl⟩
  | slot p want =>
    simp only [guarded, K1.mk.injEq] at hq; subst hq
    dsimp only at h ⊢
    split at h
    · rename_i b hb
      try rw [hb]
      cases b <;> cases want <;> dsimp only at h ⊢
      · exact .inl ⟨h, fun _ _ => rfl⟩
      · simp only [Option.some.injEq, Prod.mk.injEq] at h
        obtain ⟨rfl, rfl⟩ := h
        exact .inr ⟨rfl, fun _ => rfl⟩
      · simp only [Option.some.injEq, Prod.mk.injEq] at h
        obtain ⟨rfl, rfl⟩ := h
        exact .inr ⟨rfl, fun _ => rfl⟩
      · exact .inl ⟨h, fun _ _ => rfl⟩
    · rename_i l hb
      try rw [hb]
      simp only [Option.some.injEq, Prod.mk.injEq] at h
      obtain ⟨rfl, rfl⟩ := h
      exact .inr ⟨rfl, fun _ => rfl⟩
    · cases h

theorem loadW_small {wd : Option Nat} {a v : SV} {S : SW} (h : loadW E S wd a = some v) :
    ∃ ob : Option Nat, (∀ id, ob = some id → S.at id ≠ none ∧ ∃ off, a = .ptr id off) ∧ ∀ S2 : SW, (∀ id, ob = some id → S2.at id = S.at id) → loadW E S2 wd a = some v := by
  unfold loadW at h ⊢
  split at h
  · rename_i id off
    refine ⟨some id, fun j hj => ?_, fun S2 h2 => ?_⟩
    · cases hj
      split at h
      · rename_i cs el hg
        rw [hget_eq] at hg
        exact ⟨by simp [hg], off, rfl⟩
      · cases h
    · have := h2 id rfl
      rw [← hget_eq, ← hget_eq] at this
      rw [this]; exact h
  · rename_i g off
    exact ⟨none, fun _ h => (by cases h), fun S2 _ => h⟩
  · exact ⟨none, fun _ h => (by cases h), fun S2 _ => h⟩
  · cases h

theorem storeW_small {n : Nat} {a x : SV} {S S' : SW} (h : storeW S n a x = some S') :
    ∃ id off, a = .ptr id off ∧ S.at id ≠ none ∧ S'.next = S.next ∧ (∀ j, j ≠ id → S'.at j = S.at j) ∧
      ∀ S2 : SW, S2.at id = S.at id → ∃ S2', storeW S2 n a x = some S2' ∧ S2'.next = S2.next ∧ S2'.at id = S'.at id ∧ ∀ j, j ≠ id → S2'.at j = S2.at j := by
  unfold storeW at h
  split at h
  · rename_i id off
    split at h
    · rename_i hb
      unfold storeAt at h
      split at h
      · rename_i cs el hg
        split at h
        · rename_i hs
          split at h
          · rename_i cs' hsp
            obtain ⟨q1, q2, q3, q4⟩ := put_some h
            rw [hget_eq] at hg
            refine ⟨id, off, rfl, by simp [hg], q1, fun j hj => by rw [q4, if_neg hj], fun S2 h2 => ?_⟩
            obtain ⟨S2', hp⟩ := put_total S2 id (some (.cells cs' el))
            obtain ⟨r1, r2, r3, r4⟩ := put_some hp
            refine ⟨S2', ?_, r1, by rw [r4, q4, if_pos rfl, if_pos rfl], fun j hj => by rw [r4, if_neg hj]⟩
            have hg2 : hget S2 id = some (.cells cs el) := by rw [hget_eq, h2, hg]
            simp only [storeW, hb, storeAt, hg2, hs, hsp, hp]
          · cases h
        · cases h
      · cases h
    · cases h
  · cases h

/-- Loads, stores, and what does not look at memory. -/
theorem look_small {cx : Cx} {o : Oper} {k : KOp} (hk : kop E cx o = some k) (hl : lookOf k o ≠ .other) {g : Guard} {q : Sym.Callee → List SV → List SV → SW → Option (SV × SW)} (hq : guarded g (k1of k) = ⟨q⟩) {e fr : List SV} {S S' : SW} {v : SV}
    (h : q C e fr S = some (v, S')) : ∃ ob, Small C q e fr S S' v ob ∧ (lookOf k o = .no → ob = none) ∧ (lookOf k o = .load → ∀ id, S'.at id = S.at id) ∧ (∀ a, addrK cx o = some ⟨a⟩ → ∀ id, ob = some id → ∃ off, a e fr = .ptr id off) := by
  generalize hk1 : k1of k = kk at hq
  obtain ⟨q0⟩ := kk
  rcases guarded_cases hq h with ⟨h1, h2⟩ | ⟨rfl, h2⟩
  · have small : ∀ ob, Small C q0 e fr S S' v ob → Small C q e fr S S' v ob := fun ob hs =>
      ⟨hs.there, hs.next, hs.rest, fun S2 hS2 => by rw [h2]; exact hs.part S2 hS2⟩
    cases k with
    | mv f =>
      simp only [k1of, K1.mk.injEq] at hk1; subst hk1
      simp only [Option.some.injEq, Prod.mk.injEq] at h1
      obtain ⟨rfl, rfl⟩ := h1
      exact ⟨none, small _ (.same fun _ => rfl), fun _ => rfl, fun _ _ => rfl, fun _ _ _ h => (by cases h)⟩
    | pure f =>
      simp only [k1of, K1.mk.injEq] at hk1; subst hk1
      dsimp only at h1
      split at h1
      · rename_i y hy
        simp only [Option.some.injEq, Prod.mk.injEq] at h1
        obtain ⟨rfl, rfl⟩ := h1
        exact ⟨none, small _ (.same fun _ => by rw [hy]), fun _ => rfl, fun _ _ => rfl, fun _ _ _ h => (by cases h)⟩
      · cases h1
    | rd f =>
      simp only [lookOf] at hl
      split at hl
      · rename_i t a ho
        simp only [kop, ho] at hk
        split at hk
        · rename_i fa wd ha hw
          simp only [Option.some.injEq, KOp.rd.injEq] at hk; subst hk
          simp only [k1of, K1.mk.injEq] at hk1; subst hk1
          dsimp only at h1
          split at h1
          · rename_i y hy
            simp only [Option.some.injEq, Prod.mk.injEq] at h1
            obtain ⟨rfl, rfl⟩ := h1
            obtain ⟨ob, p1, p2⟩ := loadW_small hy
            refine ⟨ob, small _ ⟨fun id hi => (p1 id hi).1, rfl, fun _ _ => rfl, fun S2 hS2 => ⟨S2, by rw [p2 S2 hS2], rfl, fun id hi => hS2 id hi, fun _ _ => rfl⟩⟩, fun hh => by simp [lookOf, ho] at hh, fun _ _ => rfl, fun a' ha' id hi => ?_⟩
            simp only [addrK, ho] at ha'
            rw [ha] at ha'
            simp only [Option.some.injEq, Opd.mk.injEq] at ha'; subst ha'
            exact (p1 id hi).2
          · cases h1
        · cases hk
      · rename_i t a b ho
        simp only [kop, ho] at hk
        split at hk <;> cases hk
      · exact absurd rfl hl
    | full f =>
      simp only [lookOf] at hl
      split at hl
      · rename_i t a ho
        simp only [kop, ho] at hk
        split at hk <;> cases hk
      · rename_i t a b ho
        simp only [kop, ho] at hk
        split at hk
        · rename_i fa fb sz ha hb hw
          simp only [Option.some.injEq, KOp.full.injEq] at hk; subst hk
          simp only [k1of, K1.mk.injEq] at hk1; subst hk1
          dsimp only at h1
          unfold done at h1
          split at h1
          · rename_i S1 hS1
            simp only [Option.some.injEq, Prod.mk.injEq] at h1
            obtain ⟨rfl, rfl⟩ := h1
            obtain ⟨id, off, p1, p2, p3, p4, p5⟩ := storeW_small hS1
            refine ⟨some id, small _ ⟨fun j hj => by cases hj; exact p2, p3, fun j hj => p4 j (fun e => hj (by rw [e])), fun S2 hS2 => ?_⟩, fun hh => by simp [lookOf, ho] at hh, fun hh => by simp [lookOf, ho] at hh, fun a' ha' j hj => ?_⟩
            · obtain ⟨S2', r1, r2, r3, r4⟩ := p5 S2 (hS2 id rfl)
              exact ⟨S2', by simp only [r1, done], r2, fun j hj => by cases hj; exact r3, fun j hj => r4 j (fun e => hj (by rw [e]))⟩
            · simp only [addrK, ho] at ha'
              rw [ha] at ha'
              simp only [Option.some.injEq, Opd.mk.injEq] at ha'; subst ha'
              cases hj
              exact ⟨off, p1⟩
          · cases h1
        · cases hk
      · exact absurd rfl hl
    | call f =>
      simp only [lookOf] at hl
      split at hl
      · rename_i t a ho
        simp only [kop, ho] at hk
        split at hk <;> cases hk
      · rename_i t a b ho
        simp only [kop, ho] at hk
        split at hk <;> cases hk
      · exact absurd rfl hl
  · exact ⟨none, .same h2, fun _ => rfl, fun _ _ => rfl, fun _ _ _ h => (by cases h)⟩
end
end Go.RX
