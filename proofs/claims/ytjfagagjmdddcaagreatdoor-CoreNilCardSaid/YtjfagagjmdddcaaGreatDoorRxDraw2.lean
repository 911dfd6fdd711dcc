/- Regions that draw their order: the run in the order of the text, step by step; what each operation looks at. -/
import Derived.Test.YtjfagagjmdddcaaGreatDoorRxDraw1
import Derived.Test.YtjfagagjmdddcaaGreatDoorRxPart
set_option linter.all false
namespace Go.RX
open Sym

/-- Where the run in the order of the text stands before an operation. -/
structure D1 where
  wr : List Nat
  e : List SV
  fr : List SV
  S : SW
  lg : List Ent

def PassD (C : Sym.Callee) (q : Sym.Callee → List SV → List SV → SW → Option (SV × SW)) (i : Nat) (v : SV) (x y : D1) : Pass → Prop
  | .free => q C x.e x.fr x.S = some (v, y.S) ∧ y.lg = x.lg
  | .wary a rs => ∃ w', q C x.e x.fr ⟨x.S.heap, x.S.next, x.S.next⟩ = some (v, w') ∧ clear rs (sightV a x.e x.fr x.S w') x.S w' x.lg = true ∧
      y.S = ⟨w'.heap, w'.next, lower x.S.low w'.low⟩ ∧ y.lg = ⟨i, sightV a x.e x.fr x.S w', x.S, w'⟩ :: x.lg

structure StepD (E : Env) (n : Nat) (sl : List Nat) (all : List Oper) (bs : List Nat) (ms : List Look) (C : Sym.Callee) (i : Nat) (o : Oper) (x y : D1)
    (k : KOp) (d : Nat) (p : Dst) (q : Sym.Callee → List SV → List SV → SW → Option (SV × SW)) (ps : Pass) (v : SV) : Prop where
  kop : kop E ⟨x.wr, sl⟩ o = some k
  dst : dstK sl n o.dst = some (d, p)
  guard : guarded (guardK ⟨x.wr, sl⟩ all o) (k1of k) = ⟨q⟩
  pass : passK ⟨x.wr, sl⟩ bs ms i k o = some ps
  wr : y.wr = d :: x.wr
  e : y.e = p.push v x.e
  fr : y.fr = p.keep x.fr v
  run : PassD C q i v x y ps
  look : ms[i]? = some (lookOf k o)

section
variable {E : Env} {n : Nat} {sl : List Nat} {all : List Oper} {bs : List Nat} {ms : List Look} {C : Sym.Callee}

theorem looks_cons {wr : List Nat} {o : Oper} {rest : List Oper} {l : List Look} (h : looks E n sl wr (o :: rest) = some l) :
    ∃ k d p l', kop E ⟨wr, sl⟩ o = some k ∧ dstK sl n o.dst = some (d, p) ∧ looks E n sl (d :: wr) rest = some l' ∧ l = lookOf k o :: l' := by
  simp only [looks] at h
  split at h
  · rename_i k d p hk hd
    split at h
    · rename_i l' hl
      simp only [Option.some.injEq] at h
      exact ⟨k, d, p, l', hk, hd, hl, h.symm⟩
    · cases h
  · cases h

theorem kopsD_cons {wr : List Nat} {o : Oper} {rest : List Oper} {i : Nat} {f : Sym.Callee → List Ent → List SV → List SV → SW → Option (List SV × SW)} (h : kopsD E n sl all bs ms wr (o :: rest) i = some ⟨f⟩) :
    ∃ k d p r ps q, kop E ⟨wr, sl⟩ o = some k ∧ dstK sl n o.dst = some (d, p) ∧ kopsD E n sl all bs ms (d :: wr) rest (i + 1) = some ⟨r⟩ ∧ passK ⟨wr, sl⟩ bs ms i k o = some ps ∧
      guarded (guardK ⟨wr, sl⟩ all o) (k1of k) = ⟨q⟩ ∧ ∀ lg e fr S fr' S', f C lg e fr S = some (fr', S') →
        ∃ v y, PassD C q i v ⟨wr, e, fr, S, lg⟩ y ps ∧ y.wr = d :: wr ∧ y.e = p.push v e ∧ y.fr = p.keep fr v ∧ r C y.lg y.e y.fr y.S = some (fr', S') := by
  simp only [kopsD] at h
  split at h
  · rename_i k d p hk hd
    split at h
    · rename_i rr ps hr hp
      obtain ⟨r⟩ := rr
      generalize hq : guarded (guardK ⟨wr, sl⟩ all o) (k1of k) = qq
      obtain ⟨q⟩ := qq
      refine ⟨k, d, p, r, ps, q, hk, hd, hr, hp, hq, fun lg e fr S fr' S' hf => ?_⟩
      unfold chainD at h
      rw [hq] at h
      cases ps with
      | free =>
        simp only [Option.some.injEq, KD.mk.injEq] at h
        subst h
        dsimp only at hf
        split at hf
        · rename_i v S1 hv
          exact ⟨v, ⟨d :: wr, p.push v e, p.keep fr v, S1, lg⟩, ⟨hv, rfl⟩, rfl, rfl, rfl, hf⟩
        · cases hf
      | wary a rs =>
        simp only [Option.some.injEq, KD.mk.injEq] at h
        subst h
        dsimp only at hf
        split at hf
        · rename_i v S1 hv
          split at hf
          · rename_i hc
            exact ⟨v, ⟨d :: wr, p.push v e, p.keep fr v, ⟨S1.heap, S1.next, lower S.low S1.low⟩, ⟨i, sightV a e fr S S1, S, S1⟩ :: lg⟩, ⟨S1, hv, hc, rfl, rfl⟩, rfl, rfl, rfl, hf⟩
          · cases hf
        · cases hf
    · cases h
  · cases h

/-- The run in the order of the text. -/
theorem trace : ∀ (rest : List Oper) (i : Nat) (wr : List Nat) (f : Sym.Callee → List Ent → List SV → List SV → SW → Option (List SV × SW)) (l : List Look), kopsD E n sl all bs ms wr rest i = some ⟨f⟩ → looks E n sl wr rest = some l →
    (∀ j, j < rest.length → ms[i + j]? = l[j]?) → ∀ lg e fr S fr' S', f C lg e fr S = some (fr', S') →
    ∃ T : Nat → D1, T 0 = ⟨wr, e, fr, S, lg⟩ ∧ (T rest.length).fr = fr' ∧ (T rest.length).S = S' ∧ ∀ j o, rest[j]? = some o → ∃ k d p q ps v, StepD E n sl all bs ms C (i + j) o (T j) (T (j + 1)) k d p q ps v
  | [], i, wr, f, l, h, hl, hm, lg, e, fr, S, fr', S', hf => by
    simp only [kopsD, Option.some.injEq, KD.mk.injEq] at h
    subst h
    simp only [Option.some.injEq, Prod.mk.injEq] at hf
    obtain ⟨rfl, rfl⟩ := hf
    exact ⟨fun _ => ⟨wr, e, fr, S, lg⟩, rfl, rfl, rfl, fun j o ho => by simp at ho⟩
  | o :: rest, i, wr, f, l, h, hl, hm, lg, e, fr, S, fr', S', hf => by
    obtain ⟨k, d, p, r, ps, q, hk, hd, hr, hp, hq, hrun⟩ := kopsD_cons (C := C) h
    obtain ⟨v, y, h1, h2, h3, h4, h5⟩ := hrun lg e fr S fr' S' hf
    obtain ⟨k', d', p', l', hk', hd', hl', rfl⟩ := looks_cons hl
    rw [hk] at hk'; cases hk'
    rw [hd] at hd'; cases hd'
    obtain ⟨T, t0, t1, t2, t3⟩ := trace rest (i + 1) (d :: wr) r l' hr hl' (fun j hj => by
      have := hm (j + 1) (by simpa using hj)
      rw [show i + 1 + j = i + (j + 1) from by omega, this]; simp) y.lg y.e y.fr y.S fr' S' h5
    have hy : T 0 = y := by rw [t0, ← h2]
    refine ⟨fun j => match j with | 0 => ⟨wr, e, fr, S, lg⟩ | j + 1 => T j, rfl, t1, t2, fun j o' ho' => ?_⟩
    cases j with
    | zero =>
      simp at ho'; subst ho'
      refine ⟨k, d, p, q, ps, v, hk, hd, hq, hp, ?_, ?_, ?_, ?_, ?_⟩
      · show (T 0).wr = _; rw [hy, h2]
      · show (T 0).e = _; rw [hy, h3]
      · show (T 0).fr = _; rw [hy, h4]
      · show PassD C q _ v _ (T 0) ps; rw [hy]; exact h1
      · have := hm 0 (by simp); simpa using this
    | succ j =>
      obtain ⟨k2, d2, p2, q2, ps2, v2, hs⟩ := t3 j o' (by simpa using ho')
      refine ⟨k2, d2, p2, q2, ps2, v2, ?_⟩
      rw [show i + (j + 1) = i + 1 + j from by omega]
      exact hs

/-! ### What an operation looks at -/
theorem guarded_cases {g : Guard} {q0 q : Sym.Callee → List SV → List SV → SW → Option (SV × SW)} (hq : guarded g ⟨q0⟩ = ⟨q⟩) {e fr : List SV} {S S' : SW} {v : SV} (h : q C e fr S = some (v, S')) :
    (q0 C e fr S = some (v, S') ∧ ∀ C S2, q C e fr S2 = q0 C e fr S2) ∨ (S' = S ∧ ∀ S2, q C e fr S2 = some (v, S2)) := by
  cases g with
  | always => simp only [guarded, K1.mk.injEq] at hq; subst hq; exact .inl ⟨h, fun _ _ => rfl⟩
  | never =>
    simp only [guarded, K1.mk.injEq] at hq; subst hq
    simp only [Option.some.injEq, Prod.mk.injEq] at h
    obtain ⟨rfl, rfl⟩ := h
    exact .inr ⟨rfl, fun _ => rfl⟩
  | slot p want =>
    simp only [guarded, K1.mk.injEq] at hq; subst hq
    dsimp only at h ⊢
    split at h
    · rename_i b hb
      try rw [hb]
      cases b <;> cases want <;> dsimp only at h ⊢
      · exact .inl ⟨h, fun _ _ => rfl⟩
      · simp only [Option.some.injEq, Prod.mk.injEq] at h
        obtain ⟨rfl, rfl⟩ := h
        exact .inr ⟨rfl, fun _ => rfl⟩
      · simp only [Option.some.injEq, Prod.mk.injEq] at h
        obtain ⟨rfl, rfl⟩ := h
        exact .inr ⟨rfl, fun _ => rfl⟩
      · exact .inl ⟨h, fun _ _ => rfl⟩
    · rename_i l hb
      try rw [hb]
      simp only [Option.some.injEq, Prod.mk.injEq] at h
      obtain ⟨rfl, rfl⟩ := h
      exact .inr ⟨rfl, fun _ => rfl⟩
    · cases h

/-- What an operation looks at: nothing; what its operands name. -/
theorem step_part {cx : Cx} {o : Oper} {k : KOp} (hk : kop E cx o = some k) (hl : lookOf k o ≠ .big) {g : Guard} {q : Sym.Callee → List SV → List SV → SW → Option (SV × SW)} (hq : guarded g (k1of k) = ⟨q⟩) {e fr : List SV} {S S' : SW} {v : SV}
    (h : q C e fr S = some (v, S')) : ∃ ob, PartAt (q C e fr) ob S S' v ∧ (lookOf k o = .no → ob = [] ∧ S'.next = S.next ∧ ∀ id, S'.at id = S.at id) ∧ (lookOf k o = .rd → ∀ id, id < S.next → S'.at id = S.at id) ∧
      (lookOf k o = .rd ∨ lookOf k o = .wr → ∀ f, opds cx (seenOpds o.op) = some ⟨f⟩ → ob = namedL (f e fr)) := by
  generalize hk1 : k1of k = kk at hq
  obtain ⟨q0⟩ := kk
  have idle : S' = S → (∀ S2, q C e fr S2 = some (v, S2)) → ∃ ob, PartAt (q C e fr) ob S S' v ∧ (lookOf k o = .no → ob = [] ∧ S'.next = S.next ∧ ∀ id, S'.at id = S.at id) ∧ (lookOf k o = .rd → ∀ id, id < S.next → S'.at id = S.at id) ∧
      (lookOf k o = .rd ∨ lookOf k o = .wr → ∀ f, opds cx (seenOpds o.op) = some ⟨f⟩ → ob = namedL (f e fr)) := fun he hall => by
    subst he
    by_cases hno : lookOf k o = .rd ∨ lookOf k o = .wr
    · cases ho : opds cx (seenOpds o.op) with
      | none => exact ⟨[], .same fun S2 _ => hall S2, fun _ => ⟨rfl, rfl, fun _ => rfl⟩, fun _ _ _ => rfl, fun _ f hf => by cases hf⟩
      | some g =>
        obtain ⟨f0⟩ := g
        refine ⟨namedL (f0 e fr), .same fun S2 _ => hall S2, fun hn => ?_, fun _ _ _ => rfl, fun _ f hf => by cases hf; rfl⟩
        rcases hno with hno | hno <;> rw [hno] at hn <;> cases hn
    · exact ⟨[], .same fun S2 _ => hall S2, fun _ => ⟨rfl, rfl, fun _ => rfl⟩, fun _ _ _ => rfl, fun hh => absurd hh hno⟩
  rcases guarded_cases hq h with ⟨h1, h2⟩ | ⟨he, h2⟩
  · by_cases hno : lookOf k o = .rd ∨ lookOf k o = .wr
    · obtain ⟨f, p1, p2, p3⟩ := kop_part hk hk1 hno h1
      refine ⟨namedL (f e fr), ⟨p2.rest, fun S2 hn ha => ?_⟩, fun hn => ?_, p3, fun _ f' hf' => ?_⟩
      · rw [h2]; exact p2.part S2 hn ha
      · rcases hno with hno | hno <;> rw [hno] at hn <;> cases hn
      · rw [p1] at hf'
        simp only [Option.some.injEq, Opds.mk.injEq] at hf'
        rw [hf']
    · have hn : lookOf k o = .no := by
        cases hc : lookOf k o with
        | no => rfl
        | rd => exact absurd (.inl hc) hno
        | wr => exact absurd (.inr hc) hno
        | big => exact absurd hc hl
      have nobig : ∀ op, lookO op ≠ .no := fun op => by
        unfold lookO
        repeat' split
        all_goals first | (intro hh; cases hh; done) | skip
        unfold lookB
        split <;> (intro hh; cases hh)
      cases k with
      | mv f =>
        simp only [k1of, K1.mk.injEq] at hk1; subst hk1
        simp only [Option.some.injEq, Prod.mk.injEq] at h1
        obtain ⟨rfl, rfl⟩ := h1
        exact idle rfl fun S2 => by rw [h2]
      | pure f =>
        simp only [k1of, K1.mk.injEq] at hk1; subst hk1
        dsimp only at h1
        split at h1
        · rename_i y hy
          simp only [Option.some.injEq, Prod.mk.injEq] at h1
          obtain ⟨rfl, rfl⟩ := h1
          exact idle rfl fun S2 => by rw [h2]; simp only [hy]
        · cases h1
      | rd f => exact absurd hn (nobig _)
      | full f => exact absurd hn (nobig _)
      | call f => exact absurd hn (nobig _)
  · exact idle he h2
end
end Go.RX
