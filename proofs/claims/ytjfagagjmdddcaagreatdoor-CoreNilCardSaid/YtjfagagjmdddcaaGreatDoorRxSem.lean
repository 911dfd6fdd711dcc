/- The whole evaluator is sound. -/
import Derived.Test.YtjfagagjmdddcaaGreatDoorRxFn
set_option linter.all false
namespace Go.RX
open Sym

section
variable {E : Env} {C : Sym.Callee}

theorem frameOf_get (args : List SV) : ∀ (sl : List Nat) (t i : Nat), sl[i]? = some t → nthV .unknown (frameOf args sl) i = nthV .unknown args t
  | [], t, i, h => by simp at h
  | s :: sl, t, 0, h => by simp at h; subst h; rfl
  | s :: sl, t, i + 1, h => by
    simp at h
    have := frameOf_get args sl t i h
    simp only [nthV_eq, frameOf, List.getElem?_cons_succ] at this ⊢
    exact this

theorem frame_rel {ρ : Ren} {args : List SV} {vals : List Value} (h : VRels ρ args vals) (sl : List Nat) (k : Nat) : FRel ρ sl (frameOf args sl) (vals.toArray ++ Array.replicate k undef) := fun t i ht => by
  rw [frameOf_get args sl t i (posOf_some ht), nthV_eq]
  cases hx : args[t]? with
  | none => exact .unknown _
  | some x =>
    obtain ⟨v, h1, h2⟩ := h.get hx
    have hlt := (List.getElem?_eq_some_iff.1 h1).1
    have : (vals.toArray ++ Array.replicate k undef).getD t undef = v := by
      rw [Array.getD_eq_getD_getElem?, Array.getElem?_append_left (by simpa using hlt)]
      simp [h1]
    rw [this]
    exact h2

theorem compFn_some {f : Nat} {g : Sym.Callee → List SV → SW → Option (SV × SW)} (h : compFn E f = some ⟨g⟩) :
    ∃ fn body k q, E.P.funcs[f]? = some fn ∧ (fn.name == "runtime.NumGoroutine") = false ∧ fn.body = some body ∧ comp E fn.ntmps (slots fn body) body = some ⟨k⟩ ∧ resK E (slots fn body) fn.results.toList = some ⟨q⟩ ∧
      g = fun C args w => match Nat.ble args.length fn.ntmps with
          | false => none
          | true => match k C none ⟨frameOf args (slots fn body), [], w⟩ with
            | some (.norm st) => leave q st
            | some (.ret st) => leave q st
            | _ => none := by
  unfold compFn at h
  split at h
  · cases h
  · rename_i fn hfn
    rw [nth_eq, Array.getElem?_toList] at hfn
    split at h
    · rename_i body hname hbody
      dsimp only at h
      split at h
      · rename_i k q hk hq
        simp only [Option.some.injEq, KFn.mk.injEq] at h
        exact ⟨fn, body, k, q, hfn, hname, hbody, hk, hq, h.symm⟩
      · cases h
    · cases h

theorem compFn_name {f : Nat} {g : Sym.Callee → List SV → SW → Option (SV × SW)} (h : compFn E f = some ⟨g⟩) (vals : Array Value) (w : World) : (callFunc f vals).run E.P w = .ok (.enter f vals) w := by
  obtain ⟨fn, body, k, q, hfn, hname, hbody, -⟩ := compFn_some h
  simp [callFunc, hfn, hbody]
  simpa using hname

theorem shut_mono : ∀ {ds : List Nat} {S S1 : SW}, shut S ds = some S1 → Grow S S1
  | [], S, S1, h => by simp only [shut, Option.some.injEq] at h; subst h; exact .refl _
  | d :: ds, S, S1, h => by
    simp only [shut] at h
    split at h
    · split at h
      · rename_i S2 hp; exact (put_mono ‹_› hp).trans (shut_mono h)
      · cases h
    · cases h

theorem leave_mono {g : List SV → SW → Option (List SV)} {st : St} {v : SV} {S' : SW} (h : leave g st = some (v, S')) : Grow st.w S' := by
  unfold leave at h
  split at h
  · cases h
  · rename_i S1 hsh
    split at h
    · rw [some_next h]; exact shut_mono hsh
    · rw [some_next h]; exact shut_mono hsh
    · cases h

theorem compFn_sound (hC : CalleeSound E C) (hM : CalleeMono C) {f : Nat} {g : Sym.Callee → List SV → SW → Option (SV × SW)} (h : compFn E f = some ⟨g⟩) {args : List SV} {S S' : SW} {x : SV} (hr : g C args S = some (x, S')) :
    Grow S S' ∧ ∀ ρ vals w, Ok E ρ S w → Fresh ρ S.next S'.next → VRels ρ args vals → Calls E.P f vals.toArray w (Res E ρ S w S' x) := by
  obtain ⟨fn, body, k, q, hfn, hname, hbody, hk, hq, rfl⟩ := compFn_some h
  dsimp only at hr
  split at hr
  · cases hr
  · rename_i hb
    have hb := Nat.le_of_ble_eq_true hb
    have fin : ∀ out st1, k C none ⟨frameOf args (slots fn body), [], S⟩ = some out → out.st = st1 → (out.how = .normal ∨ out.how = .ret) → leave q st1 = some (x, S') →
        Grow S S' ∧ ∀ ρ vals w, Ok E ρ S w → Fresh ρ S.next S'.next → VRels ρ args vals → Calls E.P f vals.toArray w (Res E ρ S w S' x) := by
      intro out st1 ho hst1 hhow hl
      subst hst1
      have m1 := comp_mono hM body k hk none _ out ho
      have m2 := leave_mono hl
      refine ⟨m1.trans m2, fun ρ vals w hok hfr hv => ?_⟩
      have hlen := hv.length
      refine callsIn_wide.1 (callsIn_of_wp_marks (n := 0) hfn hbody trivial ?_)
      have hst : StOk E fn.ntmps (slots fn body) none none ρ ⟨frameOf args (slots fn body), [], S⟩ { tmps := vals.toArray ++ Array.replicate (fn.ntmps - vals.toArray.size) undef, defers := [] } w :=
        ⟨by simp; omega, frame_rel hv _ _, hok, .nil, .none⟩
      refine comp_sound hC hM body k hk none none 0 ρ _ _ w out hst ho (hfr.left m2.next) _ fun ρ1 a1 w1 hext hst1 => ?_
      have := leave_sound (m := 0) (R := Res E ρ S w S' x) hq hst1 hl fun u w2 hext2 hu => ⟨u, ρ1, rfl, hext.trans hext2, hu⟩
      rcases hhow with e1 | e1 <;> rw [e1] <;> exact this
    split at hr
    · rename_i st ho; exact fin _ _ ho rfl (.inl rfl) hr
    · rename_i st ho; exact fin _ _ ho rfl (.inr rfl) hr
    · cases hr

/-! ### What is forgotten -/
mutual
theorem noRef_rel {ρ ρ' : Ren} (hs : ρ.sig = ρ'.sig) : ∀ {x : SV} {v : Value}, noRef x = true → VRel ρ x v → VRel ρ' x v
  | .bool _, _, _, .bool b => .bool b
  | .int _ _, _, _, .int k n => .int k n
  | .sint _ _, _, _, .sint k e => by rw [hs]; exact .sint k e
  | .sstr _, _, _, .sstr h => .sstr (by rw [← hs]; exact h)
  | .row _, _, _, .row h hc => .row (by rw [← hs]; exact h) hc
  | .rptr _ _ _, _, _, .rptr h h0 h1 => by rw [hs] at h h0 h1 ⊢; exact .rptr h h0 h1
  | .string _, _, _, .string s => .string s
  | .nilptr, _, _, .nilptr => .nilptr
  | .nilslice, _, _, .nilslice => .nilslice
  | .nilmap, _, _, .nilmap => .nilmap
  | .nilfunc, _, _, .nilfunc => .nilfunc
  | .nilIface, _, _, .nilIface => .nilIface
  | .agg _, _, h, .agg hl => .agg (noRefs_rel hs (by simpa [noRef] using h) hl)
  | .tuple _, _, h, .tuple hl => .tuple (noRefs_rel hs (by simpa [noRef] using h) hl)
theorem noRefs_rel {ρ ρ' : Ren} (hs : ρ.sig = ρ'.sig) : ∀ {xs : List SV} {vs : List Value}, noRef.noRefs xs = true → VRels ρ xs vs → VRels ρ' xs vs
  | [], _, _, .nil => .nil
  | x :: xs, _, h, .cons hx hl => by
    simp only [noRef.noRefs] at h
    split at h
    · rename_i hn; exact .cons (noRef_rel hs hn hx) (noRefs_rel hs h hl)
    · cases h
end

theorem ok_low {ρ : Ren} {S : SW} {w : World} (n : Nat) (h : Ok E ρ S w) : Ok E ρ ⟨S.heap, S.next, n⟩ w := ⟨h.wrel, h.tidy, h.glob⟩

theorem forget_sound {ρ ρ1 : Ren} {S S1 S' : SW} {w w1 : World} {x y : SV} {u : Value} (hok : Ok E ρ S w) (hext : Ext ρ ⟨S.heap, S.next, S.next⟩ w ρ1 S1 w1) (hx : VRel ρ1 x u) (h : forget S (some (x, S1)) = some (y, S')) :
    S'.next = S1.next ∧ y = x ∧ ∃ ρ', Ext ρ S w ρ' S' w1 ∧ VRel ρ' y u := by
  unfold forget at h
  have hat : ∀ n l i, (SW.mk S1.heap n l).at i = S1.at i := fun _ _ _ => rfl
  have hat0 : ∀ n l i, (SW.mk S.heap n l).at i = S.at i := fun _ _ _ => rfl
  have base : ∀ l, l ≤ S.low → (∀ i, i < S.next → i < l → S1.at i = S.at i) → Ext ρ S w ρ1 ⟨S1.heap, S1.next, l⟩ w1 := fun l hl hk =>
    ⟨hext.le, hext.fresh, hext.next, hext.tidy, hl, hk, hext.size, hext.os, hext.tape, hext.output, hext.frame, hext.own, hext.wrel⟩
  simp only at h
  split at h
  · rename_i hb
    have hb := Nat.le_of_ble_eq_true hb
    split at h
    · rename_i hn
      simp only [Option.some.injEq, Prod.mk.injEq] at h
      obtain ⟨rfl, rfl⟩ := h
      refine ⟨rfl, rfl, ρ, ⟨.refl ρ, fun _ _ e => .inl e, hext.next, fun i hi => hok.tidy i (Nat.le_trans hext.next hi), Nat.le_refl _, fun _ _ _ => rfl, hext.size, hext.os, hext.tape, hext.output, hext.frame, fun i p hi hp => .inl ⟨i, p, hi, hp, rfl⟩, ⟨fun i z p hz hp => ?_, hok.wrel.inj⟩⟩, noRef_rel hext.le.same.symm hn hx⟩
      have hz' : S.at i = some z := hz
      have hlt : i < S.next := by
        apply Nat.lt_of_not_le
        intro hge
        rw [hok.tidy i hge] at hz'; cases hz'
      obtain ⟨o1, q1, q2⟩ := hok.wrel.obj i z p hz' hp
      have hk := hext.keep i hlt (Nat.lt_of_lt_of_le hlt hb)
      obtain ⟨o2, q3, q4⟩ := hext.wrel.obj i z p (hk.trans hz') (hext.le i p hp)
      exact ⟨o2, q3, ORel.back hext.le q2 q4⟩
    · simp only [Option.some.injEq, Prod.mk.injEq] at h
      obtain ⟨rfl, rfl⟩ := h
      exact ⟨rfl, rfl, ρ1, base _ (Nat.le_refl _) fun i h1 h2 => hext.keep i h1 (Nat.lt_of_lt_of_le h1 hb), hx⟩
  · split at h
    · rename_i hb2
      have hb2 := Nat.le_of_ble_eq_true hb2
      simp only [Option.some.injEq, Prod.mk.injEq] at h
      obtain ⟨rfl, rfl⟩ := h
      exact ⟨rfl, rfl, ρ1, base _ (Nat.le_refl _) fun i h1 h2 => hext.keep i h1 (Nat.lt_of_lt_of_le h2 hb2), hx⟩
    · rename_i hb2
      have hb2 : ¬ S.low ≤ S1.low := fun hle => by rw [Nat.ble_eq_true_of_le hle] at hb2; cases hb2
      simp only [Option.some.injEq, Prod.mk.injEq] at h
      obtain ⟨rfl, rfl⟩ := h
      exact ⟨rfl, rfl, ρ1, base _ (by omega) fun i h1 h2 => hext.keep i h1 h2, hx⟩
end
end Go.RX
