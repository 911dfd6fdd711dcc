/- The same state seen with other numbers: small helps; what is known of both checks. -/
import Derived.Test.YtofcbcpbglnogaaGreatDoorSplA
set_option linter.all false
namespace Go.Proofs.YtofcbcpbglnogaaGreatDoor
open Go.RX
open Go.RX.Sym

theorem acons {α : Type} {P : α → Prop} {x : α} {l : List α} (h : P x) (hs : ∀ p ∈ l, P p) : ∀ p ∈ x :: l, P p := fun p hp => by
  rcases List.mem_cons.1 hp with rfl | hp
  · exact h
  · exact hs p hp
theorem anil {α : Type} {P : α → Prop} : ∀ p ∈ ([] : List α), P p := fun p hp => by cases hp

theorem fslot_or (t : Nat) : ∀ (l : List (Nat × SV)), frOf.fslot t l = .unknown ∨ ∃ p ∈ l, p.1 = t ∧ frOf.fslot t l = p.2
  | [] => .inl rfl
  | p :: l => by
    simp only [frOf.fslot]
    split
    · rename_i h
      exact .inr ⟨p, by simp, Nat.eq_of_beq_eq_true h, rfl⟩
    · rcases fslot_or t l with h | ⟨q, h1, h2, h3⟩
      · exact .inl h
      · exact .inr ⟨q, List.mem_cons_of_mem _ h1, h2, h3⟩
theorem frt_of {σ σ' : Sig} {R : Nat → Nat → Prop} {l l' : List (Nat × SV)} (h : ∀ p ∈ l, SVT σ σ' R p.2 (frOf.fslot p.1 l')) : ∀ (sl : List Nat), FRT σ σ' R (frOf sl l) (frOf sl l')
  | [], i => .inl rfl
  | t :: sl, 0 => by
    show frOf.fslot t l = .unknown ∨ SVT σ σ' R (frOf.fslot t l) (frOf.fslot t l')
    rcases fslot_or t l with e | ⟨p, h1, h2, h3⟩
    · exact .inl e
    · right
      have := h p h1
      rw [h2] at this
      rw [h3]
      exact this
  | t :: sl, i + 1 => frt_of h sl i
theorem lookN_mem {i j : Nat} : ∀ {π : List (Nat × Nat)}, lookN i π = some j → (i, j) ∈ π
  | [], h => by cases h
  | (a, b) :: l, h => by
    simp only [lookN] at h
    split at h
    · rename_i e
      simp only [Option.some.injEq] at h
      subst h; subst e
      simp
    · exact List.mem_cons_of_mem _ (lookN_mem h)
theorem nodup_inj : ∀ {π : List (Nat × Nat)}, (π.map Prod.snd).Nodup → ∀ i i' j, (i, j) ∈ π → (i', j) ∈ π → i = i'
  | [], _, i, i', j, h, _ => by cases h
  | p :: l, hn, i, i', j, h, h' => by
    simp only [List.map_cons, List.nodup_cons] at hn
    rcases List.mem_cons.1 h with e | h <;> rcases List.mem_cons.1 h' with e' | h'
    · rw [← e] at e'; cases e'; rfl
    · exact absurd (List.mem_map.2 ⟨(i', j), h', by rw [← e]⟩) hn.1
    · exact absurd (List.mem_map.2 ⟨(i, j), h, by rw [← e']⟩) hn.1
    · exact nodup_inj hn.2 i i' j h h'
theorem see {σ σ' : Sig} {n : Nat} {sl : List Nat} {l l1 : List (Nat × SV)} {objs objs1 : List (Nat × SObj)} {n0 n1 : Nat} {W0 w : World} {a : Act} (h : AtT σ n sl (frOf sl l1) objs1 n1 W0 a w) (π : List (Nat × Nat)) (hnd : (π.map Prod.snd).Nodup) (hlt : ∀ p ∈ π, p.1 < n0)
    (hl : ∀ p ∈ l, SVT σ σ' (fun i j => lookN i π = some j) p.2 (frOf.fslot p.1 l1)) (ho : ∀ p ∈ objs, p.1 < n0 ∧ ∃ j y, lookN p.1 π = some j ∧ (SW.mk (heapOf objs1) n1 0).at j = some y ∧ OVT σ σ' (fun i j => lookN i π = some j) p.2 y) : AtT σ' n sl (frOf sl l) objs n0 W0 a w :=
  h.see π (frt_of hl sl) (fun i x hx => ho (i, x) (heapOf_at hx)) (fun i i' j h1 h2 => nodup_inj hnd i i' j (lookN_mem h1) (lookN_mem h2)) fun i j h1 => hlt _ (lookN_mem h1)

/-! ### What is known of both checks -/
theorem name_a (vals : Array Value) (w : World) : (callFunc 12 vals).run Tryz.prog w = .ok (.enter 12 vals) w := by kernel_rfl
theorem name_b (vals : Array Value) (w : World) : (callFunc 13 vals).run Tryz.prog w = .ok (.enter 13 vals) w := by kernel_rfl
theorem lies_glob {v : Ls} {L : List (Nat → Value)} {o : Nat → Value} {i k t : Nat} {F : List Fact} {W : World} (h : RX.Lies (envP (sigP v L o i k t) F) W) : RX.Lies (env sig0) W where
  cells g cs hg := by
    obtain ⟨arr, el, fz, h1, h2⟩ := h.cells g cs hg
    refine ⟨arr, el, fz, h1, fun k x hx => ?_⟩
    obtain ⟨u, h3, h4⟩ := h2 k x hx
    exact ⟨u, h3, VRel.plain (plain_globals hg hx) h4⟩
  rows a ks ha := by cases ha
theorem opArgs_val {v : Ls} {L : List (Nat → Value)} {o : Nat → Value} {i k t : Nat} {ρ : Ren} (hσ : ρ.sig = sigP v L o i k t) (hk : v.kd i = 1) {vals : List Value} (h : VRels ρ [opArgs] vals) : vals.toArray = #[opVal6 (v.d i) (v.at_ i) (v.run i) (v.ok i) (v.job i)] := by
  cases h with
  | cons h hs =>
    cases hs
    cases h with
    | agg h =>
      cases h with
      | cons h0 h =>
        cases h with
        | cons h1 h =>
          cases h with
          | cons h2 h =>
            cases h with
            | cons h3 h =>
              cases h with
              | cons h4 h =>
                cases h with
                | cons h5 h =>
                  cases h
                  have h0 := h0.sint_inv
                  have h1 := h1.sint_inv
                  have h2 := h2.sint_inv
                  have h3 := h3.sint_inv
                  cases h4 with
                  | cellv h4 _ =>
                    cases h5 with
                    | cellv h5 _ =>
                      rw [hσ] at h0 h1 h2 h3 h4 h5
                      simp only [IE.val, sigP, Ls.cell, Int.toNat_natCast] at h0 h1 h2 h3 h4 h5
                      subst h0; subst h1; subst h2; subst h3; subst h4; subst h5
                      rw [hk]
                      rfl
theorem known_P {v : Ls} {L : List (Nat → Value)} {o : Nat → Value} {i k t : Nat} {F : List Fact} {tick : Bool} (ht : tick = true → v.kd i = 1) : Known (envP (sigP v L o i k t) F) (knowP tick) where
  name f args S r h := by
    obtain ⟨-, -, h1, -, -⟩ := knowP_some (y := r.1) (S' := r.2) h
    rcases h1 with rfl | rfl
    · exact name_a
    · exact name_b
  mono f args S y S' h := by
    obtain ⟨-, -, -, -, rfl⟩ := knowP_some h
    exact .refl _
  call f args S y S' h ρ vals w hok hfr hv := by
    obtain ⟨htick, rfl, h1, rfl, rfl⟩ := knowP_some h
    have fin : ∀ (e : Ending) (w' : World), (e = .returned (.int .i64 (if fineC (v.d i) (v.at_ i) (v.run i) (v.ok i) (v.job i) then 0 else 2)) ∧ On w w') → Res (envP (sigP v L o i k t) F) ρ S' w S' (.sint .i64 (.fn 0 [.var 0])) e w' := by
      rintro e w' ⟨rfl, on⟩
      refine ⟨_, ρ, rfl, ext_on hok.wrel hok.tidy on, ?_⟩
      have := VRel.sint (ρ := ρ) .i64 (.fn 0 [.var 0])
      have e : IE.val ρ.sig (.fn 0 [.var 0]) = if fineC (v.d i) (v.at_ i) (v.run i) (v.ok i) (v.job i) then 0 else 2 := by
        rw [hok.num.sig]
        show (if v.fine ((i : Int)).toNat then (0 : Int) else 2) = _
        rw [Int.toNat_natCast]
        rfl
      rw [e] at this
      exact this
    rw [opArgs_val hok.num.sig (ht htick) hv]
    rcases h1 with rfl | rfl
    · exact (check_a (lies_glob hok.glob.lies)).mono fun e w' hh => fin e w' hh
    · exact (check_b (lies_glob hok.glob.lies)).mono fun e w' hh => fin e w' hh
end Go.Proofs.YtofcbcpbglnogaaGreatDoor
