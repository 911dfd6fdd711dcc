/- Both functions Late, whole: what they answer of events in memory. -/
import Derived.Test.YtnlgajlmjkfecaaGreatDoorLate
set_option linter.all false
namespace Go.Proofs.YtnlgajlmjkfecaaGreatDoor
open Go.RX
open Go.RX.Sym

def Twice (v : Evs) (f : Nat) (W : World) (r : Int × Int) : Prop := ∀ cap, Calls Tryz.prog f #[.slice (some ⟨v.b, v.x, none⟩) v.n cap] W fun e w' => e = .returned (.tuple #[.int .i64 r.1, .int .i64 r.2]) ∧ On W w'

theorem ltT' {v : Evs} {i : Nat} {late : Int} (h : i < v.n) : (Fact.mk true (.var 0) (.len 0) true).holds (sigE v i late) := ltT (by simp only [IE.val, sigE]; omega)
theorem ge0 {v : Evs} {i : Nat} {late : Int} : (Fact.mk true (.var 0) (.lit 0) false).holds (sigE v i late) := ltF (by simp only [IE.val, sigE]; omega)
theorem okT {v : Evs} {i : Nat} {late : Int} (h : errAt v i = 0) : (Fact.mk false (.fn 0 evIE) (.lit 0) true).holds (sigE v i late) := eqT (by rw [fn_val, h]; rfl)
theorem okF {v : Evs} {i : Nat} {late : Int} (h : ¬ errAt v i = 0) : (Fact.mk false (.fn 0 evIE) (.lit 0) false).holds (sigE v i late) := eqF (by rw [fn_val]; exact h)
theorem selT {v : Evs} {i c : Nat} {late : Int} (h : v.ev i c = 1) : (Fact.mk false (.sel 0 (.var 0) c) (.lit 1) true).holds (sigE v i late) := eqT (by simpa [IE.val, sigE] using h)
theorem selF {v : Evs} {i c : Nat} {late : Int} (h : ¬ v.ev i c = 1) : (Fact.mk false (.sel 0 (.var 0) c) (.lit 1) false).holds (sigE v i late) := eqF (by simpa [IE.val, sigE] using h)

theorem next23 {v : Evs} {i : Nat} {late late' : Int} {e : IE} {a : Act} (he : IE.val (sigE v i late) e = late') (hi : i + 1 ≤ 9223372036854775807) (h : Slotted (sigE v i late) (n23 e) a) : Slotted (sigE v (i + 1) late') h23 a := by
  have h1 := h (10, some incIE) (by simp [n23])
  have h2 := h (9, some (.len 0)) (by simp [n23])
  have h3 := h (8, none) (by simp [n23])
  have h4 := h (4, some e) (by simp [n23])
  have h5 := h (0, none) (by simp [n23])
  simp only [wantIs] at h1 h2 h3 h4 h5
  rw [inc_val hi] at h1
  rw [he] at h4
  intro p hp
  simp only [h23, List.mem_cons, List.not_mem_nil, or_false] at hp
  rcases hp with rfl | rfl | rfl | rfl | rfl
  · simpa [wantIs, IE.val, sigE] using h1
  · simpa [wantIs, IE.val, sigE] using h2
  · exact h3
  · simpa [wantIs, IE.val, sigE] using h4
  · exact h5

theorem slot_some {σ : Sig} {t : Nat} {e : IE} {a : Act} (h : a.tmps.getD t undef = .int .i64 (e.val σ)) : Slotted σ [(t, some e)] a := fun p hp => by
  simp only [List.mem_cons, List.not_mem_nil, or_false] at hp
  subst hp
  exact h
theorem slot_none {σ : Sig} {t : Nat} {a : Act} {cap : Nat} (h : a.tmps.getD t undef = .slice (some ⟨(σ.row 0).1, (σ.row 0).2.1, none⟩) (σ.row 0).2.2.2 cap) : Slotted σ [(t, none)] a := fun p hp => by
  simp only [List.mem_cons, List.not_mem_nil, or_false] at hp
  subst hp
  exact ⟨cap, h⟩

theorem f23_at : Tryz.prog.funcs[23]? = some Tryz.f23 := by kernel_rfl
theorem f23_n : Tryz.f23.ntmps = 36 := by kernel_rfl

theorem late23 {v : Evs} {W : World} (hv : v.Fits W) : Twice v 23 W (walkE v v.n 0 0) := by
  intro cap
  refine Go.RX.begun (E := envE (sigE v 0 0) []) (fn := Tryz.f23) f23_at body23 (by rw [f23_n]; simp) fun a hs hd h0 => ?_
  rw [f23_n] at hs
  have h0 := h0 0 (by simp)
  refine wpIn_seq (piece hv fnil (r23_a (sigE v 0 0)) hs hd (slot_none (cap := cap) h0) fun a1 W1 o1 s1 z1 d1 => ?_)
  refine wpIn_seq (piece (hv.on o1) fnil (r23_b (sigE v 0 0)) z1 d1 s1 fun a2 W2 o2 s2 z2 d2 => ?_)
  refine wpIn_seq (wpIn_seq (piece (hv.on (o1.trans o2)) fnil (r23_c (sigE v 0 0)) z2 d2 s2 fun a3 W3 o3 s3 z3 d3 => ?_))
  refine wpIn_block (wpIn_loop_n (J := fun m a w => ∃ (i : Nat) (late : Int), i + m = v.n ∧ walkE v m i late = walkE v v.n 0 0 ∧ Slotted (sigE v i late) h23 a ∧ a.tmps.size = 36 ∧ a.defers = [] ∧ On W w) (N := v.n) ?_ ?_)
  · refine ⟨0, 0, by simp, rfl, ?_, z3, d3, (o1.trans o2).trans o3⟩
    intro p hp
    simp only [h23, List.mem_cons, List.not_mem_nil, or_false] at hp
    rcases hp with rfl | rfl | rfl | rfl | rfl
    · exact s3 (10, some (.lit 0)) (by simp)
    · exact s3 (9, some (.len 0)) (by simp)
    · exact s3 (8, none) (by simp)
    · exact s3 (4, some (.lit 0)) (by simp)
    · exact s3 (0, none) (by simp)
  · rintro m a w ⟨i, late, hi, hw, hsl, hz, hdd, ho⟩
    have hvw := hv.on ho
    have hfew := hv.few
    cases m with
    | zero =>
      refine piece hvw (fcons (ltF (by simp only [IE.val, sigE]; omega)) fnil) (r23_0 (sigE v i late)) hz hdd hsl fun a4 W4 o4 s4 z4 d4 => ?_
      refine piece (hvw.on o4) fnil (r23_z (sigE v i late)) z4 d4 s4 fun a5 W5 o5 s5 z5 d5 => ?_
      refine pair_leaves (E := envE (sigE v i late) []) (num_E fnil) (p23_1 (sigE v i late)) z5 d5 s5 (lies_E ((hvw.on o4).on o5)) fun W6 o6 => ⟨?_, ((ho.trans o4).trans o5).trans o6⟩
      rw [← hw]
      simp [walkE, IE.val, envE, sigE]
    | succ m =>
      have hin : i < v.n := by omega
      by_cases h1 : errAt v i = 0
      · have hstep : ∀ e late', IE.val (sigE v i late) e = late' → late' = stepLate v i late → ∀ a' w', On w w' → Slotted (sigE v i late) (n23 e) a' → a'.tmps.size = 36 → a'.defers = [] →
            ∃ k', k' < m + 1 ∧ ∃ (i : Nat) (late : Int), i + k' = v.n ∧ walkE v k' i late = walkE v v.n 0 0 ∧ Slotted (sigE v i late) h23 a' ∧ a'.tmps.size = 36 ∧ a'.defers = [] ∧ On W w' := fun e late' he hl a' w' o4 s4 z4 d4 => by
          refine ⟨m, by omega, i + 1, late', by omega, ?_, next23 he (by omega) s4, z4, d4, ho.trans o4⟩
          rw [← hw, hl]
          simp only [walkE, if_pos h1]
        by_cases h2 : v.ev i 0 = 1
        · by_cases h3 : v.ev i 4 = 1
          · exact piece hvw (fcons (ltT' hin) (fcons ge0 (fcons (okT h1) (fcons (selT h2) (fcons (selT h3) fnil))))) (r23_2 (sigE v i late)) hz hdd hsl (hstep maxIE _ rfl (by simp only [stepLate, if_pos h2, if_pos h3]))
          · exact piece hvw (fcons (ltT' hin) (fcons ge0 (fcons (okT h1) (fcons (selT h2) (fcons (selF h3) fnil))))) (r23_3 (sigE v i late)) hz hdd hsl (hstep (.var 1) late (by simp [IE.val, sigE]) (by simp only [stepLate, if_pos h2, if_neg h3]))
        · exact piece hvw (fcons (ltT' hin) (fcons ge0 (fcons (okT h1) (fcons (selF h2) fnil)))) (r23_4 (sigE v i late)) hz hdd hsl (hstep (.var 1) late (by simp [IE.val, sigE]) (by simp only [stepLate, if_neg h2]))
      · refine piece hvw (fcons (ltT' hin) (fcons ge0 (fcons (okF h1) fnil))) (r23_1 (sigE v i late)) hz hdd hsl fun a4 W4 o4 s4 z4 d4 => ?_
        refine pair_leaves (E := envE (sigE v i late) []) (num_E fnil) (p23_0 (sigE v i late)) z4 d4 s4 (lies_E (hvw.on o4)) fun W6 o6 => ⟨?_, (ho.trans o4).trans o6⟩
        rw [← hw]
        have : IE.val (envE (sigE v i late) []).sig (.fn 0 evIE) = errAt v i := fn_val
        rw [this]
        simp [walkE, IE.val, if_neg h1]
end Go.Proofs.YtnlgajlmjkfecaaGreatDoor
