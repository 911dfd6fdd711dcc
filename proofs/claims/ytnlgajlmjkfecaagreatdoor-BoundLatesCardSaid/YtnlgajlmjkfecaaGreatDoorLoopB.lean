/- The other function Late, whole: it answers the same. -/
import Derived.Test.YtnlgajlmjkfecaaGreatDoorLoop
import Derived.KernelRfl
set_option linter.all false
namespace Go.Proofs.YtnlgajlmjkfecaaGreatDoor
open Go.RX
open Go.RX.Sym

def sl24 : List Nat := [41, 25, 20, 11, 7, 6, 5, 4, 3, 2, 0]
def h24a : List (Nat × Option IE) := [(4, some (.var 0)), (0, none)]
def n24a : List (Nat × Option IE) := [(4, some incIE), (0, none)]
def h24b : List (Nat × Option IE) := [(7, some (.var 0)), (6, some (.var 1)), (0, none)]
def n24b (late : IE) : List (Nat × Option IE) := [(7, some incIE), (6, some late), (0, none)]
noncomputable def L24a : Code := pc Tryz.f24 [true, false, true, false, false]
noncomputable def L24b : Code := pc Tryz.f24 [true, true, true, false, true, false, false]
theorem body24 : Tryz.f24.body = some (.seq (pc Tryz.f24 [false]) (.seq (.seq (pc Tryz.f24 [true, false, false]) (.block 0 (.loop L24a))) (.seq (pc Tryz.f24 [true, true, false]) (.seq (.seq (pc Tryz.f24 [true, true, true, false, false]) (.block 2 (.loop L24b))) (pc Tryz.f24 [true, true, true, true]))))) := by kernel_rfl

theorem r24_a (σ : Sig) : outOk 0 sl24 [(0, none)] (runCode (envE σ []) KE 20 56 sl24 (pc Tryz.f24 [false]) (bare (frIn sl24 [(0, none)]))) = true := by kernel_rfl
theorem r24_b (σ : Sig) : outOk 0 sl24 [(4, some (.lit 0)), (0, none)] (runCode (envE σ []) KE 20 56 sl24 (pc Tryz.f24 [true, false, false]) (bare (frIn sl24 [(0, none)]))) = true := by kernel_rfl
theorem r24_c (σ : Sig) : outOk 0 sl24 [(0, none), (6, some (.lit 0))] (runCode (envE σ []) KE 20 56 sl24 (pc Tryz.f24 [true, true, false]) (bare (frIn sl24 [(0, none)]))) = true := by kernel_rfl
theorem r24_d (σ : Sig) : outOk 0 sl24 [(7, some (.lit 0)), (6, some (.lit 0)), (0, none)] (runCode (envE σ []) KE 20 56 sl24 (pc Tryz.f24 [true, true, true, false, false]) (bare (frIn sl24 [(0, none), (6, some (.lit 0))]))) = true := by kernel_rfl
theorem r24_z (σ : Sig) : outOk 1 sl24 [(2, some (.var 1)), (3, some (.lit 0))] (runCode (envE σ []) KE 20 56 sl24 (pc Tryz.f24 [true, true, true, true]) (bare (frIn sl24 [(6, some (.var 1))]))) = true := by kernel_rfl
theorem r24_0 (σ : Sig) : outOk 2 sl24 [(0, none)] (runCode (envE σ [⟨true, .var 0, .len 0, false⟩]) KE 20 56 sl24 L24a (bare (frIn sl24 h24a))) = true := by kernel_rfl
theorem r24_1 (σ : Sig) : outOk 1 sl24 [(2, some (.lit 0)), (3, some (.fn 0 evIE))] (runCode (envE σ [⟨true, .var 0, .len 0, true⟩, ⟨true, .var 0, .lit 0, false⟩, ⟨false, .fn 0 evIE, .lit 0, false⟩]) KE 20 56 sl24 L24a (bare (frIn sl24 h24a))) = true := by kernel_rfl
theorem r24_2 (σ : Sig) : outOk 0 sl24 n24a (runCode (envE σ [⟨true, .var 0, .len 0, true⟩, ⟨true, .var 0, .lit 0, false⟩, ⟨false, .fn 0 evIE, .lit 0, true⟩]) KE 20 56 sl24 L24a (bare (frIn sl24 h24a))) = true := by kernel_rfl
theorem r24_3 (σ : Sig) : outOk 4 sl24 [(6, some (.var 1))] (runCode (envE σ [⟨true, .var 0, .len 0, false⟩]) KE 20 56 sl24 L24b (bare (frIn sl24 h24b))) = true := by kernel_rfl
theorem r24_4 (σ : Sig) : outOk 0 sl24 (n24b maxIE) (runCode (envE σ [⟨true, .var 0, .len 0, true⟩, ⟨true, .var 0, .lit 0, false⟩, ⟨false, .sel 0 (.var 0) 0, .lit 1, true⟩, ⟨false, .sel 0 (.var 0) 4, .lit 1, true⟩]) KE 20 56 sl24 L24b (bare (frIn sl24 h24b))) = true := by kernel_rfl
theorem r24_5 (σ : Sig) : outOk 0 sl24 (n24b (.var 1)) (runCode (envE σ [⟨true, .var 0, .len 0, true⟩, ⟨true, .var 0, .lit 0, false⟩, ⟨false, .sel 0 (.var 0) 0, .lit 1, true⟩, ⟨false, .sel 0 (.var 0) 4, .lit 1, false⟩]) KE 20 56 sl24 L24b (bare (frIn sl24 h24b))) = true := by kernel_rfl
theorem r24_6 (σ : Sig) : outOk 0 sl24 (n24b (.var 1)) (runCode (envE σ [⟨true, .var 0, .len 0, true⟩, ⟨true, .var 0, .lit 0, false⟩, ⟨false, .sel 0 (.var 0) 0, .lit 1, false⟩]) KE 20 56 sl24 L24b (bare (frIn sl24 h24b))) = true := by kernel_rfl
theorem p24_0 (σ : Sig) : isPair (.lit 0) (.fn 0 evIE) (resRun (envE σ []) sl24 Tryz.f24.results.toList (frIn sl24 [(2, some (.lit 0)), (3, some (.fn 0 evIE))])) = true := by kernel_rfl
theorem p24_1 (σ : Sig) : isPair (.var 1) (.lit 0) (resRun (envE σ []) sl24 Tryz.f24.results.toList (frIn sl24 [(2, some (.var 1)), (3, some (.lit 0))])) = true := by kernel_rfl

/-- All events are checked first; then the latest is looked for. -/
noncomputable def walkA (v : Evs) : Nat → Nat → Int
  | 0, _ => 0
  | k + 1, i => if errAt v i = 0 then walkA v k (i + 1) else errAt v i
noncomputable def walkB (v : Evs) : Nat → Nat → Int → Int
  | 0, _, late => late
  | k + 1, i, late => walkB v k (i + 1) (stepLate v i late)
theorem walk_two (v : Evs) : ∀ (k i : Nat) (late : Int), walkE v k i late = if walkA v k i = 0 then (walkB v k i late, 0) else (0, walkA v k i)
  | 0, i, late => by simp [walkE, walkA, walkB]
  | k + 1, i, late => by
    by_cases h : errAt v i = 0
    · have e1 : walkE v (k + 1) i late = walkE v k (i + 1) (stepLate v i late) := if_pos h
      have e2 : walkA v (k + 1) i = walkA v k (i + 1) := if_pos h
      rw [e1, e2]
      exact walk_two v k (i + 1) _
    · have e1 : walkE v (k + 1) i late = (0, errAt v i) := if_neg h
      have e2 : walkA v (k + 1) i = errAt v i := if_neg h
      rw [e1, e2, if_neg h]

theorem next24a {v : Evs} {i : Nat} {late : Int} {a : Act} (hi : i + 1 ≤ 9223372036854775807) (h : Slotted (sigE v i late) n24a a) : Slotted (sigE v (i + 1) late) h24a a := by
  have h1 := h (4, some incIE) (by simp [n24a])
  have h5 := h (0, none) (by simp [n24a])
  simp only [wantIs] at h1 h5
  rw [inc_val hi] at h1
  intro p hp
  simp only [h24a, List.mem_cons, List.not_mem_nil, or_false] at hp
  rcases hp with rfl | rfl
  · simpa [wantIs, IE.val, sigE] using h1
  · exact h5
theorem next24b {v : Evs} {i : Nat} {late late' : Int} {e : IE} {a : Act} (he : IE.val (sigE v i late) e = late') (hi : i + 1 ≤ 9223372036854775807) (h : Slotted (sigE v i late) (n24b e) a) : Slotted (sigE v (i + 1) late') h24b a := by
  have h1 := h (7, some incIE) (by simp [n24b])
  have h4 := h (6, some e) (by simp [n24b])
  have h5 := h (0, none) (by simp [n24b])
  simp only [wantIs] at h1 h4 h5
  rw [inc_val hi] at h1
  rw [he] at h4
  intro p hp
  simp only [h24b, List.mem_cons, List.not_mem_nil, or_false] at hp
  rcases hp with rfl | rfl | rfl
  · simpa [wantIs, IE.val, sigE] using h1
  · simpa [wantIs, IE.val, sigE] using h4
  · exact h5

theorem f24_at : Tryz.prog.funcs[24]? = some Tryz.f24 := by kernel_rfl
theorem f24_n : Tryz.f24.ntmps = 56 := by kernel_rfl

theorem late24 {v : Evs} {W : World} (hv : v.Fits W) : Twice v 24 W (walkE v v.n 0 0) := by
  intro cap
  rw [walk_two v v.n 0 0]
  have hfew := hv.few
  refine Go.RX.begun (E := envE (sigE v 0 0) []) (fn := Tryz.f24) f24_at body24 (by rw [f24_n]; simp) fun a hs hd h0 => ?_
  rw [f24_n] at hs
  have h0 := h0 0 (by simp)
  refine wpIn_seq (piece hv fnil (r24_a (sigE v 0 0)) hs hd (slot_none (cap := cap) h0) fun a1 W1 o1 s1 z1 d1 => ?_)
  refine wpIn_seq (wpIn_seq (piece (hv.on o1) fnil (r24_b (sigE v 0 0)) z1 d1 s1 fun a2 W2 o2 s2 z2 d2 => ?_))
  refine wpIn_block (wpIn_loop_n (J := fun m a w => ∃ (i : Nat), i + m = v.n ∧ walkA v m i = walkA v v.n 0 ∧ Slotted (sigE v i 0) h24a a ∧ a.tmps.size = 56 ∧ a.defers = [] ∧ On W w) (N := v.n) ?_ ?_)
  · refine ⟨0, by simp, rfl, ?_, z2, d2, o1.trans o2⟩
    intro p hp
    simp only [h24a, List.mem_cons, List.not_mem_nil, or_false] at hp
    rcases hp with rfl | rfl
    · exact s2 (4, some (.lit 0)) (by simp)
    · exact s2 (0, none) (by simp)
  · rintro m a w ⟨i, hi, hw, hsl, hz, hdd, ho⟩
    have hvw := hv.on ho
    cases m with
    | succ m =>
      have hin : i < v.n := by omega
      by_cases h1 : errAt v i = 0
      · refine piece hvw (fcons (ltT' hin) (fcons ge0 (fcons (okT h1) fnil))) (r24_2 (sigE v i 0)) hz hdd hsl fun a4 W4 o4 s4 z4 d4 => ?_
        refine ⟨m, by omega, i + 1, by omega, ?_, next24a (by omega) s4, z4, d4, ho.trans o4⟩
        rw [← hw]
        simp only [walkA, if_pos h1]
      · refine piece hvw (fcons (ltT' hin) (fcons ge0 (fcons (okF h1) fnil))) (r24_1 (sigE v i 0)) hz hdd hsl fun a4 W4 o4 s4 z4 d4 => ?_
        refine pair_leaves (E := envE (sigE v i 0) []) (num_E fnil) (p24_0 (sigE v i 0)) z4 d4 s4 (lies_E (hvw.on o4)) fun W6 o6 => ⟨?_, (ho.trans o4).trans o6⟩
        have h2 : walkA v v.n 0 = errAt v i := by rw [← hw]; simp only [walkA, if_neg h1]
        rw [h2, if_neg h1]
        have : IE.val (envE (sigE v i 0) []).sig (.fn 0 evIE) = errAt v i := fn_val
        rw [this]
        simp [IE.val]
    | zero =>
      have hA : walkA v v.n 0 = 0 := by rw [← hw]; rfl
      rw [hA, if_pos rfl]
      refine piece hvw (fcons (ltF (by simp only [IE.val, sigE]; omega)) fnil) (r24_0 (sigE v i 0)) hz hdd hsl fun a4 W4 o4 s4 z4 d4 => ?_
      have hvw := hvw.on o4
      have ho := ho.trans o4
      refine wpIn_seq (piece hvw fnil (r24_c (sigE v i 0)) z4 d4 s4 fun a5 W5 o5 s5 z5 d5 => ?_)
      have hvw := hvw.on o5
      have ho := ho.trans o5
      refine wpIn_seq (wpIn_seq (piece hvw fnil (r24_d (sigE v i 0)) z5 d5 s5 fun a6 W6 o6 s6 z6 d6 => ?_))
      have hvw := hvw.on o6
      have ho := ho.trans o6
      refine wpIn_block (wpIn_loop_n (J := fun m a w => ∃ (i : Nat) (late : Int), i + m = v.n ∧ walkB v m i late = walkB v v.n 0 0 ∧ Slotted (sigE v i late) h24b a ∧ a.tmps.size = 56 ∧ a.defers = [] ∧ On W w) (N := v.n) ?_ ?_)
      · refine ⟨0, 0, by simp, rfl, ?_, z6, d6, ho⟩
        intro p hp
        simp only [h24b, List.mem_cons, List.not_mem_nil, or_false] at hp
        rcases hp with rfl | rfl | rfl
        · exact s6 (7, some (.lit 0)) (by simp)
        · exact s6 (6, some (.lit 0)) (by simp)
        · exact s6 (0, none) (by simp)
      · rintro m a w ⟨i, late, hi, hw, hsl, hz, hdd, ho⟩
        have hvw := hv.on ho
        cases m with
        | zero =>
          refine piece hvw (fcons (ltF (by simp only [IE.val, sigE]; omega)) fnil) (r24_3 (sigE v i late)) hz hdd hsl fun a4 W4 o4 s4 z4 d4 => ?_
          refine piece (hvw.on o4) fnil (r24_z (sigE v i late)) z4 d4 s4 fun a5 W5 o5 s5 z5 d5 => ?_
          refine pair_leaves (E := envE (sigE v i late) []) (num_E fnil) (p24_1 (sigE v i late)) z5 d5 s5 (lies_E ((hvw.on o4).on o5)) fun W6 o6 => ⟨?_, ((ho.trans o4).trans o5).trans o6⟩
          rw [← hw]
          simp [walkB, IE.val, envE, sigE]
        | succ m =>
          have hin : i < v.n := by omega
          have hstep : ∀ e late', IE.val (sigE v i late) e = late' → late' = stepLate v i late → ∀ a' w', On w w' → Slotted (sigE v i late) (n24b e) a' → a'.tmps.size = 56 → a'.defers = [] →
              ∃ k', k' < m + 1 ∧ ∃ (i : Nat) (late : Int), i + k' = v.n ∧ walkB v k' i late = walkB v v.n 0 0 ∧ Slotted (sigE v i late) h24b a' ∧ a'.tmps.size = 56 ∧ a'.defers = [] ∧ On W w' := fun e late' he hl a' w' o4 s4 z4 d4 => by
            refine ⟨m, by omega, i + 1, late', by omega, ?_, next24b he (by omega) s4, z4, d4, ho.trans o4⟩
            rw [← hw, hl]
            simp only [walkB]
          by_cases h2 : v.ev i 0 = 1
          · by_cases h3 : v.ev i 4 = 1
            · exact piece hvw (fcons (ltT' hin) (fcons ge0 (fcons (selT h2) (fcons (selT h3) fnil)))) (r24_4 (sigE v i late)) hz hdd hsl (hstep maxIE _ rfl (by simp only [stepLate, if_pos h2, if_pos h3]))
            · exact piece hvw (fcons (ltT' hin) (fcons ge0 (fcons (selT h2) (fcons (selF h3) fnil)))) (r24_5 (sigE v i late)) hz hdd hsl (hstep (.var 1) late (by simp [IE.val, sigE]) (by simp only [stepLate, if_pos h2, if_neg h3]))
          · exact piece hvw (fcons (ltT' hin) (fcons ge0 (fcons (selF h2) fnil))) (r24_6 (sigE v i late)) hz hdd hsl (hstep (.var 1) late (by simp [IE.val, sigE]) (by simp only [stepLate, if_neg h2]))
end Go.Proofs.YtnlgajlmjkfecaaGreatDoor
