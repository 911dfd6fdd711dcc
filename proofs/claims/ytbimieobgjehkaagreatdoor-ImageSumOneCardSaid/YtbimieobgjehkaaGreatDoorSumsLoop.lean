/- Both checksums, whole: what they answer of bytes in memory. -/
import Derived.Test.YtbimieobgjehkaaGreatDoorSumsRuns
set_option linter.all false
namespace Go.Proofs.YtbimieobgjehkaaGreatDoor
open Go.RX
open Go.RX.Sym

def SumIs (v : Bts) (f : Nat) (W : World) : Prop := ∀ cap, v.n ≤ cap → Calls Tryz.prog f #[.slice (some ⟨v.b, v.x, none⟩) v.n cap] W fun e w' => e = .returned (.int .u32 (crc v.list : Nat)) ∧ On W w'

theorem crcOn_cons (r c : Nat) (l : List Nat) : crcOn r (c :: l) = crcOn (crcBits 8 (r ^^^ c)) l := rfl
theorem val_r {v : Bts} {i r k : Int} {e : IE} {x : Nat} (hx : x < 4294967296) (h : IE.val (sigB v i r k) e = (x : Int)) : IE.val (sigB v i r k) (rIE e) = (crcBit x : Int) := by
  simp only [rIE, IE.val] at h ⊢
  rw [h]
  exact round_a hx
theorem val_in {v : Bts} {i r : Nat} {k : Int} (hv : ∀ i, v.at_ i < 256) (hr : r < 4294967296) : IE.val (sigB v i r k) inIE = ((r ^^^ v.at_ i : Nat) : Int) := by
  have h1 := hv i
  simp only [inIE, IE.val, sigB]
  rw [show ((i : Int)).toNat = i by simp, wrapN (by simp only [highOf]; omega), opVal_xor32 hr (by omega)]
theorem val_r8 {v : Bts} {i r k : Int} {e : IE} {x : Nat} (hx : x < 4294967296) (h : IE.val (sigB v i r k) e = (x : Int)) : IE.val (sigB v i r k) (r8IE e) = (crcBits 8 x : Int) := by
  have h1 := val_r hx h
  have l1 := crcBit_lt hx
  have h2 := val_r l1 h1
  have l2 := crcBit_lt l1
  have h3 := val_r l2 h2
  have l3 := crcBit_lt l2
  have h4 := val_r l3 h3
  have l4 := crcBit_lt l3
  have h5 := val_r l4 h4
  have l5 := crcBit_lt l4
  have h6 := val_r l5 h5
  have l6 := crcBit_lt l5
  have h7 := val_r l6 h6
  have l7 := crcBit_lt l6
  exact val_r l7 h7
theorem val_inc0 {v : Bts} {i : Nat} {r k : Int} (h : i + 1 ≤ 9223372036854775807) : IE.val (sigB v i r k) (incI 0) = ((i + 1 : Nat) : Int) := by
  simp only [incI, IE.val, sigB]
  rw [add_small (by omega) (by omega)]
  simp
theorem val_inc2 {v : Bts} {i r : Int} {k : Nat} (h : k + 1 ≤ 9223372036854775807) : IE.val (sigB v i r k) (incI 2) = ((k + 1 : Nat) : Int) := by
  simp only [incI, IE.val, sigB]
  rw [add_small (by omega) (by omega)]
  simp
theorem in_lt {v : Bts} {i r : Nat} (hv : ∀ i, v.at_ i < 256) (hr : r < 4294967296) : r ^^^ v.at_ i < 4294967296 := xor_lt32 hr (by have := hv i; omega)
theorem range_step (v : Bts) (i m r : Nat) : crcOn r ((List.range' i (m + 1)).map v.at_) = crcOn (crcBits 8 (r ^^^ v.at_ i)) ((List.range' (i + 1) m).map v.at_) := by
  rw [List.range'_succ, List.map_cons, crcOn_cons]
theorem ltN {v : Bts} {i : Nat} {r k : Int} (h : i < v.n) : (Fact.mk true (.var 0) (.len 0) true).holds (sigB v i r k) := ltT (by simp only [IE.val, sigB]; omega)
theorem ltN' {v : Bts} {i : Nat} {r k : Int} (h : ¬ i < v.n) : (Fact.mk true (.var 0) (.len 0) false).holds (sigB v i r k) := ltF (by simp only [IE.val, sigB]; omega)
theorem ge0 {v : Bts} {i : Nat} {r k : Int} : (Fact.mk true (.var 0) (.lit 0) false).holds (sigB v i r k) := ltF (by simp only [IE.val, sigB]; omega)
theorem lt8 {v : Bts} {i r : Int} {k : Nat} (h : k < 8) : (Fact.mk true (.var 2) (.lit 8) true).holds (sigB v i r k) := ltT (by simp only [IE.val, sigB]; omega)
theorem lt8' {v : Bts} {i r : Int} {k : Nat} (h : ¬ k < 8) : (Fact.mk true (.var 2) (.lit 8) false).holds (sigB v i r k) := ltF (by simp only [IE.val, sigB]; omega)

theorem sum7 {v : Bts} {W : World} (hv : v.Fits W) : SumIs v 7 W := by
  intro cap hcap
  have hby := hv.byte
  have hfew := hv.few
  refine Go.RX.begun (E := envB Tryz.prog (sigB v 0 0 0) []) (fn := Tryz.f7) f7_at body7 (by rw [f7_n]; simp) fun a hs hd h0 => ?_
  rw [f7_n] at hs
  have h0 := h0 0 (by simp)
  have s0 : SlottedV (sigB v 0 0 0) [(0, .row)] a := slotV1 ⟨cap, h0, hcap⟩
  refine wpIn_seq (pieceB hv fnil (r7_a (sigB v 0 0 0)) hs hd s0 fun a1 W1 o1 s1 z1 d1 => ?_)
  refine wpIn_seq (pieceB (hv.on o1) fnil (r7_b (sigB v 0 0 0)) z1 d1 s1 fun a2 W2 o2 s2 z2 d2 => ?_)
  refine wpIn_seq (wpIn_seq (pieceB (hv.on (o1.trans o2)) fnil (r7_c (sigB v 0 0 0)) z2 d2 s2 fun a3 W3 o3 s3 z3 d3 => ?_))
  refine wpIn_block (wpIn_loop_n (J := fun m a w => ∃ (i r : Nat), i + m = v.n ∧ r < 4294967296 ∧ crcOn r ((List.range' i m).map v.at_) = crcOn 4294967295 v.list ∧ SlottedV (sigB v i r 0) (h7 (.var 0) (.var 1)) a ∧ a.tmps.size = 29 ∧ a.defers = [] ∧ On W w) (N := v.n) ?_ ?_)
  · refine ⟨0, 4294967295, by simp, by omega, rfl, ?_, z3, d3, (o1.trans o2).trans o3⟩
    exact slotVcons (slotNum s3 (List.mem_cons_self) rfl) (slotVcons (slotNum s3 (.tail _ (.head _)) rfl) (slotVcons (slotRow s3 (.tail _ (.tail _ (.head _))) rfl) (slotV1 (slotNum s3 (.tail _ (.tail _ (.tail _ (.head _)))) rfl))))
  · rintro m a w ⟨i, r, hi, hr, hw, hsl, hz, hdd, ho⟩
    have hvw := hv.on ho
    cases m with
    | zero =>
      refine pieceB hvw (fcons (ltN' (by omega)) fnil) (r7_0 (sigB v i r 0)) hz hdd hsl fun a4 W4 o4 s4 z4 d4 => ?_
      refine pieceB (hvw.on o4) fnil (r7_z (sigB v i r 0)) z4 d4 s4 fun a5 W5 o5 s5 z5 d5 => ?_
      refine one_leaves (E := envB Tryz.prog (sigB v i r 0) []) (num_B fnil) (p7 (sigB v i r 0)) z5 d5 s5 (lies_B ((hvw.on o4).on o5)) fun W6 o6 => ⟨?_, ((ho.trans o4).trans o5).trans o6⟩
      have hw : r = crcOn 4294967295 v.list := hw
      have e : IE.val (sigB v i r 0) (.bin .xor .u32 (.lit 4294967295) (.var 1)) = ((4294967295 - r : Nat) : Int) := by
        simp only [IE.val, sigB]
        exact last_a hr
      rw [show (envB Tryz.prog (sigB v i r 0) []).sig = sigB v i r 0 from rfl, e, hw]
      rfl
    | succ m =>
      refine pieceB hvw (fcons (ltN (by omega)) (fcons ge0 fnil)) (r7_1 (sigB v i r 0)) hz hdd hsl fun a4 W4 o4 s4 z4 d4 => ?_
      refine ⟨m, by omega, i + 1, crcBits 8 (r ^^^ v.at_ i), by omega, crcBits_lt (in_lt hby hr), ?_, ?_, z4, d4, ho.trans o4⟩
      · rw [← hw, range_step]
      · exact slotVcons (slotNum s4 (List.mem_cons_self) (val_inc0 (by omega))) (slotVcons (slotNum s4 (.tail _ (.head _)) rfl) (slotVcons (slotRow s4 (.tail _ (.tail _ (.head _))) rfl) (slotV1 (slotNum s4 (e := r8IE inIE) (.tail _ (.tail _ (.tail _ (.head _)))) (val_r8 (in_lt hby hr) (val_in hby hr))))))

theorem inner8 {v : Bts} {W : World} (hv : v.Fits W) {i r0 m : Nat} (hr0 : r0 < 4294967296) {Q : Exit → Act → World → Prop} {a : Act} {w : World} (hsl : SlottedV (sigB v i r0 0) (k8 (.var 0) (.var 1) (.lit 0)) a) (hz : a.tmps.size = 34) (hd : a.defers = []) (ho : On W w)
    (hQ : ∀ a' w', SlottedV (sigB v i (crcBits 8 r0 : Nat) 0) (g8 (.var 0) (.var 1)) a' → a'.tmps.size = 34 → a'.defers = [] → On W w' → Q .normal a' w') : (Code.block 2 (.loop M8)).wpIn Fence.wide m Tryz.prog Q a w := by
  refine wpIn_block (wpIn_loop_n (J := fun m a w => ∃ (k r : Nat), k + m = 8 ∧ r < 4294967296 ∧ crcBits m r = crcBits 8 r0 ∧ SlottedV (sigB v i r k) (k8 (.var 0) (.var 1) (.var 2)) a ∧ a.tmps.size = 34 ∧ a.defers = [] ∧ On W w) (N := 8) ?_ ?_)
  · exact ⟨0, r0, by simp, hr0, rfl, slotVcons (slotNum hsl (List.mem_cons_self) rfl) (slotVcons (slotNum hsl (.tail _ (.head _)) rfl) (slotVcons (slotNum hsl (.tail _ (.tail _ (.head _))) rfl) (slotV1 (slotRow hsl (.tail _ (.tail _ (.tail _ (.head _)))) rfl)))), hz, hd, ho⟩
  · rintro m a w ⟨k, r, hk, hr, hw, hsl, hz, hdd, ho⟩
    have hvw := hv.on ho
    cases m with
    | zero =>
      refine pieceB hvw (fcons (lt8' (by omega)) fnil) (r8_4 (sigB v i r k)) hz hdd hsl fun a4 W4 o4 s4 z4 d4 => ?_
      have hw : r = crcBits 8 r0 := hw
      subst hw
      exact hQ a4 W4 (slotVcons (slotNum s4 (List.mem_cons_self) rfl) (slotVcons (slotNum s4 (.tail _ (.head _)) rfl) (slotV1 (slotRow s4 (.tail _ (.tail _ (.head _))) rfl)))) z4 d4 (ho.trans o4)
    | succ m =>
      have hw : crcBits m (crcBit r) = crcBits 8 r0 := hw
      have hlt := crcBit_lt hr
      by_cases hb : r % 2 = 1
      · refine pieceB hvw (fcons (lt8 (by omega)) (fcons (eqT (by simp only [IE.val, sigB]; rw [opVal_rem2, hb]; rfl)) fnil)) (r8_5 (sigB v i r k)) hz hdd hsl fun a4 W4 o4 s4 z4 d4 => ?_
        have e : IE.val (sigB v i r k) (.bin .xor .u32 (.bin .quo .u32 (.var 1) (.lit 2)) (.lit 3988292384)) = (crcBit r : Int) := by
          simp only [IE.val, sigB]
          rw [opVal_quo2 hr]
          have := opVal_xor32 (a := r / 2) (b := 3988292384) (by omega) (by omega)
          rw [show ((3988292384 : Nat) : Int) = 3988292384 from rfl] at this
          rw [this]
          unfold crcBit
          rw [if_pos hb]
          rfl
        exact ⟨m, by omega, k + 1, crcBit r, by omega, hlt, hw, slotVcons (slotNum s4 (List.mem_cons_self) (val_inc2 (by omega))) (slotVcons (slotNum s4 (.tail _ (.head _)) rfl) (slotVcons (slotNum s4 (.tail _ (.tail _ (.head _))) e) (slotV1 (slotRow s4 (.tail _ (.tail _ (.tail _ (.head _)))) rfl)))), z4, d4, ho.trans o4⟩
      · refine pieceB hvw (fcons (lt8 (by omega)) (fcons (eqF (by simp only [IE.val, sigB]; rw [opVal_rem2]; omega)) fnil)) (r8_6 (sigB v i r k)) hz hdd hsl fun a4 W4 o4 s4 z4 d4 => ?_
        have e : IE.val (sigB v i r k) (.bin .quo .u32 (.var 1) (.lit 2)) = (crcBit r : Int) := by
          simp only [IE.val, sigB]
          rw [opVal_quo2 hr]
          unfold crcBit
          rw [if_neg hb]
        exact ⟨m, by omega, k + 1, crcBit r, by omega, hlt, hw, slotVcons (slotNum s4 (List.mem_cons_self) (val_inc2 (by omega))) (slotVcons (slotNum s4 (.tail _ (.head _)) rfl) (slotVcons (slotNum s4 (.tail _ (.tail _ (.head _))) e) (slotV1 (slotRow s4 (.tail _ (.tail _ (.tail _ (.head _)))) rfl)))), z4, d4, ho.trans o4⟩

theorem sum8 {v : Bts} {W : World} (hv : v.Fits W) : SumIs v 8 W := by
  intro cap hcap
  have hby := hv.byte
  have hfew := hv.few
  refine Go.RX.begun (E := envB Tryz.prog (sigB v 0 0 0) []) (fn := Tryz.f8) f8_at body8 (by rw [f8_n]; simp) fun a hs hd h0 => ?_
  rw [f8_n] at hs
  have h0 := h0 0 (by simp)
  have s0 : SlottedV (sigB v 0 0 0) [(0, .row)] a := slotV1 ⟨cap, h0, hcap⟩
  refine wpIn_seq (pieceB hv fnil (r8_a (sigB v 0 0 0)) hs hd s0 fun a1 W1 o1 s1 z1 d1 => ?_)
  refine wpIn_seq (pieceB (hv.on o1) fnil (r8_b (sigB v 0 0 0)) z1 d1 s1 fun a2 W2 o2 s2 z2 d2 => ?_)
  refine wpIn_seq (wpIn_seq (pieceB (hv.on (o1.trans o2)) fnil (r8_c (sigB v 0 0 0)) z2 d2 s2 fun a3 W3 o3 s3 z3 d3 => ?_))
  refine wpIn_block (wpIn_loop_n (J := fun m a w => ∃ (i r : Nat), i + m = v.n ∧ r < 4294967296 ∧ crcOn r ((List.range' i m).map v.at_) = crcOn 4294967295 v.list ∧ SlottedV (sigB v i r 0) (g8 (.var 0) (.var 1)) a ∧ a.tmps.size = 34 ∧ a.defers = [] ∧ On W w) (N := v.n) ?_ ?_)
  · refine ⟨0, 4294967295, by simp, by omega, rfl, ?_, z3, d3, (o1.trans o2).trans o3⟩
    exact slotVcons (slotNum s3 (List.mem_cons_self) rfl) (slotVcons (slotNum s3 (.tail _ (.head _)) rfl) (slotV1 (slotRow s3 (.tail _ (.tail _ (.head _))) rfl)))
  · rintro m a w ⟨i, r, hi, hr, hw, hsl, hz, hdd, ho⟩
    have hvw := hv.on ho
    cases m with
    | zero =>
      refine pieceB hvw (fcons (ltN' (by omega)) fnil) (r8_0 (sigB v i r 0)) hz hdd hsl fun a4 W4 o4 s4 z4 d4 => ?_
      refine pieceB (hvw.on o4) fnil (r8_z (sigB v i r 0)) z4 d4 s4 fun a5 W5 o5 s5 z5 d5 => ?_
      refine one_leaves (E := envB Tryz.prog (sigB v i r 0) []) (num_B fnil) (p8 (sigB v i r 0)) z5 d5 s5 (lies_B ((hvw.on o4).on o5)) fun W6 o6 => ⟨?_, ((ho.trans o4).trans o5).trans o6⟩
      have hw : r = crcOn 4294967295 v.list := hw
      have e : IE.val (sigB v i r 0) (.bin .sub .u32 (.lit 4294967295) (.var 1)) = ((4294967295 - r : Nat) : Int) := by
        simp only [IE.val, sigB]
        exact last_b hr
      rw [show (envB Tryz.prog (sigB v i r 0) []).sig = sigB v i r 0 from rfl, e, hw]
      rfl
    | succ m =>
      rw [loop8]
      refine wpIn_seq (pieceB hvw (fcons (ltN (by omega)) fnil) (r8_1 (sigB v i r 0)) hz hdd hsl fun a4 W4 o4 s4 z4 d4 => ?_)
      refine wpIn_seq (wpIn_block (wpIn_seq (pieceB (hvw.on o4) (fcons (ltN (by omega)) (fcons ge0 fnil)) (r8_2 (sigB v i r 0)) z4 d4 s4 fun a5 W5 o5 s5 z5 d5 => ?_)))
      have s5' : SlottedV (sigB v i (r ^^^ v.at_ i : Nat) 0) (g8 (.var 0) (.var 1)) a5 := slotVcons (slotNum s5 (List.mem_cons_self) rfl) (slotVcons (slotNum s5 (e := inIE) (.tail _ (.head _)) (val_in hby hr)) (slotV1 (slotRow s5 (.tail _ (.tail _ (.head _))) rfl)))
      refine wpIn_seq (pieceB ((hvw.on o4).on o5) fnil (r8_3 (sigB v i (r ^^^ v.at_ i : Nat) 0)) z5 d5 s5' fun a6 W6 o6 s6 z6 d6 => ?_)
      refine inner8 hv (in_lt hby hr) s6 z6 d6 (((ho.trans o4).trans o5).trans o6) fun a7 W7 s7 z7 d7 o7 => ?_
      refine pieceB (hv.on o7) fnil (r8_7 (sigB v i (crcBits 8 (r ^^^ v.at_ i) : Nat) 0)) z7 d7 s7 fun a8 W8 o8 s8 z8 d8 => ?_
      refine ⟨m, by omega, i + 1, crcBits 8 (r ^^^ v.at_ i), by omega, crcBits_lt (in_lt hby hr), ?_, ?_, z8, d8, o7.trans o8⟩
      · rw [← hw, range_step]
      · exact slotVcons (slotNum s8 (List.mem_cons_self) (val_inc0 (by omega))) (slotVcons (slotNum s8 (.tail _ (.head _)) rfl) (slotV1 (slotRow s8 (.tail _ (.tail _ (.head _))) rfl)))
end Go.Proofs.YtbimieobgjehkaaGreatDoor
