/- Reading a journal: all its records. -/
import Derived.Test.YtcbkglclienegaaGreatDoorJD
set_option linter.all false
set_option maxRecDepth 100000
namespace Go.Proofs.YtcbkglclienegaaGreatDoor
open Go.RX Go.RX.Sym

theorem name_110 (vals : Array Value) (w : World) : (callFunc 110 vals).run Tryz.prog w = .ok (.enter 110 vals) w := by kernel_rfl
theorem name_20 (vals : Array Value) (w : World) : (callFunc 20 vals).run Tryz.prog w = .ok (.enter 20 vals) w := by kernel_rfl
def isNum : SV → Bool | .int _ _ => true | _ => false
theorem tab_all : tabCells.all isNum = true := by kernel_rfl
theorem steps_all : stepsCells.all isNum = true := by kernel_rfl
theorem num_cells {gl : Nat} {cs : List SV} (h : globals gl = some cs) : cs.all isNum = true := by
  unfold globals at h
  split at h
  · cases h; exact tab_all
  · cases h; exact steps_all
  · cases h
theorem num_rel {ρ ρ' : Ren} {x : SV} {v : Value} (h : VRel ρ x v) (hx : isNum x = true) : VRel ρ' x v := by
  cases h <;> first | (cases hx; done) | exact .int _ _
theorem tabs_of {E : Env} {W : World} (hG : E.G = globals) (h : Lies E W) : Tabs W := fun σ => ⟨fun gl cs hg => by
  have hg : globals gl = some cs := hg
  obtain ⟨arr, el, fz, h1, h2⟩ := h.cells gl cs (by rw [hG]; exact hg)
  refine ⟨arr, el, fz, h1, fun k x hk => ?_⟩
  obtain ⟨v, q1, q2⟩ := h2 k x hk
  exact ⟨v, q1, num_rel q2 (List.all_eq_true.1 (num_cells hg) x (List.mem_of_getElem? hk))⟩, fun a ks h => by cases h⟩
section
variable {m : Bool} {b x : Nat}
theorem bytes_of {g : Nat} {r : Rd} {F : List Fact} {W : World} (h : Lies (envB g r F) W) : Bytes r W where
  tabs := tabs_of rfl h
  lie := by
    obtain ⟨b, x, n, arr, el, fz, h1, h2, h3⟩ := h.rows 0 [none] rfl
    have h1 : (r.b, r.x + 0, 1, total r.M) = (b, x, 1, n) := h1
    simp only [Prod.mk.injEq] at h1
    obtain ⟨rfl, rfl, -, rfl⟩ := h1
    refine ⟨arr, el, fz, h2, fun k hk => ?_⟩
    have := (h3 k 0 none hk rfl).1
    have e : (envB g r F).sig.cell 0 k 0 = .int .u8 (cont (0 + k)) := rfl
    rw [e] at this
    simpa using this
theorem Bytes.of {r r' : Rd} {W : World} (h : Bytes r W) (h1 : r'.M = r.M) (h2 : r'.b = r.b) (h3 : r'.x = r.x) : Bytes r' W := ⟨h.tabs, by rw [h1, h2, h3]; exact h.lie⟩
theorem apartB {g g' : Nat} {r r' : Rd} {F F' : List Fact} {ρ0 : Ren} {S0 : SW} (h : ApartF (envB g r F) ρ0 S0) (hb : r'.b = r.b) : ApartF (envB g' r' F') ρ0 S0 := fun bb hbb => h bb (by
  rcases hbb with ⟨cs, hg⟩ | ⟨a, ks, ha, e⟩
  · exact .inl ⟨cs, hg⟩
  · refine .inr ⟨0, [none], rfl, ?_⟩
    have ha : rowsB g' a = some ks := ha
    unfold rowsB at ha
    split at ha
    · rename_i hi
      have := row_is (r := r') (nb88 (isRow_le hi))
      have e : ((sigB r').row a).1 = bb := e
      rw [this] at e
      show r.b = bb
      rw [← hb]; exact e
    · cases ha)
/-- The record i is at hand. -/
def ri (m : Bool) (b x i : Nat) : Rd := rd m b x (86 + 15 * i) i ((86 + 15 * i : Nat) : Int)
def rE (m : Bool) (b x : Nat) : Rd := rd m b x 0 10000 0
theorem Mof_le : (m : Bool) → 10000 ≤ Mof m ∧ Mof m ≤ 10001
  | true => ⟨by decide, by decide⟩
  | false => ⟨by decide, by decide⟩
theorem ok_0 {at_ ops : Nat} {v1 : Int} : (rd m b x at_ ops v1).Ok 0 where
  some := by have := (Mof_le m).1; show 1 ≤ Mof m; omega
  few := by have := (Mof_le m).2; show Mof m ≤ 20000; omega
  one h := by omega
  two h := by omega
  end_ := ⟨rfl, (Mof_le m).1⟩
theorem ok_1 {i : Nat} (hi : i ≤ Mof m) : (ri m b x i).Ok 1 where
  some := by have := (Mof_le m).1; show 1 ≤ Mof m; omega
  few := by have := (Mof_le m).2; show Mof m ≤ 20000; omega
  one h := ⟨rfl, by show 86 + 15 * i ≤ total (Mof m); unfold total; omega⟩
  two h := by omega
  end_ := ⟨rfl, (Mof_le m).1⟩
theorem ok_2 {i : Nat} (hi : i < Mof m) : (ri m b x i).Ok 2 where
  some := by have := (Mof_le m).1; show 1 ≤ Mof m; omega
  few := by have := (Mof_le m).2; show Mof m ≤ 20000; omega
  one h := ⟨rfl, by show 86 + 15 * i ≤ total (Mof m); unfold total; omega⟩
  two h := ⟨i, rfl, by show 86 + 15 * i + 15 ≤ total (Mof m); unfold total; omega⟩
  end_ := ⟨rfl, (Mof_le m).1⟩
theorem len1 {i : Nat} : (IE.len 1).val (sigB (ri m b x i)) = ((total (Mof m) - (86 + 15 * i) : Nat) : Int) := rfl
theorem len200 {i : Nat} : (IE.len 200).val (sigB (ri m b x i)) = (i : Int) := rfl
theorem facts1 {i : Nat} (hi : i < Mof m) : ∀ f ∈ f1, f.holds (sigB (ri m b x i)) := by
  have hM := (Mof_le m).2
  have hT : total (Mof m) = 86 + 15 * Mof m := rfl
  refine hcons (holds_lt (no ?_)) (hcons (holds_lt (no ?_)) hnil)
  · rw [len1]; show ¬ _ < (8 : Int); omega
  · show ¬ opVal .sub .i64 ((IE.len 1).val (sigB (ri m b x i))) 8 < (7 : Int)
    rw [len1, sub_op ⟨by omega, by omega⟩]
    omega
/-- What a round begins with. -/
theorem look_ne {n : Nat} {e : IE} {l : List (Nat × IE)} {k : Nat} (h : k ≠ n) : sbE.look k ((n, e) :: l) = sbE.look k l := by
  have a1 : Nat.beq n k = false := by
    cases hb : Nat.beq n k with
    | true => exact absurd (Nat.eq_of_beq_eq_true hb).symm h
    | false => rfl
  simp only [sbE.look, a1]
theorem var_ne {r : Rd} {k : Nat} (h1 : k ≠ 1) (h3 : k ≠ 3) : (sigB r).var k = 0 := by
  unfold sigB
  dsimp only
  split
  · exact absurd rfl h1
  · exact absurd rfl h3
  · rfl
theorem puts_one {r r' : Rd} {e : IE} (h1 : e.val (sigB r) = r'.v1) (h3 : r'.v3 = r.v3) (hb : r'.b = r.b) (hx : r'.x = r.x) (hM : r'.M = r.M) : Puts [0] [(1, e)] (sigB r) (sigB r') where
  var k := by
    by_cases c1 : k = 1
    · subst c1; exact h1.symm
    · rw [look_ne c1]
      by_cases c3 : k = 3
      · subst c3; exact h3
      · rw [var_ne c1 c3]; exact (var_ne c1 c3).symm
  fn := rfl
  row a ha := by
    obtain rfl := List.mem_singleton.1 ha
    show (r'.b, r'.x + 0, 1, total r'.M) = (r.b, r.x + 0, 1, total r.M)
    rw [hb, hx, hM]
  cell a ha := by
    obtain rfl := List.mem_singleton.1 ha
    rfl
  obj a ha := rfl
theorem puts_end {i : Nat} (hi : i = 10000) : Puts [0, 200] [(1, .lit 0), (3, .var 1)] (sigB (ri m b x i)) (sigB (rE m b x)) where
  var k := by
    by_cases c1 : k = 1
    · subst c1; rfl
    · rw [look_ne c1]
      by_cases c3 : k = 3
      · subst c3; subst hi; rfl
      · rw [look_ne c3, var_ne c1 c3]; exact (var_ne c1 c3).symm
  fn := rfl
  row a ha := by
    rcases List.mem_cons.1 ha with rfl | ha
    · rfl
    · obtain rfl := List.mem_singleton.1 ha
      subst hi
      rfl
  cell a ha := by
    rcases List.mem_cons.1 ha with rfl | ha
    · rfl
    · obtain rfl := List.mem_singleton.1 ha
      rfl
  obj a ha := rfl
theorem sees_h : Sees s86 (sigB (rE m b x)) (sigB (ri m b x 0)) := ⟨puts_one rfl rfl rfl rfl rfl, fun q hq => (by cases hq), fun p hp => (by cases hp), fun p hp => (by cases hp)⟩
theorem op_get {c : Nat} (hc : c < 6) : ∃ y, opCs[c]? = some y ∧ ∀ σ : Sig, Go.RX.valOf σ y = some (opV c) := by
  have : c = 0 ∨ c = 1 ∨ c = 2 ∨ c = 3 ∨ c = 4 ∨ c = 5 := by omega
  rcases this with rfl | rfl | rfl | rfl | rfl | rfl <;> exact ⟨_, rfl, fun _ => rfl⟩
theorem v15 {i : Nat} (hi : i < 20000) : at15.val (sigB (ri m b x i)) = ((86 + 15 * (i + 1) : Nat) : Int) := by
  have e8 : at8.val (sigB (ri m b x i)) = ((86 + 15 * i + 8 : Nat) : Int) := by
    show opVal .add .i64 ((86 + 15 * i : Nat) : Int) 8 = _
    rw [add_op ⟨by omega, by omega⟩]
    omega
  show opVal .add .i64 (at8.val (sigB (ri m b x i))) 7 = _
  rw [e8, add_op ⟨by omega, by omega⟩]
  omega
theorem sees_1 : Sees s1 (sigB (ri m b x 0)) (sigB (ri m b x 1)) where
  puts := puts_one (v15 (by decide)) rfl rfl rfl rfl
  grow q hq := by
    have hq : q ∈ [{ to := 200, frm := none, cs := opCs, z := 6 }] := hq
    obtain rfl := List.mem_singleton.1 hq
    refine ⟨0, 0, 0, 1, rfl, rfl, rfl, by decide, fun i c hi hc => ?_⟩
    obtain rfl : i = 0 := by omega
    obtain ⟨y, h1, h2⟩ := op_get hc
    exact ⟨y, by rw [Nat.zero_mul, Nat.zero_add]; exact h1, h2 _⟩
  blob p hp := by cases hp
  begun p hp := by cases hp
theorem sees_2 {i : Nat} (hi : i < 10000) : Sees s2 (sigB (ri m b x i)) (sigB (ri m b x (i + 1))) where
  puts := puts_one (v15 (by omega)) rfl rfl rfl rfl
  grow q hq := by
    have hq : q ∈ [{ to := 200, frm := some 200, cs := opCs, z := 6 }] := hq
    obtain rfl := List.mem_singleton.1 hq
    refine ⟨0, 0, i, 1, ⟨0, 0, rfl, fun j c hj hc => rfl⟩, rfl, rfl, by omega, fun j c hj hc => ?_⟩
    obtain rfl : j = 0 := by omega
    obtain ⟨y, h1, h2⟩ := op_get hc
    exact ⟨y, by rw [Nat.zero_mul, Nat.zero_add]; exact h1, h2 _⟩
  blob p hp := by cases hp
  begun p hp := by cases hp
theorem sees_e {i : Nat} (hi : i = 10000) : Sees sE (sigB (ri m b x i)) (sigB (rE m b x)) := ⟨puts_end hi, fun q hq => (by cases hq), fun p hp => (by cases hp), fun p hp => (by cases hp)⟩
/-- The range's record stays. -/
theorem kept_R {s : Sa} {σ σ' : Sig} (h : Sees s σ σ') (h0 : saFr s 7 fr20 fr20 = true) {l : SLoop} (hd : l.defers = 5) (hf : l.fr = fr20) {objs1 : List (Nat × SObj)} {n0 : Nat} (hn : 7 ≤ n0) (h6 : lookO 6 (objs1 ++ [(6, .loop l), (5, .deferred true)]) = some (.loop l)) (h5 : lookO 5 (objs1 ++ [(6, .loop l), (5, .deferred true)]) = some (.deferred true)) :
    ∀ p ∈ ([(6, .loop l), (5, .deferred true)] : List (Nat × SObj)), p.1 < n0 ∧ lookO p.1 (objs1 ++ [(6, .loop l), (5, .deferred true)]) = some p.2 ∧ OVT σ σ' (fun i j => i = j ∧ i < n0) p.2 p.2 := fun p hp => by
  simp only [List.mem_cons, List.not_mem_nil, or_false] at hp
  rcases hp with rfl | rfl
  · exact ⟨show 6 < n0 by omega, h6, .loop rfl rfl rfl rfl rfl rfl rfl ⟨rfl, by rw [hd]; omega⟩ (by rw [hf]; exact fun i => (saFr_is h h0 i).imp id (SVT.mono fun _ _ h => ⟨h.1, by omega⟩))⟩
  · exact ⟨show 5 < n0 by omega, h5, .mark⟩
theorem kept_same {σ : Sig} {l : SLoop} (hd : l.defers = 5) (hf : l.fr = fr20) {objs1 : List (Nat × SObj)} (h6 : lookO 6 (objs1 ++ [(6, .loop l), (5, .deferred true)]) = some (.loop l)) (h5 : lookO 5 (objs1 ++ [(6, .loop l), (5, .deferred true)]) = some (.deferred true)) :
    ∀ p ∈ ([(6, .loop l), (5, .deferred true)] : List (Nat × SObj)), p.1 < 7 ∧ lookO p.1 (objs1 ++ [(6, .loop l), (5, .deferred true)]) = some p.2 ∧ OVT σ σ (fun i j => i = j ∧ i < 7) p.2 p.2 := by
  have hs : Sees { rs := [0] } σ σ := ⟨⟨fun _ => rfl, rfl, fun _ _ => rfl, fun _ _ => rfl, fun _ _ => rfl⟩, fun q hq => (by cases hq), fun p hp => (by cases hp), fun p hp => (by cases hp)⟩
  exact kept_R hs (by kernel_rfl) hd hf (Nat.le_refl _) h6 h5
theorem look6 (n l : SV) (ex : List (Nat × SObj)) (lp : SLoop) : lookO 6 (plG n l ex ++ [(6, .loop lp), (5, .deferred true)]) = lookO 6 (ex ++ [(6, .loop lp), (5, .deferred true)]) := by rfl
theorem look5 (n l : SV) (ex : List (Nat × SObj)) (lp : SLoop) : lookO 5 (plG n l ex ++ [(6, .loop lp), (5, .deferred true)]) = lookO 5 (ex ++ [(6, .loop lp), (5, .deferred true)]) := by rfl
noncomputable def kOf : Bool → List (Nat × SObj) | false => kR | true => kY
/-- Where the loop stands. -/
abbrev At0 (m : Bool) (b x : Nat) (ρ0 : Ren) (W0 : World) (a : Act) (w : World) : Prop := AtF (sigB (rE m b x)) ρ0 ⟨heapOf (kR ++ pl0), 7, 0⟩ 600 39 sl110 (hdR (.int .i64 0)) [] (pl0 ++ kR) 7 W0 a w
abbrev At1 (m : Bool) (b x : Nat) (ρ0 : Ren) (W0 : World) (a : Act) (w : World) : Prop := AtF (sigB (ri m b x 0)) ρ0 ⟨heapOf (kR ++ pl0), 7, 0⟩ 600 39 sl110 (hdR iv1) [] (plG iv1 .nilslice [] ++ kR) 436 W0 a w
abbrev At2 (m : Bool) (b x i : Nat) (ρ0 : Ren) (W0 : World) (a : Act) (w : World) : Prop := AtF (sigB (ri m b x i)) ρ0 ⟨heapOf (kR ++ pl0), 7, 0⟩ 600 39 sl110 (hdR iv1) [] (plG iv1 (.oslice 452 200 0 6) (own 452 []) ++ kR) 453 W0 a w
theorem recs_calls : CallsT (envB 0 (rE m b x) []) 110 [.yield 6, .ptr 4 0] (kR ++ pl0) 7 (.tuple []) ⟨heapOf (plE ++ kOf m), 600, 0⟩ := by
  refine callsT_F (E := envB 0 (rE m b x) []) (objs1 := plE ++ kOf m) (N := 600) (fn := Tryz.f110) (body := bd110) (sl := sl110) Tryz.func110 bd110_is name_110 (by rw [nt110]; decide) (by decide) fun ρ0 W0 a hok hfr hA => wpL_whole ?_
  rw [nt110] at hA
  have hB : Bytes (rE m b x) W0 := bytes_of hok.glob.lies
  have hap : ApartF (envB 0 (rE m b x) []) ρ0 ⟨heapOf (kR ++ pl0), 7, 0⟩ := hok.glob.apart
  have hBi : ∀ {i : Nat}, Bytes (ri m b x i) W0 := fun {i} => hB.of rfl rfl rfl
  refine walkK (E := envB 0 (rE m b x) []) (K := knowB 0 (rE m b x) []) (d := 40) 1 (knowsB ok_0 []) (numB ok_0 hnil) (kept := kR) (next := 7) (by kernel_rfl) (by decide) (q_a b x 0 10000 0 m) hA (liesB ok_0 hB _) hap fun a1 w1 h1 => ?_
  show wpL _ _ ((flatC bd110).drop 1) _ _ _
  rw [lp110]
  refine wpIn_block (wpIn_loop_n (J := fun k a w => (k = 10001 ∧ At0 m b x ρ0 W0 a w) ∨ (k = 10000 ∧ At1 m b x ρ0 W0 a w) ∨ ∃ i, 1 ≤ i ∧ i + k = 10000 ∧ At2 m b x i ρ0 W0 a w) (N := 10001) (.inl ⟨rfl, h1⟩) ?_)
  rintro k a2 w2 (⟨rfl, h2⟩ | ⟨rfl, h2⟩ | ⟨i, hi1, hik, h2⟩)
  · refine stepF (E := envB 0 (rE m b x) []) (K := knowB 0 (rE m b x) []) (d := 40) (knowsB ok_0 []) (numB ok_0 hnil) (kept := kR) (next := 436) (by kernel_rfl) (by decide) (q_h b x 0 10000 0 m) h2 (liesB ok_0 hB _) hap fun a3 w3 h3 => ?_
    refine ⟨10000, by omega, .inr (.inl ⟨rfl, ?_⟩)⟩
    exact AtF.saK sees_h h3 (by decide) (by decide) (fun d hd => by cases hd) s_h.1 (s_h.2 _) (kept_R sees_h (by kernel_rfl) rfl rfl (by decide) (look6 _ _ _ _) (look5 _ _ _ _))
  · have h0 : 0 < Mof m := by have := (Mof_le m).1; omega
    refine stepF (E := envB 2 (ri m b x 0) f1) (K := knowB 2 (ri m b x 0) f1) (d := 40) (knowsB (ok_2 h0) f1) (numB (ok_2 h0) (facts1 h0)) (kept := kR) (next := 453) (by kernel_rfl) (by decide) (q_1 b x 86 0 86 m) h2 (liesB (ok_2 h0) hBi _) (apartB hap rfl) fun a3 w3 h3 => ?_
    refine ⟨9999, by omega, .inr (.inr ⟨1, Nat.le_refl _, rfl, ?_⟩)⟩
    exact AtF.saK sees_1 h3 (by decide) (by decide) (fun d hd => by cases hd) s_1.1 (s_1.2 _) (kept_R sees_1 (by kernel_rfl) rfl rfl (by decide) (look6 _ _ _ _) (look5 _ _ _ _))
  · have hM := Mof_le m
    by_cases hi : i < 10000
    · have hlt : i < Mof m := by omega
      have hf2 : ∀ f ∈ f2, f.holds (sigB (ri m b x i)) := hcons (holds_eq (no (by rw [len200]; show ¬ (i : Int) = 10000; omega))) (facts1 hlt)
      refine stepF (E := envB 2 (ri m b x i) f2) (K := knowB 2 (ri m b x i) f2) (d := 40) (knowsB (ok_2 hlt) f2) (numB (ok_2 hlt) hf2) (kept := kR) (next := 470) (by kernel_rfl) (by decide) (q_2 b x (86 + 15 * i) i _ m) h2 (liesB (ok_2 hlt) hBi _) (apartB hap rfl) fun a3 w3 h3 => ?_
      obtain ⟨k, rfl⟩ : ∃ j, k = j + 1 := ⟨k - 1, by omega⟩
      refine ⟨k, by omega, .inr (.inr ⟨i + 1, by omega, by omega, ?_⟩)⟩
      have h4 := AtF.rnK h3 (π := piR) (n0 := 453) (fr := hdR nx) (objs := plG nx (.oslice 452 200 1 6) (own 452 opCs)) (by decide) (by decide) (s_r _) (kept_same rfl rfl (look6 _ _ _ _) (look5 _ _ _ _))
      exact AtF.saK (sees_2 hi) h4 (by decide) (by decide) (fun d hd => by cases hd) s_2.1 (s_2.2 _) (kept_R (sees_2 hi) (by kernel_rfl) rfl rfl (by decide) (look6 _ _ _ _) (look5 _ _ _ _))
    · obtain rfl : i = 10000 := by omega
      have se := sees_e (m := m) (b := b) (x := x) (i := 10000) rfl
      cases m with
      | false =>
        have hf : ∀ f ∈ ([⟨true, .len 1, .lit 8, true⟩] : List Fact), f.holds (sigB (ri false b x 10000)) := hcons (holds_lt (yes (by rw [len1, show total (Mof false) - (86 + 15 * 10000) = 0 from by kernel_rfl]; show ((0 : Nat) : Int) < 8; decide))) hnil
        refine stepF (E := envB 1 (ri false b x 10000) _) (K := knowB 1 (ri false b x 10000) _) (d := 40) (knowsB (ok_1 (Nat.le_refl _)) _) (numB (ok_1 (Nat.le_refl _)) hf) (kept := kR) (next := 453) (by kernel_rfl) (by decide) (q_x b x _ 10000 _ false) h2 (liesB (ok_1 (Nat.le_refl _)) hBi _) (apartB hap rfl) fun a3 w3 h3 => ?_
        have h4 := AtF.saK se h3 (n0 := 468) (fr := frN sl110 []) (objs := plE) (by decide) (by decide) (fun d hd => by cases hd) (by kernel_rfl) (s_e _) (kept_R se (by kernel_rfl) rfl rfl (by decide) (look6 _ _ _ _) (look5 _ _ _ _))
        show LeavesInM _ _ _ _ _ _ _ _ _
        exact leavesF (E := envB 0 (rE false b x) []) (kept := kR) (plain := plE) (numB ok_0 hnil) (by kernel_rfl) (q_lx b x 0 10000 0 false) hok hfr h4
      | true =>
        have hlt : 10000 < Mof true := by decide
        have hf : ∀ f ∈ fy, f.holds (sigB (ri true b x 10000)) := hcons (holds_eq (yes rfl)) (facts1 hlt)
        refine stepF (E := envB 2 (ri true b x 10000) fy) (K := knowB 2 (ri true b x 10000) fy) (d := 40) (knowsB (ok_2 hlt) _) (numB (ok_2 hlt) hf) (kept := kY) (next := 468) (by kernel_rfl) (by decide) (q_y b x _ 10000 _ true) h2 (liesB (ok_2 hlt) hBi _) (apartB hap rfl) fun a3 w3 h3 => ?_
        have h4 := AtF.saK se h3 (n0 := 468) (fr := frN sl110 []) (objs := plE) (by decide) (by decide) (fun d hd => by cases hd) (by kernel_rfl) (s_e _) (kept_R se (by kernel_rfl) rfl rfl (by decide) (look6 _ _ _ _) (look5 _ _ _ _))
        show LeavesInM _ _ _ _ _ _ _ _ _
        exact leavesF (E := envB 0 (rE true b x) []) (kept := kY) (plain := plE) (numB ok_0 hnil) (by kernel_rfl) (q_ly b x 0 10000 0 true) hok hfr h4
end
end Go.Proofs.YtcbkglclienegaaGreatDoor

/- Reading a journal, whole. -/
set_option linter.all false
set_option maxRecDepth 100000
namespace Go.Proofs.YtcbkglclienegaaGreatDoor
open Go.RX Go.RX.Sym

noncomputable def g20 : List SV → List SV → SV := match opd ⟨[], sl20⟩ (.tmp 14) with | some ⟨g⟩ => g | none => fun _ _ => .unknown
theorem g20_is : opd ⟨[], sl20⟩ (.tmp 14) = some ⟨g20⟩ := by kernel_rfl
theorem g20_fn : g20 [] fr20 = .func 110 [] [.ptr 4 0] := by kernel_rfl
def kM : List (Nat × SObj) := [(5, .deferred true)]
def fe20 : List SV := frN sl20 [(5, .ptr 3 0), (4, .ptr 2 0), (3, .ptr 1 0), (2, .ptr 0 0)]
def howM : Bool → Nat | false => 0 | true => 2
theorem r_e : (m : Bool) → cutFK (howM m) [5] fe20 plE (kM.map (·.1)) 600 (Sym.endRange fr20 [5] 6 ⟨heapOf (plE ++ kOf m), 600, 0⟩) = (true, kM.map fun p => some p.2)
  | true => by kernel_rfl
  | false => by kernel_rfl
theorem r_w (b x at_ ops : Nat) (v1 : Int) : (m : Bool) → cutFK 1 [5] fe20 plE (kM.map (·.1)) 600 (runChain (envB 0 (rd m b x at_ ops v1) []) (knowB 0 (rd m b x at_ ops v1) []) 40 51 sl20 (((flatC bd20).drop 5).take 4) (cutStD fe20 [5] (plE ++ kM) 600)) = (true, kM.map fun p => some p.2)
  | true => by kernel_rfl
  | false => by kernel_rfl
/-- What is handed back: the dispatcher, the operations, how far it was read, no error. -/
def outR : SV := .tuple [.ptr 266 0, .oslice 452 200 0 6, iv3, .int .i64 0]
theorem r_l (b x at_ ops : Nat) (v1 : Int) : (m : Bool) → leftFK outR (core ++ own 452 []) [] 600 (envB 0 (rd m b x at_ ops v1) []) sl20 Tryz.f20.results.toList (cutStD fe20 [5] (plE ++ kM) 600) = (true, [])
  | true => by kernel_rfl
  | false => by kernel_rfl
theorem read_calls (m : Bool) (b x : Nat) : CallsT (envB 0 (rE m b x) []) 20 [.row 0] [] 0 outR ⟨heapOf (core ++ own 452 []), 600, 0⟩ := by
  have key : CallsT (envB 0 (rE m b x) []) 20 [.row 0] [] 0 outR ⟨heapOf ((core ++ own 452 []) ++ []), 600, 0⟩ := by
    refine callsT_F (E := envB 0 (rE m b x) []) (objs1 := (core ++ own 452 []) ++ []) (N := 600) (fn := Tryz.f20) (body := bd20) (sl := sl20) Tryz.func20 bd20_is name_20 (by rw [nt20]; decide) (by decide) fun ρ0 W0 a hok hfr hA => wpL_whole ?_
    rw [nt20] at hA
    have hB : Bytes (rE m b x) W0 := bytes_of hok.glob.lies
    have hap : ApartF (envB 0 (rE m b x) []) ρ0 ⟨heapOf [], 0, 0⟩ := hok.glob.apart
    refine walkK (E := envB 0 (rE m b x) []) (K := knowB 0 (rE m b x) []) (d := 40) 4 (knowsB ok_0 []) (numB ok_0 hnil) (kept := []) (next := 5) rfl (by decide) (r_a b x 0 10000 0 m) hA (liesB ok_0 hB _) hap fun a1 w1 h1 => ?_
    rw [List.append_nil] at h1
    show wpL _ _ ((flatC bd20).drop 4) _ _ _
    rw [lp20, rg20_is]
    have fin : ∀ a2 w2, AtF (sigB (rE m b x)) ρ0 ⟨heapOf [], 0, 0⟩ 600 51 sl20 fe20 [5] (plE ++ kM) 600 W0 a2 w2 → wpL Tryz.prog 0 ((flatC bd20).drop 5) (bodyPostM Fence.wide 0 Tryz.prog Tryz.f20 (RX.Res (envB 0 (rE m b x) []) ρ0 ⟨heapOf [], 0, 0⟩ W0 ⟨heapOf ((core ++ own 452 []) ++ []), 600, 0⟩ outR)) a2 w2 := fun a2 w2 h2 => by
      refine walkK (E := envB 0 (rE m b x) []) (K := knowB 0 (rE m b x) []) (d := 40) 4 (knowsB ok_0 []) (numB ok_0 hnil) (kept := kM) (next := 600) (by kernel_rfl) (Nat.le_refl _) (r_w b x 0 10000 0 m) h2 (liesB ok_0 hB _) hap fun a3 w3 h3 => ?_
      show LeavesInM _ _ _ _ _ _ _ _ _
      exact leavesF (E := envB 0 (rE m b x) []) (kept := []) (plain := core ++ own 452 []) (numB ok_0 hnil) rfl (r_l b x 0 10000 0 m) hok hfr h3
    refine wpIn_block ?_
    cases m with
    | false =>
      refine rangeFH (E := envB 0 (rE false b x) []) (how := 0) (objs := pl0) (objs3 := plE ++ kOf false) (plain := plE) (kept := kM) (n0 := 5) (N3 := 600) (next := 600) (N := 600) (numB ok_0 hnil) g20_is g20_fn recs_calls (by kernel_rfl) (Nat.le_refl _) (r_e false) h1 (liesB ok_0 hB _) hap fun a2 w2 h2 => ?_
      exact fin _ _ h2
    | true =>
      refine rangeFH (E := envB 0 (rE true b x) []) (how := 2) (objs := pl0) (objs3 := plE ++ kOf true) (plain := plE) (kept := kM) (n0 := 5) (N3 := 600) (next := 600) (N := 600) (numB ok_0 hnil) g20_is g20_fn recs_calls (by kernel_rfl) (Nat.le_refl _) (r_e true) h1 (liesB ok_0 hB _) hap fun a2 w2 h2 => ?_
      exact fin _ _ h2
  rw [List.append_nil] at key
  exact key
end Go.Proofs.YtcbkglclienegaaGreatDoor

/- Opening a journal, and its operations alone: calls of both. -/
set_option linter.all false
set_option maxRecDepth 100000
namespace Go.Proofs.YtcbkglclienegaaGreatDoor
open Go.RX Go.RX.Sym

theorem name_9 (vals : Array Value) (w : World) : (callFunc 9 vals).run Tryz.prog w = .ok (.enter 9 vals) w := by kernel_rfl
theorem name_10 (vals : Array Value) (w : World) : (callFunc 10 vals).run Tryz.prog w = .ok (.enter 10 vals) w := by kernel_rfl
noncomputable def bd9 : Code := match Tryz.f9.body with | some c => c | none => .skip
theorem bd9_is : Tryz.f9.body = some bd9 := by kernel_rfl
theorem nt9 : Tryz.f9.ntmps = 45 := by kernel_rfl
def sl9 : List Nat := [24, 23, 22, 21, 19, 10, 8, 7, 6, 5, 4, 3, 2, 0]
theorem lp9 : (flatC bd9).drop 5 = .block 0 (.loop (inC [5] bd9)) :: (flatC bd9).drop 6 := by kernel_rfl
noncomputable def bd10 : Code := match Tryz.f10.body with | some c => c | none => .skip
theorem bd10_is : Tryz.f10.body = some bd10 := by kernel_rfl
theorem nt10 : Tryz.f10.ntmps = 17 := by kernel_rfl
def sl10 : List Nat := [7, 5, 3, 2, 0]
/-- Reading is known. -/
def updR : List (Nat × Option SObj) := (core ++ own 452 []).map fun p => (p.1, some p.2)
noncomputable def knowM (m : Bool) (b x : Nat) : Nat → List SV → SW → Option (SV × SW) := memoCall 20 [.row 0] [] 0 outR updR 600 (knowB 0 (rE m b x) [])
theorem updR_ok : updOk ⟨heapOf (core ++ own 452 []), 600, 0⟩ updR = true := by kernel_rfl
theorem knowsM {m : Bool} {b x : Nat} : Known (envB 0 (rE m b x) []) (knowM m b x) := known_memo (T' := ⟨heapOf (core ++ own 452 []), 600, 0⟩) (read_calls m b x) updR_ok rfl (knowsB ok_0 [])
/-- The operations, and the error. -/
def outO : SV := .tuple [.oslice 452 200 0 6, .int .i64 0]
theorem p_a (b x : Nat) : (m : Bool) → cutFK 1 [] (frN sl10 [(3, .int .i64 0), (2, .oslice 452 200 0 6)]) (own 452 []) [] 600 (runChain (envB 0 (rE m b x) []) (knowM m b x) 40 17 sl10 ((flatC bd10).take 4) (cutStD (frameOf [.row 0] sl10) [] [] 0)) = (true, [])
  | true => by kernel_rfl
  | false => by kernel_rfl
theorem p_l (b x : Nat) : (m : Bool) → leftFK outO (own 452 []) [] 600 (envB 0 (rE m b x) []) sl10 Tryz.f10.results.toList (cutStD (frN sl10 [(3, .int .i64 0), (2, .oslice 452 200 0 6)]) [] (own 452 [] ++ []) 600) = (true, [])
  | true => by kernel_rfl
  | false => by kernel_rfl
theorem ops_calls (m : Bool) (b x : Nat) : CallsT (envB 0 (rE m b x) []) 10 [.row 0] [] 0 outO ⟨heapOf (own 452 [] ++ []), 600, 0⟩ := by
  refine callsT_F (E := envB 0 (rE m b x) []) (objs1 := own 452 [] ++ []) (N := 600) (fn := Tryz.f10) (body := bd10) (sl := sl10) Tryz.func10 bd10_is name_10 (by rw [nt10]; decide) (by decide) fun ρ0 W0 a hok hfr hA => wpL_whole ?_
  rw [nt10] at hA
  have hB : Bytes (rE m b x) W0 := bytes_of hok.glob.lies
  have hap : ApartF (envB 0 (rE m b x) []) ρ0 ⟨heapOf [], 0, 0⟩ := hok.glob.apart
  refine walkK (E := envB 0 (rE m b x) []) (K := knowM m b x) (d := 40) 4 knowsM (numB ok_0 hnil) (kept := []) (next := 600) rfl (Nat.le_refl _) (p_a b x m) hA (liesB ok_0 hB _) hap fun a1 w1 h1 => ?_
  show LeavesInM _ _ _ _ _ _ _ _ _
  exact leavesF (E := envB 0 (rE m b x) []) (kept := []) (plain := own 452 []) (numB ok_0 hnil) rfl (p_l b x m) hok hfr h1
/-- Opening: the pieces. -/
def frP (i : SV) : List SV := frN sl9 [(23, i), (22, .sint .i64 (.len 200)), (21, .oslice 452 200 0 6), (7, iv3), (6, .oslice 452 200 0 6), (5, .ptr 266 0), (0, .row 0)]
def coreP : List (Nat × SObj) := core ++ own 452 []
theorem o_a (b x : Nat) : (m : Bool) → cutFK 0 [] (frP (.int .i64 0)) coreP [] 600 (runChain (envB 0 (rE m b x) []) (knowM m b x) 40 45 sl9 ((flatC bd9).take 5) (cutStD (frameOf [.row 0] sl9) [] [] 0)) = (true, [])
  | true => by kernel_rfl
  | false => by kernel_rfl
def fO : List Fact := [⟨true, .var 1, .lit 0, false⟩, ⟨true, .var 1, .len 200, true⟩]
noncomputable def run9 (r : Rd) (F : List Fact) : Option Out := runCode (envB 0 r F) (knowB 0 r F) 40 45 sl9 (inC [5] bd9) (cutStD (frP iv1) [] coreP 600)
theorem o_l (b x at_ ops : Nat) (v1 : Int) : (m : Bool) → cutFK 0 [] (frP (.sint .i64 (.bin .add .i64 (.var 1) (.lit 1)))) coreP [] 615 (run9 (rd m b x at_ ops v1) fO) = (true, [])
  | true => by kernel_rfl
  | false => by kernel_rfl
theorem o_x (b x at_ ops : Nat) (v1 : Int) : (m : Bool) → cutFK 2 [] (frP iv1) coreP [] 600 (run9 (rd m b x at_ ops v1) [⟨true, .var 1, .len 200, false⟩]) = (true, [])
  | true => by kernel_rfl
  | false => by kernel_rfl
def frQ : List SV := frN sl9 [(7, iv3), (6, .oslice 452 200 0 6), (5, .ptr 266 0), (0, .row 0)]
def jO : List (Nat × SObj) := [(602, .cells [.oslice 601 9 0 1, .sint .i64 (.len 200), .ptr 266 0] 116)]
def lftO : SV := .sint .i64 (.bin .sub .i64 (.len 0) (.var 3))
theorem o_e (b x at_ ops : Nat) (v1 : Int) : (m : Bool) → cutFK 1 [] (frN sl9 [(4, .int .i64 0), (3, lftO), (2, .ptr 602 0)]) jO [] 603 (runChain (envB 0 (rd m b x at_ ops v1) []) (knowB 0 (rd m b x at_ ops v1) []) 40 45 sl9 (((flatC bd9).drop 6).take 2) (cutStD frQ [] coreP 600)) = (true, [])
  | true => by kernel_rfl
  | false => by kernel_rfl
/-- The journal; how many bytes were left; no error. -/
def outJ : SV := .tuple [.ptr 602 0, lftO, .int .i64 0]
theorem o_v (b x at_ ops : Nat) (v1 : Int) : (m : Bool) → leftFK outJ jO [] 700 (envB 0 (rd m b x at_ ops v1) []) sl9 Tryz.f9.results.toList (cutStD (frN sl9 [(4, .int .i64 0), (3, lftO), (2, .ptr 602 0)]) [] (jO ++ []) 603) = (true, [])
  | true => by kernel_rfl
  | false => by kernel_rfl
def sO (e : IE) : Sa := { rs := [0, 200], θ := [(1, e)] }
theorem s_oa : saFr (sO (.lit 0)) 600 (frP iv1) (frP (.int .i64 0)) = true ∧ saObjs (sO (.lit 0)) 600 (coreP ++ []) coreP = true := ⟨by kernel_rfl, by kernel_rfl⟩
theorem s_oe : saFr (sO (.lit 0)) 600 frQ (frP iv1) = true ∧ saObjs (sO (.lit 0)) 600 (coreP ++ []) coreP = true := ⟨by kernel_rfl, by kernel_rfl⟩
theorem s_ol : saFr (sO (.bin .add .i64 (.var 1) (.lit 1))) 600 (frP iv1) (frP (.sint .i64 (.bin .add .i64 (.var 1) (.lit 1)))) = true ∧ saObjs (sO (.bin .add .i64 (.var 1) (.lit 1))) 600 (coreP ++ []) coreP = true := ⟨by kernel_rfl, by kernel_rfl⟩
section
variable {m : Bool} {b x : Nat}
/-- The operation i is at hand. -/
def ro (m : Bool) (b x i : Nat) : Rd := rd m b x 0 10000 i
theorem puts_o {r r' : Rd} {e : IE} (h1 : e.val (sigB r) = r'.v1) (h3 : r'.v3 = r.v3) (hb : r'.b = r.b) (hx : r'.x = r.x) (hM : r'.M = r.M) (ho : r'.ops = r.ops) : Puts [0, 200] [(1, e)] (sigB r) (sigB r') where
  var k := (puts_one h1 h3 hb hx hM).var k
  fn := rfl
  row a ha := by
    rcases List.mem_cons.1 ha with rfl | ha
    · exact (puts_one h1 h3 hb hx hM).row 0 (by simp)
    · obtain rfl := List.mem_singleton.1 ha
      show (0, 0, 6, r'.ops) = (0, 0, 6, r.ops)
      rw [ho]
  cell a ha := by
    rcases List.mem_cons.1 ha with rfl | ha
    · rfl
    · obtain rfl := List.mem_singleton.1 ha
      rfl
  obj a ha := rfl
theorem sees_oa : Sees (sO (.lit 0)) (sigB (rE m b x)) (sigB (ro m b x 0)) := ⟨puts_o rfl rfl rfl rfl rfl rfl, fun q hq => (by cases hq), fun p hp => (by cases hp), fun p hp => (by cases hp)⟩
theorem sees_ol {i : Nat} (hi : i < 10000) : Sees (sO (.bin .add .i64 (.var 1) (.lit 1))) (sigB (ro m b x i)) (sigB (ro m b x (i + 1))) :=
  ⟨puts_o (by show opVal .add .i64 (i : Int) 1 = ((i + 1 : Nat) : Int); rw [add_op ⟨by omega, by omega⟩]; omega) rfl rfl rfl rfl rfl, fun q hq => (by cases hq), fun p hp => (by cases hp), fun p hp => (by cases hp)⟩
theorem open_calls (m : Bool) (b x : Nat) : CallsT (envB 0 (ro m b x 0) []) 9 [.row 0] [] 0 outJ ⟨heapOf (jO ++ []), 700, 0⟩ := by
  refine callsT_F (E := envB 0 (ro m b x 0) []) (objs1 := jO ++ []) (N := 700) (fn := Tryz.f9) (body := bd9) (sl := sl9) Tryz.func9 bd9_is name_9 (by rw [nt9]; decide) (by decide) fun ρ0 W0 a hok hfr hA => wpL_whole ?_
  rw [nt9] at hA
  have hB : Bytes (ro m b x 0) W0 := bytes_of hok.glob.lies
  have hap : ApartF (envB 0 (ro m b x 0) []) ρ0 ⟨heapOf [], 0, 0⟩ := hok.glob.apart
  have hBi : ∀ {i : Nat}, Bytes (ro m b x i) W0 := fun {i} => hB.of rfl rfl rfl
  have hBE : Bytes (rE m b x) W0 := hB.of rfl rfl rfl
  refine walkK (E := envB 0 (rE m b x) []) (K := knowM m b x) (d := 40) 5 knowsM (numB ok_0 hnil) (kept := []) (next := 600) rfl (by decide) (o_a b x m) hA (liesB ok_0 hBE _) (apartB hap rfl) fun a1 w1 h1 => ?_
  show wpL _ _ ((flatC bd9).drop 5) _ _ _
  rw [lp9]
  have h1' := AtF.saK (sees_oa (m := m) (b := b) (x := x)) h1 (kept := []) (n0 := 600) (fr := frP iv1) (objs := coreP) (by decide) (by decide) (fun d hd => by cases hd) s_oa.1 s_oa.2 (fun p hp => by cases hp)
  refine wpIn_block (wpIn_loop_n (J := fun k a w => ∃ i, i + k = 10000 ∧ AtF (sigB (ro m b x i)) ρ0 ⟨heapOf [], 0, 0⟩ 700 45 sl9 (frP iv1) [] (coreP ++ []) 600 W0 a w) (N := 10000) ⟨0, rfl, h1'⟩ ?_)
  rintro k a2 w2 ⟨i, hik, h2⟩
  rw [List.append_nil] at h2
  have l2 : (IE.len 200).val (sigB (ro m b x i)) = (10000 : Int) := rfl
  have e1 : (IE.var 1).val (sigB (ro m b x i)) = (i : Int) := rfl
  by_cases hi : i < 10000
  · have hf : ∀ f ∈ fO, f.holds (sigB (ro m b x i)) := hcons (holds_lt (no (by rw [e1]; show ¬ (i : Int) < 0; omega))) (hcons (holds_lt (yes (by rw [e1, l2]; omega))) hnil)
    refine stepF (E := envB 0 (ro m b x i) fO) (K := knowB 0 (ro m b x i) fO) (d := 40) (knowsB ok_0 _) (numB ok_0 hf) (kept := []) (next := 615) rfl (by decide) (o_l b x 0 10000 _ m) h2 (liesB ok_0 hBi _) (apartB hap rfl) fun a3 w3 h3 => ?_
    obtain ⟨k, rfl⟩ : ∃ j, k = j + 1 := ⟨k - 1, by omega⟩
    exact ⟨k, by omega, i + 1, by omega, AtF.saK (sees_ol hi) h3 (kept := []) (n0 := 600) (fr := frP iv1) (objs := coreP) (by decide) (by decide) (fun d hd => by cases hd) s_ol.1 s_ol.2 (fun p hp => by cases hp)⟩
  · have hf : ∀ f ∈ ([⟨true, .var 1, .len 200, false⟩] : List Fact), f.holds (sigB (ro m b x i)) := hcons (holds_lt (no (by rw [e1, l2]; omega))) hnil
    refine stepF (E := envB 0 (ro m b x i) _) (K := knowB 0 (ro m b x i) _) (d := 40) (knowsB ok_0 _) (numB ok_0 hf) (kept := []) (next := 600) rfl (by decide) (o_x b x 0 10000 _ m) h2 (liesB ok_0 hBi _) (apartB hap rfl) fun a3 w3 h3 => ?_
    have s0 : Sees (sO (.lit 0)) (sigB (ro m b x i)) (sigB (ro m b x 0)) := ⟨puts_o rfl rfl rfl rfl rfl rfl, fun q hq => (by cases hq), fun p hp => (by cases hp), fun p hp => (by cases hp)⟩
    have h4 := AtF.saK s0 h3 (kept := []) (n0 := 600) (fr := frQ) (objs := coreP) (by decide) (by decide) (fun d hd => by cases hd) s_oe.1 s_oe.2 (fun p hp => by cases hp)
    rw [List.append_nil] at h4
    show wpL _ _ ((flatC bd9).drop 6) _ _ _
    refine walkK (E := envB 0 (ro m b x 0) []) (K := knowB 0 (ro m b x 0) []) (d := 40) 2 (knowsB ok_0 []) (numB ok_0 hnil) (kept := []) (next := 603) rfl (by decide) (o_e b x 0 10000 0 m) h4 (liesB ok_0 hB _) hap fun a5 w5 h5 => ?_
    show LeavesInM _ _ _ _ _ _ _ _ _
    exact leavesF (E := envB 0 (ro m b x 0) []) (kept := []) (plain := jO) (numB ok_0 hnil) rfl (o_v b x 0 10000 0 m) hok hfr h5
end
end Go.Proofs.YtcbkglclienegaaGreatDoor

/- What Open and Ops hand back, at value level; append of bytes. -/
set_option linter.all false
set_option maxRecDepth 100000
namespace Go.Proofs.YtcbkglclienegaaGreatDoor
open Go.RX Go.RX.Sym

theorem at_602 : (⟨heapOf (jO ++ []), 700, 0⟩ : SW).at 602 = some (.cells [.oslice 601 9 0 1, .sint .i64 (.len 200), .ptr 266 0] 116) := by kernel_rfl
theorem len_200 {r : Rd} : (IE.len 200).val (sigB r) = (r.ops : Int) := rfl
theorem open_val {b x cap n : Nat} {W : World} (hB : Bytes (ro true b x 0) W) (hn : n = total 10001) (hc : n ≤ cap) :
    Calls Tryz.prog 9 #[.slice (some ⟨b, x, none⟩) n cap] W fun e w' => On W w' ∧ ∃ (jb jx pb po : Nat) (v0 : Value) (arr : Array Value) (el : TypeId) (fz : Nat × Nat), e = .returned (.tuple #[.pointer (some ⟨jb, jx, none⟩), .int .i64 15, .int .i64 0]) ∧ W.heap.size ≤ jb ∧ w'.heap[jb]? = some (.cells arr el fz) ∧ (∀ k, k < arr.size → ¬ (fz.1 ≤ k ∧ k < fz.2)) ∧ jx + 3 ≤ arr.size ∧ arr[jx]? = some v0 ∧ arr[jx + 1]? = some (.int .i64 10000) ∧ arr[jx + 2]? = some (.pointer (some ⟨pb, po, none⟩)) := by
  subst hn
  have hrel : VRel (.nil (sigB (ro true b x 0))) (.row 0) (.slice (some ⟨b, x, none⟩) (total 10001) cap) := .row (a := 0) (b := b) (x := x) (sz := 1) rfl hc
  have hcall := (open_calls true b x).call (.nil (sigB (ro true b x 0))) [_] W (empty_ok (numB ok_0 hnil) (liesB ok_0 hB [])) (fun _ _ _ => rfl) (.cons hrel .nil)
  refine callsIn_wide.1 (CallsIn.mono (callsIn_wide.2 hcall) (n := 0) ?_)
  rintro e w' ⟨u, ρ, rfl, hext, hu⟩
  have hσ : ρ.sig = sigB (ro true b x 0) := hext.le.same.symm
  refine ⟨⟨hext.size, hext.os, hext.tape, hext.output, fun b hb => hext.frame b hb fun j p hj hp => by cases hp⟩, ?_⟩
  cases hu with
  | tuple h =>
    cases h with
    | cons h1 h =>
      cases h with
      | cons h2 h =>
        cases h with
        | cons h3 h =>
          cases h
          have h2 := h2.sint_inv
          rw [hσ] at h2
          have e2 : (IE.bin .sub .i64 (.len 0) (.var 3)).val (sigB (ro true b x 0)) = 15 := by
            show opVal .sub .i64 ((total 10001 : Nat) : Int) ((total 10000 : Nat) : Int) = 15
            rw [sub_op ⟨by decide, by decide⟩]
            decide
          rw [e2] at h2
          subst h2
          cases h3
          cases h1 with
          | ptr hp =>
            rename_i jb jo jt
            obtain ⟨ob, hob, hr⟩ := hext.wrel.obj 602 _ _ at_602 hp
            cases hr with
            | cells arr el' fz ht hlen hfz hmk hwh hc =>
              obtain ⟨v0, g0, r0⟩ := hc 0 _ rfl
              obtain ⟨v1, g1, r1⟩ := hc 1 _ rfl
              obtain ⟨v2, g2, r2⟩ := hc 2 _ rfl
              have r1 := r1.sint_inv
              rw [hσ] at r1
              have e1 : (IE.len 200).val (sigB (ro true b x 0)) = 10000 := rfl
              rw [e1] at r1
              subst r1
              cases r2 with
              | ptr hp2 =>
                refine ⟨jb, jo + 0, _, _, v0, arr, el', fz, rfl, ?_, hob, hfz, by rw [ht]; exact hlen, g0, g1, g2⟩
                rcases hext.own 602 _ (by rw [at_602]; simp) hp with ⟨j, q, h1, -⟩ | h1
                · exact absurd (by simp [SW.at, hget, heapOf, Tr.get_nil]) h1
                · exact h1
theorem ops_val {b x cap n : Nat} {W : World} (hB : Bytes (rE false b x) W) (hn : n = total 10000) (hc : n ≤ cap) :
    Calls Tryz.prog 10 #[.slice (some ⟨b, x, none⟩) n cap] W fun e w' => On W w' ∧ ∃ ob ox ocap : Nat, e = .returned (.tuple #[.slice (some ⟨ob, ox, none⟩) 10000 ocap, .int .i64 0]) ∧ 10000 ≤ ocap := by
  subst hn
  have hrel : VRel (.nil (sigB (rE false b x))) (.row 0) (.slice (some ⟨b, x, none⟩) (total 10000) cap) := .row (a := 0) (b := b) (x := x) (sz := 1) rfl hc
  have hcall := (ops_calls false b x).call (.nil (sigB (rE false b x))) [_] W (empty_ok (numB ok_0 hnil) (liesB ok_0 hB [])) (fun _ _ _ => rfl) (.cons hrel .nil)
  refine callsIn_wide.1 (CallsIn.mono (callsIn_wide.2 hcall) (n := 0) ?_)
  rintro e w' ⟨u, ρ, rfl, hext, hu⟩
  have hσ : ρ.sig = sigB (rE false b x) := hext.le.same.symm
  refine ⟨⟨hext.size, hext.os, hext.tape, hext.output, fun b hb => hext.frame b hb fun j p hj hp => by cases hp⟩, ?_⟩
  cases hu with
  | tuple h =>
    cases h with
    | cons h1 h =>
      cases h with
      | cons h2 h =>
        cases h
        cases h2
        cases h1 with
        | oslice h ha hcc ht hnn hk =>
          rename_i ob ox tt b0 x0 n0 ocap
          rw [hσ] at ha
          have ha : ((0 : Nat), (0 : Nat), (6 : Nat), (10000 : Nat)) = (b0, x0, 6, n0) := ha
          simp only [Prod.mk.injEq] at ha
          obtain ⟨-, -, -, rfl⟩ := ha
          exact ⟨_, _, _, rfl, hcc⟩

/-! ### Append -/
theorem drew_onW (w : World) : On w w.drew := ⟨Nat.le_refl _, rfl, rfl, rfl, fun _ _ => rfl⟩
theorem alloc_onW (w : World) (o : Obj) : On w (w.alloc o) := ⟨by show w.heap.size ≤ (w.heap.push o).size; simp, rfl, rfl, rfl, fun k hk => by
  show (w.heap.push o)[k]? = w.heap[k]?
  rw [Array.getElem?_push_lt hk, Array.getElem?_eq_getElem hk]⟩
theorem same_onW {b : Nat} {W0 W w : World} (h : On W0 W) (k : SameBut b W w) (hb : W0.heap.size ≤ b) : On W0 w :=
  ⟨by rw [k.size]; exact h.size, k.os.trans h.os, k.tape.trans h.tape, k.output.trans h.output, fun i hi => (k.block i (by omega)).trans (h.old i hi)⟩
theorem bytes_runW {P : Program} {w : World} {b o k : Nat} {arr : Array Value} {el : TypeId} {fz : Nat × Nat} {c : Nat → Int} (hb : w.heap[b]? = some (.cells arr el fz)) (hc : ∀ j, j < k → arr[o + j]? = some (.int .u8 (c j))) (len cap : Nat) :
    (Builtin.firstCells 1 k (.slice (some ⟨b, o, none⟩) len cap)).run P w = .ok ((List.range k).map fun j => Value.int .u8 (c j)).toArray w := by
  have h := run_loadCells_win P hb ((List.range k).map fun j => Value.int .u8 (c j)) (fun j v hv => by
    rw [List.getElem?_map] at hv
    cases hr : (List.range k)[j]? with
    | none => rw [hr] at hv; cases hv
    | some i =>
      rw [hr] at hv
      have hj : j < k := by simpa using (List.getElem?_eq_some_iff.1 hr).1
      rw [List.getElem?_range hj] at hr
      cases hr
      simp only [Option.map_some, Option.some.injEq] at hv
      rw [← hv]
      exact hc j hj)
  simp only [List.length_map, List.length_range] at h
  simp only [Builtin.firstCells, Nat.mul_one]
  exact h
/-- Bytes that lie in a world. -/
def LieB (W : World) (b x n : Nat) (f : Nat → Int) : Prop := ∃ (arr : Array Value) (el : TypeId) (fz : Nat × Nat), W.heap[b]? = some (.cells arr el fz) ∧ ∀ i, i < n → arr[x + i]? = some (.int .u8 (f i))
theorem LieB.on {W W' : World} {b x n : Nat} {f : Nat → Int} (h : LieB W b x n f) (o : On W W') : LieB W' b x n f := by
  obtain ⟨arr, el, fz, h1, h2⟩ := h
  exact ⟨arr, el, fz, by rw [o.old b (Array.getElem?_eq_some_iff.1 h1).1]; exact h1, h2⟩
theorem append_ownW {P : Program} {t0 t1 ty elem : TypeId} {u : TypeDesc} {i : TypeInfo} {z : Value} {ts : Array TypeId} (h0 : ts[0]? = some t0) (h1 : ts[1]? = some t1) (hd : P.underlying t0 = some (.slice elem)) (hu : P.underlying t1 = some u) (hi : P.info? elem = some i) (hzr : i.zero = some z) (hnu : ∀ k, u ≠ .int k) (hsz : i.size = 1) (hby : i.bytes = 1)
    {W0 W : World} {b x cap n : Nat} {at_ : Nat → Int} (hcap : n ≤ cap) {arr : Array Value} {el : TypeId} {fz : Nat × Nat} (g1 : W.heap[b]? = some (.cells arr el fz)) (gz : ∀ k, k < arr.size → ¬ (fz.1 ≤ k ∧ k < fz.2)) (g2 : x + cap ≤ arr.size) (g3 : ∀ i, i < n → arr[x + i]? = some (.int .u8 (at_ i)))
    {o2 k cap2 : Nat} {c : Nat → Int} (hc : ∀ j, j < k → arr[o2 + j]? = some (.int .u8 (c j))) (hsm : n ≤ 1000000) (hsk : k ≤ 1000000) (hon : On W0 W) (hold : W0.heap.size ≤ b) :
    ∃ b' x' cap' w', (Builtin.append_ ts ty #[.slice (some ⟨b, x, none⟩) n cap, .slice (some ⟨b, o2, none⟩) k cap2]).run P W = .ok (.slice (some ⟨b', x', none⟩) (n + k) cap') w' ∧ n + k ≤ cap' ∧ LieB w' b' x' (n + k) (fun i => if i < n then at_ i else c (i - n)) ∧ LieB w' b x n at_ ∧ On W0 w' := by
  have hl : (Builtin.lenOf (.slice (some ⟨b, o2, none⟩) k cap2)).run P W = .ok k W := rfl
  have hget : ∀ j, j < k → ((List.range k).map fun j => Value.int .u8 (c j))[j]? = some (.int .u8 (c j)) := fun j hj => by
    rw [List.getElem?_map, List.getElem?_range hj]; rfl
  by_cases hroom : n + k ≤ cap
  · obtain ⟨w', hrun, hsame, arr', hb', hs', hk'⟩ := run_storeCells_win P b (x + n) el fz ((List.range k).map fun j => Value.int .u8 (c j)) 0 arr W g1 gz (by simp; omega) (fun v hv => by
      obtain ⟨j, -, rfl⟩ := List.mem_map.1 hv
      rfl)
    have hall : ∀ i, i < n + k → arr'[x + i]? = some (.int .u8 (if i < n then at_ i else c (i - n))) := fun i hi => by
      rw [hk']
      simp only [Nat.add_zero, List.length_map, List.length_range]
      by_cases hin : i < n
      · rw [if_neg (by omega), if_pos hin]; exact g3 i hin
      · rw [if_pos (by omega), if_neg hin, show x + i - (x + n) = i - n by omega]; exact hget _ (by omega)
    refine ⟨b, x, cap, w', run_append_room' (E := { P := P, G := fun _ => none }) (base := some _) h0 h1 hd hu hi hnu hl hroom (new := ((List.range k).map fun j => Value.int .u8 (c j)).toArray) ?_ ?_, hroom, ⟨arr', el, fz, hb', hall⟩, ⟨arr', el, fz, hb', fun i hi => ?_⟩, same_onW hon hsame hold⟩
    · rw [hsz]; exact bytes_runW g1 hc _ _
    · simp only [hsz, Nat.mul_one]
      rw [add_win]
      exact hrun
    · rw [hall i (by omega), if_pos hi]
  · have hge := grownCap_ge W (n + k) cap elem
    have hbd : W.drew.heap[b]? = some (.cells arr el fz) := g1
    have ho1 := bytes_runW (P := P) (o := x) (k := n) (c := at_) hbd g3 n cap
    have ho2 := bytes_runW (P := P) (o := o2) (k := k) (c := c) hbd hc k cap2
    rw [← hsz] at ho1 ho2
    have hr := run_append_grow' (E := { P := P, G := fun _ => none }) (ty := ty) (base := some ⟨b, x, none⟩) (cap := cap) (xv := .slice (some ⟨b, o2, none⟩) k cap2) h0 h1 hd hu hi hzr hnu hl (by omega) (by rw [hby]; omega) (.inr trivial) (w := W) ho1 ho2
    refine ⟨W.heap.size, 0, _, _, hr, hge, ⟨((List.range n).map fun j => Value.int .u8 (at_ j)).toArray ++ ((List.range k).map fun j => Value.int .u8 (c j)).toArray ++ Builtin.zeroCells z.cells (grownCap W (n + k) cap elem - (n + k)), elem, (0, 0), ?_, fun i hi => ?_⟩, LieB.on (W := W) ⟨arr, el, fz, g1, g3⟩ ((drew_onW W).trans (alloc_onW _ _)), hon.trans ((drew_onW W).trans (alloc_onW _ _))⟩
    · show (W.drew.heap.push _)[W.heap.size]? = _
      rw [show W.heap.size = W.drew.heap.size from rfl, Array.getElem?_push_size]
    · rw [Nat.zero_add, ← Array.getElem?_toList]
      simp only [Array.toList_append, List.toList_toArray, List.append_assoc]
      by_cases hin : i < n
      · rw [List.getElem?_append_left (by simpa using hin), if_pos hin, List.getElem?_map, List.getElem?_range hin]; rfl
      · rw [List.getElem?_append_right (by simp; omega), if_neg hin, List.getElem?_append_left (by simp; omega)]
        simp only [List.length_map, List.length_range]
        exact hget _ (by omega)
end Go.Proofs.YtcbkglclienegaaGreatDoor
