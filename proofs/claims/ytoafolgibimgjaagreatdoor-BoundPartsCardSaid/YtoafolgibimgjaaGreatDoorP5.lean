/- The round of load's loop, as a step of load's state. -/
import Derived.Test.YtoafolgibimgjaaGreatDoorP2
import Derived.Test.YtoafolgibimgjaaGreatDoorP3
import Derived.Test.YtoafolgibimgjaaGreatDoorP4
import Derived.Test.YtoafolgibimgjaaGreatDoorP1
set_option linter.all false
set_option maxRecDepth 100000
namespace Go.Proofs.YtoafolgibimgjaaGreatDoor
open Go.RX Go.RX.Sym

/-! ### Two chains, one inside the other -/
theorem runChain_norm {E : Env} {K : Nat → List SV → SW → Option (SV × SW)} {d n : Nat} {sl : List Nat} : ∀ (cs1 cs2 : List Code) (st : St) (out : Out), runChain E K d n sl (cs1 ++ cs2) st = some out → out.how = .normal → ∃ st1, runChain E K d n sl cs1 st = some (.norm st1) ∧ runChain E K d n sl cs2 st1 = some out
  | [], cs2, st, out, h, _ => ⟨st, rfl, h⟩
  | c :: cs1, cs2, st, out, h, hh => by
    simp only [List.cons_append, runChain] at h ⊢
    cases hr : runCode E K d n sl c st with
    | none => rw [hr] at h; cases h
    | some o1 =>
      rw [hr] at h
      cases o1 with
      | norm st1 => exact runChain_norm cs1 cs2 st1 out h hh
      | ret st1 => simp only [Option.some.injEq] at h; subst h; cases hh
      | exit i st1 => simp only [Option.some.injEq] at h; subst h; cases hh
theorem chainF2 {E : Env} {K : Nat → List SV → SW → Option (SV × SW)} (k1 k2 : Nat) (hK : Known E K) (hn : NumOk E) {d n m : Nat} {sl : List Nat} {c X Y : Code} (hc : rest k1 c = .seq X Y) {fr fr1 : List SV} {ds ds1 : List Nat} {objs plain kept : List (Nat × SObj)} {n0 next N : Nat} (hk : keptLt next kept = true) (hN : next ≤ N)
    (h : cutFK 0 ds1 fr1 plain (kept.map (·.1)) next (runChain E K d n sl (heads k1 c ++ heads k2 X) (cutStD fr ds objs n0)) = (true, kept.map fun p => some p.2))
    {ρ0 : Ren} {S0 : SW} {W0 w : World} {a : Act} (hA : AtF E.sig ρ0 S0 N n sl fr ds objs n0 W0 a w) (hL : RX.Lies E W0) (hAp : ApartF E ρ0 S0) {Q : Exit → Act → World → Prop}
    (hQ : ∀ a' w', AtF E.sig ρ0 S0 N n sl fr1 ds1 (plain ++ kept) next W0 a' w' → (rest k2 X).wpIn Fence.wide m E.P (Exit.then (Y.wpIn Fence.wide m E.P Q) Q) a' w') : c.wpIn Fence.wide m E.P Q a w := by
  obtain ⟨out, ho, hhow, hdef, hle, hnext, hobjs⟩ := cutF_some h hk
  have hA' := hA
  obtain ⟨-, -, -, -, -, -, hframe, hs, ρ, hσ, hd, hf, hw, hkeep, hown, hfree, ht⟩ := hA'
  have hst := okF hn hL hAp hframe hs hσ hd hf hw hown ht
  have hhow : out.how = .normal := hhow
  obtain ⟨st1, h1, h2⟩ := runChain_norm _ _ _ _ ho hhow
  have hle2 := runChain_grow hK _ _ _ h2
  have := chain_soundF hK (m := m) (last := rest k1 c) (Q := Q) (heads k1 c) _ _ h1 (Nat.le_trans hle2 (Nat.le_trans hnext hN)) ρ a w hst hfree fun ρ1 a1 w1 e1 s1 => by
    show (rest k1 c).wpIn Fence.wide m E.P Q a1 w1
    rw [hc]
    refine wpIn_seq ?_
    have := chain_soundF hK (m := m) (last := rest k2 X) (Q := Exit.then (Y.wpIn Fence.wide m E.P Q) Q) (heads k2 X) _ _ h2 (Nat.le_trans hnext hN) ρ1 a1 w1 s1 (e1.fresh_right hfree) fun ρ2 a2 w2 e2 s2 => by
      rw [hhow]
      exact hQ a2 w2 (hdef ▸ atF_of hA hσ hkeep hown hfree (e1.trans e2) s2 hle hnext hN hobjs)
    rw [seqs_heads] at this
    exact this
  rw [seqs_heads] at this
  exact this

/-! ### The round's cases -/
theorem zall_get {σ : Sig} {l : List Cs} (h : zAll σ l = zYes l) {c : Cs} (hc : c ∈ l) : c.chk (11 + 2 * c.m) (zRun σ c.facts objB) = (true, keptL.map fun p => some p.2) := List.map_inj_left.1 h c hc
theorem mem_bools : ∀ b : Bool, b ∈ bools
  | true => by simp [bools]
  | false => by simp [bools]
theorem mem_combos {m j : Nat} {js : List Nat} (hj : j ∈ js) (a b l : Bool) : (⟨m, j, a, b, l⟩ : Cs) ∈ combos m js :=
  List.mem_flatMap.2 ⟨j, hj, List.mem_flatMap.2 ⟨a, mem_bools a, List.mem_flatMap.2 ⟨b, mem_bools b, List.mem_map.2 ⟨l, mem_bools l, rfl⟩⟩⟩⟩
theorem mem_js : ∀ j, j ≤ 17 → j ∈ jsA ∨ j ∈ jsB ∨ j ∈ jsC := by decide
theorem z_case (σ : Sig) : ∀ (c : Cs), 1 ≤ c.m → c.m ≤ 6 → c.j ≤ 17 → c.chk (11 + 2 * c.m) (zRun σ c.facts objB) = (true, keptL.map fun p => some p.2)
  | ⟨m, j, a, b, l⟩, h1, h6, hj => by
    have h1 : 1 ≤ m := h1
    have h6 : m ≤ 6 := h6
    rcases mem_js j hj with g | g | g
    · have g := mem_combos (m := m) g a b l
      rcases (by omega : m = 1 ∨ m = 2 ∨ m = 3 ∨ m = 4 ∨ m = 5 ∨ m = 6) with e | e | e | e | e | e <;> subst e
      · exact zall_get (z_1A σ) g
      · exact zall_get (z_2A σ) g
      · exact zall_get (z_3A σ) g
      · exact zall_get (z_4A σ) g
      · exact zall_get (z_5A σ) g
      · exact zall_get (z_6A σ) g
    · have g := mem_combos (m := m) g a b l
      rcases (by omega : m = 1 ∨ m = 2 ∨ m = 3 ∨ m = 4 ∨ m = 5 ∨ m = 6) with e | e | e | e | e | e <;> subst e
      · exact zall_get (z_1B σ) g
      · exact zall_get (z_2B σ) g
      · exact zall_get (z_3B σ) g
      · exact zall_get (z_4B σ) g
      · exact zall_get (z_5B σ) g
      · exact zall_get (z_6B σ) g
    · have g := mem_combos (m := m) g a b l
      rcases (by omega : m = 1 ∨ m = 2 ∨ m = 3 ∨ m = 4 ∨ m = 5 ∨ m = 6) with e | e | e | e | e | e <;> subst e
      · exact zall_get (z_1C σ) g
      · exact zall_get (z_2C σ) g
      · exact zall_get (z_3C σ) g
      · exact zall_get (z_4C σ) g
      · exact zall_get (z_5C σ) g
      · exact zall_get (z_6C σ) g
def pairsF : List (Nat × Bool) := [(1, false), (1, true), (2, false), (2, true), (3, false), (3, true), (4, false), (4, true), (5, false), (5, true), (6, false), (6, true)]
theorem z_firstP (σ : Sig) : pairsF.map (fun p => firstChk p.1 p.2 (zRun σ (firstF p.1 p.2) objA)) = pairsF.map (fun _ => (true, keptL.map fun p => some p.2)) := z_first σ
theorem z_one (σ : Sig) {m : Nat} (h1 : 1 ≤ m) (h6 : m ≤ 6) (l : Bool) : firstChk m l (zRun σ (firstF m l) objA) = (true, keptL.map fun p => some p.2) := by
  have h : (m, l) ∈ pairsF := by
    rcases (by omega : m = 1 ∨ m = 2 ∨ m = 3 ∨ m = 4 ∨ m = 5 ∨ m = 6) with e | e | e | e | e | e <;> subst e <;> cases l <;> decide
  exact List.map_inj_left.1 (z_firstP σ) (m, l) h
end Go.Proofs.YtoafolgibimgjaaGreatDoor

/- The numbers of the round: what its cases ask. -/
set_option linter.all false
set_option maxRecDepth 100000
namespace Go.Proofs.YtoafolgibimgjaaGreatDoor
open Go.RX Go.RX.Sym

/-- The named numbers, of a state of load. -/
def cS (c0 : Nat → Int) (s : LS) : Nat → Int := fun k => match k with | 7 => s.best | 8 => s.pos | 9 => (s.first : Int) | k => c0 k
def lz (c0 : Nat → Int) (s : LS) (nx mn i d : Int) : List Int := lv s.t nx mn i d (cS c0 s)
theorem heapOf_of {n m : Nat} : ∀ {l : List (Nat × SObj)} {i : Nat} {x : SObj}, (l.map (·.1)).Nodup → (i, x) ∈ l → (SW.mk (heapOf l) n m).at i = some x
  | [], i, x, _, h => by cases h
  | (id, o) :: l, i, x, hn, h => by
    rw [at_of_heap]
    simp only [heapOf]
    rw [Tr.get_set]
    simp only [List.map_cons, List.nodup_cons] at hn
    rcases List.mem_cons.1 h with e | h
    · cases e
      rw [if_pos rfl]
    · have hne : i ≠ id := fun e => hn.1 (List.mem_map.2 ⟨(i, x), h, e⟩)
      rw [if_neg fun e => hne (path_inj e)]
      have := heapOf_of (n := n) (m := m) hn.2 h
      rw [at_of_heap] at this
      exact this

section
variable {v : Jb} {c0 : Nat → Int} {s : LS} {nx mn i d : Int}
theorem z0 : (lz c0 s nx mn i d).getD 0 0 = s.t := g0
theorem z1 : (lz c0 s nx mn i d).getD 1 0 = nx := g1
theorem z2 : (lz c0 s nx mn i d).getD 2 0 = mn := g2
theorem z5 : (lz c0 s nx mn i d).getD 5 0 = c0 5 := g5
theorem z6 : (lz c0 s nx mn i d).getD 6 0 = c0 6 := by unfold lz; rw [lv_get]; rfl
theorem z7 : (lz c0 s nx mn i d).getD 7 0 = s.best := by unfold lz; rw [lv_get]; rfl
theorem z8 : (lz c0 s nx mn i d).getD 8 0 = s.pos := by unfold lz; rw [lv_get]; rfl
theorem z9 : (lz c0 s nx mn i d).getD 9 0 = (s.first : Int) := by unfold lz; rw [lv_get]; rfl
theorem z_rest {s' : LS} {nx' mn' i' d' : Int} {k : Nat} (h4 : 4 ≤ k) (h : k < 7 ∨ 10 < k) : (lz c0 s' nx' mn' i' d').getD k 0 = (lz c0 s nx mn i d).getD k 0 := by
  unfold lz
  rw [lv_get, lv_get]
  split
  · unfold lvF
    split <;> first | omega | (unfold cS; split <;> first | omega | rfl)
  · rfl

theorem v_step : ∀ j, s.first + j ≤ 1000000 → (stepE j).val (sigJ v (lz c0 s nx mn i d) s.L) = ((s.first + j : Nat) : Int)
  | 0, _ => z9 (c0 := c0) (s := s) (nx := nx) (mn := mn) (i := i) (d := d)
  | j + 1, h => by
    show opVal .add .i64 ((stepE j).val (sigJ v (lz c0 s nx mn i d) s.L)) 1 = _
    rw [v_step j (by omega), add_op ⟨by omega, by omega⟩]
    omega
theorem v_len1 : (IE.len 1).val (sigJ v (lz c0 s nx mn i d) s.L) = (s.L.length : Int) := rfl
theorem v_lens {m : Nat} (h : s.L.length + m ≤ 1000000) : (lensE m).val (sigJ v (lz c0 s nx mn i d) s.L) = ((s.L.length + m : Nat) : Int) := by
  show opVal .add .i64 (s.L.length : Int) (m : Int) = _
  rw [add_op ⟨by omega, by omega⟩]
  omega
theorem v_sel1 {j : Nat} (h : s.first + j ≤ 1000000) : (IE.sel 1 (stepE j) 0).val (sigJ v (lz c0 s nx mn i d) s.L) = s.L.getD (s.first + j) 0 := by
  show (match (sigJ v (lz c0 s nx mn i d) s.L).cell 1 ((stepE j).val (sigJ v (lz c0 s nx mn i d) s.L)).toNat 0 with | .int _ n => n | _ => 0) = _
  rw [v_step j h, Int.toNat_natCast]
  rfl
theorem v_back (h : Fits (nx - c0 6)) : backE.val (sigJ v (lz c0 s nx mn i d) s.L) = nx - c0 6 := by
  show opVal .sub .i64 ((lz c0 s nx mn i d).getD 1 0) ((lz c0 s nx mn i d).getD 6 0) = _
  rw [z1, z6, sub_op h]
theorem v_cnt {m j : Nat} (h1 : s.L.length + m ≤ 1000000) (h2 : s.first + j ≤ 1000000) (a b l : Bool) : (Cs.cntE ⟨m, j, a, b, l⟩).val (sigJ v (lz c0 s nx mn i d) s.L) = ((s.L.length + m : Nat) : Int) - ((s.first + j : Nat) : Int) := by
  show opVal .sub .i64 ((lensE m).val (sigJ v (lz c0 s nx mn i d) s.L)) ((stepE j).val (sigJ v (lz c0 s nx mn i d) s.L)) = _
  rw [v_lens h1, v_step j h2, sub_op ⟨by omega, by omega⟩]

theorem many_holds : ∀ m : Nat, (m : Int) ≤ mn → ∀ f ∈ manyF m, f.holds (sigJ v (lz c0 s nx mn i d) s.L)
  | 0, _ => hnil
  | m + 1, h => hcons (holds_lt (yes (by
      show (m : Int) < (lz c0 s nx mn i d).getD 2 0
      rw [z2]; omega))) (many_holds m (by omega))
theorem old_holds (hfit : Fits (nx - c0 6)) : ∀ j : Nat, s.first + j ≤ 1000000 → (∀ k, k < j → s.first + k < s.L.length ∧ s.L.getD (s.first + k) 0 ≤ nx - c0 6) → ∀ f ∈ oldF j, f.holds (sigJ v (lz c0 s nx mn i d) s.L)
  | 0, _, _ => hnil
  | j + 1, hb, h => by
    have h0 := h j (by omega)
    refine hcons (holds_lt (no ?_)) (hcons (holds_lt (yes ?_)) (hcons (holds_lt (no ?_)) (old_holds hfit j (by omega) fun k hk => h k (by omega))))
    · rw [v_step j (by omega)]
      show ¬ ((s.first + j : Nat) : Int) < 0
      omega
    · rw [v_step j (by omega), v_len1]
      omega
    · rw [v_sel1 (by omega), v_back hfit]
      omega

theorem case_holds (hfit : Fits (nx - c0 6)) (hw : 1 ≤ c0 6) {m j : Nat} {a b l : Bool} (h1 : s.L.length + m ≤ 1000000) (h2 : s.first + j ≤ 1000000) (hm : (m : Int) = mn) (hp : 1 ≤ m) (hold : ∀ k, k < j → s.first + k < s.L.length ∧ s.L.getD (s.first + k) 0 ≤ nx - c0 6)
    (hall : a = true → s.first + j = s.L.length) (hnot : a = false → s.first + j < s.L.length ∧ nx - c0 6 < s.L.getD (s.first + j) 0) (hbet : s.best < ((s.L.length + m : Nat) : Int) - ((s.first + j : Nat) : Int) ↔ b = true) (hlast : nx = c0 5 ↔ l = true) : ∀ f ∈ (Cs.mk m j a b l).facts, f.holds (sigJ v (lz c0 s nx mn i d) s.L) := by
  intro f hf
  have e2 : IE.val (sigJ v (lz c0 s nx mn i d) s.L) (.var 2) = mn := z2 (c0 := c0) (s := s) (nx := nx) (i := i) (d := d)
  unfold Cs.facts at hf
  rcases List.mem_append.1 hf with hf | hf
  · rcases List.mem_append.1 hf with hf | hf
    · refine hcons (holds_eq (no ?_)) (hcons (holds_lt (no ?_)) (hcons (holds_lt ?_) (hcons (holds_eq ?_) (many_holds m (by omega))))) f hf
      · rw [e2]
        show ¬ mn = 0
        omega
      · rw [e2]
        show ¬ (m : Int) < mn
        omega
      · rw [v_cnt h1 h2]
        show (lz c0 s nx mn i d).getD 7 0 < _ ↔ _
        rw [z7]
        exact hbet
      · show (lz c0 s nx mn i d).getD 1 0 = (lz c0 s nx mn i d).getD 5 0 ↔ _
        rw [z1, z5]
        exact hlast
    · exact old_holds hfit j h2 hold f hf
  · cases a with
    | true =>
      have ha := hall rfl
      refine hcons (holds_lt (no ?_)) (hcons (holds_lt (no ?_)) (hcons (holds_eq (yes ?_)) (hcons (holds_lt (yes ?_)) hnil))) f hf
      · rw [v_step j h2]
        show ¬ ((s.first + j : Nat) : Int) < 0
        omega
      · rw [v_step j h2, v_len1]; omega
      · rw [v_step j h2, v_len1]; omega
      · rw [v_back hfit]
        show _ < (lz c0 s nx mn i d).getD 1 0
        rw [z1]; omega
    | false =>
      obtain ⟨ha, hb⟩ := hnot rfl
      refine hcons (holds_lt (no ?_)) (hcons (holds_lt (yes ?_)) (hcons (holds_lt (yes ?_)) hnil)) f hf
      · rw [v_step j h2]
        show ¬ ((s.first + j : Nat) : Int) < 0
        omega
      · rw [v_step j h2, v_len1]; omega
      · rw [v_sel1 h2, v_back hfit]; exact hb
theorem first_holds (hfit : Fits (nx - c0 6)) (hw : 1 ≤ c0 6) {m : Nat} {l : Bool} (hm : (m : Int) = mn) (hp : 1 ≤ m) (hlast : nx = c0 5 ↔ l = true) : ∀ f ∈ firstF m l, f.holds (sigJ v (lz c0 s nx mn i d) s.L) := by
  have e2 : IE.val (sigJ v (lz c0 s nx mn i d) s.L) (.var 2) = mn := z2 (c0 := c0) (s := s) (nx := nx) (i := i) (d := d)
  refine hcons (holds_eq (no ?_)) (hcons (holds_lt (no ?_)) (hcons (holds_lt (yes ?_)) (hcons (holds_eq ?_) (many_holds m (by omega)))))
  · rw [e2]
    show ¬ mn = 0
    omega
  · rw [e2]
    show ¬ (m : Int) < mn
    omega
  · rw [v_back hfit]
    show _ < (lz c0 s nx mn i d).getD 1 0
    rw [z1]; omega
  · show (lz c0 s nx mn i d).getD 1 0 = (lz c0 s nx mn i d).getD 5 0 ↔ _
    rw [z1, z5]
    exact hlast
end
end Go.Proofs.YtoafolgibimgjaaGreatDoor

/- The round of load's loop, behind the jobs, as a step of load's state. -/
set_option linter.all false
set_option maxRecDepth 100000
namespace Go.Proofs.YtoafolgibimgjaaGreatDoor
open Go.RX Go.RX.Sym

theorem nth_mem {α : Type} {l : List α} {x : α} (k : Nat) (h : l[k]? = some x) : x ∈ l := List.mem_of_getElem? h
theorem copies_len (x : SV) : ∀ m, (copiesOf x m).length = m
  | 0 => rfl
  | m + 1 => by simp [copiesOf, copies_len x m]
theorem copies_get (x : SV) : ∀ m i, i < m → (copiesOf x m)[i]? = some x
  | m + 1, 0, _ => rfl
  | m + 1, i + 1, h => by simpa [copiesOf] using copies_get x m i (by omega)
def objsOf (s : LS) : List (Nat × SObj) := if s.L = [] then objA else objB
theorem objsOf_nil {s : LS} (h : s.L = []) : objsOf s = objA := if_pos h
theorem objsOf_cons {s : LS} (h : s.L ≠ []) : objsOf s = objB := if_neg h

section
variable {v : Jb} {c0 : Nat → Int} {s : LS} {ρ0 : Ren} {S0 : SW} {N : Nat} {W0 : World}

theorem kept_see {σ σ' : Sig} {π : List (Nat × Nat)} {plain : List (Nat × SObj)} {n : Nat} (h0 : S0.next = 11) (hnd : ((plain ++ keptL).map (·.1)).Nodup) : ∀ p ∈ keptL, p.1 < 12 ∧ ∃ j y, RX.numF S0 N π p.1 = some j ∧ (SW.mk (heapOf (plain ++ keptL)) n 0).at j = some y ∧ OVT σ σ' (fun i j => RX.numF S0 N π i = some j) p.2 y := by
  have R : ∀ i, i < 11 → RX.numF S0 N π i = some i := fun i hi => num_low h0 hi
  refine acons ⟨by decide, 9, _, R 9 (by decide), heapOf_of hnd (List.mem_append_right _ (nth_mem 0 rfl)), .mark⟩ ?_
  refine acons ⟨by decide, 10, .loop ldLoop, R 10 (by decide), heapOf_of hnd (List.mem_append_right _ (nth_mem 1 rfl)), .loop rfl rfl rfl rfl rfl rfl rfl (R 9 (by decide)) (frN_of ?_ ldSl)⟩ anil
  exact acons (.ptr (R 1 (by decide))) (acons (.ptr (R 2 (by decide))) (acons (.ptr (R 3 (by decide))) (acons (.ptr (R 4 (by decide))) (acons (.ptr (R 5 (by decide))) anil))))
theorem aapp {α : Type} {P : α → Prop} {l k : List α} (h1 : ∀ p ∈ l, P p) (h2 : ∀ p ∈ k, P p) : ∀ p ∈ l ++ k, P p := fun p hp => by
  rcases List.mem_append.1 hp with h | h
  · exact h1 p h
  · exact h2 p h

/-- Where the loop's head stands; where it has ended. -/
abbrev HeadAt (v : Jb) (c0 : Nat → Int) (ρ0 : Ren) (S0 : SW) (N : Nat) (W0 : World) (s : LS) (a : Act) (w : World) : Prop :=
  AtF (sigJ v (lz c0 s 0 0 0 0) s.L) ρ0 S0 N 71 duSl (frN duSl (hdT (.sint .i64 (.var 0)))) [] (objsOf s ++ keptL) 12 W0 a w
abbrev EndAt (v : Jb) (l : List Int) (ρ0 : Ren) (S0 : SW) (N : Nat) (W0 : World) (a : Act) (w : World) : Prop :=
  AtF (sigJ v l []) ρ0 S0 N 71 duSl (frN duSl []) [] (objE ++ keptL) 12 W0 a w

theorem vz {l L : List Int} {k : Nat} : IE.val (sigJ v l L) (.var k) = l.getD k 0 := rfl

/-- What its end is seen as. -/
theorem see_end {σ : Sig} {l : List Int} {fr : List (Nat × SV)} {plain : List (Nat × SObj)} {x y : SV} {a : Act} {w : World} (h : AtF σ ρ0 S0 N 71 duSl (frN duSl fr) [] (plain ++ keptL) 40 W0 a w) (h0 : S0.next = 11) (hN : 12 ≤ N) (hnd : ((plain ++ keptL).map (·.1)).Nodup) (h3 : (3, SObj.cells [x] 8) ∈ plain) (h4 : (4, SObj.cells [y] 6) ∈ plain)
    (hx : ∀ R, SVT σ (sigJ v l []) R (.sint .i64 (.var 7)) x) (hy : ∀ R, SVT σ (sigJ v l []) R (.sint .i64 (.var 8)) y) : EndAt v l ρ0 S0 N W0 a w := by
  have R : ∀ i, i < 11 → RX.numF S0 N [] i = some i := fun i hi => num_low h0 hi
  refine seeF h [] (by simp) (fun p hp => by cases hp) (by omega) hN (fun d hd => by cases hd) anil ?_
  refine aapp ?_ (kept_see h0 hnd)
  refine acons ⟨by decide, 3, _, R 3 (by decide), heapOf_of hnd (List.mem_append_left _ h3), .cells (.cons (hx _) .nil)⟩ ?_
  exact acons ⟨by decide, 4, _, R 4 (by decide), heapOf_of hnd (List.mem_append_left _ h4), .cells (.cons (hy _) .nil)⟩ anil

theorem nd_A : ((objA ++ keptL).map (·.1)).Nodup := by decide
theorem nd_B : ((objB ++ keptL).map (·.1)).Nodup := by decide
theorem nd_c (c : Cs) {id : Nat} (h : 11 ≤ id) : ((c.plain id ++ keptL).map (·.1)).Nodup := by
  have e : (c.plain id ++ keptL).map (·.1) = [1, 2, 3, 4, 5, 6, 8, id, 9, 10] := rfl
  rw [e]
  simp only [List.nodup_cons, List.mem_cons, List.not_mem_nil, or_false, List.nodup_nil, not_false_eq_true, and_true]
  omega
theorem nd_f {m id k : Nat} (h : 11 ≤ id) : ((firstPlain m id k ++ keptL).map (·.1)).Nodup := by
  have e : (firstPlain m id k ++ keptL).map (·.1) = [1, 2, 3, 4, 5, 6, 8, id, 9, 10] := rfl
  rw [e]
  simp only [List.nodup_cons, List.mem_cons, List.not_mem_nil, or_false, List.nodup_nil, not_false_eq_true, and_true]
  omega

/-- What is known of a round. -/
structure Rnd (v : Jb) (c0 : Nat → Int) (s : LS) (nx : Int) (m j : Nat) (a b : Bool) : Prop where
  pos : 1 ≤ m
  lm : s.L.length + m ≤ 100000
  fj : s.first + j ≤ 100000
  old : ∀ k, k < j → s.first + k < s.L.length ∧ s.L.getD (s.first + k) 0 ≤ nx - c0 6
  all : a = true → s.first + j = s.L.length
  not : a = false → s.first + j < s.L.length ∧ nx - c0 6 < s.L.getD (s.first + j) 0
  bet : s.best < ((s.L.length + m : Nat) : Int) - ((s.first + j : Nat) : Int) ↔ b = true
  fst : s.fst' (c0 6) nx m = s.first + j
theorem Rnd.cnt {nx : Int} {m j : Nat} {a b : Bool} (h : Rnd v c0 s nx m j a b) : s.cnt (c0 6) nx m = ((s.L.length + m : Nat) : Int) - ((s.first + j : Nat) : Int) := by
  unfold LS.cnt LS.row
  rw [h.fst]
  simp
theorem Rnd.pos_is {nx : Int} {m j : Nat} {a b : Bool} (h : Rnd v c0 s nx m j a b) : (s.row nx m).getD (s.fst' (c0 6) nx m) 0 = if a = true then nx else s.L.getD (s.first + j) 0 := by
  rw [h.fst]
  cases a with
  | true =>
    have := h.all rfl
    have := h.pos
    rw [if_pos rfl]
    unfold LS.row
    exact getD_rep (by omega) (by omega)
  | false =>
    have := (h.not rfl).1
    rw [if_neg (by simp)]
    unfold LS.row
    exact getD_front (by omega)
theorem Rnd.best {nx : Int} {m j : Nat} {a b : Bool} (h : Rnd v c0 s nx m j a b) : (s.go (c0 6) nx m).best = if b = true then ((s.L.length + m : Nat) : Int) - ((s.first + j : Nat) : Int) else s.best := by
  unfold LS.go
  rw [h.cnt]
  by_cases e : b = true
  · rw [if_pos e, if_pos (h.bet.2 e)]
  · rw [if_neg e, if_neg fun g => e (h.bet.1 g)]
theorem Rnd.at_ {nx : Int} {m j : Nat} {a b : Bool} (h : Rnd v c0 s nx m j a b) : (s.go (c0 6) nx m).pos = if b = true then (if a = true then nx else s.L.getD (s.first + j) 0) else s.pos := by
  unfold LS.go
  rw [h.cnt]
  by_cases e : b = true
  · rw [if_pos e, if_pos (h.bet.2 e)]
    exact h.pos_is
  · rw [if_neg e, if_neg fun g => e (h.bet.1 g)]

def Cs.bestV (c : Cs) : SV := match c.better with
  | true => .sint .i64 c.cntE
  | false => .sint .i64 (.var 7)
def Cs.posV (c : Cs) : SV := match c.better with
  | true => c.atV
  | false => .sint .i64 (.var 8)
variable {nx mn i d : Int} {m j : Nat} {a b : Bool}
theorem best_svt {σ' : Sig} {l : Bool} (h : Rnd v c0 s nx m j a b) {e : IE} (he : e.val σ' = (s.go (c0 6) nx m).best) (R : Nat → Nat → Prop) : SVT (sigJ v (lz c0 s nx mn i d) s.L) σ' R (.sint .i64 e) (Cs.bestV ⟨m, j, a, b, l⟩) := by
  have hb := h.best
  have h1 := h.lm
  have h2 := h.fj
  cases b with
  | true => exact .num (by rw [he, hb, if_pos rfl, v_cnt (by omega) (by omega)])
  | false => exact .num (by rw [he, hb, if_neg (by simp), vz, z7])
theorem at_svt {σ' : Sig} {l : Bool} (h : Rnd v c0 s nx m j a b) {e : IE} (he : e.val σ' = (s.go (c0 6) nx m).pos) (R : Nat → Nat → Prop) : SVT (sigJ v (lz c0 s nx mn i d) s.L) σ' R (.sint .i64 e) (Cs.posV ⟨m, j, a, b, l⟩) := by
  have hb := h.at_
  have h2 := h.fj
  cases b with
  | true =>
    cases a with
    | true => exact .num (by rw [he, hb, if_pos rfl, if_pos rfl, vz, z1])
    | false => exact .num (by rw [he, hb, if_pos rfl, if_neg (by simp)]; exact (v_sel1 (c0 := c0) (s := s) (j := j) (by omega)).symm)
  | false => exact .num (by rw [he, hb, if_neg (by simp), vz, z8])

theorem row_len : ((s.go (c0 6) nx m).L).length = s.L.length + m := by rw [LS.go_L]; unfold LS.row; simp
theorem go_ne (h : 1 ≤ m) : (s.go (c0 6) nx m).L ≠ [] := fun e => by
  have := row_len (s := s) (c0 := c0) (nx := nx) (m := m)
  rw [e] at this
  simp at this
  omega

/-- The next head. -/
theorem see_next {l : Bool} {ac : Act} {w : World} (hr : Rnd v c0 s nx m j a b) (hm6 : m ≤ 6) (h : AtF (sigJ v (lz c0 s nx mn i d) s.L) ρ0 S0 N 71 duSl (frN duSl (hdT n1)) [] (Cs.plain ⟨m, j, a, b, l⟩ (11 + 2 * m) ++ keptL) 40 W0 ac w) (h0 : S0.next = 11) (hN : 40 ≤ N) : HeadAt v c0 ρ0 S0 N W0 (s.go (c0 6) nx m) ac w := by
  have hp := hr.pos
  have hlm := hr.lm
  have R : ∀ i, i < 11 → RX.numF S0 N [(11, 11 + 2 * m)] i = some i := fun i hi => num_low h0 hi
  have R11 : RX.numF S0 N [(11, 11 + 2 * m)] 11 = some (11 + 2 * m) := by
    unfold RX.numF
    rw [if_neg (by omega)]
    rfl
  have hnd := nd_c ⟨m, j, a, b, l⟩ (id := 11 + 2 * m) (by omega)
  have num : ∀ k, 4 ≤ k → (k < 7 ∨ 10 < k) → IE.val (sigJ v (lz c0 (s.go (c0 6) nx m) 0 0 0 0) (s.go (c0 6) nx m).L) (.var k) = IE.val (sigJ v (lz c0 s nx mn i d) s.L) (.var k) := fun k h4 hk => z_rest h4 hk
  have hrow : (sigJ v (lz c0 (s.go (c0 6) nx m) 0 0 0 0) (s.go (c0 6) nx m).L).row 1 = (0, 0, 1, s.L.length + m) := by
    show ((0, 0, 1, ((s.go (c0 6) nx m).L).length) : Nat × Nat × Nat × Nat) = _
    rw [row_len]
  unfold HeadAt
  rw [objsOf_cons (go_ne hp)]
  refine seeF h [(11, 11 + 2 * m)] (by simp) (fun p hp => ?_) (by omega) (by omega) (fun d hd => by cases hd) ?_ (aapp ?_ (kept_see h0 hnd))
  · simp only [List.mem_cons, List.mem_nil_iff, or_false] at hp
    subst hp
    exact ⟨by show 11 < 12; omega, by show S0.next ≤ 11 + 2 * m; omega, by show 11 + 2 * m < N; omega⟩
  · refine acons (.yield (R 10 (by decide))) (acons (.ptr (R 6 (by decide))) (acons (.ptr (R 8 (by decide))) (acons (.num ?_) anil)))
    rw [vz, vz, z0, z1, LS.go_t]
  · refine acons ⟨by decide, 1, _, R 1 (by decide), heapOf_of hnd (nth_mem 0 rfl), .cells (.cons (.num (num 6 (by decide) (by decide))) .nil)⟩ ?_
    refine acons ⟨by decide, 2, _, R 2 (by decide), heapOf_of hnd (nth_mem 1 rfl), .cells (.cons (.own (a := 1) (a' := 1) (z := 1) R11 (b := 0) (x := 0) (n := s.L.length) (k := m) (b' := 0) (x' := 0) rfl hrow (by omega)) .nil)⟩ ?_
    refine acons ⟨by decide, 3, _, R 3 (by decide), heapOf_of hnd (nth_mem 2 rfl), .cells (.cons (best_svt (l := l) (σ' := sigJ v (lz c0 (s.go (c0 6) nx m) 0 0 0 0) (s.go (c0 6) nx m).L) (e := .var 7) hr (z7 (c0 := c0) (nx := 0) (mn := 0) (i := 0) (d := 0)) _) .nil)⟩ ?_
    refine acons ⟨by decide, 4, _, R 4 (by decide), heapOf_of hnd (nth_mem 3 rfl), .cells (.cons (at_svt (l := l) (σ' := sigJ v (lz c0 (s.go (c0 6) nx m) 0 0 0 0) (s.go (c0 6) nx m).L) (e := .var 8) hr (z8 (c0 := c0) (nx := 0) (mn := 0) (i := 0) (d := 0)) _) .nil)⟩ ?_
    refine acons ⟨by decide, 5, _, R 5 (by decide), heapOf_of hnd (nth_mem 4 rfl), .cells (.cons (.num (by rw [vz, z9, LS.go_first, hr.fst]; exact (v_step (c0 := c0) (s := s) j (by have := hr.fj; omega)).symm)) .nil)⟩ ?_
    refine acons ⟨by decide, 6, _, R 6 (by decide), heapOf_of hnd (nth_mem 5 rfl), .cells (.cons (.num (num 20 (by decide) (by decide))) (.cons (.num (num 21 (by decide) (by decide))) (.cons (.num (num 22 (by decide) (by decide))) (.cons (.num (num 23 (by decide) (by decide))) (.cons (.num (num 24 (by decide) (by decide))) (.cons (.num (num 25 (by decide) (by decide))) (.cons (.num (num 26 (by decide) (by decide))) (.cons (.row rfl) .nil))))))))⟩ ?_
    refine acons ⟨by decide, 8, _, R 8 (by decide), heapOf_of hnd (nth_mem 6 rfl), .cells (.cons (.num (num 5 (by decide) (by decide))) .nil)⟩ ?_
    refine acons ⟨by decide, 11 + 2 * m, _, R11, heapOf_of hnd (nth_mem 7 rfl), .own (a := 1) (a' := 1) (b := 0) (x := 0) (z := 1) (n := s.L.length) (k := m) (b' := 0) (x' := 0) rfl hrow (by rw [copies_len]; show m = m * 1; omega) (fun i c hi hc => ?_) (fun i c hi hc => ⟨n1, ?_, ?_⟩)⟩ anil
    · show Value.int .i64 ((s.go (c0 6) nx m).L.getD i 0) = .int .i64 (s.L.getD i 0)
      rw [LS.go_L]
      unfold LS.row
      rw [getD_front hi]
    · rw [show i * 1 + c = i by omega]
      exact copies_get n1 m i hi
    · show some (Value.int .i64 (IE.val (sigJ v (lz c0 s nx mn _ d) s.L) (.var 1))) = some (Value.int .i64 ((s.go (c0 6) nx m).L.getD (s.L.length + i) 0))
      rw [vz, z1, LS.go_L]
      unfold LS.row
      rw [getD_rep (by omega) (by omega)]
/-- Behind the first due time. -/
theorem see_first {ac : Act} {w : World} (hnil : s.L = []) (hf0 : s.first = 0) (hb0 : s.best = 0) (hw : 1 ≤ c0 6) (hp : 1 ≤ m) (hm6 : m ≤ 6) (h : AtF (sigJ v (lz c0 s nx mn i d) s.L) ρ0 S0 N 71 duSl (frN duSl (hdT n1)) [] (firstPlain m (11 + 2 * m) m ++ keptL) 40 W0 ac w) (h0 : S0.next = 11) (hN : 40 ≤ N)
    (g : (s.go (c0 6) nx m).first = 0 ∧ (s.go (c0 6) nx m).best = m ∧ (s.go (c0 6) nx m).pos = nx) : HeadAt v c0 ρ0 S0 N W0 (s.go (c0 6) nx m) ac w := by
  have R : ∀ i, i < 11 → RX.numF S0 N [(11, 11 + 2 * m)] i = some i := fun i hi => num_low h0 hi
  have R11 : RX.numF S0 N [(11, 11 + 2 * m)] 11 = some (11 + 2 * m) := by
    unfold RX.numF
    rw [if_neg (by omega)]
    rfl
  have hnd := nd_f (m := m) (k := m) (id := 11 + 2 * m) (by omega)
  have num : ∀ k, 4 ≤ k → (k < 7 ∨ 10 < k) → IE.val (sigJ v (lz c0 (s.go (c0 6) nx m) 0 0 0 0) (s.go (c0 6) nx m).L) (.var k) = IE.val (sigJ v (lz c0 s nx mn i d) s.L) (.var k) := fun k h4 hk => z_rest h4 hk
  have hL : (s.go (c0 6) nx m).L = List.replicate m nx := by
    rw [LS.go_L]
    unfold LS.row
    rw [hnil]
    rfl
  have hrow : (sigJ v (lz c0 (s.go (c0 6) nx m) 0 0 0 0) (s.go (c0 6) nx m).L).row 1 = (0, 0, 1, m) := by
    show ((0, 0, 1, ((s.go (c0 6) nx m).L).length) : Nat × Nat × Nat × Nat) = _
    rw [hL]
    simp
  unfold HeadAt
  rw [objsOf_cons (go_ne hp)]
  refine seeF h [(11, 11 + 2 * m)] (by simp) (fun p hp => ?_) (by omega) (by omega) (fun d hd => by cases hd) ?_ (aapp ?_ (kept_see h0 hnd))
  · simp only [List.mem_cons, List.mem_nil_iff, or_false] at hp
    subst hp
    exact ⟨by show 11 < 12; omega, by show S0.next ≤ 11 + 2 * m; omega, by show 11 + 2 * m < N; omega⟩
  · refine acons (.yield (R 10 (by decide))) (acons (.ptr (R 6 (by decide))) (acons (.ptr (R 8 (by decide))) (acons (.num ?_) anil)))
    rw [vz, vz, z0, z1, LS.go_t]
  · refine acons ⟨by decide, 1, _, R 1 (by decide), heapOf_of hnd (nth_mem 0 rfl), .cells (.cons (.num (num 6 (by decide) (by decide))) .nil)⟩ ?_
    refine acons ⟨by decide, 2, _, R 2 (by decide), heapOf_of hnd (nth_mem 1 rfl), .cells (.cons (.first (a' := 1) (z := 1) R11 hp (b' := 0) (x' := 0) hrow (by omega)) .nil)⟩ ?_
    refine acons ⟨by decide, 3, _, R 3 (by decide), heapOf_of hnd (nth_mem 2 rfl), .cells (.cons (.int (by rw [vz, z7, g.2.1]; rfl)) .nil)⟩ ?_
    refine acons ⟨by decide, 4, _, R 4 (by decide), heapOf_of hnd (nth_mem 3 rfl), .cells (.cons (.num (by rw [vz, z8, g.2.2, vz, z1])) .nil)⟩ ?_
    refine acons ⟨by decide, 5, _, R 5 (by decide), heapOf_of hnd (nth_mem 4 rfl), .cells (.cons (.int (by rw [vz, z9, g.1]; rfl)) .nil)⟩ ?_
    refine acons ⟨by decide, 6, _, R 6 (by decide), heapOf_of hnd (nth_mem 5 rfl), .cells (.cons (.num (num 20 (by decide) (by decide))) (.cons (.num (num 21 (by decide) (by decide))) (.cons (.num (num 22 (by decide) (by decide))) (.cons (.num (num 23 (by decide) (by decide))) (.cons (.num (num 24 (by decide) (by decide))) (.cons (.num (num 25 (by decide) (by decide))) (.cons (.num (num 26 (by decide) (by decide))) (.cons (.row rfl) .nil))))))))⟩ ?_
    refine acons ⟨by decide, 8, _, R 8 (by decide), heapOf_of hnd (nth_mem 6 rfl), .cells (.cons (.num (num 5 (by decide) (by decide))) .nil)⟩ ?_
    refine acons ⟨by decide, 11 + 2 * m, _, R11, heapOf_of hnd (nth_mem 7 rfl), .first (a' := 1) (z := 1) (n := m) (b' := 0) (x' := 0) hrow (by rw [copies_len]; omega) (by decide) (fun i c hi hc => ⟨n1, ?_, ?_⟩)⟩ anil
    · rw [show i * 1 + c = i by omega]
      exact copies_get n1 m i hi
    · show some (Value.int .i64 (IE.val (sigJ v (lz c0 s nx mn _ d) s.L) (.var 1))) = some (Value.int .i64 ((s.go (c0 6) nx m).L.getD i 0))
      rw [vz, z1, hL]
      have := getD_rep (L := []) (m := m) (i := i) (x := nx) (by simp) (by simpa using hi)
      rw [List.nil_append] at this
      rw [this]
end
end Go.Proofs.YtoafolgibimgjaaGreatDoor

/- The loop of dues$1, whole. -/
set_option linter.all false
set_option maxRecDepth 100000
namespace Go.Proofs.YtoafolgibimgjaaGreatDoor
open Go.RX Go.RX.Sym

section
variable {v : Jb} {c0 : Nat → Int} {s : LS} {ρ0 : Ren} {S0 : SW} {N : Nat} {W0 : World} {fr b : Int}

theorem kept40 : keptLt 40 keptL = true := by kernel_rfl
theorem kept12 : keptLt 12 keptL = true := by kernel_rfl
theorem see_z {objs : List (Nat × SObj)} (hS : Stays objs) {l L : List Int} {w : World} {a : Act} (h : AtF (sigJ v l L) ρ0 S0 N 71 duSl (frN duSl (hdJ n1 n2 n3)) [] (objs ++ keptL) 20 W0 a w) (h0 : S0.next = 11) (hN : 20 ≤ N) (hL : L.length ≤ 100000) : AtF (sigJ v l L) ρ0 S0 N 71 duSl (frN duSl (hdT (.sint .i64 (.var 0)) ++ [(6, n1), (7, n2)])) [] (objs ++ keptL) 12 W0 a w := by
  refine seeF h [(11, 11)] (by simp) (fun p hp => ?_) (by omega) (by omega) (fun d hd => by cases hd) ?_ (hS v l l L S0 N h0 (by omega) hL fun _ _ _ => rfl)
  · simp only [List.mem_cons, List.mem_nil_iff, or_false] at hp
    subst hp
    exact ⟨by show 11 < 12; omega, by show S0.next ≤ 11; omega, by show 11 < N; omega⟩
  · exact acons (.yield (num_low h0 (by decide))) (acons (.ptr (num_low h0 (by decide))) (acons (.ptr (num_low h0 (by decide))) (acons (.num rfl) (acons (.num rfl) (acons (.num rfl) anil)))))

/-- What all this is about. -/
structure Here (v : Jb) (c0 : Nat → Int) (fr b : Int) : Prop where
  n6 : v.n ≤ 6
  pos : ∀ i, i < v.n → 1 ≤ v.pe i ∧ v.pe i ≤ 68719476736 ∧ 0 ≤ v.st i ∧ v.st i ≤ 253402300799 ∧ b + v.pe i ≤ 253402300799
  r18 : v.ranks b v.n ≤ 18
  h5 : c0 5 = b
  w1 : 1 ≤ c0 6
  wm : c0 6 ≤ 1000000
  f0 : 0 ≤ fr
  fb : fr ≤ b
  bm : b ≤ 253402300799
theorem Here.ev (h : Here v c0 fr b) {t : Int} (h1 : fr - 1 ≤ t) (h2 : t < b) : ∀ i, i < v.n → Ev (v.st i) (v.pe i) (t + 1) b := fun i hi => by
  obtain ⟨p1, p2, p3, p4, p5⟩ := h.pos i hi
  have := h.f0
  have := h.bm
  exact ⟨p3, p4, p1, p2, by omega, by omega, by omega, by omega⟩
theorem Here.one (h : Here v c0 fr b) : ∀ i, i < v.n → 1 ≤ v.pe i := fun i hi => (h.pos i hi).1

theorem rnd_of (hh : Here v c0 fr b) (hinv : LInv v fr (c0 6) s) {nx : Int} {m : Nat} (f : Found v fr (c0 6) b s nx m) : ∃ j a bb, Rnd v c0 s nx m j a bb ∧ j ≤ 17 := by
  have hw := hh.w1
  obtain ⟨h1, h2, h3⟩ := hinv.cut hw f
  have hlen : (s.row nx m).length = s.L.length + m := by unfold LS.row; simp
  have hle : s.fst' (c0 6) nx m ≤ s.L.length := Nat.le_of_not_lt fun hlt => by
    have := h2 s.L.length hlt
    unfold LS.row at this
    rw [getD_rep (Nat.le_refl _) (by have := f.pos; omega)] at this
    omega
  have hr : v.ranks s.t v.n + m ≤ 18 := by
    have h1 := f.ranks
    have h2 := ranks_mono hh.one f.le v.n (Nat.le_refl _)
    have h3 := hh.r18
    omega
  have hl := hinv.len
  have hp := f.pos
  have hfst : s.fst' (c0 6) nx m = s.first + adv (nx - c0 6) ((s.row nx m).drop s.first) := rfl
  refine ⟨adv (nx - c0 6) ((s.row nx m).drop s.first), decide (s.fst' (c0 6) nx m = s.L.length), decide (s.best < ((s.L.length + m : Nat) : Int) - ((s.first + adv (nx - c0 6) ((s.row nx m).drop s.first) : Nat) : Int)), ⟨hp, by omega, by omega, fun k hk => ?_, fun e => ?_, fun e => ?_, ?_, rfl⟩, by omega⟩
  · have hlt : s.first + k < s.L.length := by omega
    have := h2 (s.first + k) (by omega)
    unfold LS.row at this
    rw [getD_front hlt] at this
    exact ⟨hlt, this⟩
  · have := of_decide_eq_true e
    omega
  · have := of_decide_eq_false e
    have hlt : s.first + adv (nx - c0 6) ((s.row nx m).drop s.first) < s.L.length := by omega
    refine ⟨hlt, ?_⟩
    rw [hfst] at h3
    have e3 : (s.row nx m).getD (s.first + adv (nx - c0 6) ((s.row nx m).drop s.first)) 0 = s.L.getD (s.first + adv (nx - c0 6) ((s.row nx m).drop s.first)) 0 := getD_front (M := List.replicate m nx) hlt
    rw [e3] at h3
    exact h3
  · exact ⟨fun h => decide_eq_true h, fun h => of_decide_eq_true h⟩

/-- Behind the jobs. -/
theorem z_round (hv : v.Lies W0) (hAp : ∀ l L F, ApartF (envZ (sigJ v l L) F) ρ0 S0) (h0 : S0.next = 11) (hN : 40 ≤ N) (hh : Here v c0 fr b) (hinv : LInv v fr (c0 6) s) (ht : s.t < b) {k : Nat} {d : Int} {a : Act} {w : World}
    (hA : AtF (sigJ v (lz c0 s (scan v s.t b v.n).1 (scan v s.t b v.n).2 v.n d) s.L) ρ0 S0 N 71 duSl (frN duSl (hdT (.sint .i64 (.var 0)) ++ [(6, n1), (7, n2)])) [] (objsOf s ++ keptL) 12 W0 a w) {Q : Exit → Act → World → Prop}
    (hnext : (scan v s.t b v.n).2 ≠ 0 → (scan v s.t b v.n).1 ≠ b → ∀ a' w', HeadAt v c0 ρ0 S0 N W0 (s.go (c0 6) (scan v s.t b v.n).1 (scan v s.t b v.n).2.toNat) a' w' → Q .normal a' w')
    (hend : ∀ r, Goes v (c0 6) b s r → ((scan v s.t b v.n).2 = 0 ∨ (scan v s.t b v.n).1 = b) → ∀ a' w', (∀ l', l'.getD 7 0 = r.best → l'.getD 8 0 = r.pos → EndAt v l' ρ0 S0 N W0 a' w') → Q .ret a' w') :
    duZ.wpIn Fence.wide k Tryz.prog Q a w := by
  generalize hp : scan v s.t b v.n = p at *
  obtain ⟨nx, mn⟩ := p
  simp only at hnext hend hA ⊢
  by_cases hz : mn = 0
  · have hF : ∀ g ∈ [fe (.var 2) (.lit 0) true], g.holds (sigJ v (lz c0 s nx mn v.n d) s.L) := hcons (holds_eq (yes (by show (lz c0 s nx mn v.n d).getD 2 0 = 0; rw [z2]; exact hz))) hnil
    have hg : Goes v (c0 6) b s s := .none (by rw [hp]; exact hz)
    by_cases hL : s.L = []
    · rw [objsOf_nil hL] at hA
      refine stepF (E := envZ (sigJ v (lz c0 s nx mn v.n d) s.L) [fe (.var 2) (.lit 0) true]) (known_nothing _) (numZ hF) kept40 hN (z_noneA _) hA (liesZ hv _) (hAp _ _ _) fun a' w' h' => hend s hg (.inl hz) a' w' fun l' h7 h8 => ?_
      have hb := hinv.best.nil hL
      exact see_end h' h0 (by omega) nd_A (nth_mem 2 rfl) (nth_mem 3 rfl) (fun R => .int (by rw [vz, h7, hb.1])) (fun R => .int (by rw [vz, h8, hb.2]))
    · rw [objsOf_cons hL] at hA
      refine stepF (E := envZ (sigJ v (lz c0 s nx mn v.n d) s.L) [fe (.var 2) (.lit 0) true]) (known_nothing _) (numZ hF) kept40 hN (z_noneB _) hA (liesZ hv _) (hAp _ _ _) fun a' w' h' => hend s hg (.inl hz) a' w' fun l' h7 h8 => ?_
      exact see_end h' h0 (by omega) nd_B (nth_mem 2 rfl) (nth_mem 3 rfl) (fun R => .num (by show l'.getD 7 0 = (lz c0 s nx mn v.n d).getD 7 0; rw [h7, z7])) (fun R => .num (by show l'.getD 8 0 = (lz c0 s nx mn v.n d).getD 8 0; rw [h8, z8]))
  · have f : Found v fr (c0 6) b s nx mn.toNat := by
      have := found (from' := fr) (w := c0 6) (s := s) (b := b) hh.one (by rw [hp]; exact hz)
      rw [hp] at this
      exact this
    have hpos : 0 ≤ mn := by
      have := (scan_is v s.t b v.n).pos
      rw [hp] at this
      exact this
    have hm6 : mn.toNat ≤ 6 := by have := f.few; have := hh.n6; omega
    have hmz : ((mn.toNat : Nat) : Int) = mn := by omega
    have hfit : Fits (nx - c0 6) := by
      have := f.gt; have := f.le; have := hinv.lo; have := hh.f0; have := hh.bm; have := hh.w1; have := hh.wm
      exact ⟨by omega, by omega⟩
    have hlast : nx = c0 5 ↔ decide (nx = b) = true := by
      rw [hh.h5]
      exact ⟨fun h => decide_eq_true h, fun h => of_decide_eq_true h⟩
    have hg : nx = b → Goes v (c0 6) b s (s.go (c0 6) nx mn.toNat) := fun e => by
      have := Goes.last (v := v) (w := c0 6) (b := b) (s := s) (by rw [hp]; exact hz) (by rw [hp]; exact e)
      rw [hp] at this
      exact this
    have hp1 := f.pos
    by_cases hL : s.L = []
    · have hf0 := hinv.fst0 hL
      have hb0 := hinv.best.nil hL
      have hw := hh.w1
      have hr : s.row nx mn.toNat = List.replicate mn.toNat nx := by unfold LS.row; rw [hL]; rfl
      have hfst : s.fst' (c0 6) nx mn.toNat = 0 := by
        unfold LS.fst'
        rw [hf0, hr]
        match hm : mn.toNat, hp1 with
        | m + 1, _ =>
          show 0 + adv (nx - c0 6) (nx :: List.replicate m nx) = 0
          unfold adv
          rw [if_neg (by omega)]
      have hcnt : s.cnt (c0 6) nx mn.toNat = (mn.toNat : Int) := by unfold LS.cnt; rw [hfst, hr]; simp
      have hgo : (s.go (c0 6) nx mn.toNat).first = 0 ∧ (s.go (c0 6) nx mn.toNat).best = (mn.toNat : Int) ∧ (s.go (c0 6) nx mn.toNat).pos = nx := by
        refine ⟨by rw [LS.go_first, hfst], ?_, ?_⟩
        · unfold LS.go
          rw [hcnt, if_pos (by rw [hb0.1]; omega)]
        · unfold LS.go
          rw [hcnt, if_pos (by rw [hb0.1]; omega), hfst, hr]
          have := getD_rep (L := []) (m := mn.toNat) (i := 0) (x := nx) (by simp) (by simp; omega)
          rw [List.nil_append] at this
          exact this
      rw [objsOf_nil hL] at hA
      have hz1 := z_one (sigJ v (lz c0 s nx mn v.n d) s.L) hp1 hm6 (decide (nx = b))
      have hF := first_holds (v := v) (c0 := c0) (s := s) (nx := nx) (mn := mn) (i := v.n) (d := d) hfit hw hmz hp1 hlast
      have hnd := nd_f (m := mn.toNat) (k := mn.toNat) (id := 11 + 2 * mn.toNat) (by omega)
      by_cases e : nx = b
      · rw [decide_eq_true e] at hz1 hF
        refine stepF (E := envZ (sigJ v (lz c0 s nx mn v.n d) s.L) (firstF mn.toNat true)) (known_nothing _) (numZ hF) kept40 hN hz1 hA (liesZ hv _) (hAp _ _ _) fun a' w' h' => hend _ (hg e) (.inr e) a' w' fun l' h7 h8 => ?_
        exact see_end h' h0 (by omega) hnd (nth_mem 2 rfl) (nth_mem 3 rfl) (fun R => .int (by rw [vz, h7, hgo.2.1]; rfl)) (fun R => .num (by show l'.getD 8 0 = (lz c0 s nx mn v.n d).getD 1 0; rw [h8, hgo.2.2, z1]))
      · rw [decide_eq_false e] at hz1 hF
        refine stepF (E := envZ (sigJ v (lz c0 s nx mn v.n d) s.L) (firstF mn.toNat false)) (known_nothing _) (numZ hF) kept40 hN hz1 hA (liesZ hv _) (hAp _ _ _) fun a' w' h' => hnext hz e a' w' ?_
        exact see_first hL hf0 hb0.1 hw hp1 hm6 h' h0 hN hgo
    · rw [objsOf_cons hL] at hA
      obtain ⟨j, ca, cb, hr, hj⟩ := rnd_of hh hinv f
      have hw := hh.w1
      have hF := case_holds (v := v) (c0 := c0) (s := s) (nx := nx) (mn := mn) (i := v.n) (d := d) (l := decide (nx = b)) hfit hw (by have := hr.lm; omega) (by have := hr.fj; omega) hmz hp1 hr.old hr.all hr.not hr.bet hlast
      have hz1 := z_case (sigJ v (lz c0 s nx mn v.n d) s.L) ⟨mn.toNat, j, ca, cb, decide (nx = b)⟩ hp1 hm6 hj
      have hnd := nd_c ⟨mn.toNat, j, ca, cb, decide (nx = b)⟩ (id := 11 + 2 * mn.toNat) (by omega)
      by_cases e : nx = b
      · rw [decide_eq_true e] at hz1 hF hnd
        refine stepF (E := envZ (sigJ v (lz c0 s nx mn v.n d) s.L) (Cs.facts ⟨mn.toNat, j, ca, cb, true⟩)) (known_nothing _) (numZ hF) kept40 hN hz1 hA (liesZ hv _) (hAp _ _ _) fun a' w' h' => hend _ (hg e) (.inr e) a' w' fun l' h7 h8 => ?_
        exact see_end h' h0 (by omega) hnd (nth_mem 2 rfl) (nth_mem 3 rfl) (fun R => best_svt (l := true) (σ' := sigJ v l' []) (e := .var 7) hr h7 R) (fun R => at_svt (l := true) (σ' := sigJ v l' []) (e := .var 8) hr h8 R)
      · rw [decide_eq_false e] at hz1 hF
        refine stepF (E := envZ (sigJ v (lz c0 s nx mn v.n d) s.L) (Cs.facts ⟨mn.toNat, j, ca, cb, false⟩)) (known_nothing _) (numZ hF) kept40 hN hz1 hA (liesZ hv _) (hAp _ _ _) fun a' w' h' => hnext hz e a' w' ?_
        exact see_next hr hm6 h' h0 hN

theorem stays_of (s : LS) : Stays (objsOf s) := by
  unfold objsOf
  split
  · exact staysA
  · exact staysB
theorem pieces_of (s : LS) : Pieces (objsOf s) := by
  unfold objsOf
  split
  · exact piecesA
  · exact piecesB
theorem jobs_of (s : LS) (σ : Sig) : cutFK 0 [] (frN duSl (hdJ (.int .i64 0) (.int .i64 0) (.int .i64 0))) (objsOf s) (keptL.map (·.1)) 12 (runChain (envZ σ []) noC 5 71 duSl (heads 1 duB ++ heads 1 duJs) (cutStD (frN duSl (hdT (.sint .i64 (.var 0)))) [] (objsOf s ++ keptL) 12)) = (true, keptL.map fun p => some p.2) := by
  unfold objsOf
  split
  · exact b_jobsA σ
  · exact b_jobsB σ

theorem dues_loop (hv : v.Lies W0) (hAp : ∀ l L F, ApartF (envZ (sigJ v l L) F) ρ0 S0) (h0 : S0.next = 11) (hN : 40 ≤ N) (hh : Here v c0 fr b) {R : LS} {k : Nat} {l' : List Int} (h7 : l'.getD 7 0 = R.best) (h8 : l'.getD 8 0 = R.pos) (hinv : LInv v fr (c0 6) s) (ht : s.t < b) (hg : Goes v (c0 6) b s R) {a : Act} {w : World} (hA : HeadAt v c0 ρ0 S0 N W0 s a w) {Q : Exit → Act → World → Prop}
    (hQ : ∀ a w, EndAt v l' ρ0 S0 N W0 a w → Q .ret a w) : (Code.block 0 (.loop (.block 1 duB))).wpIn Fence.wide k Tryz.prog Q a w := by
  refine wpIn_block (wpIn_loop_n (J := fun m a w => ∃ s, (b - s.t).toNat = m ∧ s.t < b ∧ LInv v fr (c0 6) s ∧ Goes v (c0 6) b s R ∧ HeadAt v c0 ρ0 S0 N W0 s a w) (N := (b - s.t).toNat) ⟨s, rfl, ht, hinv, hg, hA⟩ ?_)
  rintro m a1 w1 ⟨s1, hm, ht1, hi1, hg1, h1⟩
  refine wpIn_block ?_
  have hAp2 : ∀ l F, ApartF (envJ (sigJ v l s1.L) F) ρ0 S0 := fun l F => hAp l s1.L F
  have hlen : s1.L.length ≤ 100000 := by
    have e1 := hi1.len
    have e2 := ranks_mono hh.one (Int.le_of_lt ht1) v.n (Nat.le_refl _)
    have e3 := hh.r18
    omega
  refine chainF2 (E := envZ (sigJ v (lz c0 s1 0 0 0 0) s1.L) []) 1 1 (known_nothing _) (numZ hnil) du_b kept12 (by omega) (jobs_of s1 _) h1 (liesZ hv _) (hAp _ _ _) fun a2 w2 h2 => ?_
  show (rest 1 duJs).wpIn _ _ _ _ a2 w2
  rw [du_js]
  have h3 : JAt v s1.t (cS c0 s1) s1.L (objsOf s1) ρ0 S0 N W0 0 0 0 0 12 a2 w2 :=
    see_jobs (stays_of s1) h2 h0 (by omega) hlen (fun k h4 h10 => rfl) rfl (fun R => .int (by rw [vj]; exact g1)) (fun R => .int (by rw [vj]; exact g2)) (fun R => .int (by rw [vj]; exact g3))
  refine jobs_loop (pieces_of s1) (stays_of s1) h0 (by omega) hlen hv hAp2 (by show cS c0 s1 5 = b; exact hh.h5) (hh.ev hi1.lo ht1) h3 fun a3 w3 d h4 => ?_
  show duZ.wpIn _ _ _ _ a3 w3
  refine z_round hv hAp h0 hN hh hi1 ht1 (see_z (stays_of s1) h4 h0 (by omega) hlen) (fun hz hne a4 w4 h5 => ?_) (fun r hr hor a4 w4 h5 => ?_)
  · have f := found (from' := fr) (w := c0 6) (s := s1) (b := b) hh.one hz
    refine ⟨_, ?_, _, rfl, ?_, hi1.go hh.w1 f, ?_, h5⟩
    · rw [LS.go_t]; have := f.gt; have := f.le; omega
    · rw [LS.go_t]; have := f.le; omega
    · cases hg1 with
      | none h => exact absurd h hz
      | last _ h => exact absurd h hne
      | step _ _ h => exact h
  · refine hQ a4 w4 ?_
    have e : r = R := by
      cases hg1 with
      | none h =>
        cases hr with
        | none _ => rfl
        | last g _ => exact absurd h g
        | step g _ _ => exact absurd h g
      | last h hl =>
        cases hr with
        | none g => exact absurd g h
        | last _ _ => rfl
        | step _ g _ => exact absurd hl g
      | step h hl _ =>
        rcases hor with g | g
        · exact absurd g h
        · exact absurd g hl
    subst e
    exact h5 l' h7 h8
end
end Go.Proofs.YtoafolgibimgjaaGreatDoor

/- load, whole: a call of it. -/
set_option linter.all false
set_option maxRecDepth 100000
namespace Go.Proofs.YtoafolgibimgjaaGreatDoor
open Go.RX Go.RX.Sym

theorem name_dues (vals : Array Value) (w : World) : (callFunc 42 vals).run Tryz.prog w = .ok (.enter 42 vals) w := by kernel_rfl
theorem name_load (vals : Array Value) (w : World) : (callFunc 15 vals).run Tryz.prog w = .ok (.enter 15 vals) w := by kernel_rfl
theorem func_dues : Tryz.prog.funcs[42]? = some Tryz.f42 := by kernel_rfl
theorem func_load : Tryz.prog.funcs[15]? = some Tryz.f15 := by kernel_rfl

section
variable {v : Jb} {c0 : Nat → Int} {fr b : Int}
/-- Where it begins. -/
def ls0 (fr : Int) : LS := ⟨fr - 1, [], 0, 0, 0⟩
theorem inv0 (hP : ∀ i, i < v.n → 1 ≤ v.pe i) (w : Int) : LInv v fr w (ls0 fr) := by
  refine ⟨Int.le_refl _, List.Pairwise.nil, fun x => ?_, Nat.zero_le _, fun h => absurd rfl h, fun _ => rfl, fun i hi => absurd hi (Nat.not_lt_zero i), ⟨fun _ => ⟨rfl, rfl⟩, fun t ht => (by cases ht), fun h => absurd rfl h⟩⟩
  show 0 = if fr ≤ x ∧ x ≤ fr - 1 then _ else 0
  rw [if_neg (by omega)]
/-- The numbers around: the end's numbers stand in 7 and 8. -/
def lE (c0 : Nat → Int) (R : LS) : List Int := lv 0 0 0 0 0 (cS c0 R)
theorem lE_get {R : LS} {k : Nat} (h4 : 4 ≤ k) (h10 : k ≠ 10) (h27 : k < 27) : (lE c0 R).getD k 0 = cS c0 R k := by
  unfold lE
  rw [lv_get, if_pos h27]
  unfold lvF
  split <;> first | omega | rfl

theorem fr15_eq : frN ldSl [(20, .func 42 [] [.ptr 7 0, .ptr 6 0, .ptr 8 0]), (13, .ptr 5 0), (12, .ptr 4 0), (11, .ptr 3 0), (10, .ptr 2 0), (9, .int .i64 0), (8, .int .i64 0), (5, .ptr 1 0)] = fr15 := rfl
theorem keptR_lt : keptLt 11 keptR = true := by kernel_rfl
theorem nd_R : ((objA ++ keptR).map (·.1)).Nodup := by decide

theorem see_head0 {ρ0 : Ren} {S0 : SW} {N : Nat} {W0 : World} {R : LS} {a : Act} {w : World} (h : AtF (sigJ v (lE c0 R) []) ρ0 S0 N 71 duSl (frN duSl (hdT (.sint .i64 (.bin .sub .i64 (.var 4) (.lit 1))))) [] (objA ++ keptR) 11 W0 a w) (h0 : S0.next = 11) (hN : 40 ≤ N) (h4 : c0 4 = fr) (hf : 0 ≤ fr ∧ fr ≤ 253402300799) : HeadAt v c0 ρ0 S0 N W0 (ls0 fr) a w := by
  have Rl : ∀ i, i < 11 → RX.numF S0 N [] i = some i := fun i hi => num_low h0 hi
  have num : ∀ k, 4 ≤ k → k < 27 → (k < 7 ∨ 10 < k) → IE.val (sigJ v (lz c0 (ls0 fr) 0 0 0 0) (ls0 fr).L) (.var k) = IE.val (sigJ v (lE c0 R) []) (.var k) := fun k h4 h27 hk => by
    show (lz c0 (ls0 fr) 0 0 0 0).getD k 0 = (lE c0 R).getD k 0
    rw [lE_get h4 (by omega) h27]
    unfold lz
    rw [lv_get, if_pos h27]
    unfold lvF cS
    split <;> first | omega | (split <;> first | omega | rfl)
  unfold HeadAt
  rw [objsOf_nil rfl]
  refine seeF h [] (by simp) (fun p hp => by cases hp) (by omega) (by omega) (fun d hd => by cases hd) ?_ ?_
  · refine acons (.yield (Rl 10 (by decide))) (acons (.ptr (Rl 6 (by decide))) (acons (.ptr (Rl 8 (by decide))) (acons (.num ?_) anil)))
    show (lz c0 (ls0 fr) 0 0 0 0).getD 0 0 = opVal .sub .i64 ((lE c0 R).getD 4 0) 1
    rw [lE_get (by decide) (by decide) (by decide), z0]
    show fr - 1 = opVal .sub .i64 (c0 4) 1
    rw [h4, sub_op ⟨by omega, by omega⟩]
  · refine acons ⟨by decide, 1, _, Rl 1 (by decide), heapOf_of nd_R (nth_mem 0 rfl), .cells (.cons (.num (num 6 (by decide) (by decide) (by decide))) .nil)⟩ ?_
    refine acons ⟨by decide, 2, _, Rl 2 (by decide), heapOf_of nd_R (nth_mem 1 rfl), .cells (.cons (.lit rfl) .nil)⟩ ?_
    refine acons ⟨by decide, 3, _, Rl 3 (by decide), heapOf_of nd_R (nth_mem 2 rfl), .cells (.cons (.lit rfl) .nil)⟩ ?_
    refine acons ⟨by decide, 4, _, Rl 4 (by decide), heapOf_of nd_R (nth_mem 3 rfl), .cells (.cons (.lit rfl) .nil)⟩ ?_
    refine acons ⟨by decide, 5, _, Rl 5 (by decide), heapOf_of nd_R (nth_mem 4 rfl), .cells (.cons (.lit rfl) .nil)⟩ ?_
    refine acons ⟨by decide, 6, _, Rl 6 (by decide), heapOf_of nd_R (nth_mem 5 rfl), .cells (.cons (.num (num 20 (by decide) (by decide) (by decide))) (.cons (.num (num 21 (by decide) (by decide) (by decide))) (.cons (.num (num 22 (by decide) (by decide) (by decide))) (.cons (.num (num 23 (by decide) (by decide) (by decide))) (.cons (.num (num 24 (by decide) (by decide) (by decide))) (.cons (.num (num 25 (by decide) (by decide) (by decide))) (.cons (.num (num 26 (by decide) (by decide) (by decide))) (.cons (.row rfl) .nil))))))))⟩ ?_
    refine acons ⟨by decide, 8, _, Rl 8 (by decide), heapOf_of nd_R (nth_mem 6 rfl), .cells (.cons (.num (num 5 (by decide) (by decide) (by decide))) .nil)⟩ ?_
    refine acons ⟨by decide, 9, _, Rl 9 (by decide), heapOf_of nd_R (nth_mem 7 rfl), .mark⟩ ?_
    refine acons ⟨by decide, 10, _, Rl 10 (by decide), heapOf_of nd_R (nth_mem 8 rfl), .loop rfl rfl rfl rfl rfl rfl rfl (Rl 9 (by decide)) ?_⟩ anil
    show FRT _ _ _ (frN ldSl [(5, .ptr 1 0), (10, .ptr 2 0), (11, .ptr 3 0), (12, .ptr 4 0), (13, .ptr 5 0)]) fr15
    rw [← fr15_eq]
    exact frN_of (acons (.ptr (Rl 1 (by decide))) (acons (.ptr (Rl 2 (by decide))) (acons (.ptr (Rl 3 (by decide))) (acons (.ptr (Rl 4 (by decide))) (acons (.ptr (Rl 5 (by decide))) anil))))) ldSl

theorem lies_of {W : World} {l L : List Int} {F : List Fact} (few : v.n ≤ 1000000) (jobs : ∀ i, i < v.n → v.Job i) (h : RX.Lies (envZ (sigJ v l L) F) W) : v.Lies W := by
  obtain ⟨b, x, n, arr, el, fz, h1, h2, h3⟩ := h.rows 0 jobKinds rfl
  have h1 : ((v.b, v.x, 30, v.n) : Nat × Nat × Nat × Nat) = (b, x, jobKinds.length, n) := h1
  simp only [Prod.mk.injEq] at h1
  obtain ⟨rfl, rfl, -, rfl⟩ := h1
  refine ⟨few, jobs, arr, el, fz, h2, fun i c hi hc => ?_⟩
  have hk : jobKinds[c]? = some (jobKinds[c]'(by show c < 30; exact hc)) := List.getElem?_eq_getElem _
  exact (h3 i c _ hi hk).1
theorem apart_of {ρ0 : Ren} {S0 : SW} {l L : List Int} {F : List Fact} (h : ApartF (envZ (sigJ v l L) F) ρ0 S0) (l' L' : List Int) (F' : List Fact) : ApartF (envZ (sigJ v l' L') F') ρ0 S0 := by
  intro bb hb i p hi hp
  refine h bb ?_ i p hi hp
  rcases hb with ⟨cs, hg⟩ | ⟨a, ks, ha, e⟩
  · cases hg
  · refine .inr ⟨a, ks, ha, ?_⟩
    have ha : rowsJ a = some ks := ha
    unfold rowsJ at ha
    split at ha
    · exact e
    · cases ha

theorem dues_calls (hh : Here v c0 fr b) (h4 : c0 4 = fr) (few : v.n ≤ 1000000) (jobs : ∀ i, i < v.n → v.Job i) {R : LS} (hg : Goes v (c0 6) b (ls0 fr) R) :
    CallsT (envZ (sigJ v (lE c0 R) []) []) 42 argsDu (keptR.reverse ++ obj0) 11 (.tuple []) ⟨heapOf (objE ++ keptL), 40, 0⟩ := by
  refine callsT_F (sl := duSl) func_dues du_body name_dues (by rw [du_n]; decide) (by decide) fun ρ0 W0 a hok hf hA => ?_
  rw [du_n] at hA
  have hL := hok.glob.lies
  have hv := lies_of few jobs hL
  have hAp0 : ApartF (envZ (sigJ v (lE c0 R) []) []) ρ0 ⟨heapOf (keptR.reverse ++ obj0), 11, 0⟩ := hok.glob.apart
  have hAp := apart_of hAp0
  refine chainF 1 (E := envZ (sigJ v (lE c0 R) []) []) (known_nothing _) (numZ hnil) keptR_lt (by decide) (b_dues _) hA hL hAp0 fun a1 w1 h1 => ?_
  show (rest 1 duBody).wpIn _ _ _ _ a1 w1
  rw [du_blk]
  have hb := hh.fb
  refine dues_loop (R := R) (l' := lE c0 R) hv hAp rfl (by decide) hh (by rw [lE_get (by decide) (by decide) (by decide)]; rfl) (by rw [lE_get (by decide) (by decide) (by decide)]; rfl) (inv0 hh.one _) (by show fr - 1 < b; omega) hg (see_head0 h1 rfl (by decide) h4 ⟨hh.f0, by have := hh.bm; omega⟩) fun a2 w2 h2 => ?_
  show LeavesInM _ _ _ _ _ _ _ _ _
  exact leavesF (E := envZ (sigJ v (lE c0 R) []) []) (numZ hnil) kept40 (e_dues _) hok hf h2
end
end Go.Proofs.YtoafolgibimgjaaGreatDoor

/- A call of load, in any world in which the jobs lie. -/
set_option linter.all false
set_option maxRecDepth 100000
namespace Go.Proofs.YtoafolgibimgjaaGreatDoor
open Go.RX Go.RX.Sym

noncomputable def ldG : List SV → List SV → SV := match opd ⟨[], ldSl⟩ (.tmp 20) with | some ⟨g⟩ => g | none => fun _ _ => .unknown
theorem ld_g : opd ⟨[], ldSl⟩ (.tmp 20) = some ⟨ldG⟩ := by kernel_rfl
theorem ld_fn : ldG [] fr15 = .func 42 [] [.ptr 7 0, .ptr 6 0, .ptr 8 0] := by kernel_rfl
section
variable {v : Jb} {c0 : Nat → Int} {fr b : Int}
theorem load_callsT (hh : Here v c0 fr b) (h4 : c0 4 = fr) (few : v.n ≤ 1000000) (jobs : ∀ i, i < v.n → v.Job i) {R : LS} (hg : Goes v (c0 6) b (ls0 fr) R) :
    CallsT (envZ (sigJ v (lE c0 R) []) []) 15 argsLd [] 0 (.tuple [.sint .i64 (.var 7), .sint .i64 (.var 8)]) ⟨heapOf [], 60, 0⟩ := by
  refine callsT_F (sl := ldSl) func_load ld_body name_load (by rw [ld_n]; decide) (by decide) fun ρ0 W0 a hok hf hA => ?_
  rw [ld_n] at hA
  have hL := hok.glob.lies
  have hAp0 : ApartF (envZ (sigJ v (lE c0 R) []) []) ρ0 ⟨heapOf [], 0, 0⟩ := hok.glob.apart
  refine chainF2 (E := envZ (sigJ v (lE c0 R) []) []) 3 1 (kept := []) (known_nothing _) (numZ hnil) ld_rest rfl (by decide) (b_load _) hA hL hAp0 fun a1 w1 h1 => ?_
  rw [ld_blk, ld_range]
  refine wpIn_block ?_
  refine rangeF (E := envZ (sigJ v (lE c0 R) []) []) (objs := obj0) (objs3 := objE ++ keptL) (plain := objE) (kept := keptM) (n0 := 9) (N3 := 40) (next := 40) (N := 60) (numZ hnil) ld_g ld_fn (dues_calls hh h4 few jobs hg) rfl (by decide) e_range (by rw [List.append_nil] at h1; exact h1) hL hAp0 fun a2 w2 h2 => ?_
  show ldY.wpIn _ _ _ _ a2 w2
  refine stepF (E := envZ (sigJ v (lE c0 R) []) []) (known_nothing _) (numZ hnil) (kept := keptM) (plain := []) (next := 40) rfl (by decide) (e_load _) h2 hL hAp0 fun a3 w3 h3 => ?_
  show LeavesInM _ _ _ _ _ _ _ _ _
  exact leavesF (E := envZ (sigJ v (lE c0 R) []) []) (kept := []) (plain := []) (numZ hnil) rfl (l_load _) hok hf h3

/-- The configuration's own numbers. -/
def cfgOf (z : Nat → Int) (jobs : Value) : Value := .agg #[.int .i64 (z 20), .int .i64 (z 21), .int .i64 (z 22), .int .i64 (z 23), .int .u64 (z 24), .int .i64 (z 25), .int .i64 (z 26), jobs]
theorem load_calls (hh : Here v c0 fr b) (h4 : c0 4 = fr) {W : World} (hv : v.Lies W) {R : LS} (hg : Goes v (c0 6) b (ls0 fr) R) {cap : Nat} (hcap : v.n ≤ cap) :
    Calls Tryz.prog 15 #[cfgOf c0 (.slice (some ⟨v.b, v.x, none⟩) v.n cap), .int .i64 (c0 6), .int .i64 fr, .int .i64 b] W fun e w' => e = .returned (.tuple #[.int .i64 R.best, .int .i64 R.pos]) ∧ On W w' := by
  have hc := (load_callsT hh h4 hv.few hv.jobs hg).call (.nil (sigJ v (lE c0 R) [])) [cfgOf c0 (.slice (some ⟨v.b, v.x, none⟩) v.n cap), .int .i64 (c0 6), .int .i64 fr, .int .i64 b] W (empty_ok (numZ hnil) (liesZ hv _)) (fun _ _ _ => rfl) ?_
  · refine hc.mono ?_
    rintro e w' ⟨u, ρ, rfl, hext, hu⟩
    have hσ : ρ.sig = sigJ v (lE c0 R) [] := hext.le.same.symm
    refine ⟨?_, hext.size, hext.os, hext.tape, hext.output, fun b hb => hext.frame b hb fun j p hj hp => by cases hp⟩
    cases hu with
    | tuple h =>
      cases h with
      | cons h1 h =>
        cases h with
        | cons h2 h =>
          cases h
          have h1 := h1.sint_inv
          have h2 := h2.sint_inv
          rw [hσ] at h1 h2
          have e1 : IE.val (sigJ v (lE c0 R) []) (.var 7) = R.best := by
            show (lE c0 R).getD 7 0 = _
            rw [lE_get (by decide) (by decide) (by decide)]; rfl
          have e2 : IE.val (sigJ v (lE c0 R) []) (.var 8) = R.pos := by
            show (lE c0 R).getD 8 0 = _
            rw [lE_get (by decide) (by decide) (by decide)]; rfl
          rw [e1] at h1
          rw [e2] at h2
          subst h1 h2
          rfl
  · have num : ∀ k, 4 ≤ k → k ≠ 10 → k < 27 → (k < 7 ∨ 9 < k) → ∀ t : IntKind, VRel (.nil (sigJ v (lE c0 R) [])) (.sint t (.var k)) (.int t (c0 k)) := fun k a1 a2 a3 a4 t => by
      have e : IE.val (sigJ v (lE c0 R) []) (.var k) = c0 k := by
        show (lE c0 R).getD k 0 = _
        rw [lE_get a1 a2 a3]
        unfold cS
        split <;> first | omega | rfl
      rw [← e]
      exact VRel.sint (ρ := .nil (sigJ v (lE c0 R) [])) t (.var k)
    have n4 := num 4 (by decide) (by decide) (by decide) (by decide) .i64
    have n5 := num 5 (by decide) (by decide) (by decide) (by decide) .i64
    rw [h4] at n4
    rw [hh.h5] at n5
    refine .cons (.agg (.cons (num 20 (by decide) (by decide) (by decide) (by decide) _) (.cons (num 21 (by decide) (by decide) (by decide) (by decide) _) (.cons (num 22 (by decide) (by decide) (by decide) (by decide) _) (.cons (num 23 (by decide) (by decide) (by decide) (by decide) _) (.cons (num 24 (by decide) (by decide) (by decide) (by decide) _) (.cons (num 25 (by decide) (by decide) (by decide) (by decide) _) (.cons (num 26 (by decide) (by decide) (by decide) (by decide) _) (.cons (.row (sz := 30) rfl hcap) .nil))))))))) (.cons (num 6 (by decide) (by decide) (by decide) (by decide) _) (.cons n4 (.cons n5 .nil)))
end
end Go.Proofs.YtoafolgibimgjaaGreatDoor

/- plan.Count of such a plan. -/
set_option linter.all false
set_option maxRecDepth 100000
namespace Go.Proofs.YtoafolgibimgjaaGreatDoor
open Go.RX Go.RX.Sym

def xB1 : IE := .bin .add .i64 (.var 3) (.lit 1)
def xBef (a : IE) : IE := .min xSz (.bin .add .i64 (.bin .quo .i64 (.bin .sub .i64 (.bin .sub .i64 a (.var 0)) (.lit 1)) (.var 1)) (.lit 1))
def cntBase : List Fact := [fl (.var 0) (.lit 0) false, fl (.lit 253402300799) (.var 0) false, fl (.var 1) (.lit 1) false, fl (.lit 68719476736) (.var 1) false, fl (.var 2) (.lit 0) false, fl (.lit 253402300799) (.var 2) false, fl (.var 3) (.lit 0) false, fl (.lit 253402300799) (.var 3) false, fl (.var 3) (.var 2) false, fe (.var 1) (.lit 0) false, fl xB1 (.var 2) false, fl (.var 2) xB1 true, fe (.var 2) xB1 false, fe xB1 (.var 2) false]
def cntA : List Fact := fl (.var 0) xB1 true :: fl (.var 0) (.var 2) false :: cntBase
def cntB : List Fact := fl (.var 0) xB1 true :: fl (.var 0) (.var 2) true :: cntBase
def cntC : List Fact := fl (.var 0) xB1 false :: fl (.var 0) (.var 2) false :: cntBase
def argC : List SV := [planOf (.var 0) (.var 1), .sint .i64 (.var 2), .sint .i64 (.var 3)]
noncomputable def runC (σ : Sig) (F : List Fact) : Option (SV × SW) := (semK (envF σ F) noC 20).call 29 argC ⟨.nil, 0, 0⟩
noncomputable def cntOk (e : IE) (r : Option (SV × SW)) : Bool := match r with
  | some (.tuple [.sint .i64 e1, .int .i64 (.ofNat 0)], _) => IE.same e e1
  | some (.tuple [.int .i64 n, .int .i64 (.ofNat 0)], _) => IE.same e (.lit n)
  | _ => false
def cA : IE := .max (.lit 0) (.bin .sub .i64 (xBef xB1) (.lit 0))
def cB : IE := .max (.lit 0) (.bin .sub .i64 (xBef xB1) (xBef (.var 2)))
theorem c_A (σ : Sig) : cntOk cA (runC σ cntA) = true := by kernel_rfl
theorem c_B (σ : Sig) : cntOk cB (runC σ cntB) = true := by kernel_rfl
theorem c_C (σ : Sig) : cntOk (.lit 0) (runC σ cntC) = true := by kernel_rfl

section
variable {s P a b : Int}
/-- What plan.Count is asked with. -/
structure Ev2 (s P a b : Int) : Prop where
  s0 : 0 ≤ s
  sm : s ≤ 253402300799
  p1 : 1 ≤ P
  pm : P ≤ 68719476736
  a0 : 0 ≤ a
  ab : a ≤ b
  bm : b ≤ 253402300799
theorem q_sz (h : Ev2 s P a b) : xSz.val (sig4 s P a b) = 1 + (253402300799 - s) / P := by
  have h1 := div_nonneg (x := 253402300799 - s) (by have := h.sm; omega) h.p1
  have h2 := div_self_le (x := 253402300799 - s) (by have := h.sm; omega) h.p1
  have := h.s0
  simp only [xSz, IE.val, sig4, sigV]
  rw [sub_op (x := 253402300799) (y := s) ⟨by omega, by omega⟩]
  rw [quo_op (x := 253402300799 - s) (y := P) (by have := h.sm; omega) h.p1 ⟨by omega, by omega⟩]
  rw [add_op ⟨by omega, by omega⟩]
theorem q_b1 (h : Ev2 s P a b) : xB1.val (sig4 s P a b) = b + 1 := by
  have := h.a0; have := h.ab; have := h.bm
  simp only [xB1, IE.val, sig4, sigV]
  rw [add_op ⟨by omega, by omega⟩]
theorem q_bef (h : Ev2 s P a b) {e : IE} {c : Int} (hc : e.val (sig4 s P a b) = c) (h1 : s < c) (h2 : c ≤ 253402300799 + 1) : (xBef e).val (sig4 s P a b) = (c - s - 1) / P + 1 := by
  have k1 := div_nonneg (x := c - s - 1) (by omega) h.p1
  have k2 := div_self_le (x := c - s - 1) (by omega) h.p1
  have h3 : (c - s - 1) / P ≤ (253402300799 - s) / P := Int.ediv_le_ediv (by have := h.p1; omega) (by omega)
  have := h.s0
  have hz := q_sz h
  have hv : (IE.bin .add .i64 (.bin .quo .i64 (.bin .sub .i64 (.bin .sub .i64 e (.var 0)) (.lit 1)) (.var 1)) (.lit 1)).val (sig4 s P a b) = (c - s - 1) / P + 1 := by
    simp only [IE.val, hc]
    show opVal .add .i64 (opVal .quo .i64 (opVal .sub .i64 (opVal .sub .i64 c s) 1) P) 1 = _
    rw [sub_op (x := c) (y := s) ⟨by omega, by omega⟩, sub_op (x := c - s) (y := 1) ⟨by omega, by omega⟩]
    rw [quo_op (x := c - s - 1) (y := P) (by omega) h.p1 ⟨by omega, by omega⟩]
    rw [add_op ⟨by omega, by omega⟩]
  show (if _ < _ then _ else _) = _
  rw [hz, hv]
  split <;> omega
theorem cbase_holds (h : Ev2 s P a b) : ∀ g ∈ cntBase, g.holds (sig4 s P a b) := by
  have hb := q_b1 h
  obtain ⟨s0, sm, p1, pm, a0, ab, bm⟩ := h
  refine hcons (holds_lt (no ?_)) (hcons (holds_lt (no ?_)) (hcons (holds_lt (no ?_)) (hcons (holds_lt (no ?_)) (hcons (holds_lt (no ?_)) (hcons (holds_lt (no ?_)) (hcons (holds_lt (no ?_)) (hcons (holds_lt (no ?_)) (hcons (holds_lt (no ?_)) (hcons (holds_eq (no ?_)) (hcons (holds_lt (no ?_)) (hcons (holds_lt (yes ?_)) (hcons (holds_eq (no ?_)) (hcons (holds_eq (no ?_)) hnil)))))))))))))
  all_goals first | (rw [hb]; simp only [IE.val, sig4, sigV]; omega) | (simp only [IE.val, sig4, sigV]; omega)

theorem cntOk_some {e : IE} {r : Option (SV × SW)} (h : cntOk e r = true) : ∃ x S, r = some (.tuple [x, .int .i64 0], S) ∧ (x = .sint .i64 e ∨ ∃ n, x = .int .i64 n ∧ e = .lit n) := by
  unfold cntOk at h
  split at h
  · have := IE.same_eq h
    subst this
    exact ⟨_, _, rfl, .inl rfl⟩
  · rename_i n S
    have := IE.same_eq h
    exact ⟨_, _, rfl, .inr ⟨n, rfl, this⟩⟩
  · cases h
def args2 (s P a b : Int) : List Value := [planVal s P, .int .i64 a, .int .i64 b]
theorem cnt_run {F : List Fact} (hF : ∀ g ∈ F, g.holds (sig4 s P a b)) {e : IE} {n : Int} (he : e.val (sig4 s P a b) = n) (hr : cntOk e (runC (sig4 s P a b) F) = true) (W : World) : Calls Tryz.prog 29 (args2 s P a b).toArray W fun ed w' => ed = .returned (.tuple #[.int .i64 n, .int .i64 0]) ∧ On W w' := by
  obtain ⟨x, S, hrun, hx⟩ := cntOk_some hr
  clear hr
  unfold runC at hrun
  have hargs : VRels (.nil (sig4 s P a b)) argC (args2 s P a b) := by
    refine .cons (.agg ?_) (.cons (.sint .i64 (.var 2)) (.cons (.sint .i64 (.var 3)) .nil))
    exact .cons (.int _ _) (.cons (.int _ _) (.cons (.int _ _) (.cons (.int _ _) (.cons (.int _ _) (.cons (.int _ _) (.cons (.int _ _) (.cons (.bool _) (.cons (.bool _) (.cons (.int _ _) (.cons (.sint .i64 (.var 0)) (.cons (.sint .i64 (.var 1)) (.cons (.int _ _) (.cons .nilslice .nil)))))))))))))
  have hc := run_empty (E := envF (sig4 s P a b) F) (K := noC) (d := 20) (f := 29) (args := argC) (known_nothing _) hrun hargs (numF _ hF) (liesF _ _ W)
  clear hrun
  refine callsIn_wide.1 (CallsIn.mono (callsIn_wide.2 hc) (n := 0) ?_)
  rintro ed w' ⟨v, ρ, rfl, hle, hv, ho⟩
  have hσ : ρ.sig = sig4 s P a b := hle.sig
  refine ⟨?_, ho⟩
  cases hv with
  | tuple hl =>
    cases hl with
    | cons h1 hl =>
      cases hl with
      | cons h2 hl =>
        cases hl
        have h2 := h2.int_inv
        subst h2
        rcases hx with rfl | ⟨m, rfl, rfl⟩
        · have h1 := h1.sint_inv
          rw [hσ, he] at h1
          subst h1
          rfl
        · have h1 := h1.int_inv
          have he : m = n := he
          subst h1 he
          rfl
theorem rank_at {t : Int} (h : s ≤ t) : ((rank s P t : Nat) : Int) = (if 0 ≤ (t - s) / P then (t - s) / P + 1 else 1) := by
  unfold rank
  rw [if_neg (by omega)]
  split <;> omega
theorem rank_before {t : Int} (h : t < s) : rank s P t = 0 := if_pos h
theorem count_calls (h : Ev2 s P a b) (W : World) : Calls Tryz.prog 29 (args2 s P a b).toArray W fun ed w' => ed = .returned (.tuple #[.int .i64 ((rank s P b : Int) - rank s P (a - 1)), .int .i64 0]) ∧ On W w' := by
  have hb := cbase_holds h
  have hb1 := q_b1 h
  have v0 : IE.val (sig4 s P a b) (.var 0) = s := rfl
  have v2 : IE.val (sig4 s P a b) (.var 2) = a := rfl
  have h' := h
  obtain ⟨s0, sm, p1, pm, a0, ab, bm⟩ := h'
  by_cases c1 : s ≤ b
  · have e1 := q_bef h hb1 (by omega) (by omega)
    have k1 := div_nonneg (x := b + 1 - s - 1) (P := P) (by omega) p1
    have k2 := div_self_le (x := b + 1 - s - 1) (P := P) (by omega) p1
    have r1 : ((rank s P b : Nat) : Int) = (b + 1 - s - 1) / P + 1 := by
      rw [rank_at c1, show b - s = b + 1 - s - 1 by omega, if_pos k1]
    by_cases c2 : s < a
    · have e2 := q_bef h v2 c2 (by omega)
      have k3 := div_nonneg (x := a - s - 1) (P := P) (by omega) p1
      have k4 : (a - s - 1) / P ≤ (b + 1 - s - 1) / P := Int.ediv_le_ediv (by omega) (by omega)
      have r2 : ((rank s P (a - 1) : Nat) : Int) = (a - s - 1) / P + 1 := by
        rw [rank_at (by omega), show a - 1 - s = a - s - 1 by omega, if_pos k3]
      refine cnt_run (F := cntB) (hcons (holds_lt (yes (by rw [v0, hb1]; omega))) (hcons (holds_lt (yes (by rw [v0, v2]; exact c2))) hb)) (e := cB) ?_ (c_B _) W
      show (if (0 : Int) < opVal .sub .i64 ((xBef xB1).val (sig4 s P a b)) ((xBef (.var 2)).val (sig4 s P a b)) then opVal .sub .i64 ((xBef xB1).val (sig4 s P a b)) ((xBef (.var 2)).val (sig4 s P a b)) else 0) = _
      rw [e1, e2, sub_op ⟨by omega, by omega⟩, r1, r2]
      split <;> omega
    · have r2 : rank s P (a - 1) = 0 := rank_before (by omega)
      refine cnt_run (F := cntA) (hcons (holds_lt (yes (by rw [v0, hb1]; omega))) (hcons (holds_lt (no (by rw [v0, v2]; omega))) hb)) (e := cA) ?_ (c_A _) W
      show (if (0 : Int) < opVal .sub .i64 ((xBef xB1).val (sig4 s P a b)) 0 then opVal .sub .i64 ((xBef xB1).val (sig4 s P a b)) 0 else 0) = _
      rw [e1, sub_op ⟨by omega, by omega⟩, r1, r2]
      split <;> omega
  · have r1 : rank s P b = 0 := rank_before (by omega)
    have r2 : rank s P (a - 1) = 0 := rank_before (by omega)
    refine cnt_run (F := cntC) (hcons (holds_lt (no (by rw [v0, hb1]; omega))) (hcons (holds_lt (no (by rw [v0, v2]; omega))) hb)) (e := .lit 0) ?_ (c_C _) W
    rw [r1, r2]
    rfl
end
end Go.Proofs.YtoafolgibimgjaaGreatDoor
