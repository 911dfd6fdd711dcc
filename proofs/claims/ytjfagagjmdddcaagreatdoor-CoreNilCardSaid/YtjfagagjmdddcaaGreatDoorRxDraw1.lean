/- Regions that draw their order: what every order has; what is known to come before what. -/
import Derived.Test.YtjfagagjmdddcaaGreatDoorRxReg3
set_option linter.all false
namespace Go.RX
open Sym Go.Region

/-- What an order's listing must not stop at: a set that takes in every operation whose edges lie in it is the whole. -/
def Sat (m : Region.Mode) (ops : Array Oper) : Prop :=
  ∀ D : Nat → Prop, (∀ i o, ops[i]? = some o → (∀ e ∈ o.after.toList, binds m e = true → D e.on) → D i) → ∀ i, i < ops.size → D i

/-- A listing, from the last taken back: each operation is there, once, and behind what its edges name. -/
inductive Listed (m : Region.Mode) (ops : Array Oper) : List Nat → Prop
  | nil : Listed m ops []
  | cons {i : Nat} {o : Oper} {acc : List Nat} (ho : ops[i]? = some o) (hn : i ∉ acc) (hd : ∀ e ∈ o.after.toList, binds m e = true → e.on ∈ acc) (h : Listed m ops acc) : Listed m ops (i :: acc)

theorem getD_listed {l : Array Bool} {i j : Nat} {b : Bool} (hi : i < l.size) (hj : j ≠ i) : (l.setIfInBounds i true).getD j b = l.getD j b := by
  simp only [Array.getD_eq_getD_getElem?]
  rw [Array.getElem?_setIfInBounds_ne (fun e => hj e.symm)]

theorem lin_go (m : Region.Mode) (ops : Array Oper) (hS : Sat m ops) : ∀ (fuel t : Nat) (listed : Array Bool) (acc : List Nat), listed.size = ops.size → (∀ i, i < ops.size → (listed.getD i false = true ↔ i ∈ acc)) → Listed m ops acc →
    ((List.range ops.size).filter fun i => !listed.getD i true).length ≤ fuel →
    ∃ acc', linearise.go m ops fuel t listed acc = acc'.reverse ∧ Listed m ops acc' ∧ ∀ i, i < ops.size → i ∈ acc' := by
  intro fuel
  induction fuel with
  | zero =>
    intro t listed acc hs hl hL hf
    refine ⟨acc, rfl, hL, fun i hi => ?_⟩
    have h0 : (List.range ops.size).filter (fun i => !listed.getD i true) = [] := List.eq_nil_of_length_eq_zero (by omega)
    rw [List.filter_eq_nil_iff] at h0
    have := h0 i (by simpa using hi)
    refine (hl i hi).1 ?_
    have hi' : i < listed.size := by omega
    simpa [Array.getD_eq_getD_getElem?, hi'] using this
  | succ fuel ih =>
    intro t listed acc hs hl hL hf
    have hds : ∀ i b, i < ops.size → listed.getD i b = listed.getD i false := fun i b hi => by
      have hi' : i < listed.size := by omega
      simp [Array.getD_eq_getD_getElem?, hi']
    unfold linearise.go
    dsimp only
    split
    · rename_i i hi
      have hmem := List.mem_of_getElem? hi
      rw [List.mem_filter] at hmem
      obtain ⟨hr, hc⟩ := hmem
      have hir : i < ops.size := by simpa using hr
      simp only [Bool.and_eq_true, Bool.not_eq_true'] at hc
      obtain ⟨hnl, hdeps⟩ := hc
      have hnacc : i ∉ acc := fun hm => by
        have := (hl i hir).2 hm
        rw [hds i true hir, this] at hnl; cases hnl
      have ho : ops[i]? = some ops[i] := by simp [hir]
      rw [ho] at hdeps
      simp only [Option.map_some, Option.getD_some, Array.all_eq_true_iff_forall_mem] at hdeps
      refine ih _ _ (i :: acc) (by simpa using hs) (fun j hj => ?_) (.cons ho hnacc (fun e he hb => ?_) hL) ?_
      · by_cases e : j = i
        · subst e
          have hi' : j < listed.size := by omega
          simp [Array.getD_eq_getD_getElem?, hi']
        · rw [getD_listed (by omega) e, hl j hj]; simp [e]
      · have := hdeps e (by simpa using he)
        simp only [hb, Bool.not_true, Bool.false_or] at this
        by_cases hlt : e.on < ops.size
        · exact (hl _ hlt).1 this
        · exfalso
          have hge : ¬ e.on < listed.size := by omega
          simp [Array.getD_eq_getD_getElem?, hge] at this
      · refine Nat.le_of_lt_succ (Nat.lt_of_lt_of_le ?_ hf)
        have : (List.range ops.size).filter (fun j => !(listed.setIfInBounds i true).getD j true) = ((List.range ops.size).filter (fun j => !listed.getD j true)).filter (fun j => j != i) := by
          rw [List.filter_filter]
          refine List.filter_congr fun j hj => ?_
          have hj : j < ops.size := by simpa using hj
          by_cases e : j = i
          · subst e
            have hi' : j < listed.size := by omega
            simp [Array.getD_eq_getD_getElem?, hi']
          · rw [getD_listed (by omega) e]; simp [e]
        rw [this]
        refine List.length_filter_lt_length_iff_exists.2 ⟨i, ?_, by simp⟩
        rw [List.mem_filter]
        exact ⟨hr, by simp [hnl]⟩
    · rename_i hnone
      refine ⟨acc, rfl, hL, ?_⟩
      refine hS (fun i => i ∈ acc) fun i o ho hd => ?_
      have hir : i < ops.size := (Array.getElem?_eq_some_iff.1 ho).1
      apply Classical.byContradiction
      intro hni
      have hin : i ∈ (List.range ops.size).filter fun i => !listed.getD i true && ((ops[i]?).map (·.after.all fun e => !binds m e || listed.getD e.on false)).getD false := by
        rw [List.mem_filter]
        refine ⟨by simpa using hir, ?_⟩
        have h1 : listed.getD i true = false := by
          rw [hds i true hir]
          cases hb : listed.getD i false with
          | false => rfl
          | true => exact absurd ((hl i hir).1 hb) hni
        rw [h1, ho]
        simp only [Bool.not_false, Bool.true_and, Option.map_some, Option.getD_some, Array.all_eq_true_iff_forall_mem]
        intro e he
        cases hb : binds m e with
        | false => simp
        | true =>
          have hacc := hd e (by simpa using he) hb
          have hlt : e.on < ops.size := by
            have : ∀ acc, Listed m ops acc → ∀ j ∈ acc, j < ops.size := by
              intro acc hA
              induction hA with
              | nil => intro j hj; simp at hj
              | cons ho _ _ _ ih2 =>
                intro j hj
                rcases List.mem_cons.1 hj with e | e
                · subst e; exact (Array.getElem?_eq_some_iff.1 ho).1
                · exact ih2 j e
            exact this acc hL _ hacc
          simp [(hl _ hlt).2 hacc]
      have hpos := List.length_pos_of_mem hin
      rw [List.getElem?_eq_none_iff] at hnone
      have := Nat.mod_lt t hpos
      omega

theorem lin_spec {m : Region.Mode} {ops : Array Oper} (hS : Sat m ops) (t : Nat) : ∃ acc, linearise m ops t = acc.reverse ∧ Listed m ops acc ∧ ∀ i, i < ops.size → i ∈ acc := by
  unfold linearise
  refine lin_go m ops hS ops.size t _ [] (by simp) (fun i hi => ?_) .nil ?_
  · simp [Array.getD_eq_getD_getElem?, hi]
  · refine Nat.le_trans (List.length_filter_le _ _) (by simp)

theorem Listed.any {m : Region.Mode} {ops : Array Oper} {acc : List Nat} (h : Listed m ops acc) : Listed .any ops acc := by
  induction h with
  | nil => exact .nil
  | cons ho hn hd _ ih =>
    refine .cons ho hn (fun e he hb => hd e he ?_) ih
    unfold binds at hb ⊢
    split <;> simp_all

/-! ### The checks -/
theorem earlier_spec {i : Nat} : ∀ {es : List Edge}, earlier i es = true → ∀ e ∈ es, binds .text e = true → e.on < i
  | [], _, e, he, _ => by simp at he
  | ed :: es, h, e, he, hb => by
    simp only [earlier] at h
    rcases List.mem_cons.1 he with rfl | he
    · rw [hb] at h
      split at h
      · contradiction
      · split at h
        · exact Nat.le_of_ble_eq_true ‹_›
        · cases h
    · split at h
      · exact earlier_spec h e he hb
      · split at h
        · exact earlier_spec h e he hb
        · cases h

theorem gcReady_spec {L : Nat} : ∀ {es : List Edge}, gcReady L es = true → ∀ e ∈ es, binds .gc e = true → L.testBit e.on = true
  | [], _, e, he, _ => by simp at he
  | ed :: es, h, e, he, hb => by
    simp only [gcReady] at h
    rcases List.mem_cons.1 he with rfl | he
    · rw [hb] at h
      split at h
      · contradiction
      · split at h
        · assumption
        · cases h
    · split at h
      · exact gcReady_spec h e he hb
      · split at h
        · exact gcReady_spec h e he hb
        · cases h

theorem testBit_one_shift (i j : Nat) : (Nat.shiftLeft 1 i).testBit j = decide (i = j) := by
  show (1 <<< i).testBit j = _
  rw [Nat.one_shiftLeft, Nat.testBit_two_pow]

theorem gcScan_spec {ops : Array Oper} {D : Nat → Prop} (hD : ∀ i o, ops[i]? = some o → (∀ e ∈ o.after.toList, binds .gc e = true → D e.on) → D i) :
    ∀ (os : List Oper) (i L : Nat), os = ops.toList.drop i → (∀ j, L.testBit j = true → D j) → ∀ j, (gcScan os i L).testBit j = true → D j
  | [], i, L, _, hL, j, hj => hL j hj
  | o :: os, i, L, he, hL, j, hj => by
    have ho : ops[i]? = some o := by
      have : (ops.toList.drop i)[0]? = some o := by rw [← he]; rfl
      simpa using this
    have he' : os = ops.toList.drop (i + 1) := by
      have : (o :: os).tail = (ops.toList.drop i).tail := by rw [he]
      simpa [List.tail_drop] using this
    simp only [gcScan] at hj
    split at hj
    · rename_i hr
      refine gcScan_spec hD os (i + 1) _ he' (fun k hk => ?_) j hj
      have hk' : L.testBit k = true ∨ (Nat.shiftLeft 1 i).testBit k = true := by
        have : (L ||| Nat.shiftLeft 1 i).testBit k = true := hk
        rw [Nat.testBit_or] at this
        simpa using this
      rcases hk' with hk | hk
      · exact hL k hk
      · rw [testBit_one_shift] at hk
        have : i = k := by simpa using hk
        subst this
        exact hD i o ho fun e hm hb => hL _ (gcReady_spec hr e hm hb)
    · exact gcScan_spec hD os (i + 1) L he' hL j hj

theorem allBits_spec : ∀ {n L : Nat}, allBits n L = true → ∀ i, i < n → L.testBit i = true
  | 0, _, _, i, hi => by omega
  | n + 1, L, h, i, hi => by
    simp only [allBits] at h
    split at h
    · rename_i hb
      by_cases e : i = n
      · subst e; exact hb
      · exact allBits_spec h i (by omega)
    · cases h

theorem gcFix_spec {ops : Array Oper} : ∀ (f L : Nat), gcFix ops.toList ops.toList.length f L = true → ∀ D : Nat → Prop, (∀ i o, ops[i]? = some o → (∀ e ∈ o.after.toList, binds .gc e = true → D e.on) → D i) → (∀ j, L.testBit j = true → D j) → ∀ i, i < ops.size → D i
  | 0, L, h, D, hD, hL, i, hi => by
    simp only [gcFix] at h
    exact hL i (allBits_spec h i (by simpa using hi))
  | f + 1, L, h, D, hD, hL, i, hi => by
    simp only [gcFix] at h
    split at h
    · rename_i ha; exact hL i (allBits_spec ha i (by simpa using hi))
    · exact gcFix_spec f _ h D hD (gcScan_spec hD ops.toList 0 L (by simp) hL) i hi

theorem tidy_at {bs : List Nat} {all : List Oper} : ∀ {os : List Oper} {i : Nat}, tidy bs all os i = true → ∀ j o, os[j]? = some o → tidyAt bs (i + j) (touches all o) all 0 = true ∧ earlier (i + j) o.after.toList = true
  | [], _, _, j, o, ho => by simp at ho
  | o' :: os, i, h, j, o, ho => by
    simp only [tidy] at h
    split at h
    · rename_i h1 h2
      cases j with
      | zero => simp at ho; subst ho; exact ⟨h1, h2⟩
      | succ j =>
        have := tidy_at h j o (by simpa using ho)
        rw [show i + (j + 1) = Nat.succ i + j from by omega]
        exact this
    · cases h

theorem memNat_spec {t : Nat} : ∀ {l : List Nat}, memNat t l = true ↔ t ∈ l
  | [] => by simp [memNat]
  | x :: l => by
    simp only [memNat]
    split
    · rename_i h; have := Nat.eq_of_beq_eq_true h; simp [this]
    · rename_i h
      have hne : t ≠ x := fun e => by subst e; simp at h
      rw [memNat_spec]; simp [hne]

theorem tidyAt_spec {bs : List Nat} {i : Nat} {ts : List Nat} : ∀ {os : List Oper} {k : Nat}, tidyAt bs i ts os k = true → ∀ j o d, os[j]? = some o → o.dst = some d → d ∈ ts → i ≠ k + j → inOrder bs i (k + j) = true
  | [], _, _, j, o, d, ho, _, _, _ => by simp at ho
  | o' :: os, k, h, j, o, d, ho, hd, hm, hne => by
    cases j with
    | zero =>
      simp at ho; subst ho
      simp only [tidyAt, hd] at h
      split at h
      · rename_i hf; rw [memNat_spec.2 hm] at hf; cases hf
      · split at h
        · rename_i hb; exact absurd (Nat.eq_of_beq_eq_true hb) hne
        · split at h
          · assumption
          · cases h
    | succ j =>
      have hr : tidyAt bs i ts os (Nat.succ k) = true := by
        simp only [tidyAt] at h
        split at h
        · exact h
        · split at h
          · exact h
          · split at h
            · exact h
            · split at h
              · exact h
              · cases h
      have := tidyAt_spec hr j o d (by simpa using ho) hd hm (by omega)
      rw [show k + (j + 1) = Nat.succ k + j from by omega]
      exact this

/-- A set that holds with each operation what its edges of every order name. -/
def Closed (ops : Array Oper) (D : Nat → Prop) : Prop := ∀ i o, ops[i]? = some o → D i → ∀ e ∈ o.after.toList, binds .any e = true → D e.on

theorem binds_any_text {e : Edge} (h : binds .any e = true) : binds .text e = true := by
  unfold binds at h ⊢
  split <;> simp_all

theorem beforeBits_spec {acc : List Nat} : ∀ {es : List Edge} {m j : Nat}, (Sym.before acc es m).testBit j = true → m.testBit j = true ∨ ∃ e ∈ es, binds .any e = true ∧ (e.on = j ∨ (nthV 0 acc e.on).testBit j = true)
  | [], m, j, h => .inl h
  | ed :: es, m, j, h => by
    simp only [Sym.before] at h
    split at h
    · rename_i hb
      rcases beforeBits_spec h with h1 | ⟨e, he, hb', h2⟩
      · have : (m ||| (Nat.shiftLeft 1 ed.on ||| nthV 0 acc ed.on)).testBit j = true := h1
        rw [Nat.testBit_or, Nat.testBit_or, testBit_one_shift] at this
        simp only [Bool.or_eq_true, decide_eq_true_eq] at this
        rcases this with h3 | h3 | h3
        · exact .inl h3
        · exact .inr ⟨ed, by simp, hb, .inl h3⟩
        · exact .inr ⟨ed, by simp, hb, .inr h3⟩
      · exact .inr ⟨e, by simp [he], hb', h2⟩
    · rcases beforeBits_spec h with h1 | ⟨e, he, hb', h2⟩
      · exact .inl h1
      · exact .inr ⟨e, by simp [he], hb', h2⟩

/-- What 'befores' says of an operation lies in every closed set that holds it, and earlier. -/
def BOk (ops : Array Oper) (acc : List Nat) : Prop := ∀ i m, acc[i]? = some m → ∀ j, m.testBit j = true → j < i ∧ ∀ D, Closed ops D → D i → D j

theorem befores_spec {ops : Array Oper} (hE : ∀ i o, ops[i]? = some o → earlier i o.after.toList = true) : ∀ (os : List Oper) (acc : List Nat), os = ops.toList.drop acc.length → BOk ops acc → BOk ops (befores os acc)
  | [], acc, _, h => h
  | o :: os, acc, he, h => by
    have ho : ops[acc.length]? = some o := by
      have : (ops.toList.drop acc.length)[0]? = some o := by rw [← he]; rfl
      simpa using this
    have he' : os = ops.toList.drop (acc.length + 1) := by
      have : (o :: os).tail = (ops.toList.drop acc.length).tail := by rw [he]
      simpa [List.tail_drop] using this
    simp only [befores, force_eq]
    refine befores_spec hE os _ (by simpa using he') fun i m hi j hj => ?_
    by_cases hlt : i < acc.length
    · rw [List.getElem?_append_left hlt] at hi
      exact h i m hi j hj
    · have : i = acc.length := by
        have := (List.getElem?_eq_some_iff.1 hi).1
        simp at this; omega
      subst this
      simp at hi; subst hi
      rcases beforeBits_spec hj with h1 | ⟨e, hm, hb, h2⟩
      · simp at h1
      · have hlt := earlier_spec (hE _ o ho) e hm (binds_any_text hb)
        rcases h2 with h2 | h2
        · subst h2
          exact ⟨hlt, fun D hD hi => hD _ o ho hi e hm hb⟩
        · rw [nthV_eq] at h2
          cases hq : acc[e.on]? with
          | none => rw [hq] at h2; simp at h2
          | some q =>
            rw [hq] at h2
            obtain ⟨h3, h4⟩ := h e.on q hq j h2
            exact ⟨by omega, fun D hD hi => h4 D hD (hD _ o ho hi e hm hb)⟩

theorem inOrder_spec {ops : Array Oper} {bs : List Nat} (hB : BOk ops bs) {i j : Nat} (h : inOrder bs i j = true) : (j < i ∧ ∀ D, Closed ops D → D i → D j) ∨ (i < j ∧ ∀ D, Closed ops D → D j → D i) := by
  unfold inOrder at h
  rw [nthV_eq, nthV_eq] at h
  split at h
  · rename_i h1
    cases hq : bs[i]? with
    | none => rw [hq] at h1; simp at h1
    | some q => rw [hq] at h1; exact .inl (hB i q hq j h1)
  · cases hq : bs[j]? with
    | none => rw [hq] at h; simp at h
    | some q => rw [hq] at h; exact .inr (hB j q hq i h)

/-- An operation that is taken next: what is in order with it has been taken if and only if it comes before. -/
theorem inOrder_next {ops : Array Oper} {bs : List Nat} (hB : BOk ops bs) {D : Nat → Prop} {i j : Nat} (hD : Closed ops D) (hD' : Closed ops (fun k => k = i ∨ D k)) (hi : ¬ D i) (h : inOrder bs i j = true) : D j ↔ j < i := by
  rcases inOrder_spec hB h with ⟨h1, h2⟩ | ⟨h1, h2⟩
  · refine ⟨fun _ => h1, fun _ => ?_⟩
    rcases h2 _ hD' (.inl rfl) with e | e
    · omega
    · exact e
  · exact ⟨fun hj => absurd (h2 D hD hj) hi, fun h => by omega⟩

theorem inOrder_symm {bs : List Nat} {i j : Nat} (h : inOrder bs i j = true) : inOrder bs j i = true := by
  unfold inOrder at h ⊢
  split
  · rfl
  · split at h
    · assumption
    · rename_i h1 _ _; rw [h] at h1; cases h1

theorem sat_text {ops : Array Oper} (hE : ∀ i o, ops[i]? = some o → earlier i o.after.toList = true) (m : Region.Mode) (hm : ∀ e, binds m e = true → binds .text e = true) : Sat m ops := by
  intro D hD i
  induction i using Nat.strongRecOn with
  | _ i ih =>
    intro hi
    have ho : ops[i]? = some ops[i] := by simp [hi]
    refine hD i _ ho fun e he hb => ?_
    have hlt := earlier_spec (hE i _ ho) e he (hm e hb)
    exact ih _ hlt (by omega)

/-- Every schedule lists all operations, each behind what its edges name. -/
theorem schedule_spec {ops : Array Oper} {bs : List Nat} (ht : tidy bs ops.toList ops.toList 0 = true) (hg : gcFix ops.toList ops.toList.length ops.toList.length 0 = true) (mixed : Bool) (t : Nat) :
    ∃ acc, schedule mixed ops t = acc.reverse ∧ Listed .any ops acc ∧ ∀ i, i < ops.size → i ∈ acc := by
  have hE : ∀ i o, ops[i]? = some o → earlier i o.after.toList = true := fun i o ho => by
    have := (tidy_at ht i o (by simpa using ho)).2
    simpa using this
  unfold schedule
  split
  · exact lin_spec (sat_text hE .any fun e => binds_any_text) t
  · have key : ∀ m, Sat m ops → ∀ t, ∃ acc, linearise m ops t = acc.reverse ∧ Listed .any ops acc ∧ ∀ i, i < ops.size → i ∈ acc := fun m hm t => by
      obtain ⟨acc, h1, h2, h3⟩ := lin_spec hm t
      exact ⟨acc, h1, h2.any, h3⟩
    split
    · exact key .text (sat_text hE .text fun e h => h) _
    · exact key .gc (fun D hD => gcFix_spec _ 0 hg D hD (fun j hj => by simp at hj)) _
end Go.RX
