import Derived.Test.YtcbkglclienegaaGreatDoorRxE
set_option linter.all false
/- Regions that draw their order: what every order has; what is known to come before what. -/
namespace Go.RX
open Sym Go.Region

/-- What an order's listing must not stop at: a set that takes in every operation whose edges lie in it is the whole. -/
def Sat (m : Region.Mode) (ops : Array Oper) : Prop :=
  ∀ D : Nat → Prop, (∀ i o, ops[i]? = some o → (∀ e ∈ o.after.toList, binds m e = true → D e.on) → D i) → ∀ i, i < ops.size → D i

/-- A listing, from the last taken back: each operation is there, once, and behind what its edges name. -/
inductive Listed (m : Region.Mode) (ops : Array Oper) : List Nat → Prop
  | nil : Listed m ops []
  | cons {i : Nat} {o : Oper} {acc : List Nat} (ho : ops[i]? = some o) (hn : i ∉ acc) (hd : ∀ e ∈ o.after.toList, binds m e = true → e.on ∈ acc) (h : Listed m ops acc) : Listed m ops (i :: acc)

theorem getD_listed {l : Array Bool} {i j : Nat} {b : Bool} (hi : i < l.size) (hj : j ≠ i) : (l.setIfInBounds i true).getD j b = l.getD j b := by
  simp only [Array.getD_eq_getD_getElem?]
  rw [Array.getElem?_setIfInBounds_ne (fun e => hj e.symm)]

theorem lin_go (m : Region.Mode) (ops : Array Oper) (hS : Sat m ops) : ∀ (fuel t : Nat) (listed : Array Bool) (acc : List Nat), listed.size = ops.size → (∀ i, i < ops.size → (listed.getD i false = true ↔ i ∈ acc)) → Listed m ops acc →
    ((List.range ops.size).filter fun i => !listed.getD i true).length ≤ fuel →
    ∃ acc', linearise.go m ops fuel t listed acc = acc'.reverse ∧ Listed m ops acc' ∧ ∀ i, i < ops.size → i ∈ acc' := by
  intro fuel
  induction fuel with
  | zero =>
    intro t listed acc hs hl hL hf
    refine ⟨acc, rfl, hL, fun i hi => ?_⟩
    have h0 : (List.range ops.size).filter (fun i => !listed.getD i true) = [] := List.eq_nil_of_length_eq_zero (by omega)
    rw [List.filter_eq_nil_iff] at h0
    have := h0 i (by simpa using hi)
    refine (hl i hi).1 ?_
    have hi' : i < listed.size := by omega
    simpa [Array.getD_eq_getD_getElem?, hi'] using this
  | succ fuel ih =>
    intro t listed acc hs hl hL hf
    have hds : ∀ i b, i < ops.size → listed.getD i b = listed.getD i false := fun i b hi => by
      have hi' : i < listed.size := by omega
      simp [Array.getD_eq_getD_getElem?, hi']
    unfold linearise.go
    dsimp only
    split
    · rename_i i hi
      have hmem := List.mem_of_getElem? hi
      rw [List.mem_filter] at hmem
      obtain ⟨hr, hc⟩ := hmem
      have hir : i < ops.size := by simpa using hr
      simp only [Bool.and_eq_true, Bool.not_eq_true'] at hc
      obtain ⟨hnl, hdeps⟩ := hc
      have hnacc : i ∉ acc := fun hm => by
        have := (hl i hir).2 hm
        rw [hds i true hir, this] at hnl; cases hnl
      have ho : ops[i]? = some ops[i] := by simp [hir]
      rw [ho] at hdeps
      simp only [Option.map_some, Option.getD_some, Array.all_eq_true_iff_forall_mem] at hdeps
      refine ih _ _ (i :: acc) (by simpa using hs) (fun j hj => ?_) (.cons ho hnacc (fun e he hb => ?_) hL) ?_
      · by_cases e : j = i
        · subst e
          have hi' : j < listed.size := by omega
          simp [Array.getD_eq_getD_getElem?, hi']
        · rw [getD_listed (by omega) e, hl j hj]; simp [e]
      · have := hdeps e (by simpa using he)
        simp only [hb, Bool.not_true, Bool.false_or] at this
        by_cases hlt : e.on < ops.size
        · exact (hl _ hlt).1 this
        · exfalso
          have hge : ¬ e.on < listed.size := by omega
          simp [Array.getD_eq_getD_getElem?, hge] at this
      · refine Nat.le_of_lt_succ (Nat.lt_of_lt_of_le ?_ hf)
        have : (List.range ops.size).filter (fun j => !(listed.setIfInBounds i true).getD j true) = ((List.range ops.size).filter (fun j => !listed.getD j true)).filter (fun j => j != i) := by
          rw [List.filter_filter]
          refine List.filter_congr fun j hj => ?_
          have hj : j < ops.size := by simpa using hj
          by_cases e : j = i
          · subst e
            have hi' : j < listed.size := by omega
            simp [Array.getD_eq_getD_getElem?, hi']
          · rw [getD_listed (by omega) e]; simp [e]
        rw [this]
        refine List.length_filter_lt_length_iff_exists.2 ⟨i, ?_, by simp⟩
        rw [List.mem_filter]
        exact ⟨hr, by simp [hnl]⟩
    · rename_i hnone
      refine ⟨acc, rfl, hL, ?_⟩
      refine hS (fun i => i ∈ acc) fun i o ho hd => ?_
      have hir : i < ops.size := (Array.getElem?_eq_some_iff.1 ho).1
      apply Classical.byContradiction
      intro hni
      have hin : i ∈ (List.range ops.size).filter fun i => !listed.getD i true && ((ops[i]?).map (·.after.all fun e => !binds m e || listed.getD e.on false)).getD false := by
        rw [List.mem_filter]
        refine ⟨by simpa using hir, ?_⟩
        have h1 : listed.getD i true = false := by
          rw [hds i true hir]
          cases hb : listed.getD i false with
          | false => rfl
          | true => exact absurd ((hl i hir).1 hb) hni
        rw [h1, ho]
        simp only [Bool.not_false, Bool.true_and, Option.map_some, Option.getD_some, Array.all_eq_true_iff_forall_mem]
        intro e he
        cases hb : binds m e with
        | false => simp
        | true =>
          have hacc := hd e (by simpa using he) hb
          have hlt : e.on < ops.size := by
            have : ∀ acc, Listed m ops acc → ∀ j ∈ acc, j < ops.size := by
              intro acc hA
              induction hA with
              | nil => intro j hj; simp at hj
              | cons ho _ _ _ ih2 =>
                intro j hj
                rcases List.mem_cons.1 hj with e | e
                · subst e; exact (Array.getElem?_eq_some_iff.1 ho).1
                · exact ih2 j e
            exact this acc hL _ hacc
          simp [(hl _ hlt).2 hacc]
      have hpos := List.length_pos_of_mem hin
      rw [List.getElem?_eq_none_iff] at hnone
      have := Nat.mod_lt t hpos
      omega

theorem lin_spec {m : Region.Mode} {ops : Array Oper} (hS : Sat m ops) (t : Nat) : ∃ acc, linearise m ops t = acc.reverse ∧ Listed m ops acc ∧ ∀ i, i < ops.size → i ∈ acc := by
  unfold linearise
  refine lin_go m ops hS ops.size t _ [] (by simp) (fun i hi => ?_) .nil ?_
  · simp [Array.getD_eq_getD_getElem?, hi]
  · refine Nat.le_trans (List.length_filter_le _ _) (by simp)

theorem Listed.any {m : Region.Mode} {ops : Array Oper} {acc : List Nat} (h : Listed m ops acc) : Listed .any ops acc := by
  induction h with
  | nil => exact .nil
  | cons ho hn hd _ ih =>
    refine .cons ho hn (fun e he hb => hd e he ?_) ih
    unfold binds at hb ⊢
    split <;> simp_all

/-! ### The checks -/
theorem earlier_spec {i : Nat} : ∀ {es : List Edge}, earlier i es = true → ∀ e ∈ es, binds .text e = true → e.on < i
  | [], _, e, he, _ => by simp at he
  | ed :: es, h, e, he, hb => by
    simp only [earlier] at h
    rcases List.mem_cons.1 he with rfl | he
    · rw [hb] at h
      split at h
      · contradiction
      · split at h
        · exact Nat.le_of_ble_eq_true ‹_›
        · cases h
    · split at h
      · exact earlier_spec h e he hb
      · split at h
        · exact earlier_spec h e he hb
        · cases h

theorem gcReady_spec {L : Nat} : ∀ {es : List Edge}, gcReady L es = true → ∀ e ∈ es, binds .gc e = true → L.testBit e.on = true
  | [], _, e, he, _ => by simp at he
  | ed :: es, h, e, he, hb => by
    simp only [gcReady] at h
    rcases List.mem_cons.1 he with rfl | he
    · rw [hb] at h
      split at h
      · contradiction
      · split at h
        · assumption
        · cases h
    · split at h
      · exact gcReady_spec h e he hb
      · split at h
        · exact gcReady_spec h e he hb
        · cases h

theorem testBit_one_shift (i j : Nat) : (Nat.shiftLeft 1 i).testBit j = decide (i = j) := by
  show (1 <<< i).testBit j = _
  rw [Nat.one_shiftLeft, Nat.testBit_two_pow]

theorem gcScan_spec {ops : Array Oper} {D : Nat → Prop} (hD : ∀ i o, ops[i]? = some o → (∀ e ∈ o.after.toList, binds .gc e = true → D e.on) → D i) :
    ∀ (os : List Oper) (i L : Nat), os = ops.toList.drop i → (∀ j, L.testBit j = true → D j) → ∀ j, (gcScan os i L).testBit j = true → D j
  | [], i, L, _, hL, j, hj => hL j hj
  | o :: os, i, L, he, hL, j, hj => by
    have ho : ops[i]? = some o := by
      have : (ops.toList.drop i)[0]? = some o := by rw [← he]; rfl
      simpa using this
    have he' : os = ops.toList.drop (i + 1) := by
      have : (o :: os).tail = (ops.toList.drop i).tail := by rw [he]
      simpa [List.tail_drop] using this
    simp only [gcScan] at hj
    split at hj
    · rename_i hr
      refine gcScan_spec hD os (i + 1) _ he' (fun k hk => ?_) j hj
      have hk' : L.testBit k = true ∨ (Nat.shiftLeft 1 i).testBit k = true := by
        have : (L ||| Nat.shiftLeft 1 i).testBit k = true := hk
        rw [Nat.testBit_or] at this
        simpa using this
      rcases hk' with hk | hk
      · exact hL k hk
      · rw [testBit_one_shift] at hk
        have : i = k := by simpa using hk
        subst this
        exact hD i o ho fun e hm hb => hL _ (gcReady_spec hr e hm hb)
    · exact gcScan_spec hD os (i + 1) L he' hL j hj

theorem allBits_spec : ∀ {n L : Nat}, allBits n L = true → ∀ i, i < n → L.testBit i = true
  | 0, _, _, i, hi => by omega
  | n + 1, L, h, i, hi => by
    simp only [allBits] at h
    split at h
    · rename_i hb
      by_cases e : i = n
      · subst e; exact hb
      · exact allBits_spec h i (by omega)
    · cases h

theorem gcFix_spec {ops : Array Oper} : ∀ (f L : Nat), gcFix ops.toList ops.toList.length f L = true → ∀ D : Nat → Prop, (∀ i o, ops[i]? = some o → (∀ e ∈ o.after.toList, binds .gc e = true → D e.on) → D i) → (∀ j, L.testBit j = true → D j) → ∀ i, i < ops.size → D i
  | 0, L, h, D, hD, hL, i, hi => by
    simp only [gcFix] at h
    exact hL i (allBits_spec h i (by simpa using hi))
  | f + 1, L, h, D, hD, hL, i, hi => by
    simp only [gcFix] at h
    split at h
    · rename_i ha; exact hL i (allBits_spec ha i (by simpa using hi))
    · exact gcFix_spec f _ h D hD (gcScan_spec hD ops.toList 0 L (by simp) hL) i hi

theorem tidy_at {bs : List Nat} {all : List Oper} : ∀ {os : List Oper} {i : Nat}, tidy bs all os i = true → ∀ j o, os[j]? = some o → tidyAt bs (i + j) (touches all o) all 0 = true ∧ earlier (i + j) o.after.toList = true
  | [], _, _, j, o, ho => by simp at ho
  | o' :: os, i, h, j, o, ho => by
    simp only [tidy] at h
    split at h
    · rename_i h1 h2
      cases j with
      | zero => simp at ho; subst ho; exact ⟨h1, h2⟩
      | succ j =>
        have := tidy_at h j o (by simpa using ho)
        rw [show i + (j + 1) = Nat.succ i + j from by omega]
        exact this
    · cases h

theorem memNat_spec {t : Nat} : ∀ {l : List Nat}, memNat t l = true ↔ t ∈ l
  | [] => by simp [memNat]
  | x :: l => by
    simp only [memNat]
    split
    · rename_i h; have := Nat.eq_of_beq_eq_true h; simp [this]
    · rename_i h
      have hne : t ≠ x := fun e => by subst e; simp at h
      rw [memNat_spec]; simp [hne]

theorem tidyAt_spec {bs : List Nat} {i : Nat} {ts : List Nat} : ∀ {os : List Oper} {k : Nat}, tidyAt bs i ts os k = true → ∀ j o d, os[j]? = some o → o.dst = some d → d ∈ ts → i ≠ k + j → inOrder bs i (k + j) = true
  | [], _, _, j, o, d, ho, _, _, _ => by simp at ho
  | o' :: os, k, h, j, o, d, ho, hd, hm, hne => by
    cases j with
    | zero =>
      simp at ho; subst ho
      simp only [tidyAt, hd] at h
      split at h
      · rename_i hf; rw [memNat_spec.2 hm] at hf; cases hf
      · split at h
        · rename_i hb; exact absurd (Nat.eq_of_beq_eq_true hb) hne
        · split at h
          · assumption
          · cases h
    | succ j =>
      have hr : tidyAt bs i ts os (Nat.succ k) = true := by
        simp only [tidyAt] at h
        split at h
        · exact h
        · split at h
          · exact h
          · split at h
            · exact h
            · split at h
              · exact h
              · cases h
      have := tidyAt_spec hr j o d (by simpa using ho) hd hm (by omega)
      rw [show k + (j + 1) = Nat.succ k + j from by omega]
      exact this

/-- A set that holds with each operation what its edges of every order name. -/
def Closed (ops : Array Oper) (D : Nat → Prop) : Prop := ∀ i o, ops[i]? = some o → D i → ∀ e ∈ o.after.toList, binds .any e = true → D e.on

theorem binds_any_text {e : Edge} (h : binds .any e = true) : binds .text e = true := by
  unfold binds at h ⊢
  split <;> simp_all

theorem beforeBits_spec {acc : List Nat} : ∀ {es : List Edge} {m j : Nat}, (Sym.before acc es m).testBit j = true → m.testBit j = true ∨ ∃ e ∈ es, binds .any e = true ∧ (e.on = j ∨ (nthV 0 acc e.on).testBit j = true)
  | [], m, j, h => .inl h
  | ed :: es, m, j, h => by
    simp only [Sym.before] at h
    split at h
    · rename_i hb
      rcases beforeBits_spec h with h1 | ⟨e, he, hb', h2⟩
      · have : (m ||| (Nat.shiftLeft 1 ed.on ||| nthV 0 acc ed.on)).testBit j = true := h1
        rw [Nat.testBit_or, Nat.testBit_or, testBit_one_shift] at this
        simp only [Bool.or_eq_true, decide_eq_true_eq] at this
        rcases this with h3 | h3 | h3
        · exact .inl h3
        · exact .inr ⟨ed, by simp, hb, .inl h3⟩
        · exact .inr ⟨ed, by simp, hb, .inr h3⟩
      · exact .inr ⟨e, by simp [he], hb', h2⟩
    · rcases beforeBits_spec h with h1 | ⟨e, he, hb', h2⟩
      · exact .inl h1
      · exact .inr ⟨e, by simp [he], hb', h2⟩

/-- What 'befores' says of an operation lies in every closed set that holds it, and earlier. -/
def BOk (ops : Array Oper) (acc : List Nat) : Prop := ∀ i m, acc[i]? = some m → ∀ j, m.testBit j = true → j < i ∧ ∀ D, Closed ops D → D i → D j

theorem befores_spec {ops : Array Oper} (hE : ∀ i o, ops[i]? = some o → earlier i o.after.toList = true) : ∀ (os : List Oper) (acc : List Nat), os = ops.toList.drop acc.length → BOk ops acc → BOk ops (befores os acc)
  | [], acc, _, h => h
  | o :: os, acc, he, h => by
    have ho : ops[acc.length]? = some o := by
      have : (ops.toList.drop acc.length)[0]? = some o := by rw [← he]; rfl
      simpa using this
    have he' : os = ops.toList.drop (acc.length + 1) := by
      have : (o :: os).tail = (ops.toList.drop acc.length).tail := by rw [he]
      simpa [List.tail_drop] using this
    simp only [befores, force_eq]
    refine befores_spec hE os _ (by simpa using he') fun i m hi j hj => ?_
    by_cases hlt : i < acc.length
    · rw [List.getElem?_append_left hlt] at hi
      exact h i m hi j hj
    · have : i = acc.length := by
        have := (List.getElem?_eq_some_iff.1 hi).1
        simp at this; omega
      subst this
      simp at hi; subst hi
      rcases beforeBits_spec hj with h1 | ⟨e, hm, hb, h2⟩
      · simp at h1
      · have hlt := earlier_spec (hE _ o ho) e hm (binds_any_text hb)
        rcases h2 with h2 | h2
        · subst h2
          exact ⟨hlt, fun D hD hi => hD _ o ho hi e hm hb⟩
        · rw [nthV_eq] at h2
          cases hq : acc[e.on]? with
          | none => rw [hq] at h2; simp at h2
          | some q =>
            rw [hq] at h2
            obtain ⟨h3, h4⟩ := h e.on q hq j h2
            exact ⟨by omega, fun D hD hi => h4 D hD (hD _ o ho hi e hm hb)⟩

theorem inOrder_spec {ops : Array Oper} {bs : List Nat} (hB : BOk ops bs) {i j : Nat} (h : inOrder bs i j = true) : (j < i ∧ ∀ D, Closed ops D → D i → D j) ∨ (i < j ∧ ∀ D, Closed ops D → D j → D i) := by
  unfold inOrder at h
  rw [nthV_eq, nthV_eq] at h
  split at h
  · rename_i h1
    cases hq : bs[i]? with
    | none => rw [hq] at h1; simp at h1
    | some q => rw [hq] at h1; exact .inl (hB i q hq j h1)
  · cases hq : bs[j]? with
    | none => rw [hq] at h; simp at h
    | some q => rw [hq] at h; exact .inr (hB j q hq i h)

/-- An operation that is taken next: what is in order with it has been taken if and only if it comes before. -/
theorem inOrder_next {ops : Array Oper} {bs : List Nat} (hB : BOk ops bs) {D : Nat → Prop} {i j : Nat} (hD : Closed ops D) (hD' : Closed ops (fun k => k = i ∨ D k)) (hi : ¬ D i) (h : inOrder bs i j = true) : D j ↔ j < i := by
  rcases inOrder_spec hB h with ⟨h1, h2⟩ | ⟨h1, h2⟩
  · refine ⟨fun _ => h1, fun _ => ?_⟩
    rcases h2 _ hD' (.inl rfl) with e | e
    · omega
    · exact e
  · exact ⟨fun hj => absurd (h2 D hD hj) hi, fun h => by omega⟩

theorem inOrder_symm {bs : List Nat} {i j : Nat} (h : inOrder bs i j = true) : inOrder bs j i = true := by
  unfold inOrder at h ⊢
  split
  · rfl
  · split at h
    · assumption
    · rename_i h1 _ _; rw [h] at h1; cases h1

theorem sat_text {ops : Array Oper} (hE : ∀ i o, ops[i]? = some o → earlier i o.after.toList = true) (m : Region.Mode) (hm : ∀ e, binds m e = true → binds .text e = true) : Sat m ops := by
  intro D hD i
  induction i using Nat.strongRecOn with
  | _ i ih =>
    intro hi
    have ho : ops[i]? = some ops[i] := by simp [hi]
    refine hD i _ ho fun e he hb => ?_
    have hlt := earlier_spec (hE i _ ho) e he (hm e hb)
    exact ih _ hlt (by omega)

/-- Every schedule lists all operations, each behind what its edges name. -/
theorem schedule_spec {ops : Array Oper} {bs : List Nat} (ht : tidy bs ops.toList ops.toList 0 = true) (hg : gcFix ops.toList ops.toList.length ops.toList.length 0 = true) (mixed : Bool) (t : Nat) :
    ∃ acc, schedule mixed ops t = acc.reverse ∧ Listed .any ops acc ∧ ∀ i, i < ops.size → i ∈ acc := by
  have hE : ∀ i o, ops[i]? = some o → earlier i o.after.toList = true := fun i o ho => by
    have := (tidy_at ht i o (by simpa using ho)).2
    simpa using this
  unfold schedule
  split
  · exact lin_spec (sat_text hE .any fun e => binds_any_text) t
  · have key : ∀ m, Sat m ops → ∀ t, ∃ acc, linearise m ops t = acc.reverse ∧ Listed .any ops acc ∧ ∀ i, i < ops.size → i ∈ acc := fun m hm t => by
      obtain ⟨acc, h1, h2, h3⟩ := lin_spec hm t
      exact ⟨acc, h1, h2.any, h3⟩
    split
    · exact key .text (sat_text hE .text fun e h => h) _
    · exact key .gc (fun D hD => gcFix_spec _ 0 hg D hD (fun j hj => by simp at hj)) _
end Go.RX

/- Regions that draw their order: the run in the order of the text, step by step; what each operation looks at. -/
namespace Go.RX
open Sym

/-- Where the run in the order of the text stands before an operation. -/
structure D1 where
  wr : List Nat
  e : List SV
  fr : List SV
  S : SW
  lg : List Ent

def PassD (C : Sym.Callee) (q : Sym.Callee → List SV → List SV → SW → Option (SV × SW)) (i : Nat) (v : SV) (x y : D1) : Pass → Prop
  | .free => q C x.e x.fr x.S = some (v, y.S) ∧ y.lg = x.lg
  | .wary a rs => ∃ w', q C x.e x.fr ⟨x.S.heap, x.S.next, x.S.next⟩ = some (v, w') ∧ clear rs (sightV a x.e x.fr x.S w') x.S w' x.lg = true ∧
      y.S = ⟨w'.heap, w'.next, lower x.S.low w'.low⟩ ∧ y.lg = ⟨i, sightV a x.e x.fr x.S w', x.S, w'⟩ :: x.lg

structure StepD (E : Env) (n : Nat) (sl : List Nat) (all : List Oper) (bs : List Nat) (ms : List Look) (C : Sym.Callee) (i : Nat) (o : Oper) (x y : D1)
    (k : KOp) (d : Nat) (p : Dst) (q : Sym.Callee → List SV → List SV → SW → Option (SV × SW)) (ps : Pass) (v : SV) : Prop where
  kop : kop E ⟨x.wr, sl⟩ o = some k
  dst : dstK sl n o.dst = some (d, p)
  guard : guarded (guardK ⟨x.wr, sl⟩ all o) (k1of k) = ⟨q⟩
  pass : passK ⟨x.wr, sl⟩ bs ms i k o = some ps
  wr : y.wr = d :: x.wr
  e : y.e = p.push v x.e
  fr : y.fr = p.keep x.fr v
  run : PassD C q i v x y ps
  look : ms[i]? = some (lookOf k o)

section
variable {E : Env} {n : Nat} {sl : List Nat} {all : List Oper} {bs : List Nat} {ms : List Look} {C : Sym.Callee}

theorem looks_cons {wr : List Nat} {o : Oper} {rest : List Oper} {l : List Look} (h : looks E n sl wr (o :: rest) = some l) :
    ∃ k d p l', kop E ⟨wr, sl⟩ o = some k ∧ dstK sl n o.dst = some (d, p) ∧ looks E n sl (d :: wr) rest = some l' ∧ l = lookOf k o :: l' := by
  simp only [looks] at h
  split at h
  · rename_i k d p hk hd
    split at h
    · rename_i l' hl
      simp only [Option.some.injEq] at h
      exact ⟨k, d, p, l', hk, hd, hl, h.symm⟩
    · cases h
  · cases h

theorem kopsD_cons {wr : List Nat} {o : Oper} {rest : List Oper} {i : Nat} {f : Sym.Callee → List Ent → List SV → List SV → SW → Option (List SV × SW)} (h : kopsD E n sl all bs ms wr (o :: rest) i = some ⟨f⟩) :
    ∃ k d p r ps q, kop E ⟨wr, sl⟩ o = some k ∧ dstK sl n o.dst = some (d, p) ∧ kopsD E n sl all bs ms (d :: wr) rest (i + 1) = some ⟨r⟩ ∧ passK ⟨wr, sl⟩ bs ms i k o = some ps ∧
      guarded (guardK ⟨wr, sl⟩ all o) (k1of k) = ⟨q⟩ ∧ ∀ lg e fr S fr' S', f C lg e fr S = some (fr', S') →
        ∃ v y, PassD C q i v ⟨wr, e, fr, S, lg⟩ y ps ∧ y.wr = d :: wr ∧ y.e = p.push v e ∧ y.fr = p.keep fr v ∧ r C y.lg y.e y.fr y.S = some (fr', S') := by
  simp only [kopsD] at h
  split at h
  · rename_i k d p hk hd
    split at h
    · rename_i rr ps hr hp
      obtain ⟨r⟩ := rr
      generalize hq : guarded (guardK ⟨wr, sl⟩ all o) (k1of k) = qq
      obtain ⟨q⟩ := qq
      refine ⟨k, d, p, r, ps, q, hk, hd, hr, hp, hq, fun lg e fr S fr' S' hf => ?_⟩
      unfold chainD at h
      rw [hq] at h
      cases ps with
      | free =>
        simp only [Option.some.injEq, KD.mk.injEq] at h
        subst h
        dsimp only at hf
        split at hf
        · rename_i v S1 hv
          exact ⟨v, ⟨d :: wr, p.push v e, p.keep fr v, S1, lg⟩, ⟨hv, rfl⟩, rfl, rfl, rfl, hf⟩
        · cases hf
      | wary a rs =>
        simp only [Option.some.injEq, KD.mk.injEq] at h
        subst h
        dsimp only at hf
        split at hf
        · rename_i v S1 hv
          split at hf
          · rename_i hc
            exact ⟨v, ⟨d :: wr, p.push v e, p.keep fr v, ⟨S1.heap, S1.next, lower S.low S1.low⟩, ⟨i, sightV a e fr S S1, S, S1⟩ :: lg⟩, ⟨S1, hv, hc, rfl, rfl⟩, rfl, rfl, rfl, hf⟩
          · cases hf
        · cases hf
    · cases h
  · cases h

/-- The run in the order of the text. -/
theorem trace : ∀ (rest : List Oper) (i : Nat) (wr : List Nat) (f : Sym.Callee → List Ent → List SV → List SV → SW → Option (List SV × SW)) (l : List Look), kopsD E n sl all bs ms wr rest i = some ⟨f⟩ → looks E n sl wr rest = some l →
    (∀ j, j < rest.length → ms[i + j]? = l[j]?) → ∀ lg e fr S fr' S', f C lg e fr S = some (fr', S') →
    ∃ T : Nat → D1, T 0 = ⟨wr, e, fr, S, lg⟩ ∧ (T rest.length).fr = fr' ∧ (T rest.length).S = S' ∧ ∀ j o, rest[j]? = some o → ∃ k d p q ps v, StepD E n sl all bs ms C (i + j) o (T j) (T (j + 1)) k d p q ps v
  | [], i, wr, f, l, h, hl, hm, lg, e, fr, S, fr', S', hf => by
    simp only [kopsD, Option.some.injEq, KD.mk.injEq] at h
    subst h
    simp only [Option.some.injEq, Prod.mk.injEq] at hf
    obtain ⟨rfl, rfl⟩ := hf
    exact ⟨fun _ => ⟨wr, e, fr, S, lg⟩, rfl, rfl, rfl, fun j o ho => by simp at ho⟩
  | o :: rest, i, wr, f, l, h, hl, hm, lg, e, fr, S, fr', S', hf => by
    obtain ⟨k, d, p, r, ps, q, hk, hd, hr, hp, hq, hrun⟩ := kopsD_cons (C := C) h
    obtain ⟨v, y, h1, h2, h3, h4, h5⟩ := hrun lg e fr S fr' S' hf
    obtain ⟨k', d', p', l', hk', hd', hl', rfl⟩ := looks_cons hl
    rw [hk] at hk'; cases hk'
    rw [hd] at hd'; cases hd'
    obtain ⟨T, t0, t1, t2, t3⟩ := trace rest (i + 1) (d :: wr) r l' hr hl' (fun j hj => by
      have := hm (j + 1) (by simpa using hj)
      rw [show i + 1 + j = i + (j + 1) from by omega, this]; simp) y.lg y.e y.fr y.S fr' S' h5
    have hy : T 0 = y := by rw [t0, ← h2]
    refine ⟨fun j => match j with | 0 => ⟨wr, e, fr, S, lg⟩ | j + 1 => T j, rfl, t1, t2, fun j o' ho' => ?_⟩
    cases j with
    | zero =>
      simp at ho'; subst ho'
      refine ⟨k, d, p, q, ps, v, hk, hd, hq, hp, ?_, ?_, ?_, ?_, ?_⟩
      · show (T 0).wr = _; rw [hy, h2]
      · show (T 0).e = _; rw [hy, h3]
      · show (T 0).fr = _; rw [hy, h4]
      · show PassD C q _ v _ (T 0) ps; rw [hy]; exact h1
      · have := hm 0 (by simp); simpa using this
    | succ j =>
      obtain ⟨k2, d2, p2, q2, ps2, v2, hs⟩ := t3 j o' (by simpa using ho')
      refine ⟨k2, d2, p2, q2, ps2, v2, ?_⟩
      rw [show i + (j + 1) = i + 1 + j from by omega]
      exact hs

/-! ### What an operation looks at -/
theorem guarded_cases {g : Guard} {q0 q : Sym.Callee → List SV → List SV → SW → Option (SV × SW)} (hq : guarded g ⟨q0⟩ = ⟨q⟩) {e fr : List SV} {S S' : SW} {v : SV} (h : q C e fr S = some (v, S')) :
    (q0 C e fr S = some (v, S') ∧ ∀ C S2, q C e fr S2 = q0 C e fr S2) ∨ (S' = S ∧ ∀ S2, q C e fr S2 = some (v, S2)) := by
  cases g with
  | always => simp only [guarded, K1.mk.injEq] at hq; subst hq; exact .inl ⟨h, fun _ _ => rfl⟩
  | never =>
    simp only [guarded, K1.mk.injEq] at hq; subst hq
    simp only [Option.some.injEq, Prod.mk.injEq] at h
    obtain ⟨rfl, rfl⟩ := h
    exact .inr ⟨rfl, fun _ => rfl⟩
  | slot p want =>
    simp only [guarded, K1.mk.injEq] at hq; subst hq
    dsimp only at h ⊢
    split at h
    · rename_i b hb
      try rw [hb]
      cases b <;> cases want <;> dsimp only at h ⊢
      · exact .inl ⟨h, fun _ _ => rfl⟩
      · simp only [Option.some.injEq, Prod.mk.injEq] at h
        obtain ⟨rfl, rfl⟩ := h
        exact .inr ⟨rfl, fun _ => rfl⟩
      · simp only [Option.some.injEq, Prod.mk.injEq] at h
        obtain ⟨rfl, rfl⟩ := h
        exact .inr ⟨rfl, fun _ => rfl⟩
      · exact .inl ⟨h, fun _ _ => rfl⟩
    · rename_i l hb
      try rw [hb]
      simp only [Option.some.injEq, Prod.mk.injEq] at h
      obtain ⟨rfl, rfl⟩ := h
      exact .inr ⟨rfl, fun _ => rfl⟩
    · cases h

/-- What an operation looks at: nothing; what its operands name. -/
theorem step_part {cx : Cx} {o : Oper} {k : KOp} (hk : kop E cx o = some k) (hl : lookOf k o ≠ .big) {g : Guard} {q : Sym.Callee → List SV → List SV → SW → Option (SV × SW)} (hq : guarded g (k1of k) = ⟨q⟩) {e fr : List SV} {S S' : SW} {v : SV}
    (h : q C e fr S = some (v, S')) : ∃ ob, PartAt (q C e fr) ob S S' v ∧ (lookOf k o = .no → ob = [] ∧ S'.next = S.next ∧ ∀ id, S'.at id = S.at id) ∧ (lookOf k o = .rd → ∀ id, id < S.next → S'.at id = S.at id) ∧
      (lookOf k o = .rd ∨ lookOf k o = .wr → ∀ f, opds cx (seenOpds o.op) = some ⟨f⟩ → ob = namedL (f e fr)) := by
  generalize hk1 : k1of k = kk at hq
  obtain ⟨q0⟩ := kk
  have idle : S' = S → (∀ S2, q C e fr S2 = some (v, S2)) → ∃ ob, PartAt (q C e fr) ob S S' v ∧ (lookOf k o = .no → ob = [] ∧ S'.next = S.next ∧ ∀ id, S'.at id = S.at id) ∧ (lookOf k o = .rd → ∀ id, id < S.next → S'.at id = S.at id) ∧
      (lookOf k o = .rd ∨ lookOf k o = .wr → ∀ f, opds cx (seenOpds o.op) = some ⟨f⟩ → ob = namedL (f e fr)) := fun he hall => by
    subst he
    by_cases hno : lookOf k o = .rd ∨ lookOf k o = .wr
    · cases ho : opds cx (seenOpds o.op) with
      | none => exact ⟨[], .same fun S2 _ => hall S2, fun _ => ⟨rfl, rfl, fun _ => rfl⟩, fun _ _ _ => rfl, fun _ f hf => by cases hf⟩
      | some g =>
        obtain ⟨f0⟩ := g
        refine ⟨namedL (f0 e fr), .same fun S2 _ => hall S2, fun hn => ?_, fun _ _ _ => rfl, fun _ f hf => by cases hf; rfl⟩
        rcases hno with hno | hno <;> rw [hno] at hn <;> cases hn
    · exact ⟨[], .same fun S2 _ => hall S2, fun _ => ⟨rfl, rfl, fun _ => rfl⟩, fun _ _ _ => rfl, fun hh => absurd hh hno⟩
  rcases guarded_cases hq h with ⟨h1, h2⟩ | ⟨he, h2⟩
  · by_cases hno : lookOf k o = .rd ∨ lookOf k o = .wr
    · obtain ⟨f, p1, p2, p3⟩ := kop_part hk hk1 hno h1
      refine ⟨namedL (f e fr), ⟨p2.rest, fun S2 hn ha => ?_⟩, fun hn => ?_, p3, fun _ f' hf' => ?_⟩
      · rw [h2]; exact p2.part S2 hn ha
      · rcases hno with hno | hno <;> rw [hno] at hn <;> cases hn
      · rw [p1] at hf'
        simp only [Option.some.injEq, Opds.mk.injEq] at hf'
        rw [hf']
    · have hn : lookOf k o = .no := by
        cases hc : lookOf k o with
        | no => rfl
        | rd => exact absurd (.inl hc) hno
        | wr => exact absurd (.inr hc) hno
        | big => exact absurd hc hl
      have nobig : ∀ op, lookO op ≠ .no := fun op => by
        unfold lookO
        repeat' split
        all_goals first | (intro hh; cases hh; done) | skip
        unfold lookB
        split <;> (intro hh; cases hh)
      cases k with
      | mv f =>
        simp only [k1of, K1.mk.injEq] at hk1; subst hk1
        simp only [Option.some.injEq, Prod.mk.injEq] at h1
        obtain ⟨rfl, rfl⟩ := h1
        exact idle rfl fun S2 => by rw [h2]
      | pure f =>
        simp only [k1of, K1.mk.injEq] at hk1; subst hk1
        dsimp only at h1
        split at h1
        · rename_i y hy
          simp only [Option.some.injEq, Prod.mk.injEq] at h1
          obtain ⟨rfl, rfl⟩ := h1
          exact idle rfl fun S2 => by rw [h2]; simp only [hy]
        · cases h1
      | rd f => exact absurd hn (nobig _)
      | full f => exact absurd hn (nobig _)
      | call f => exact absurd hn (nobig _)
  · exact idle he h2
end
end Go.RX

/- Regions that draw their order: how a state that is described in parts goes on. -/
namespace Go.RX
open Sym

/-- From a described world to a later one, whatever describes it. -/
structure ExtH (ρ : Ren) (H : Nat → Option SObj) (w : World) (ρ' : Ren) (H' : Nat → Option SObj) (w' : World) : Prop where
  le : ρ.le ρ'
  size : w.heap.size ≤ w'.heap.size
  os : w'.os = w.os
  tape : w'.tape = w.tape
  output : w'.output = w.output
  frame : ∀ b, b < w.heap.size → (∀ i p, H i ≠ none → ρ i = some p → p.1 ≠ b) → w'.heap[b]? = w.heap[b]?
  own : ∀ i p, H' i ≠ none → ρ' i = some p → (∃ j q, H j ≠ none ∧ ρ j = some q ∧ q.1 = p.1) ∨ w.heap.size ≤ p.1
  wrel : WRel ρ' H' w'

theorem Ext.toH {ρ ρ' : Ren} {S S' : SW} {w w' : World} (h : Ext ρ S w ρ' S' w') : ExtH ρ S.at w ρ' S'.at w' :=
  ⟨h.le, h.size, h.os, h.tape, h.output, h.frame, h.own, h.wrel⟩

/-- One operation that sees a part (M) of what is described. -/
structure PartStep (ρ ρ' : Ren) (S S' : SW) (HA HB : Nat → Option SObj) (M : Nat → Prop) : Prop where
  inside : ∀ i, S.at i ≠ none → ρ i ≠ none → HA i ≠ none ∧ M i
  here : ∀ i, M i → ρ' i ≠ none → HB i = S'.at i
  apart : ∀ i p, ¬ M i → ρ' i = some p → HB i = HA i ∧ ρ i = some p

section
variable {E : Env} {ρ0 ρ ρ' : Ren} {H0 HA HB : Nat → Option SObj} {w0 w w' : World} {S S' : SW} {M : Nat → Prop}

theorem part_wrel (hA : WRel ρ HA w) (hx : Ext ρ S w ρ' S' w') (hp : PartStep ρ ρ' S S' HA HB M) : WRel ρ' HB w' := by
  have old : ∀ i p, ¬ M i → HB i ≠ none → ρ' i = some p → HA i ≠ none ∧ ρ i = some p ∧ p.1 < w.heap.size ∧ ∀ j q, S.at j ≠ none → ρ j = some q → q.1 ≠ p.1 := fun i p hM hi hp' => by
    obtain ⟨h1, h2⟩ := hp.apart i p hM hp'
    rw [h1] at hi
    refine ⟨hi, h2, hA.lt hi h2, fun j q hj hq e => ?_⟩
    obtain ⟨h3, h4⟩ := hp.inside j hj (by simp [hq])
    have := hA.inj j i q p h3 hi hq h2 e
    subst this
    exact hM h4
  refine ⟨fun i x p hi hpp => ?_, fun i j p q hi hj hpp hq e => ?_⟩
  · by_cases hM : M i
    · rw [hp.here i hM (by simp [hpp])] at hi
      exact hx.wrel.obj i x p hi hpp
    · obtain ⟨h1, h2, h3, h4⟩ := old i p hM (by simp [hi]) hpp
      rw [(hp.apart i p hM hpp).1] at hi
      obtain ⟨o, k1, k2⟩ := hA.obj i x p hi h2
      exact ⟨o, by rw [hx.frame p.1 h3 h4]; exact k1, k2.mono hx.le⟩
  · by_cases hMi : M i <;> by_cases hMj : M j
    · rw [hp.here i hMi (by simp [hpp])] at hi
      rw [hp.here j hMj (by simp [hq])] at hj
      exact hx.wrel.inj i j p q hi hj hpp hq e
    · exfalso
      obtain ⟨h1, h2, h3, h4⟩ := old j q hMj hj hq
      rw [hp.here i hMi (by simp [hpp])] at hi
      rcases hx.own i p hi hpp with ⟨k, r, k1, k2, k3⟩ | hge
      · exact h4 k r k1 k2 (k3.trans e)
      · omega
    · exfalso
      obtain ⟨h1, h2, h3, h4⟩ := old i p hMi hi hpp
      rw [hp.here j hMj (by simp [hq])] at hj
      rcases hx.own j q hj hq with ⟨k, r, k1, k2, k3⟩ | hge
      · exact h4 k r k1 k2 (k3.trans e.symm)
      · omega
    · obtain ⟨h1, h2, -⟩ := old i p hMi hi hpp
      obtain ⟨h3, h4, -⟩ := old j q hMj hj hq
      exact hA.inj i j p q h1 h3 h2 h4 e

theorem part_own (hA : WRel ρ HA w) (hx : Ext ρ S w ρ' S' w') (hp : PartStep ρ ρ' S S' HA HB M) : ∀ i p, HB i ≠ none → ρ' i = some p → (∃ j q, HA j ≠ none ∧ ρ j = some q ∧ q.1 = p.1) ∨ w.heap.size ≤ p.1 := fun i p hi hpp => by
  by_cases hM : M i
  · rw [hp.here i hM (by simp [hpp])] at hi
    rcases hx.own i p hi hpp with ⟨j, q, h1, h2, h3⟩ | h
    · exact .inl ⟨j, q, (hp.inside j h1 (by simp [h2])).1, h2, h3⟩
    · exact .inr h
  · obtain ⟨h1, h2⟩ := hp.apart i p hM hpp
    rw [h1] at hi
    exact .inl ⟨i, p, hi, h2, rfl⟩

theorem part_ext (h : ExtH ρ0 H0 w0 ρ HA w) (hx : Ext ρ S w ρ' S' w') (hp : PartStep ρ ρ' S S' HA HB M) : ExtH ρ0 H0 w0 ρ' HB w' where
  le := h.le.trans hx.le
  size := Nat.le_trans h.size hx.size
  os := hx.os.trans h.os
  tape := hx.tape.trans h.tape
  output := hx.output.trans h.output
  frame b hb hn := by
    refine (hx.frame b (Nat.lt_of_lt_of_le hb h.size) fun i p hi hpp e => ?_).trans (h.frame b hb hn)
    rcases h.own i p (hp.inside i hi (by simp [hpp])).1 hpp with ⟨j, q, hj, hq, hqp⟩ | hge
    · exact hn j q hj hq (hqp.trans e)
    · omega
  own i p hi hpp := by
    rcases part_own h.wrel hx hp i p hi hpp with ⟨j, q, h1, h2, h3⟩ | hge
    · rcases h.own j q h1 h2 with ⟨j2, q2, k1, k2, k3⟩ | hge
      · exact .inl ⟨j2, q2, k1, k2, k3.trans h3⟩
      · exact .inr (by omega)
    · exact .inr (Nat.le_trans h.size hge)
  wrel := part_wrel h.wrel hx hp

theorem part_glob (hA : WRel ρ HA w) (hg : Glob E ρ HA w) (hx : Ext ρ S w ρ' S' w') (hp : PartStep ρ ρ' S S' HA HB M) : Glob E ρ' HB w' where
  lies := hg.lies.on fun b hb => hx.frame b (hg.lies.lt hb) fun i p hi hpp => hg.apart b hb i p (hp.inside i hi (by simp [hpp])).1 hpp
  apart b hb i p hi hpp e := by
    have hlt := hg.lies.lt hb
    rcases part_own hA hx hp i p hi hpp with ⟨j, q, k1, k2, k3⟩ | hge
    · exact hg.apart b hb j q k1 k2 (k3.trans e)
    · omega
  num := hg.num.mono hx.le

/-- A part of what is described. -/
theorem part_ok (hA : WRel ρ HA w) (hg : Glob E ρ HA w) (ht : S.tidy) (hs : ∀ i x, ρ i ≠ none → S.at i = some x → HA i = some x) : Ok E ρ S w where
  wrel := hA.less hs
  tidy := ht
  glob := ⟨hg.lies, fun b hb i p hi hpp => by
    cases e : S.at i with
    | none => exact absurd e hi
    | some x => exact hg.apart b hb i p (by simp [hs i x (by simp [hpp]) e]) hpp, hg.num⟩
end

/-! ### A state of some objects -/
theorem some_state (S : SW) (ob : List Nat) : ∃ S2 : SW, S2.next = S.next ∧ ∀ i, S2.at i = if i ∈ ob then S.at i else none := by
  induction ob with
  | nil => exact ⟨⟨.nil, S.next, S.low⟩, rfl, fun i => by simp [SW.at, hget, Tr.get_nil]⟩
  | cons id ob ih =>
    obtain ⟨S1, h1, h2⟩ := ih
    refine ⟨⟨Tr.set none (S.at id) (path id) S1.heap, S.next, S.low⟩, rfl, fun i => ?_⟩
    rw [at_of_heap, Tr.get_set]
    by_cases h : i = id
    · subst h; simp
    · rw [if_neg (fun e => h (path_inj e))]
      have := h2 i
      simp only [List.mem_cons, h, false_or]
      exact this

/-! ### What stands where, behind some of the operations -/
section
variable (N : Nat) (H : Nat → Nat → Option SObj)

/-- Of those that change an object, the ones that have been carried out are the first i. -/
def Agree (D : Nat → Prop) (i id : Nat) : Prop := ∀ j, j < N → H (j + 1) id ≠ H j id → (D j ↔ j < i)

open Classical in
noncomputable def HD (D : Nat → Prop) (id : Nat) : Option SObj := if h : ∃ i, i ≤ N ∧ Agree N H D i id then H (Classical.choose h) id else none

variable {N : Nat} {H : Nat → Nat → Option SObj} {D D' : Nat → Prop}

theorem Agree.same_le {i i2 id : Nat} (h : Agree N H D i id) (h2 : Agree N H D i2 id) (hi : i2 ≤ N) (hle : i ≤ i2) : H i id = H i2 id := by
  obtain ⟨k, rfl⟩ := Nat.exists_eq_add_of_le hle
  clear hle
  have key : ∀ m, m ≤ k → H (i + m) id = H i id := by
    intro m
    induction m with
    | zero => intro _; rfl
    | succ m ih =>
      intro hm
      rw [← ih (by omega)]
      apply Classical.byContradiction
      intro hne
      have e1 := h (i + m) (by omega) hne
      have e2 := h2 (i + m) (by omega) hne
      have : i + m < i := e1.1 (e2.2 (by omega))
      omega
  exact (key k (Nat.le_refl _)).symm

theorem HD_eq {i id : Nat} (hi : i ≤ N) (h : Agree N H D i id) : HD N H D id = H i id := by
  unfold HD
  have hex : ∃ i, i ≤ N ∧ Agree N H D i id := ⟨i, hi, h⟩
  rw [dif_pos hex]
  obtain ⟨c1, c2⟩ := Classical.choose_spec hex
  rcases Nat.le_total (Classical.choose hex) i with hle | hle
  · exact c2.same_le h hi hle
  · exact (h.same_le c2 c1 hle).symm

theorem HD_same {id : Nat} (h : ∀ j, j < N → H (j + 1) id ≠ H j id → (D j ↔ D' j)) : HD N H D id = HD N H D' id := by
  have key : ∀ i, Agree N H D i id ↔ Agree N H D' i id := fun i =>
    ⟨fun a j hj ht => (h j hj ht).symm.trans (a j hj ht), fun a j hj ht => (h j hj ht).trans (a j hj ht)⟩
  by_cases hex : ∃ i, i ≤ N ∧ Agree N H D i id
  · obtain ⟨i, h1, h2⟩ := hex
    rw [HD_eq h1 h2, HD_eq h1 ((key i).1 h2)]
  · have hex' : ¬ ∃ i, i ≤ N ∧ Agree N H D' i id := fun ⟨i, h1, h2⟩ => hex ⟨i, h1, (key i).2 h2⟩
    unfold HD
    rw [dif_neg hex, dif_neg hex']
end
end Go.RX

/- Regions that draw their order: slots; what interferes with what. -/
namespace Go.RX
open Sym

/-! ### One slot -/
structure SlotAt (sl : List Nat) (ρ : Ren) (x : D1) (t : Nat) (v : Value) : Prop where
  wr : ∀ p, posOf t x.wr = some p → VRel ρ (nthV .unknown x.e p) v
  fr : ∀ p, posOf t sl = some p → VRel ρ (nthV .unknown x.fr p) v

theorem SlotAt.mono {sl : List Nat} {ρ ρ' : Ren} {x : D1} {t : Nat} {v : Value} (hle : ρ.le ρ') (h : SlotAt sl ρ x t v) : SlotAt sl ρ' x t v := ⟨fun p hp => (h.wr p hp).mono hle, fun p hp => (h.fr p hp).mono hle⟩

theorem SlotAt.good {sl : List Nat} {ρ : Ren} {x : D1} {t : Nat} {a : Act} (h : SlotAt sl ρ x t (a.tmps.getD t undef)) : Good ρ ⟨x.wr, sl⟩ x.e x.fr a (.tmp t) := by
  simp only [Good]
  unfold slotK
  split
  · rename_i i hi; exact h.wr i hi
  · split
    · rename_i i hi; exact h.fr i hi
    · exact .unknown _

section
variable {E : Env} {n : Nat} {sl : List Nat} {all : List Oper} {bs : List Nat} {ms : List Look} {C : Sym.Callee} {i : Nat} {o : Oper} {x y : D1} {k : KOp} {d : Nat} {p : Dst}
  {q : Sym.Callee → List SV → List SV → SW → Option (SV × SW)} {ps : Pass} {v : SV}

theorem keep_nthV {sl : List Nat} {fr : List SV} {v : SV} {d t pd pt : Nat} (hd : posOf d sl = some pd) (ht : posOf t sl = some pt) :
    (t = d → nthV .unknown (setNth v fr pd) pt = v ∨ nthV .unknown (setNth v fr pd) pt = .unknown) ∧ (t ≠ d → nthV .unknown (setNth v fr pd) pt = nthV .unknown fr pt ∨ nthV .unknown (setNth v fr pd) pt = .unknown) := by
  rw [nthV_setNth]
  refine ⟨fun e => ?_, fun e => ?_⟩
  · subst e; rw [hd] at ht; cases ht
    by_cases h : pd < fr.length
    · left; simp [h]
    · right; simp [h]
  · have h1 := posOf_some hd
    have h2 := posOf_some ht
    have hne : pt ≠ pd := fun e2 => by subst e2; rw [h1] at h2; cases h2; exact e rfl
    by_cases h : pd < fr.length
    · left; simp [h, hne]
    · right; simp [h]

theorem VRel.of_or {ρ : Ren} {a b : SV} {v : Value} (h : a = b ∨ a = .unknown) (hb : VRel ρ b v) : VRel ρ a v := by
  rcases h with e | e <;> rw [e]
  · exact hb
  · exact .unknown _

theorem StepD.slot_same (hs : StepD E n sl all bs ms C i o x y k d p q ps v) {ρ : Ren} {t : Nat} {u : Value} (ht : o.dst = some t) (hv : VRel ρ v u) : t < n ∧ SlotAt sl ρ y t u := by
  have hd := hs.dst
  rw [ht] at hd
  simp only [dstK] at hd
  split at hd
  · rename_i hb
    have hlt : t < n := Nat.le_of_ble_eq_true hb
    refine ⟨hlt, ?_⟩
    split at hd
    · rename_i hp
      simp only [Option.some.injEq, Prod.mk.injEq] at hd
      obtain ⟨rfl, rfl⟩ := hd
      refine ⟨fun r hr => ?_, fun r hr => ?_⟩
      · rw [hs.wr, posOf_cons, if_pos rfl] at hr; cases hr
        rw [hs.e]; exact hv
      · rw [hp] at hr; cases hr
    · rename_i pp hp
      simp only [Option.some.injEq, Prod.mk.injEq] at hd
      obtain ⟨rfl, rfl⟩ := hd
      refine ⟨fun r hr => ?_, fun r hr => ?_⟩
      · rw [hs.wr, posOf_cons, if_pos rfl] at hr; cases hr
        rw [hs.e]; exact hv
      · rw [hs.fr]
        exact VRel.of_or ((keep_nthV hp hr).1 rfl) hv
  · cases hd

theorem StepD.slot_other (hs : StepD E n sl all bs ms C i o x y k d p q ps v) {ρ : Ren} {t : Nat} {u : Value} (ht : o.dst ≠ some t) (hn : n ≤ t → u = undef) (h : SlotAt sl ρ x t u) : SlotAt sl ρ y t u := by
  have hd := hs.dst
  cases hdst : o.dst with
  | none =>
    rw [hdst] at hd
    simp only [dstK, Option.some.injEq, Prod.mk.injEq] at hd
    obtain ⟨rfl, rfl⟩ := hd
    refine ⟨fun r hr => ?_, fun r hr => ?_⟩
    · rw [hs.wr, posOf_cons] at hr
      by_cases e : n = t
      · rw [if_pos e] at hr; cases hr
        rw [hs.e, hn (by omega)]
        exact .tuple .nil
      · rw [if_neg e] at hr
        cases hq : posOf t x.wr with
        | none => rw [hq] at hr; cases hr
        | some j => rw [hq] at hr; cases hr; rw [hs.e]; exact h.wr j hq
    · rw [hs.fr]; exact h.fr r hr
  | some t0 =>
    have hne : t0 ≠ t := fun e => ht (by rw [hdst, e])
    rw [hdst] at hd
    simp only [dstK] at hd
    have wrp : ∀ p : Nat, d = t0 → y.wr = d :: x.wr → y.e = v :: x.e → ∀ r, posOf t y.wr = some r → VRel ρ (nthV .unknown y.e r) u := by
      intro p hd0 hw he r hr
      rw [hw, posOf_cons, if_neg (by rw [hd0]; exact hne)] at hr
      cases hq : posOf t x.wr with
      | none => rw [hq] at hr; cases hr
      | some j => rw [hq] at hr; cases hr; rw [he]; exact h.wr j hq
    split at hd
    · split at hd
      · rename_i hp
        simp only [Option.some.injEq, Prod.mk.injEq] at hd
        obtain ⟨rfl, rfl⟩ := hd
        exact ⟨wrp 0 rfl hs.wr hs.e, fun r hr => by rw [hs.fr]; exact h.fr r hr⟩
      · rename_i pp hp
        simp only [Option.some.injEq, Prod.mk.injEq] at hd
        obtain ⟨rfl, rfl⟩ := hd
        exact ⟨wrp 0 rfl hs.wr hs.e, fun r hr => by rw [hs.fr]; exact VRel.of_or ((keep_nthV hp hr).2 (fun e => hne e.symm)) (h.fr r hr)⟩
    · cases hd

/-! ### Growth -/
theorem lower_left (a b : Nat) : lower a b ≤ a := by
  unfold lower
  split
  · exact Nat.le_refl _
  · rename_i h
    have : ¬ a ≤ b := fun hle => by rw [Nat.ble_eq_true_of_le hle] at h; cases h
    omega
theorem lower_right (a b : Nat) : lower a b ≤ b := by
  unfold lower
  split
  · rename_i h; exact Nat.le_of_ble_eq_true h
  · exact Nat.le_refl _

theorem StepD.grow (hs : StepD E n sl all bs ms C i o x y k d p q ps v) (hM : CalleeMono C) : Grow x.S y.S := by
  have hk := kop_mono hs.kop
  have hr := hs.run
  cases ps with
  | free => exact guarded_mono hk hs.guard hM hr.1
  | wary a rs =>
    obtain ⟨w', h1, h2, h3, h4⟩ := hr
    have hg := guarded_mono hk hs.guard hM h1
    rw [h3]
    exact ⟨hg.next, fun t i hi => hg.tidy t i hi, lower_left _ _, fun i h5 h6 => hg.keep i h5 (Nat.lt_of_lt_of_le h6 (lower_right _ _))⟩

theorem StepD.lg (hs : StepD E n sl all bs ms C i o x y k d p q ps v) : ∀ z ∈ x.lg, z ∈ y.lg := fun z hz => by
  have hr := hs.run
  cases ps with
  | free => rw [hr.2]; exact hz
  | wary a rs => obtain ⟨w', h1, h2, h3, h4⟩ := hr; rw [h4]; exact List.mem_cons_of_mem _ hz

/-! ### The checks of what looks at memory -/
theorem rivals_spec {bs : List Nat} {i : Nat} {m : Look} : ∀ {ms : List Look} {b j : Nat} {m' : Look}, ms[j]? = some m' → clash m m' = true → i ≠ b + j → inOrder bs i (b + j) ≠ true → (b + j) ∈ rivals bs i m ms b
  | [], _, j, _, hm, _, _, _ => by simp at hm
  | m0 :: ms, b, j, m', hm, hc, hne, hno => by
    have hno' : inOrder bs i (b + j) = false := by simpa using hno
    cases j with
    | zero =>
      simp at hm; subst hm
      simp only [rivals, hc]
      split
      · rename_i hb; exact absurd (Nat.eq_of_beq_eq_true hb) hne
      · rw [show b = b + 0 from rfl, hno']; simp
    | succ j =>
      have ih : (b + (j + 1)) ∈ rivals bs i m ms (Nat.succ b) := by
        rw [show b + (j + 1) = Nat.succ b + j from by omega]
        exact rivals_spec (by simpa using hm) hc (by omega) (by rw [show Nat.succ b + j = b + (j + 1) from by omega]; exact hno)
      simp only [rivals]
      repeat' split
      all_goals first | exact ih | exact List.mem_cons_of_mem _ ih

theorem rivals_no {bs : List Nat} {i : Nat} : ∀ {ms : List Look} {b : Nat}, rivals bs i .no ms b = []
  | [], _ => rfl
  | m :: ms, b => by
    simp only [rivals, clash]
    exact rivals_no

theorem clear_spec {rs : List Nat} {s : Option (List Nat)} {w w' : SW} : ∀ {l : List Ent}, clear rs s w w' l = true → ∀ en ∈ l, en.i ∈ rs → spares en.w en.w' s = true ∧ spares w w' en.sight = true
  | [], _, en, hj, _ => by simp at hj
  | ⟨j, s', u, u'⟩ :: l, h, en, hj, hr => by
    simp only [clear] at h
    rcases List.mem_cons.1 hj with rfl | hj
    · split at h
      · rename_i hm
        rw [memNat_spec.2 hr] at hm; cases hm
      · split at h
        · rename_i h1 h2; exact ⟨h1, h2⟩
        · cases h
    · split at h
      · exact clear_spec h en hj hr
      · split at h
        · exact clear_spec h en hj hr
        · cases h

theorem keptAll_spec {w w' : SW} : ∀ {l : List Nat}, keptAll w w' l = true → ∀ id ∈ l, kept w w' id = true
  | [], _, id, hi => by simp at hi
  | a :: l, h, id, hi => by
    simp only [keptAll] at h
    split at h
    · rename_i h1
      rcases List.mem_cons.1 hi with rfl | hi
      · exact h1
      · exact keptAll_spec h id hi
    · cases h

theorem spares_spec {w w' : SW} {s : Option (List Nat)} (hg : Grow ⟨w.heap, w.next, w.next⟩ w') (h : spares w w' s = true) :
    (∀ id, id < w.next → w'.at id = w.at id) ∨ ∃ l, s = some l ∧ ∀ id ∈ l, id < w.next → w'.at id = w.at id := by
  unfold spares at h
  split at h
  · rename_i hb
    have hb := Nat.le_of_ble_eq_true hb
    exact .inl fun id hid => hg.keep id hid (Nat.lt_of_lt_of_le hid hb)
  · split at h
    · cases h
    · rename_i l
      refine .inr ⟨l, rfl, fun id hid hlt => ?_⟩
      have hk := keptAll_spec h id hid
      unfold kept at hk
      split at hk
      · rename_i hb
        exact hg.keep id hlt (Nat.le_of_ble_eq_true hb)
      · split at hk
        · rename_i hb
          have := Nat.le_of_ble_eq_true hb
          omega
        · exact (objEq_sound hk).symm

theorem rangeN_mem : ∀ {n a id : Nat}, a ≤ id → id < a + n → id ∈ rangeN a n
  | 0, a, id, h1, h2 => by omega
  | n + 1, a, id, h1, h2 => by
    simp only [rangeN]
    by_cases h : id = a
    · subst h; simp
    · exact List.mem_cons_of_mem _ (rangeN_mem (by show a + 1 ≤ id; omega) (by show id < a + 1 + n; omega))

/-! ### Kinds of operations -/
/-- How an operation stands to memory: it runs so (S0 and S1: the states before and behind it, but for their low marks); what it looks at; what has been noted of it. -/
structure Kind (bs : List Nat) (ms : List Look) (C : Sym.Callee) (i : Nat) (m : Look) (x y : D1) (q : Sym.Callee → List SV → List SV → SW → Option (SV × SW)) (v : SV) (S0 S1 : SW) (ob : List Nat) : Prop where
  n0 : S0.next = x.S.next
  a0 : ∀ id, S0.at id = x.S.at id
  run : q C x.e x.fr S0 = some (v, S1)
  n1 : S1.next = y.S.next
  a1 : ∀ id, S1.at id = y.S.at id
  part : m ≠ .big → PartAt (q C x.e x.fr) ob S0 S1 v
  no : m = .no → ob = [] ∧ S1.next = S0.next ∧ ∀ id, S1.at id = S0.at id
  rd : m = .rd → ∀ id, id < S0.next → S1.at id = S0.at id
  log : rivals bs i m ms 0 ≠ [] → ∃ en, en ∈ y.lg ∧ en.i = i ∧ en.w = x.S ∧ (∀ id, en.w'.at id = y.S.at id) ∧ Grow ⟨x.S.heap, x.S.next, x.S.next⟩ en.w' ∧ clear (rivals bs i m ms 0) en.sight x.S en.w' x.lg = true ∧
    ∀ l, en.sight = some l → m ≠ .big ∧ ∀ id, id ∈ ob ∨ (x.S.next ≤ id ∧ id < y.S.next) → id ∈ l

theorem StepD.kind (hs : StepD E n sl all bs ms C i o x y k d p q ps v) (hM : CalleeMono C) : ∃ S0 S1 ob, Kind bs ms C i (lookOf k o) x y q v S0 S1 ob := by
  have hp := hs.pass
  have hr := hs.run
  unfold passK at hp
  split at hp
  · rename_i hriv
    simp only [Option.some.injEq] at hp; subst hp
    have hlog : rivals bs i (lookOf k o) ms 0 ≠ [] → False := fun h => h hriv
    by_cases hb : lookOf k o = .big
    · exact ⟨x.S, y.S, [], rfl, fun _ => rfl, hr.1, rfl, fun _ => rfl, fun h => absurd hb h, fun h => (by rw [hb] at h; cases h), fun h => (by rw [hb] at h; cases h), fun h => (hlog h).elim⟩
    · obtain ⟨ob, h1, h2, h3, h4⟩ := step_part hs.kop hb hs.guard hr.1
      exact ⟨x.S, y.S, ob, rfl, fun _ => rfl, hr.1, rfl, fun _ => rfl, fun _ => h1, h2, h3, fun h => (hlog h).elim⟩
  · rename_i r rs hriv
    have hno : lookOf k o ≠ .no := fun h => by rw [h, rivals_no] at hriv; cases hriv
    split at hp
    · rename_i hb
      simp only [Option.some.injEq] at hp; subst hp
      obtain ⟨w', h1, h2, h3, h4⟩ := hr
      have hg := guarded_mono (kop_mono hs.kop) hs.guard hM h1
      have hat : ∀ id, w'.at id = y.S.at id := fun id => by rw [h3]; rfl
      refine ⟨⟨x.S.heap, x.S.next, x.S.next⟩, w', [], rfl, fun _ => rfl, h1, by rw [h3], hat, fun h => absurd hb h, fun h => absurd h hno, fun h => (by rw [hb] at h; cases h), fun _ => ?_⟩
      exact ⟨_, by rw [h4]; exact List.mem_cons_self, rfl, rfl, hat, hg, by rw [hriv]; exact h2, fun l hl => by cases hl⟩
    · rename_i hb
      split at hp
      · rename_i g hg0
        simp only [Option.some.injEq] at hp; subst hp
        obtain ⟨w', h1, h2, h3, h4⟩ := hr
        have hb' : lookOf k o ≠ .big := fun h => hb h
        have hg := guarded_mono (kop_mono hs.kop) hs.guard hM h1
        have hat : ∀ id, w'.at id = y.S.at id := fun id => by rw [h3]; rfl
        obtain ⟨ob, p1, p2, p3, p4⟩ := step_part hs.kop hb' hs.guard h1
        have hob : ob = namedL (g x.e x.fr) := p4 (by
          cases hc : lookOf k o with
          | no => exact absurd hc hno
          | rd => exact .inl rfl
          | wr => exact .inr rfl
          | big => exact absurd hc hb') g hg0
        refine ⟨⟨x.S.heap, x.S.next, x.S.next⟩, w', ob, rfl, fun _ => rfl, h1, by rw [h3], hat, fun _ => p1, p2, p3, fun _ => ?_⟩
        refine ⟨_, by rw [h4]; exact List.mem_cons_self, rfl, rfl, hat, hg, by rw [hriv]; exact h2, fun l hl => ⟨hb', fun id hid => ?_⟩⟩
        simp only [sightV, Option.some.injEq] at hl
        subst hl
        rcases hid with hid | ⟨hid1, hid2⟩
        · exact List.mem_append_left _ (by rw [← hob]; exact hid)
        · refine List.mem_append_right _ (rangeN_mem hid1 ?_)
          have := hg.next
          have e : y.S.next = w'.next := by rw [h3]
          simp only at this
          omega
      · cases hp
end
end Go.RX

/- Regions that draw their order: sound in every order. -/
namespace Go.RX
open Sym

theorem slotsOf_spec {t : Nat} : ∀ {os : List Operand}, Operand.tmp t ∈ os → t ∈ slotsOf os
  | [], h => by simp at h
  | x :: os, h => by
    rcases List.mem_cons.1 h with e | h
    · subst e; simp [slotsOf]
    · have := slotsOf_spec h
      cases x <;> simp [slotsOf, this]

theorem Listed.closed {ops : Array Oper} : ∀ {acc : List Nat}, Listed .any ops acc → Closed ops (· ∈ acc)
  | [], _ => fun i o _ hi => by simp at hi
  | j :: acc, .cons (o := o') ho' hn hd h => fun i o ho hi e he hb => by
    rcases List.mem_cons.1 hi with rfl | hi
    · rw [ho'] at ho; cases ho
      exact List.mem_cons_of_mem _ (hd e he hb)
    · exact List.mem_cons_of_mem _ (h.closed i o ho hi e he hb)

theorem Listed.right {m : Region.Mode} {ops : Array Oper} : ∀ {xs ys : List Nat}, Listed m ops (xs ++ ys) → Listed m ops ys
  | [], _, h => h
  | _ :: xs, ys, .cons _ _ _ h => Listed.right (xs := xs) h

section
variable {E : Env} {n : Nat} {sl : List Nat} {ops : Array Oper} {bs : List Nat} {ms : List Look} {C : Sym.Callee} {r : Option Nat} {m : Nat}

/-- The run in the order of the text, and what has been checked. -/
structure Run (E : Env) (n : Nat) (sl : List Nat) (ops : Array Oper) (bs : List Nat) (ms : List Look) (C : Sym.Callee) (T : Nat → D1) : Prop where
  step : ∀ i o, ops[i]? = some o → ∃ k d p q ps v, StepD E n sl ops.toList bs ms C i o (T i) (T (i + 1)) k d p q ps v
  tidy : tidy bs ops.toList ops.toList 0 = true
  bok : BOk ops bs
  wr0 : (T 0).wr = []
  tidy0 : (T 0).S.tidy

variable {T : Nat → D1}

theorem Run.grow (hT : Run E n sl ops bs ms C T) (hM : CalleeMono C) {i : Nat} (hi : i < ops.size) : Grow (T i).S (T (i + 1)).S := by
  obtain ⟨k, d, p, q, ps, v, h⟩ := hT.step i ops[i] (by simp [hi])
  exact h.grow hM

theorem Run.grows (hT : Run E n sl ops bs ms C T) (hM : CalleeMono C) {i j : Nat} (hij : i ≤ j) (hj : j ≤ ops.size) : Grow (T i).S (T j).S := by
  obtain ⟨k, rfl⟩ := Nat.exists_eq_add_of_le hij
  clear hij
  induction k with
  | zero => exact .refl _
  | succ k ih => exact (ih (by omega)).trans (hT.grow hM (by omega))

theorem Run.log (hT : Run E n sl ops bs ms C T) {i j : Nat} (hij : i ≤ j) (hj : j ≤ ops.size) : ∀ z ∈ (T i).lg, z ∈ (T j).lg := by
  obtain ⟨k, rfl⟩ := Nat.exists_eq_add_of_le hij
  clear hij
  induction k with
  | zero => exact fun _ h => h
  | succ k ih =>
    intro z hz
    obtain ⟨k', d, p, q, ps, v, h⟩ := hT.step (i + k) ops[i + k] (by simp)
    exact h.lg z (ih (by omega) z hz)

theorem Run.tidyAt (hT : Run E n sl ops bs ms C T) (hM : CalleeMono C) {i : Nat} (hi : i ≤ ops.size) : (T i).S.tidy := (hT.grows hM (Nat.zero_le i) hi).tidy hT.tidy0

/-- What changes an object that an operation sees is in order with it, or has made the object. -/
theorem Run.compat (hT : Run E n sl ops bs ms C T) (hM : CalleeMono C) {i j id : Nat} {oi oj : Oper} (hi : ops[i]? = some oi) (hj : ops[j]? = some oj) (hne : i ≠ j)
    {ki : KOp} {di : Nat} {pi : Dst} {qi : Sym.Callee → List SV → List SV → SW → Option (SV × SW)} {psi : Pass} {vi : SV} (hsi : StepD E n sl ops.toList bs ms C i oi (T i) (T (i + 1)) ki di pi qi psi vi)
    {S0 S1 : SW} {ob : List Nat} (hki : Kind bs ms C i (lookOf ki oi) (T i) (T (i + 1)) qi vi S0 S1 ob)
    (hsee : lookOf ki oi = .big ∨ id ∈ ob ∨ ((T i).S.next ≤ id ∧ id < (T (i + 1)).S.next))
    (htouch : (T (j + 1)).S.at id ≠ (T j).S.at id) : inOrder bs i j = true ∨ ((T j).S.next ≤ id ∧ id < (T (j + 1)).S.next) := by
  obtain ⟨kj, dj, pj, qj, psj, vj, hsj⟩ := hT.step j oj hj
  have hjN : j < ops.size := (Array.getElem?_eq_some_iff.1 hj).1
  have hiN : i < ops.size := (Array.getElem?_eq_some_iff.1 hi).1
  by_cases hold : id < (T j).S.next
  · left
    apply Classical.byContradiction
    intro hord
    obtain ⟨U0, U1, ob2, hkj⟩ := hsj.kind hM
    have hmj : lookOf kj oj = .wr ∨ lookOf kj oj = .big := by
      cases hc : lookOf kj oj with
      | no =>
        exfalso
        obtain ⟨-, -, h3⟩ := hkj.no hc
        exact htouch (by rw [← hkj.a1, h3, hkj.a0])
      | rd =>
        exfalso
        exact htouch (by rw [← hkj.a1, hkj.rd hc id (by rw [hkj.n0]; exact hold), hkj.a0])
      | wr => exact .inl rfl
      | big => exact .inr rfl
    have hmi : lookOf ki oi ≠ .no := fun hc => by
      obtain ⟨h1, h2, -⟩ := hki.no hc
      rcases hsee with h | h | ⟨h3, h4⟩
      · rw [hc] at h; cases h
      · rw [h1] at h; simp at h
      · have := hki.n0; have := hki.n1; omega
    have hc1 : clash (lookOf ki oi) (lookOf kj oj) = true := by
      rcases hmj with h | h <;> rw [h] <;> cases hc : lookOf ki oi <;> first | rfl | exact absurd hc hmi
    have hc2 : clash (lookOf kj oj) (lookOf ki oi) = true := by
      rcases hmj with h | h <;> rw [h] <;> cases hc : lookOf ki oi <;> first | rfl | exact absurd hc hmi
    have hri : j ∈ rivals bs i (lookOf ki oi) ms 0 := by
      have := rivals_spec (bs := bs) (i := i) (b := 0) hsj.look hc1 (by omega) (by simpa using hord)
      simpa using this
    have hrj : i ∈ rivals bs j (lookOf kj oj) ms 0 := by
      have := rivals_spec (bs := bs) (i := j) (b := 0) hsi.look hc2 (by omega) (by
        intro h2; exact hord (inOrder_symm (by simpa using h2)))
      simpa using this
    obtain ⟨ei, i1, i2, i3, i4, i5, i6, i7⟩ := hki.log (List.ne_nil_of_mem hri)
    obtain ⟨ej, j1, j2, j3, j4, j5, j6, j7⟩ := hkj.log (List.ne_nil_of_mem hrj)
    have fin : spares (T j).S ej.w' ei.sight = true → False := fun hsp => by
      rcases spares_spec j5 hsp with h | ⟨l, h1, h2⟩
      · exact htouch (by rw [← j4]; exact h id hold)
      · obtain ⟨hnb, hin⟩ := i7 l h1
        have hmem : id ∈ l := by
          rcases hsee with h | h
          · exact absurd h hnb
          · exact hin id h
        exact htouch (by rw [← j4]; exact h2 id hmem hold)
    rcases Nat.lt_or_gt_of_ne hne with hlt | hlt
    · have hmem := hT.log (i := i + 1) (j := j) (by omega) (by omega) _ i1
      exact fin (clear_spec j6 ei hmem (by rw [i2]; exact hrj)).2
    · have hmem := hT.log (i := j + 1) (j := i) (by omega) (by omega) _ j1
      have := (clear_spec i6 ej hmem (by rw [j2]; exact hri)).1
      rw [j3] at this
      exact fin this
  · right
    refine ⟨by omega, Nat.lt_of_not_le fun hge => htouch ?_⟩
    rw [hT.tidyAt hM (by omega) id hge, hT.tidyAt hM (by omega) id (by omega)]

/-! ### The invariant -/
noncomputable abbrev Ht (T : Nat → D1) (i id : Nat) : Option SObj := (T i).S.at id

structure DInv (E : Env) (n : Nat) (sl : List Nat) (ops : Array Oper) (T : Nat → D1) (ρ0 : Ren) (a0 : Act) (w0 : World) (done : List Nat) (ρ : Ren) (a : Act) (w : World) : Prop where
  size : a.tmps.size = n
  defers : a.defers = a0.defers
  slots : ∀ i t, i ≤ ops.size → (∀ j o, ops[j]? = some o → o.dst = some t → (j ∈ done ↔ j < i)) → SlotAt sl ρ (T i) t (a.tmps.getD t undef)
  ext : ExtH ρ0 (T 0).S.at w0 ρ (HD ops.size (Ht T) (· ∈ done)) w
  glob : Glob E ρ (HD ops.size (Ht T) (· ∈ done)) w
  born : ∀ id p, ρ id = some p → ρ0 id = some p ∨ ∃ j, j ∈ done ∧ j < ops.size ∧ (T j).S.next ≤ id ∧ id < (T (j + 1)).S.next

/-- The numbers of two operations lie apart. -/
theorem Run.apart (hT : Run E n sl ops bs ms C T) (hM : CalleeMono C) {i j id : Nat} (hi : i < ops.size) (hj : j < ops.size) (h1 : (T i).S.next ≤ id) (h2 : id < (T (i + 1)).S.next) (h3 : (T j).S.next ≤ id) (h4 : id < (T (j + 1)).S.next) : i = j := by
  apply Classical.byContradiction
  intro hne
  rcases Nat.lt_or_gt_of_ne hne with hlt | hlt
  · have := (hT.grows hM (i := i + 1) (j := j) (by omega) (by omega)).next; omega
  · have := (hT.grows hM (i := j + 1) (j := i) (by omega) (by omega)).next; omega

theorem draw_step (hT : Run E n sl ops bs ms C T) (hC : CalleeSound E C) (hM : CalleeMono C) {ρ0 : Ren} {a0 : Act} {w0 : World} (hfresh : Fresh ρ0 (T 0).S.next (T ops.size).S.next)
    {done : List Nat} {i : Nat} {o : Oper} (ho : ops[i]? = some o) (hni : i ∉ done) (hcl : Closed ops (· ∈ done)) (hcl' : Closed ops (· ∈ i :: done)) {ρ : Ren} {a : Act} {w : World} (hinv : DInv E n sl ops T ρ0 a0 w0 done ρ a w)
    {next : Act → World → Prop} {Q : Exit → Act → World → Prop} (hn : ∀ ρ' a' w', DInv E n sl ops T ρ0 a0 w0 (i :: done) ρ' a' w' → next a' w') : stepIn (Fr r) m E.P ops o a w next Q := by
  obtain ⟨k, d, p, q, ps, v, hs⟩ := hT.step i o ho
  have hiN : i < ops.size := (Array.getElem?_eq_some_iff.1 ho).1
  have hcl2 : Closed ops (fun k => k = i ∨ k ∈ done) := by simpa using hcl'
  have htid := tidy_at hT.tidy i o (by simpa using ho)
  simp only [Nat.zero_add] at htid
  have ord : ∀ j, inOrder bs i j = true → (j ∈ done ↔ j < i) := fun j h => inOrder_next hT.bok hcl hcl2 hni h
  -- the slots that the operation reads
  have hslot : ∀ t, t ∈ touches ops.toList o → SlotAt sl ρ (T i) t (a.tmps.getD t undef) := fun t ht =>
    hinv.slots i t (Nat.le_of_lt hiN) fun j o' ho' hd' => by
      by_cases e : j = i
      · subst e; simp [hni]
      · have := tidyAt_spec (k := 0) htid.1 j o' t (by simpa using ho') hd' ht (by omega)
        exact ord j (by simpa using this)
  have hgood : Goods ρ ⟨(T i).wr, sl⟩ (T i).e (T i).fr a o := fun x hx => by
    cases x with
    | tmp t => exact (hslot t (by unfold touches; simp [slotsOf_spec hx])).good
    | _ => trivial
  have hguard : ∀ d, guardSlot ops.toList o = some d → Good ρ ⟨(T i).wr, sl⟩ (T i).e (T i).fr a (.tmp d) := fun d hd =>
    (hslot d (by unfold touches guardNeeds; simp [hd, slotsOf])).good
  -- what is behind the operation
  have fin : ∀ (S2 S2' : SW) (M : Nat → Prop), S2.next = (T i).S.next → S2'.next = (T (i + 1)).S.next → S2.tidy → q C (T i).e (T i).fr S2 = some (v, S2') →
      (∀ id, S2.at id ≠ none → ρ id ≠ none → HD ops.size (Ht T) (· ∈ done) id = S2.at id ∧ M id) →
      (∀ id, M id → (ρ id ≠ none ∨ ((T i).S.next ≤ id ∧ id < (T (i + 1)).S.next)) → HD ops.size (Ht T) (· ∈ i :: done) id = S2'.at id) →
      (∀ id, ¬ M id → (T (i + 1)).S.at id = (T i).S.at id) → (∀ id, (T i).S.next ≤ id → id < (T (i + 1)).S.next → M id) → stepIn (Fr r) m E.P ops o a w next Q := by
    intro S2 S2' M hn2 hn2' ht2 hq2 hin hhere hother hnew
    have hok : Ok E ρ S2 w := part_ok hinv.ext.wrel hinv.glob ht2 fun id x hid hx => by rw [(hin id (by simp [hx]) hid).1, hx]
    have hfr2 : Fresh ρ S2.next S2'.next := fun id h1 h2 => by
      rw [hn2] at h1; rw [hn2'] at h2
      cases e : ρ id with
      | none => rfl
      | some pp =>
        exfalso
        rcases hinv.born id pp e with e0 | ⟨j, hj, hjN, h3, h4⟩
        · have := (hT.grows hM (i := 0) (j := i) (Nat.zero_le _) (by omega)).next
          have := (hT.grows hM (i := i + 1) (j := ops.size) (by omega) (Nat.le_refl _)).next
          rw [hfresh id (by omega) (by omega)] at e0; cases e0
        · have := hT.apart hM hiN hjN h1 h2 h3 h4
          subst this; exact hni hj
    refine op_step hs.kop hC hs.guard hgood hguard hok hq2 hfr2 fun ρ' u w' hx hu => hn ρ' _ w' ?_
    have hle := hx.le
    have hmap : ∀ id pp, ρ' id = some pp → ρ id = some pp ∨ ((T i).S.next ≤ id ∧ id < (T (i + 1)).S.next) := fun id pp e => by
      have := hx.fresh id pp e
      rw [hn2, hn2'] at this; exact this
    have hps : PartStep ρ ρ' S2 S2' (HD ops.size (Ht T) (· ∈ done)) (HD ops.size (Ht T) (· ∈ i :: done)) M := by
      refine ⟨fun id h1 h2 => ?_, fun id h1 h2 => ?_, fun id pp h1 h2 => ?_⟩
      · obtain ⟨e1, e2⟩ := hin id h1 h2
        exact ⟨by rw [e1]; exact h1, e2⟩
      · cases e : ρ' id with
        | none => exact absurd e h2
        | some pp =>
          refine hhere id h1 ?_
          rcases hmap id pp e with e1 | e1
          · exact .inl (by simp [e1])
          · exact .inr e1
      · have hold : ρ id = some pp := by
          rcases hmap id pp h2 with e1 | ⟨e1, e2⟩
          · exact e1
          · exact absurd (hnew id e1 e2) h1
        refine ⟨(HD_same fun j hj ht => ?_).symm, hold⟩
        have : j ≠ i := fun e => by subst e; exact ht (hother id h1)
        simp [this]
    refine ⟨?_, (put_defers _ _ _).trans hinv.defers, fun i2 t hi2 hag => ?_, part_ext hinv.ext hx hps, part_glob hinv.ext.wrel hinv.glob hx hps, fun id pp e => ?_⟩
    · cases o.dst <;> simp [Act.put, hinv.size]
    · by_cases hdt : o.dst = some t
      · have hi1 : i < i2 := (hag i o ho hdt).1 (by simp)
        obtain ⟨hlt, h1⟩ := hs.slot_same hdt hu
        have htm : (a.put o.dst u).tmps.getD t undef = u := by
          rw [hdt]
          exact getD_set_same (by rw [hinv.size]; exact hlt)
        rw [htm]
        have hwr : ∀ j o', ops[j]? = some o' → i < j → j < i2 → o'.dst ≠ some t := fun j o' ho' h2 h3 hd' => by
          have hmem := (hag j o' ho' hd').2 h3
          have hjd : j ∈ done := by
            rcases List.mem_cons.1 hmem with e | e
            · omega
            · exact e
          have hto : t ∈ touches ops.toList o := by unfold touches; simp [hdt]
          have := tidyAt_spec (k := 0) htid.1 j o' t (by simpa using ho') hd' hto (by omega)
          have := (ord j (by simpa using this)).1 hjd
          omega
        have go : ∀ c, i + 1 + c ≤ i2 → SlotAt sl ρ' (T (i + 1 + c)) t u := by
          intro c
          induction c with
          | zero => intro _; exact h1
          | succ c ih =>
            intro hc
            obtain ⟨k', d', p', q', ps', v', hs'⟩ := hT.step (i + 1 + c) ops[i + 1 + c] (by simp)
            exact hs'.slot_other (hwr (i + 1 + c) _ (by simp) (by omega) (by omega)) (fun h => by omega) (ih (by omega))
        have := go (i2 - (i + 1)) (by omega)
        rw [show i + 1 + (i2 - (i + 1)) = i2 from by omega] at this
        exact this
      · have htm : (a.put o.dst u).tmps.getD t undef = a.tmps.getD t undef := by
          cases hd0 : o.dst with
          | none => rfl
          | some d0 => exact getD_set_other (fun e => hdt (by rw [hd0, e]))
        rw [htm]
        refine (hinv.slots i2 t hi2 fun j o' ho' hd' => ?_).mono hle
        have hji : j ≠ i := fun e => by subst e; rw [ho] at ho'; cases ho'; exact hdt hd'
        have := hag j o' ho' hd'
        simpa [hji] using this
    · rcases hmap id pp e with e1 | ⟨e1, e2⟩
      · rcases hinv.born id pp e1 with e2 | ⟨j, h1, h2⟩
        · exact .inl e2
        · exact .inr ⟨j, List.mem_cons_of_mem _ h1, h2⟩
      · exact .inr ⟨i, by simp, hiN, e1, e2⟩
  -- agreement on what the operation sees
  have agree : ∀ id, ρ id ≠ none → id < (T i).S.next → (∀ j oj, ops[j]? = some oj → i ≠ j → (T (j + 1)).S.at id ≠ (T j).S.at id → inOrder bs i j = true ∨ ((T j).S.next ≤ id ∧ id < (T (j + 1)).S.next)) →
      HD ops.size (Ht T) (· ∈ done) id = (T i).S.at id ∧ HD ops.size (Ht T) (· ∈ i :: done) id = (T (i + 1)).S.at id := by
    intro id hid hlt hcomp
    have key : ∀ j, j < ops.size → j ≠ i → (T (j + 1)).S.at id ≠ (T j).S.at id → (j ∈ done ↔ j < i) := fun j hj hne ht => by
      rcases hcomp j ops[j] (by simp [hj]) (fun e => hne e.symm) ht with h | ⟨h1, h2⟩
      · exact ord j h
      · have hji : j < i := by
          apply Nat.lt_of_not_le
          intro hle
          have := (hT.grows hM (i := i) (j := j) hle (by omega)).next
          omega
        refine ⟨fun _ => hji, fun _ => ?_⟩
        cases e : ρ id with
        | none => exact absurd e hid
        | some pp =>
          rcases hinv.born id pp e with e0 | ⟨j2, hj2, hjN, h3, h4⟩
          · have := (hT.grows hM (i := 0) (j := j) (Nat.zero_le _) (by omega)).next
            have := (hT.grows hM (i := j + 1) (j := ops.size) (by omega) (Nat.le_refl _)).next
            rw [hfresh id (by omega) (by omega)] at e0; cases e0
          · have := hT.apart hM hj hjN h1 h2 h3 h4
            subst this; exact hj2
    refine ⟨HD_eq (Nat.le_of_lt hiN) fun j hj ht => ?_, HD_eq hiN fun j hj ht => ?_⟩
    · by_cases e : j = i
      · subst e; simp [hni]
      · exact key j hj e ht
    · by_cases e : j = i
      · subst e; simp
      · have := key j hj e ht
        simp only [List.mem_cons, e, false_or, this]
        omega
  have hti := hT.tidyAt hM (i := i) (Nat.le_of_lt hiN)
  have hti' := hT.tidyAt hM (i := i + 1) hiN
  have hnx := (hT.grow hM hiN).next
  obtain ⟨S0, S1, ob, hk⟩ := hs.kind hM
  -- what the operation has made
  have made : ∀ id, (lookOf k o = .big ∨ id ∈ ob ∨ ((T i).S.next ≤ id ∧ id < (T (i + 1)).S.next)) → (T i).S.next ≤ id → id < (T (i + 1)).S.next → HD ops.size (Ht T) (· ∈ i :: done) id = (T (i + 1)).S.at id := by
    intro id hsee h1 h2
    refine HD_eq hiN fun j hj ht => ?_
    by_cases e : j = i
    · subst e; simp
    · rcases Nat.lt_or_gt_of_ne e with hlt3 | hlt3
      · exfalso
        have := (hT.grows hM (i := j + 1) (j := i) (by omega) (by omega)).next
        exact ht (by rw [Ht, Ht, hT.tidyAt hM (i := j + 1) (by omega) id (by omega), hT.tidyAt hM (i := j) (by omega) id (by have := (hT.grow hM hj).next; omega)])
      · rcases hT.compat hM ho (show ops[j]? = some ops[j] by simp [hj]) (fun e2 => e e2.symm) hs hk hsee ht with h6 | ⟨h6, h7⟩
        · have := ord j h6
          simp only [List.mem_cons, e, false_or, this]; omega
        · have := (hT.grows hM (i := i + 1) (j := j) (by omega) (by omega)).next
          omega
  by_cases hb : lookOf k o = .big
  · have hcomp : ∀ id j oj, ops[j]? = some oj → i ≠ j → (T (j + 1)).S.at id ≠ (T j).S.at id → inOrder bs i j = true ∨ ((T j).S.next ≤ id ∧ id < (T (j + 1)).S.next) := fun id j oj hoj hne ht =>
      hT.compat hM ho hoj hne hs hk (.inl hb) ht
    refine fin S0 S1 (fun id => id < (T (i + 1)).S.next) hk.n0 hk.n1 (fun id hid => by rw [hk.a0]; exact hti id (by rw [← hk.n0]; exact hid)) hk.run (fun id hl hr => ?_) (fun id hlt hor => ?_) (fun id hge => ?_) (fun id _ h => h)
    · have hlt : id < (T i).S.next := Nat.lt_of_not_le fun hge => hl (by rw [hk.a0]; exact hti id hge)
      exact ⟨by rw [hk.a0]; exact (agree id hr hlt (hcomp id)).1, by omega⟩
    · rw [hk.a1]
      by_cases hlt2 : id < (T i).S.next
      · rcases hor with hr | hr
        · exact (agree id hr hlt2 (hcomp id)).2
        · omega
      · exact made id (.inl hb) (by omega) hlt
    · rw [hti' id (by omega), hti id (by omega)]
  · have hpart := hk.part hb
    have hcomp : ∀ id, id ∈ ob → ∀ j oj, ops[j]? = some oj → i ≠ j → (T (j + 1)).S.at id ≠ (T j).S.at id → inOrder bs i j = true ∨ ((T j).S.next ≤ id ∧ id < (T (j + 1)).S.next) := fun id hid j oj hoj hne ht =>
      hT.compat hM ho hoj hne hs hk (.inr (.inl hid)) ht
    obtain ⟨S2, e1, e3⟩ := some_state S0 ob
    obtain ⟨S2', f1, f2, f3, f4⟩ := hpart.part S2 e1 (fun id hid => by rw [e3, if_pos hid])
    refine fin S2 S2' (fun id => (id ∈ ob ∧ id < (T i).S.next) ∨ ((T i).S.next ≤ id ∧ id < (T (i + 1)).S.next)) (by rw [e1, hk.n0]) (by rw [f2, hk.n1]) (fun id hid => ?_) f1 (fun id hl hr => ?_) (fun id hM' hor => ?_) (fun id hM' => ?_) (fun id h1 h2 => .inr ⟨h1, h2⟩)
    · rw [e3]
      split
      · rw [hk.a0]; exact hti id (by rw [← hk.n0, ← e1]; exact hid)
      · rfl
    · rw [e3] at hl ⊢
      by_cases hob : id ∈ ob
      · rw [if_pos hob] at hl ⊢
        have hlt : id < (T i).S.next := Nat.lt_of_not_le fun hge => hl (by rw [hk.a0]; exact hti id hge)
        exact ⟨by rw [hk.a0]; exact (agree id hr hlt (hcomp id hob)).1, .inl ⟨hob, hlt⟩⟩
      · rw [if_neg hob] at hl; exact absurd rfl hl
    · rcases hM' with ⟨hob, hlt⟩ | ⟨h1, h2⟩
      · rw [f3 id (.inl hob), hk.a1]
        rcases hor with hr | ⟨hr, -⟩
        · exact (agree id hr hlt (hcomp id hob)).2
        · omega
      · rw [f3 id (.inr ⟨by rw [hk.n0]; exact h1, by rw [hk.n1]; exact h2⟩), hk.a1]
        exact made id (.inr (.inr ⟨h1, h2⟩)) h1 h2
    · by_cases hlt : id < (T i).S.next
      · have hob : id ∉ ob := fun h => hM' (.inl ⟨h, hlt⟩)
        rw [← hk.a1, hpart.rest id hob (by rw [hk.n0]; exact hlt), hk.a0]
      · rw [hti' id (by
          apply Nat.le_of_not_lt
          intro h2
          exact hM' (.inr ⟨by omega, h2⟩)), hti id (by omega)]

theorem draw_all (hT : Run E n sl ops bs ms C T) (hC : CalleeSound E C) (hM : CalleeMono C) {ρ0 : Ren} {a0 : Act} {w0 : World} (hfresh : Fresh ρ0 (T 0).S.next (T ops.size).S.next) {Q : Exit → Act → World → Prop}
    (hQ : ∀ done ρ a w, (∀ i, i < ops.size → i ∈ done) → DInv E n sl ops T ρ0 a0 w0 done ρ a w → Q .normal a w) :
    ∀ (rest done : List Nat), Listed .any ops (rest.reverse ++ done) → (∀ i, i < ops.size → i ∈ rest.reverse ++ done) → ∀ ρ a w, DInv E n sl ops T ρ0 a0 w0 done ρ a w → wpOpsIn (Fr r) m E.P ops Q rest a w
  | [], done, hl, hall, ρ, a, w, hinv => hQ done ρ a w (by simpa using hall) hinv
  | i :: rest, done, hl, hall, ρ, a, w, hinv => by
    have heq : (i :: rest).reverse ++ done = rest.reverse ++ (i :: done) := by simp
    rw [heq] at hl hall
    have h1 := hl.right
    cases h1 with
    | cons ho hni hd h2 =>
      simp only [wpOpsIn, ho]
      exact draw_step (r := r) (m := m) hT hC hM hfresh ho hni h2.closed (Listed.cons ho hni hd h2).closed hinv fun ρ' a' w' hinv' => draw_all hT hC hM hfresh hQ rest (i :: done) hl hall ρ' a' w' hinv'

/-! ### The region -/
theorem drawn_some {f : Sym.Callee → List Ent → List SV → List SV → SW → Option (List SV × SW)} (h : drawn E n sl ops = some ⟨f⟩) :
    ∃ bs ms, BOk ops bs ∧ looks E n sl [] ops.toList = some ms ∧ tidy bs ops.toList ops.toList 0 = true ∧ gcFix ops.toList ops.toList.length ops.toList.length 0 = true ∧ kopsD E n sl ops.toList bs ms [] ops.toList 0 = some ⟨f⟩ := by
  cases hm : looks E n sl [] ops.toList with
  | none => simp only [drawn, hm] at h; cases h
  | some ms =>
    simp only [drawn, hm] at h
    split at h
    · rename_i h1 h2
      refine ⟨_, ms, ?_, rfl, h1, h2, h⟩
      refine befores_spec (fun i o ho => ?_) ops.toList [] (by simp) (fun i m hi => by simp at hi)
      have := (tidy_at h1 i o (by simpa using ho)).2
      simpa using this
    · cases h

theorem drawn_run {f : Sym.Callee → List Ent → List SV → List SV → SW → Option (List SV × SW)} (h : drawn E n sl ops = some ⟨f⟩) {fr fr' : List SV} {S S' : SW} (hr : f C [] [] fr S = some (fr', S')) :
    ∃ (bs : List Nat) (ms : List Look) (T : Nat → D1), T 0 = ⟨[], [], fr, S, []⟩ ∧ (T ops.size).fr = fr' ∧ (T ops.size).S = S' ∧ BOk ops bs ∧ tidy bs ops.toList ops.toList 0 = true ∧ gcFix ops.toList ops.toList.length ops.toList.length 0 = true ∧
      ∀ i o, ops[i]? = some o → ∃ k d p q ps v, StepD E n sl ops.toList bs ms C i o (T i) (T (i + 1)) k d p q ps v := by
  obtain ⟨bs, ms, h1, h2, h3, h4, h5⟩ := drawn_some h
  obtain ⟨T, t0, t1, t2, t3⟩ := trace (C := C) ops.toList 0 [] f ms h5 h2 (fun j _ => by simp) [] [] fr S fr' S' hr
  exact ⟨bs, ms, T, t0, by simpa using t1, by simpa using t2, h1, h3, h4, fun i o ho => by simpa using t3 i o (by simpa using ho)⟩

theorem drawn_mono (hM : CalleeMono C) {f : Sym.Callee → List Ent → List SV → List SV → SW → Option (List SV × SW)} (h : drawn E n sl ops = some ⟨f⟩) {fr fr' : List SV} {S S' : SW} (hr : f C [] [] fr S = some (fr', S')) : Grow S S' := by
  obtain ⟨bs, ms, T, t0, t1, t2, h1, h2, h3, h4⟩ := drawn_run h hr
  have key : ∀ i, i ≤ ops.size → Grow (T 0).S (T i).S := by
    intro i
    induction i with
    | zero => intro _; exact .refl _
    | succ i ih =>
      intro hi
      obtain ⟨k, d, p, q, ps, v, hs⟩ := h4 i ops[i] (by simp)
      exact (ih (by omega)).trans (hs.grow hM)
  have := key ops.size (Nat.le_refl _)
  rw [t0, t2] at this
  exact this

theorem drawn_sound (hC : CalleeSound E C) (hM : CalleeMono C) {id : Nat} {f : Sym.Callee → List Ent → List SV → List SV → SW → Option (List SV × SW)} (h : drawn E n sl ops = some ⟨f⟩)
    {ρ : Ren} {fr fr' : List SV} {a : Act} {S S' : SW} {w : World} (hsz : a.tmps.size = n) (hfr : FRel ρ sl fr a.tmps) (hok : Ok E ρ S w) (hr : f C [] [] fr S = some (fr', S')) (hfresh : Fresh ρ S.next S'.next)
    {Q : Exit → Act → World → Prop} (hQ : ∀ ρ' a' w', Ext ρ S w ρ' S' w' → FRel ρ' sl fr' a'.tmps → a'.tmps.size = n → a'.defers = a.defers → Q .normal a' w') : (Code.region id ops true).wpIn (Fr r) m E.P Q a w := by
  obtain ⟨bs, ms, T, t0, t1, t2, h1, h2, h3, h4⟩ := drawn_run h hr
  have hT : Run E n sl ops bs ms C T := ⟨h4, h2, h1, by rw [t0], by rw [t0]; exact hok.tidy⟩
  have hS0 : (T 0).S = S := by rw [t0]
  have hg : Grow S S' := by
    have := hT.grows hM (Nat.zero_le ops.size) (Nat.le_refl _)
    rw [hS0, t2] at this; exact this
  refine wpIn_region_draw fun t => ?_
  obtain ⟨acc, e1, e2, e3⟩ := schedule_spec h2 h3 (E.P.follows .mixedOrders) t
  rw [e1]
  have hd : Ok E ρ S w.drew := hok.ext (ext_drew hok.wrel hok.tidy)
  have hHD0 : ∀ i, HD ops.size (Ht T) (· ∈ ([] : List Nat)) i = S.at i := fun i => by
    rw [HD_eq (i := 0) (Nat.zero_le _) (fun j _ _ => by simp)]
    show (T 0).S.at i = _
    rw [hS0]
  have hHD0' : HD ops.size (Ht T) (· ∈ ([] : List Nat)) = S.at := funext hHD0
  refine draw_all (r := r) (m := m) hT hC hM (ρ0 := ρ) (a0 := a) (w0 := w) (by rw [hS0, t2]; exact hfresh) (fun done ρ' a' w' hall hinv => ?_) acc.reverse [] (by simpa using e2) (by simpa using e3) ρ a w.drew ?_
  · have hHD : ∀ i, HD ops.size (Ht T) (· ∈ done) i = S'.at i := fun i => by
      rw [HD_eq (i := ops.size) (Nat.le_refl _) (fun j hj _ => ⟨fun _ => hj, fun _ => hall j hj⟩)]
      show (T ops.size).S.at i = _
      rw [t2]
    have hHD' : HD ops.size (Ht T) (· ∈ done) = S'.at := funext hHD
    have hx := hinv.ext
    rw [hHD', hS0] at hx
    refine hQ ρ' a' w' ⟨hx.le, fun i p e => ?_, hg.next, hg.tidy hok.tidy, hg.low, hg.keep, hx.size, hx.os, hx.tape, hx.output, hx.frame, hx.own, hx.wrel⟩ (fun s i hs => ?_) hinv.size hinv.defers
    · rcases hinv.born i p e with e0 | ⟨j, hj, hjN, k1, k2⟩
      · exact .inl e0
      · right
        have g1 := (hT.grows hM (i := 0) (j := j) (Nat.zero_le _) (by omega)).next
        have g2 := (hT.grows hM (i := j + 1) (j := ops.size) (by omega) (Nat.le_refl _)).next
        rw [hS0] at g1; rw [t2] at g2
        omega
    · have := (hinv.slots ops.size s (Nat.le_refl _) (fun j o ho _ => by
        have hj := (Array.getElem?_eq_some_iff.1 ho).1
        exact ⟨fun _ => hj, fun _ => hall j hj⟩)).fr i hs
      rw [t1] at this; exact this
  · refine ⟨hsz, rfl, fun i s hi hag => ?_, ?_, ?_, fun id p e => .inl e⟩
    · have base : SlotAt sl ρ (T 0) s (a.tmps.getD s undef) := ⟨fun p hp => by rw [t0] at hp; simp at hp, fun p hp => by rw [t0]; exact hfr s p hp⟩
      have go : ∀ c, c ≤ i → SlotAt sl ρ (T c) s (a.tmps.getD s undef) := by
        intro c
        induction c with
        | zero => intro _; exact base
        | succ c ih =>
          intro hc
          obtain ⟨k', d', p', q', ps', v', hs'⟩ := hT.step c ops[c] (by simp)
          refine hs'.slot_other (fun hd' => ?_) (fun hge => ?_) (ih (by omega))
          · have := (hag c _ (by simp) hd').2 (by omega)
            simp at this
          · simp [Array.getD_eq_getD_getElem?, hsz, hge]
      exact go i (Nat.le_refl _)
    · rw [hHD0', hS0]
      exact (ext_drew hok.wrel hok.tidy).toH
    · rw [hHD0']
      exact hd.glob
end
end Go.RX
