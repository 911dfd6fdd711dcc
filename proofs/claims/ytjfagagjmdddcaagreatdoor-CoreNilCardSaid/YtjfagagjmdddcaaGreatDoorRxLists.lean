/- Plain facts on the evaluator's lists and trees. -/
import Derived.Test.YtjfagagjmdddcaaGreatDoorRxEval
set_option linter.all false
namespace Go.RX

/-! ### Lists -/
@[simp] theorem nth_nil {α : Type} (n : Nat) : nth ([] : List α) n = none := rfl
@[simp] theorem nth_zero {α : Type} (c : α) (l : List α) : nth (c :: l) 0 = some c := rfl
@[simp] theorem nth_succ {α : Type} (c : α) (l : List α) (n : Nat) : nth (c :: l) (n + 1) = nth l n := rfl

theorem nth_eq {α : Type} (l : List α) : ∀ n, nth l n = l[n]? := by
  induction l with
  | nil => intro n; simp
  | cons c l ih => intro n; cases n with
    | zero => simp
    | succ n => simp [ih]

@[simp] theorem nthV_nil {α : Type} (d : α) (n : Nat) : nthV d ([] : List α) n = d := rfl
@[simp] theorem nthV_zero {α : Type} (d c : α) (l : List α) : nthV d (c :: l) 0 = c := rfl
@[simp] theorem nthV_succ {α : Type} (d c : α) (l : List α) (n : Nat) : nthV d (c :: l) (n + 1) = nthV d l n := rfl

theorem nthV_eq {α : Type} (d : α) (l : List α) : ∀ n, nthV d l n = (l[n]?).getD d := by
  induction l with
  | nil => intro n; simp
  | cons c l ih => intro n; cases n with
    | zero => simp
    | succ n => simp [ih]

theorem nthV_beyond {α : Type} (d : α) (l : List α) (n : Nat) (h : l.length ≤ n) : nthV d l n = d := by
  rw [nthV_eq, List.getElem?_eq_none h]; rfl

@[simp] theorem consF_cons {α : Type} (c a : α) (b : List α) : consF c (a :: b) = c :: a :: b := rfl
@[simp] theorem consF_nil {α : Type} (c : α) : consF c ([] : List α) = [] := rfl
@[simp] theorem setNth_nil {α : Type} (v : α) (n : Nat) : setNth v ([] : List α) n = [] := rfl
@[simp] theorem setNth_zero {α : Type} (v c : α) (l : List α) : setNth v (c :: l) 0 = v :: l := rfl
theorem setNth_succ {α : Type} (v c : α) (l : List α) (n : Nat) : setNth v (c :: l) (n + 1) = consF c (setNth v l n) := rfl

theorem setNth_eq {α : Type} (v : α) (l : List α) : ∀ n, n < l.length → setNth v l n = l.set n v := by
  induction l with
  | nil => intro n h; simp at h
  | cons c l ih =>
    intro n h
    cases n with
    | zero => simp
    | succ n =>
      have hn : n < l.length := by simpa using h
      rw [setNth_succ, ih n hn]
      cases e : l.set n v with
      | nil => have := congrArg List.length e; simp at this; subst this; simp at hn
      | cons a b => simp [e]

theorem setNth_beyond {α : Type} (v : α) (l : List α) : ∀ n, l.length ≤ n → setNth v l n = [] := by
  induction l with
  | nil => intro n _; rfl
  | cons c l ih =>
    intro n h
    cases n with
    | zero => simp at h
    | succ n => rw [setNth_succ, ih n (by simpa using h)]; rfl

/-- What a place of the list reads behind the writing: the value there; elsewhere what stood, or nothing known. -/
theorem nthV_setNth {α : Type} (d v : α) (l : List α) (n m : Nat) :
    nthV d (setNth v l n) m = if n < l.length then (if m = n then v else nthV d l m) else d := by
  by_cases h : n < l.length
  · rw [if_pos h, setNth_eq v l n h, nthV_eq, nthV_eq, List.getElem?_set]
    by_cases e : m = n
    · subst e; simp [h]
    · rw [if_neg (fun h => e h.symm), if_neg e]
  · rw [if_neg h, setNth_beyond v l n (by omega)]; rfl

@[simp] theorem takeN_nil_zero {α : Type} : takeN ([] : List α) 0 = some [] := rfl
@[simp] theorem takeN_nil_succ {α : Type} (n : Nat) : takeN ([] : List α) (n + 1) = none := rfl
@[simp] theorem takeN_cons_zero {α : Type} (c : α) (l : List α) : takeN (c :: l) 0 = some [] := rfl
theorem takeN_cons_succ {α : Type} (c : α) (l : List α) (n : Nat) : takeN (c :: l) (n + 1) = (takeN l n).map (c :: ·) := by
  show Option.rec (motive := fun _ => Option (List α)) none (fun l => some (c :: l)) (takeN l n) = _
  cases takeN l n <;> rfl

theorem takeN_some {α : Type} (l : List α) : ∀ n r, takeN l n = some r → n ≤ l.length ∧ r = l.take n := by
  induction l with
  | nil => intro n r h; cases n with
    | zero => simp at h; simp [h]
    | succ n => simp at h
  | cons c l ih => intro n r h; cases n with
    | zero => simp at h; simp [h]
    | succ n =>
      rw [takeN_cons_succ] at h
      cases e : takeN l n with
      | none => simp [e] at h
      | some r' =>
        simp [e] at h
        obtain ⟨h1, h2⟩ := ih n r' e
        simp [← h, h2]; omega

theorem seg_zero {α : Type} (l : List α) (n : Nat) : seg l 0 n = takeN l n := by cases l <;> rfl
@[simp] theorem seg_nil_succ {α : Type} (m n : Nat) : seg ([] : List α) (m + 1) n = none := rfl
@[simp] theorem seg_cons_succ {α : Type} (c : α) (l : List α) (m n : Nat) : seg (c :: l) (m + 1) n = seg l m n := rfl

theorem seg_some {α : Type} (l : List α) : ∀ m n r, seg l m n = some r → m + n ≤ l.length ∧ r = (l.drop m).take n ∧ r.length = n := by
  induction l with
  | nil => intro m n r h; cases m with
    | zero => rw [seg_zero] at h; obtain ⟨h1, h2⟩ := takeN_some _ _ _ h; simp at h1; subst h1; simp [h2]
    | succ m => simp at h
  | cons c l ih => intro m n r h; cases m with
    | zero => rw [seg_zero] at h; obtain ⟨h1, h2⟩ := takeN_some _ _ _ h; simp at h1; simp [h2]; omega
    | succ m => rw [seg_cons_succ] at h; obtain ⟨h1, h2, h3⟩ := ih m n r h; simp [h3]; exact ⟨by omega, h2⟩

theorem seg_get {α : Type} {l : List α} {m n : Nat} {r : List α} (h : seg l m n = some r) (k : Nat) : k < n → r[k]? = l[m + k]? := by
  intro hk
  obtain ⟨h1, h2, h3⟩ := seg_some _ _ _ _ h
  rw [h2, List.getElem?_take, if_pos hk, List.getElem?_drop]

@[simp] theorem over_nil_nil {α : Type} : over ([] : List α) [] = some [] := rfl
@[simp] theorem over_nil_cons {α : Type} (v : α) (vs : List α) : over ([] : List α) (v :: vs) = none := rfl
@[simp] theorem over_cons_nil {α : Type} (c : α) (l : List α) : over (c :: l) [] = some (c :: l) := rfl
theorem over_cons_cons {α : Type} (c v : α) (l vs : List α) : over (c :: l) (v :: vs) = (over l vs).map (v :: ·) := by
  show Option.rec (motive := fun _ => Option (List α)) none (fun l => some (v :: l)) (over l vs) = _
  cases over l vs <;> rfl

theorem over_some {α : Type} (l : List α) : ∀ vs r, over l vs = some r → vs.length ≤ l.length ∧ r = vs ++ l.drop vs.length := by
  induction l with
  | nil => intro vs r h; cases vs with
    | nil => simp at h; simp [h]
    | cons v vs => simp at h
  | cons c l ih => intro vs r h; cases vs with
    | nil => simp at h; simp [h]
    | cons v vs =>
      rw [over_cons_cons] at h
      cases e : over l vs with
      | none => simp [e] at h
      | some r' => simp [e] at h; obtain ⟨h1, h2⟩ := ih vs r' e; simp [← h, h2]; omega

theorem splice_zero {α : Type} (l vs : List α) : splice l 0 vs = over l vs := by cases l <;> rfl
@[simp] theorem splice_nil_succ {α : Type} (m : Nat) (vs : List α) : splice ([] : List α) (m + 1) vs = none := rfl
theorem splice_cons_succ {α : Type} (c : α) (l : List α) (m : Nat) (vs : List α) : splice (c :: l) (m + 1) vs = (splice l m vs).map (c :: ·) := by
  show Option.rec (motive := fun _ => Option (List α)) none (fun l => some (c :: l)) (splice l m vs) = _
  cases splice l m vs <;> rfl

theorem splice_some {α : Type} (l : List α) : ∀ m vs r, splice l m vs = some r → m + vs.length ≤ l.length ∧ r = l.take m ++ (vs ++ l.drop (m + vs.length)) := by
  induction l with
  | nil => intro m vs r h; cases m with
    | zero => rw [splice_zero] at h; obtain ⟨h1, h2⟩ := over_some _ _ _ h; exact ⟨by simpa using h1, by simpa using h2⟩
    | succ m => simp at h
  | cons c l ih => intro m vs r h; cases m with
    | zero => rw [splice_zero] at h; obtain ⟨h1, h2⟩ := over_some _ _ _ h; simp [h2]; simpa using h1
    | succ m =>
      rw [splice_cons_succ] at h
      cases e : splice l m vs with
      | none => simp [e] at h
      | some r' =>
        simp [e] at h
        obtain ⟨h1, h2⟩ := ih m vs r' e
        refine ⟨by simp; omega, ?_⟩
        rw [← h, h2, show m + 1 + vs.length = (m + vs.length) + 1 from by omega]; simp

theorem splice_length {α : Type} {l vs r : List α} {m : Nat} (h : splice l m vs = some r) : r.length = l.length := by
  obtain ⟨h1, h2⟩ := splice_some _ _ _ _ h
  rw [h2]; simp; omega

theorem splice_get {α : Type} {l vs r : List α} {m : Nat} (h : splice l m vs = some r) (k : Nat) :
    r[k]? = if m ≤ k ∧ k < m + vs.length then vs[k - m]? else l[k]? := by
  obtain ⟨h1, h2⟩ := splice_some _ _ _ _ h
  rw [h2]
  by_cases a : k < m
  · rw [if_neg (by omega), List.getElem?_append_left (by simp; omega), List.getElem?_take, if_pos a]
  · rw [List.getElem?_append_right (by simp; omega)]
    have hm : (l.take m).length = m := by simp; omega
    rw [hm]
    by_cases b : k < m + vs.length
    · rw [if_pos ⟨by omega, b⟩, List.getElem?_append_left (by omega)]
    · rw [if_neg (by omega), List.getElem?_append_right (by omega), List.getElem?_drop]
      congr 1; omega

@[simp] theorem posOf_nil (t : Nat) : posOf t [] = none := rfl
theorem posOf_cons (t c : Nat) (l : List Nat) : posOf t (c :: l) = if c = t then some 0 else (posOf t l).map Nat.succ := by
  show Bool.rec (motive := fun _ => Option Nat) (Option.rec (motive := fun _ => Option Nat) none (fun n => some (Nat.succ n)) (posOf t l)) (some 0) (Nat.beq c t) = _
  by_cases h : c = t
  · subst h; simp
  · have hb : Nat.beq c t = false := by
      cases e : Nat.beq c t with
      | false => rfl
      | true => exact absurd (Nat.eq_of_beq_eq_true e) h
    rw [hb, if_neg h]
    cases posOf t l <;> rfl

theorem posOf_some {t : Nat} {l : List Nat} {i : Nat} (h : posOf t l = some i) : l[i]? = some t := by
  induction l generalizing i with
  | nil => simp at h
  | cons c l ih =>
    rw [posOf_cons] at h
    split at h
    · rename_i e; subst e; simp at h; subst h; simp
    · cases e : posOf t l with
      | none => simp [e] at h
      | some j => simp [e] at h; subst h; simp [ih e]

/-! ### The tree -/
def Tr.isNode {α : Type} : Tr α → Prop
  | .nil => False
  | .node _ _ _ => True

theorem Tr.get_nil {α : Type} (d : α) (p : List Bool) : Tr.get d p (.nil) = d := by cases p <;> rfl
theorem Tr.get_node_nil {α : Type} (d v : α) (l r : Tr α) : Tr.get d [] (.node l v r) = v := rfl
theorem Tr.get_node_true {α : Type} (d v : α) (l r : Tr α) (p : List Bool) : Tr.get d (true :: p) (.node l v r) = Tr.get d p l := rfl
theorem Tr.get_node_false {α : Type} (d v : α) (l r : Tr α) (p : List Bool) : Tr.get d (false :: p) (.node l v r) = Tr.get d p r := rfl

theorem Tr.onL_node {α : Type} {x : α} {r t : Tr α} (h : t.isNode) : Tr.onL x r t = .node t x r := by cases t with
  | nil => exact h.elim
  | node a b c => rfl
theorem Tr.onR_node {α : Type} {x : α} {l t : Tr α} (h : t.isNode) : Tr.onR l x t = .node l x t := by cases t with
  | nil => exact h.elim
  | node a b c => rfl

theorem Tr.set_isNode {α : Type} (d v : α) (p : List Bool) : ∀ t : Tr α, (Tr.set d v p t).isNode := by
  induction p with
  | nil => intro t; cases t <;> exact trivial
  | cons b p ih =>
    intro t
    cases b <;> cases t
    · show (Tr.onR .nil d (Tr.set d v p .nil)).isNode; rw [Tr.onR_node (ih _)]; exact trivial
    · rename_i l x r; show (Tr.onR l x (Tr.set d v p r)).isNode; rw [Tr.onR_node (ih _)]; exact trivial
    · show (Tr.onL d .nil (Tr.set d v p .nil)).isNode; rw [Tr.onL_node (ih _)]; exact trivial
    · rename_i l x r; show (Tr.onL x r (Tr.set d v p l)).isNode; rw [Tr.onL_node (ih _)]; exact trivial

theorem Tr.set_cons_true {α : Type} (d v : α) (p : List Bool) (t : Tr α) :
    Tr.set d v (true :: p) t = match t with | .nil => .node (Tr.set d v p .nil) d .nil | .node l x r => .node (Tr.set d v p l) x r := by
  cases t
  · exact Tr.onL_node (Tr.set_isNode d v p _)
  · exact Tr.onL_node (Tr.set_isNode d v p _)
theorem Tr.set_cons_false {α : Type} (d v : α) (p : List Bool) (t : Tr α) :
    Tr.set d v (false :: p) t = match t with | .nil => .node .nil d (Tr.set d v p .nil) | .node l x r => .node l x (Tr.set d v p r) := by
  cases t
  · exact Tr.onR_node (Tr.set_isNode d v p _)
  · exact Tr.onR_node (Tr.set_isNode d v p _)

theorem Tr.get_set {α : Type} (d v : α) (p : List Bool) : ∀ (q : List Bool) (t : Tr α), Tr.get d q (Tr.set d v p t) = if q = p then v else Tr.get d q t := by
  induction p with
  | nil =>
    intro q t
    cases q with
    | nil => cases t <;> rfl
    | cons b q => cases t <;> cases b <;> (first | (simp [Tr.set, Tr.get_node_true, Tr.get_node_false]; done) | (rw [if_neg (by simp), Tr.get_nil]; first | exact Tr.get_nil d q | rfl) | rfl)
  | cons b p ih =>
    intro q t
    cases b with
    | true =>
      rw [Tr.set_cons_true]
      cases q with
      | nil => cases t <;> simp [Tr.get_node_nil, Tr.get_nil]
      | cons c q => cases c <;> cases t <;> simp [Tr.get_node_true, Tr.get_node_false, Tr.get_nil, ih]
    | false =>
      rw [Tr.set_cons_false]
      cases q with
      | nil => cases t <;> simp [Tr.get_node_nil, Tr.get_nil]
      | cons c q => cases c <;> cases t <;> simp [Tr.get_node_true, Tr.get_node_false, Tr.get_nil, ih]

/-! ### Paths -/
def unpath : List Bool → Nat
  | [] => 0
  | true :: p => 2 * unpath p + 1
  | false :: p => 2 * unpath p + 2

theorem unpath_pathN (f : Nat) : ∀ n, n ≤ f → unpath (pathN f n) = n := by
  induction f with
  | zero => intro n h; have : n = 0 := by omega
            subst this; rfl
  | succ f ih =>
    intro n h
    show unpath (Bool.rec (Bool.rec (false :: pathN f (Nat.pred (Nat.div n 2))) (true :: pathN f (Nat.div n 2)) (Nat.beq (Nat.mod n 2) 1)) [] (Nat.beq n 0)) = n
    have hdiv : Nat.div n 2 = n / 2 := rfl
    have hmod : Nat.mod n 2 = n % 2 := rfl
    rw [hdiv, hmod]
    cases e : Nat.beq n 0 with
    | true => have := Nat.eq_of_beq_eq_true e; subst this; rfl
    | false =>
      have hn : n ≠ 0 := by intro h; subst h; simp at e
      cases e2 : Nat.beq (n % 2) 1 with
      | true =>
        have h2 := Nat.eq_of_beq_eq_true e2
        show 2 * unpath (pathN f (n / 2)) + 1 = n
        rw [ih _ (by omega)]; omega
      | false =>
        have h2 : n % 2 ≠ 1 := by intro h; rw [h] at e2; simp at e2
        show 2 * unpath (pathN f (Nat.pred (n / 2))) + 2 = n
        have hp : Nat.pred (n / 2) = n / 2 - 1 := rfl
        rw [hp, ih _ (by omega)]; omega

theorem path_inj {a b : Nat} (h : path a = path b) : a = b := by
  have h1 := unpath_pathN a a (Nat.le_refl _)
  have h2 := unpath_pathN b b (Nat.le_refl _)
  have h3 : pathN a a = pathN b b := h
  rw [← h1, ← h2, h3]

end Go.RX
