/- The law up to its first reading: ten thousand operations noted. -/
import Derived.Test.YtcbkglclienegaaGreatDoorJA
import Derived.Test.YtcbkglclienegaaGreatDoorJB
set_option linter.all false
set_option maxRecDepth 100000
namespace Go.Proofs.YtcbkglclienegaaGreatDoor
open Go.RX Go.RX.Sym

/-- What the evaluator knows of. -/
theorem numL (σ : Sig) {F : List Fact} (h : ∀ f ∈ F, f.holds σ) : NumOk (envL σ F) := fact_num rfl rfl h (fun _ _ h => by cases h)
noncomputable def pickL (σ : Sig) (F : List Fact) : Sym.Callee := semK (envL σ F) (fun _ _ _ => none) 20
theorem reset_run (σ : Sig) (F : List Fact) : pickRun (envL σ F) (pickL σ F) 16 resetArg resetOut = true := by kernel_rfl
theorem knowsR (σ : Sig) {F : List Fact} (h : ∀ f ∈ F, f.holds σ) : Known (envL σ F) knowR := by
  have hb : CalleeMono (pickL σ F) ∧ CalleeSound (envL σ F) (pickL σ F) := semK_both (known_nothing (envL σ F)) 20
  obtain ⟨h1, h2⟩ := pickRun_calls hb.2 hb.1 (numL σ h) (reset_run σ F)
  exact known_pure rfl rfl h1 h2 (known_nothing _)
/-- The tables lie there. -/
def Tabs (W : World) : Prop := ∀ σ, Lies (env σ) W
theorem Tabs.liesL {W : World} (h : Tabs W) (σ : Sig) (F : List Fact) : Lies (envL σ F) W := ⟨fun g cs hg => (h σ).cells g cs hg, fun a ks h => by cases h⟩
theorem allL {W : World} (h : Tabs W) (σ : Sig) : ∀ F, (∀ f ∈ F, f.holds σ) → NumOk (envL σ F) ∧ Known (envL σ F) knowR ∧ Lies (envL σ F) W := fun F hF => ⟨numL σ hF, knowsR σ hF, h.liesL σ F⟩

/-- The bytes of such a journal. -/
def numOf : SV → Int | .int _ n => n | _ => 0
def headN : List Int := headS.map numOf
def recN : List Int := recS.map numOf
def cont (k : Nat) : Int := if k < 86 then headN.getD k 0 else recN.getD ((k - 86) % 15) 0
def sigL (i : Nat) : Sig where
  var n := match n with | 1 => i | _ => 0
  fn _ _ := 0
  row _ := (0, 0, 1, 86 + 15 * i)
  cell _ k _ := .int .u8 (cont k)
theorem sigL_var {m k : Nat} (h : k ≠ 1) : (sigL m).var k = 0 := by
  unfold sigL
  dsimp only
  split
  · exact absurd rfl h
  · rfl
theorem look_one {k : Nat} {e : IE} (h : k ≠ 1) : sbE.look k [(1, e)] = .var k := by
  unfold sbE.look
  split
  · rename_i h1; exact absurd (Nat.eq_of_beq_eq_true h1).symm h
  · rfl
def sigZ : Sig where
  var _ := 0
  fn _ _ := 0
  row _ := (0, 0, 0, 0)
  cell _ _ _ := .bool false
theorem puts_first : Puts [] [(1, .lit 0)] sigZ (sigL 0) where
  var i := by
    by_cases h : i = 1
    · subst h; rfl
    · rw [sigL_var h, look_one h]; rfl
  fn := rfl
  row a h := by cases h
  cell a h := by cases h
  obj a h := by cases h
def okAt (l : List SV) (f : Nat → Int) (n : Nat) : Bool := (List.range n).all fun i => match l[i]? with | some (SV.int IntKind.u8 z) => decide (z = f i) | _ => false
theorem okAt_get {l : List SV} {f : Nat → Int} {n i : Nat} (h : okAt l f n = true) (hi : i < n) : l[i]? = some (.int .u8 (f i)) := by
  have := List.all_eq_true.1 h i (List.mem_range.2 hi)
  split at this
  · rename_i z hz
    rw [hz, of_decide_eq_true this]
  · cases this
theorem head_ok : okAt headS cont 86 = true := by kernel_rfl
theorem rec_ok : okAt recS (fun j => recN.getD j 0) 15 = true := by kernel_rfl
theorem sees_first : Sees saN sigZ (sigL 0) where
  puts := puts_first
  grow q hq := by
    have hq : q ∈ [{ to := 0, frm := none, cs := headS, z := 1 }] := hq
    obtain rfl := List.mem_singleton.1 hq
    refine ⟨0, 0, 0, 86, rfl, rfl, rfl, by decide, fun i c hi hc => ?_⟩
    obtain rfl : c = 0 := by
      have : c < 1 := hc
      omega
    refine ⟨.int .u8 (cont i), ?_, ?_⟩
    · show headS[i * 1 + 0]? = _
      rw [Nat.mul_one, Nat.add_zero]; exact okAt_get head_ok hi
    · show some (Value.int .u8 (cont i)) = some (.int .u8 (cont (0 + i)))
      rw [Nat.zero_add]
  blob p hp := by cases hp
  begun p hp := by cases hp
theorem cont_rec {i j : Nat} (hj : j < 15) : cont (86 + 15 * i + j) = recN.getD j 0 := by
  unfold cont
  rw [if_neg (by omega)]
  congr 1
  omega
theorem puts_more {i : Nat} (hi : i < 10000) : Puts [] [(1, .bin .add .i64 (.var 1) (.lit 1))] (sigL i) (sigL (i + 1)) where
  var k := by
    by_cases h : k = 1
    · subst h
      show ((i + 1 : Nat) : Int) = opVal .add .i64 (i : Int) 1
      rw [add_op ⟨by omega, by omega⟩]
      omega
    · rw [sigL_var h, look_one h]; exact (sigL_var h).symm
  fn := rfl
  row a h := by cases h
  cell a h := by cases h
  obj a h := by cases h
theorem sees_more {i : Nat} (hi : i < 10000) : Sees saL (sigL i) (sigL (i + 1)) where
  puts := puts_more hi
  grow q hq := by
    have hq : q ∈ [{ to := 0, frm := some 0, cs := recS, z := 1 }] := hq
    obtain rfl := List.mem_singleton.1 hq
    refine ⟨0, 0, 86 + 15 * i, 15, ⟨0, 0, rfl, fun k c _ _ => rfl⟩, ?_, rfl, by omega, fun j c hj hc => ?_⟩
    · show ((0 : Nat), (0 : Nat), (1 : Nat), 86 + 15 * (i + 1)) = (0, 0, 1, 86 + 15 * i + 15)
      rw [show 86 + 15 * (i + 1) = 86 + 15 * i + 15 by omega]
    · obtain rfl : c = 0 := by
        have : c < 1 := hc
        omega
      refine ⟨.int .u8 (recN.getD j 0), ?_, ?_⟩
      · show recS[j * 1 + 0]? = _
        rw [Nat.mul_one, Nat.add_zero]; exact okAt_get rec_ok hj
      · show some (Value.int .u8 (recN.getD j 0)) = some (.int .u8 (cont (86 + 15 * i + j)))
        rw [cont_rec hj]
  blob p hp := by cases hp
  begun p hp := by cases hp

section
variable {W : World}
/-- Where the loop stands. -/
abbrev AtH (W : World) (i : Nat) (a : Act) (w : World) : Prop := AtT (sigL i) 107 sl3 (fr3 (.sint .i64 (.var 1))) obH 477 W a w
theorem law_loop (hW : Tabs W) {a : Act} {w : World} (h : AtH W 0 a w) {Q : Exit → Act → World → Prop} (hQ : ∀ a' w', AtH W 10000 a' w' → Q .normal a' w') : (Code.block 0 (.loop (inC [6] bd3))).wpIn Fence.wide 0 Tryz.prog Q a w := by
  refine wpIn_block (wpIn_loop_n (J := fun k a w => ∃ i, i + k = 10000 ∧ AtH W i a w) (N := 10000) ⟨0, rfl, h⟩ ?_)
  rintro k a w ⟨i, hk, hA⟩
  refine step_dt (E := fun F => envL (sigL i) F) (K := fun _ => knowR) (σ := sigL i) (P := Tryz.prog) (fun _ => rfl) (fun _ => rfl) (allL hW (sigL i)) (T := tL) (tL_ok _) hA fun l hl a1 w1 h1 => ?_
  have e1 : (IE.var 1).val (sigL i) = (i : Int) := rfl
  have e2 : (IE.lit 10000).val (sigL i) = 10000 := rfl
  simp only [tL, DT.eval, e1, e2] at hl
  by_cases hi : i < 10000
  · rw [if_pos (by omega)] at hl
    subst hl
    obtain ⟨k, rfl⟩ : ∃ j, k = j + 1 := ⟨k - 1, by omega⟩
    have h2 := h1.rn rn3
    exact ⟨k, by omega, i + 1, by omega, h2.sa (sees_more hi) sa3⟩
  · rw [if_neg (by omega)] at hl
    subst hl
    obtain rfl : i = 10000 := by omega
    exact hQ _ _ h1
end
end Go.Proofs.YtcbkglclienegaaGreatDoor

/- What the evaluator is run over where a journal is read: the bytes, and what is cut out of them. -/
set_option linter.all false
set_option maxRecDepth 100000
namespace Go.Proofs.YtcbkglclienegaaGreatDoor
open Go.RX Go.RX.Sym

/-- How many bytes: so many records behind the beginning. -/
def total (M : Nat) : Nat := 86 + 15 * M
/-- Where a row of bytes begins, how long it is (at: the record at hand). -/
def rowO (at_ : Nat) (k : Nat) : Nat := match k with
  | 0 => 0 | 1 => at_ | 2 => at_ | 3 => at_ + 8 | 4 => at_ + 4 | 5 => at_ + 4 | 6 => 0 | 7 => 0 | 8 => 0 | 9 => 0 | 10 => 0 | 11 => 0 | 12 => 8 | 13 => 4 | 14 => 4 | 15 => 8 | 16 => 82 | 17 => 8 | k => 12 + (k - 18)
def rowL (M at_ : Nat) (k : Nat) : Nat := match k with
  | 0 => total M | 1 => total M - at_ | 2 => 4 | 3 => 7 | 4 => total M - at_ - 4 | 5 => 4 | 6 => 4 | 7 => 0 | 8 => 0 | 9 => total 10000 | 10 => total M | 11 => 4 | 12 => 78 | 13 => total M - 4 | 14 => 4 | 15 => 4 | 16 => 4 | 17 => 74 | k => 88 - k
/-- Which rows there are; g: 0 none of a record's, 1 the rest of the bytes alone, 2 all. -/
def isRow (g k : Nat) : Bool := match k with
  | 0 => true | 1 => Nat.ble 1 g | 2 => Nat.ble 2 g | 3 => Nat.ble 2 g | 4 => Nat.ble 2 g | 5 => Nat.ble 2 g | 6 => true | 7 => false | 8 => false | 9 => true | k => Nat.ble k 88
def rowsB (g k : Nat) : Option (List (Option IntKind)) := match isRow g k with | true => some [none] | false => none
/-- The operation, as it lies in a row. -/
def opS (c : Nat) : Option SV := match c with | 0 => some (.int .i64 6) | 1 => some (.int .i64 0) | 2 => some (.int .i64 0) | 3 => some (.int .i64 0) | 4 => some (.bool false) | 5 => some (.string ⟨#[120]⟩) | _ => none
def opV (c : Nat) : Value := match c with | 0 => .int .i64 6 | 1 => .int .i64 0 | 2 => .int .i64 0 | 3 => .int .i64 0 | 4 => .bool false | 5 => .string ⟨#[120]⟩ | _ => .bool false
/-- What texts of numbers stand for: M records, at place x of block b; the record at hand; so many operations; two numbers. -/
structure Rd where
  M : Nat
  b : Nat
  x : Nat
  at_ : Nat
  ops : Nat
  v1 : Int
  v3 : Int
def sigB (r : Rd) : Sig where
  var n := match n with | 1 => r.v1 | 3 => r.v3 | _ => 0
  fn _ _ := 0
  row k := match Nat.beq k 200 with | true => (0, 0, 6, r.ops) | false => (r.b, r.x + rowO r.at_ k, 1, rowL r.M r.at_ k)
  cell k i c := match Nat.beq k 200 with | true => opV c | false => .int .u8 (cont (rowO r.at_ k + i))
/-- Lengths that are known. -/
noncomputable def heads71 : Nat → List (IE × Int)
  | 0 => []
  | n + 1 => (.len (88 - n), (n : Int)) :: heads71 n
noncomputable def lens (M : Nat) (g : Nat) : List (IE × Int) :=
  (.len 12, 78) :: (.len 0, (total M : Nat)) :: (.len 6, 4) :: (.len 10, (total M : Nat)) :: (.len 11, 4) :: (.len 13, (total M - 4 : Nat)) :: (.len 14, 4) :: (.len 15, 4) :: (.len 16, 4) :: (.len 17, 74) :: (.len 9, (total 10000 : Nat)) :: (.len 2, 4) :: (.len 3, 7) :: (.len 5, 4) :: heads71 71
noncomputable def isV (B : List (IE × Int)) (e : IE) (n : Int) : Bool := match ptNum B e with | some m => eqb m n | none => false
def at4 : IE := .bin .add .i64 (.var 1) (.lit 4)
def at8 : IE := .bin .add .i64 (.var 1) (.lit 8)
def at15 : IE := .bin .add .i64 (.bin .add .i64 (.var 1) (.lit 8)) (.lit 7)
noncomputable def subB (B : List (IE × Int)) (g : Nat) (a : Nat) (lo : IE) (hi : Option IE) : Option Nat := match a with
  | 0 => (match hi with
    | none => (match isV B lo 0, isV B lo 4 with
      | true, _ => some 10
      | _, true => some 13
      | _, _ => (match IE.same lo (.var 1), IE.same lo at4, Nat.ble 1 g, Nat.ble 2 g with
        | true, _, true, _ => some 1
        | _, true, _, true => some 4
        | _, _, _, _ => none))
    | some h => (match isV B lo 8, isV B h 86 with
      | true, true => some 12
      | _, _ => (match IE.same lo at8, IE.same h at15, Nat.ble 2 g with
        | true, true, true => some 3
        | _, _, _ => none)))
  | 12 => (match hi with
    | none => (match isV B lo 74 with | true => some 16 | false => none)
    | some h => (match isV B lo 4, isV B h 74 with | true, true => some 18 | _, _ => none))
  | a => (match hi, Nat.ble 18 a, Nat.ble (Nat.succ a) 88, isV B lo 1 with
    | none, true, true, true => some (Nat.succ a)
    | _, _, _, _ => none)
noncomputable def preB (B : List (IE × Int)) (g : Nat) (a : Nat) (e : IE) : Option Nat := match isV B e 4, isV B e 74 with
  | true, _ => (match a with | 0 => some 6 | 10 => some 11 | 13 => some 14 | 12 => some 15 | 1 => (match Nat.ble 2 g with | true => some 2 | false => none) | 4 => (match Nat.ble 2 g with | true => some 5 | false => none) | _ => none)
  | _, true => (match a with | 12 => some 17 | _ => none)
  | _, _ => (match a, IE.same e (.var 3), Nat.ble g 0 with | 0, true, true => some 9 | _, _, _ => none)
/-- Where known bytes begin: of the beginning; of a record. -/
def offH (a : Nat) : Option Nat := match a with
  | 6 => some 0 | 10 => some 0 | 11 => some 0 | 12 => some 8 | 13 => some 4 | 14 => some 4 | 15 => some 8 | 16 => some 82 | 17 => some 8
  | a => (match Nat.ble 18 a, Nat.ble a 88 with | true, true => some (12 + (a - 18)) | _, _ => none)
def offR (g a : Nat) : Option Nat := match a, Nat.ble 2 g with | 2, true => some 0 | 3, true => some 8 | 5, true => some 4 | _, _ => none
noncomputable def cellsB (B : List (IE × Int)) (g : Nat) (a : Nat) (i : IE) (c : Nat) : Option SV := match Nat.beq a 200 with
  | true => opS c
  | false => (match ptNum B i, c with
    | some (.ofNat z), 0 => (match offH a with
      | some o => headS[o + z]?
      | none => (match offR g a with | some o => recS[o + z]? | none => none))
    | _, _ => none)
noncomputable def ltB (B : List (IE × Int)) (F : List Fact) (a b : IE) : Option Bool := match ltPt B a b with | some r => some r | none => factLt F a b
noncomputable def eqB (B : List (IE × Int)) (F : List Fact) (a b : IE) : Option Bool := match eqPt B a b with | some r => some r | none => factEq F a b
noncomputable def envB (g : Nat) (r : Rd) (F : List Fact) : Env :=
  { P := Tryz.prog, G := globals, rows := rowsB g, idxs := [429], pre := preB (lens r.M g) g, sub := subB (lens r.M g) g, cells := cellsB (lens r.M g) g, lt := ltB (lens r.M g) F, eq := eqB (lens r.M g) F, sig := sigB r }
/-- What is asked of the numbers. -/
structure Rd.Ok (r : Rd) (g : Nat) : Prop where
  some : 1 ≤ r.M
  few : r.M ≤ 20000
  one : 1 ≤ g → r.v1 = r.at_ ∧ r.at_ ≤ total r.M
  two : 2 ≤ g → ∃ i, r.at_ = 86 + 15 * i ∧ r.at_ + 15 ≤ total r.M
  end_ : r.v3 = total 10000 ∧ 10000 ≤ r.M
section
variable {r : Rd} {g : Nat}
theorem len_val {k : Nat} (h : Nat.beq k 200 = false) : (IE.len k).val (sigB r) = rowL r.M r.at_ k := by
  show ((((sigB r).row k).2.2.2 : Nat) : Int) = _
  simp only [sigB, h]
theorem row_is {k : Nat} (h : Nat.beq k 200 = false) : (sigB r).row k = (r.b, r.x + rowO r.at_ k, 1, rowL r.M r.at_ k) := by simp only [sigB, h]
theorem heads_pts : ∀ {n : Nat}, n ≤ 71 → Pts (sigB r) (heads71 n)
  | 0, _, e, v, h => by cases h
  | n + 1, hn, e, v, h => by
    rcases List.mem_cons.1 h with h | h
    · cases h
      rw [len_val (by
        have h88 : 88 - n < 200 := by omega
        cases hb : Nat.beq (88 - n) 200 with
        | true => have := Nat.eq_of_beq_eq_true hb; omega
        | false => rfl)]
      have : rowL r.M r.at_ (88 - n) = 88 - (88 - n) := by
        have h18 : 18 ≤ 88 - n := by omega
        unfold rowL
        split <;> first | omega | rfl
      rw [this]
      omega
    · exact heads_pts (by omega) e v h
theorem lens_pts : Pts (sigB r) (lens r.M g) := by
  intro e v h
  unfold lens at h
  rcases List.mem_cons.1 h with h | h
  · cases h; exact len_val rfl
  rcases List.mem_cons.1 h with h | h
  · cases h; exact len_val rfl
  rcases List.mem_cons.1 h with h | h
  · cases h; exact len_val rfl
  rcases List.mem_cons.1 h with h | h
  · cases h; exact len_val rfl
  rcases List.mem_cons.1 h with h | h
  · cases h; exact len_val rfl
  rcases List.mem_cons.1 h with h | h
  · cases h; exact len_val rfl
  rcases List.mem_cons.1 h with h | h
  · cases h; exact len_val rfl
  rcases List.mem_cons.1 h with h | h
  · cases h; exact len_val rfl
  rcases List.mem_cons.1 h with h | h
  · cases h; exact len_val rfl
  rcases List.mem_cons.1 h with h | h
  · cases h; exact len_val rfl
  rcases List.mem_cons.1 h with h | h
  · cases h; exact len_val rfl
  rcases List.mem_cons.1 h with h | h
  · cases h; exact len_val rfl
  rcases List.mem_cons.1 h with h | h
  · cases h; exact len_val rfl
  rcases List.mem_cons.1 h with h | h
  · cases h; exact len_val rfl
  exact heads_pts (Nat.le_refl _) e v h
theorem isV_val {e : IE} {n : Int} (h : isV (lens r.M g) e n = true) : e.val (sigB r) = n := by
  unfold isV at h
  split at h
  · rename_i m hm
    rw [ptNum_val lens_pts e hm]
    rw [eqb_eq] at h
    exact of_decide_eq_true h
  · cases h
theorem hi_none {σ : Sig} {n : Nat} : hiVal σ n none = n := rfl
theorem cut_at {lo : IE} {hi : Option IE} {a a' off n l h : Nat} (e1 : (sigB r).row a = (r.b, r.x + off, 1, n)) (e2 : lo.val (sigB r) = l) (e3 : hiVal (sigB r) n hi = h) (h1 : l ≤ h) (h2 : h ≤ n) (e4 : (sigB r).row a' = (r.b, r.x + (off + l), 1, h - l)) :
    ∃ b x sz n l h : Nat, (sigB r).row a = (b, x, sz, n) ∧ lo.val (sigB r) = l ∧ hiVal (sigB r) n hi = h ∧ l ≤ h ∧ h ≤ n ∧ (sigB r).row a' = (b, x + l * sz, sz, h - l) :=
  ⟨r.b, r.x + off, 1, n, l, h, e1, e2, e3, h1, h2, by rw [e4, Nat.mul_one, Nat.add_assoc]⟩
theorem row0 : (sigB r).row 0 = (r.b, r.x + 0, 1, total r.M) := rfl
theorem row12 : (sigB r).row 12 = (r.b, r.x + 8, 1, 78) := rfl
theorem row_eq {k off len : Nat} (h : Nat.beq k 200 = false) (h1 : rowO r.at_ k = off) (h2 : rowL r.M r.at_ k = len) : (sigB r).row k = (r.b, r.x + off, 1, len) := by rw [row_is h, h1, h2]
theorem total_is (M : Nat) : total M = 86 + 15 * M := rfl
theorem sub_ok (hr : r.Ok g) (a : Nat) (lo : IE) (hi : Option IE) (a' : Nat) (h : subB (lens r.M g) g a lo hi = some a') :
    ∃ b x sz n l h : Nat, (sigB r).row a = (b, x, sz, n) ∧ lo.val (sigB r) = l ∧ hiVal (sigB r) n hi = h ∧ l ≤ h ∧ h ≤ n ∧ (sigB r).row a' = (b, x + l * sz, sz, h - l) := by
  have hM := hr.some
  have hf := hr.few
  have hT := total_is r.M
  have nb : ∀ {k : Nat}, k ≤ 88 → Nat.beq k 200 = false := fun {k} hk => by
    cases hb : Nat.beq k 200 with
    | true => have := Nat.eq_of_beq_eq_true hb; omega
    | false => rfl
  unfold subB at h
  split at h
  · split at h
    · split at h
      · rename_i h1
        cases h
        have e10 : (sigB r).row 10 = (r.b, r.x + (0 + 0), 1, total r.M - 0) := rfl
        have e1 : lo.val (sigB r) = ((0 : Nat) : Int) := isV_val h1
        exact cut_at row0 e1 hi_none (Nat.zero_le _) (Nat.le_refl _) e10
      · rename_i h1 hneg
        cases h
        have e10 : (sigB r).row 13 = (r.b, r.x + (0 + 4), 1, total r.M - 4) := rfl
        have e1 : lo.val (sigB r) = ((4 : Nat) : Int) := isV_val h1
        exact cut_at row0 e1 hi_none (by omega) (Nat.le_refl _) e10
      · split at h
        · rename_i e1 e3
          cases h
          have e := IE.same_eq e1
          subst e
          obtain ⟨g1, g2⟩ := hr.one (Nat.le_of_ble_eq_true e3)
          exact cut_at row0 g1 hi_none g2 (Nat.le_refl _) (by rw [Nat.zero_add]; rfl)
        · rename_i e1 e3 hneg
          cases h
          have e := IE.same_eq e1
          subst e
          obtain ⟨g1, g2⟩ := hr.one (by have := Nat.le_of_ble_eq_true e3; omega)
          obtain ⟨i, g3, g4⟩ := hr.two (Nat.le_of_ble_eq_true e3)
          have v4 : at4.val (sigB r) = ((r.at_ + 4 : Nat) : Int) := by
            show opVal .add .i64 r.v1 4 = _
            rw [g1, add_op ⟨by omega, by omega⟩]
            omega
          exact cut_at row0 v4 hi_none (by omega) (Nat.le_refl _) (by rw [Nat.zero_add, ← Nat.sub_sub]; rfl)
        · cases h
    · split at h
      · rename_i h1 h2
        cases h
        have e2 := isV_val h2
        have e1 : lo.val (sigB r) = ((8 : Nat) : Int) := isV_val h1
        have e3 : hiVal (sigB r) (total r.M) (some _) = ((86 : Nat) : Int) := e2
        exact cut_at row0 e1 e3 (by omega) (by omega) rfl
      · split at h
        · rename_i e1 e2 e3
          cases h
          have e := IE.same_eq e1
          subst e
          have e := IE.same_eq e2
          subst e
          obtain ⟨g1, g2⟩ := hr.one (by have := Nat.le_of_ble_eq_true e3; omega)
          obtain ⟨i, g3, g4⟩ := hr.two (Nat.le_of_ble_eq_true e3)
          have v8 : at8.val (sigB r) = ((r.at_ + 8 : Nat) : Int) := by
            show opVal .add .i64 r.v1 8 = _
            rw [g1, add_op ⟨by omega, by omega⟩]
            omega
          have v15 : at15.val (sigB r) = ((r.at_ + 15 : Nat) : Int) := by
            show opVal .add .i64 (at8.val (sigB r)) 7 = _
            rw [v8, add_op ⟨by omega, by omega⟩]
            omega
          exact cut_at row0 v8 v15 (by omega) (by omega) (by rw [Nat.zero_add, show r.at_ + 15 - (r.at_ + 8) = 7 by omega]; rfl)
        · cases h
  · split at h
    · split at h
      · rename_i h1
        cases h
        have e1 : lo.val (sigB r) = ((74 : Nat) : Int) := isV_val h1
        exact cut_at row12 e1 hi_none (by omega) (Nat.le_refl _) rfl
      · cases h
    · split at h
      · rename_i h1 h2
        cases h
        have e1 : lo.val (sigB r) = ((4 : Nat) : Int) := isV_val h1
        have e2 := isV_val h2
        have e3 : hiVal (sigB r) 78 (some _) = ((74 : Nat) : Int) := e2
        exact cut_at row12 e1 e3 (by omega) (by omega) rfl
      · cases h
  · split at h
    · rename_i h1 h2 h3
      cases h
      have h1 := Nat.le_of_ble_eq_true h1
      have h2 := Nat.le_of_ble_eq_true h2
      have hl : ∀ k, 18 ≤ k → rowL r.M r.at_ k = 88 - k := fun k hk => by
        unfold rowL
        split <;> first | omega | rfl
      have ho : ∀ k, 18 ≤ k → rowO r.at_ k = 12 + (k - 18) := fun k hk => by
        unfold rowO
        split <;> first | omega | rfl
      have e1 : lo.val (sigB r) = ((1 : Nat) : Int) := isV_val h3
      exact cut_at (row_eq (nb (by omega)) (ho _ h1) (hl _ h1)) e1 hi_none (by omega) (Nat.le_refl _) (row_eq (nb (by omega)) (by rw [ho _ (by omega)]; omega) (by rw [hl _ (by omega)]; omega))
    · cases h
end
end Go.Proofs.YtcbkglclienegaaGreatDoor

/- What is known where a journal is read is so. -/
set_option linter.all false
set_option maxRecDepth 100000
namespace Go.Proofs.YtcbkglclienegaaGreatDoor
open Go.RX Go.RX.Sym

theorem idx1 : IdxOk Tryz.prog 429 := idx_ok Tryz.func429 (by kernel_rfl) (by kernel_rfl) (by kernel_rfl) (by kernel_rfl)
section
variable {r : Rd} {g : Nat}
theorem nb88 {k : Nat} (hk : k ≤ 88) : Nat.beq k 200 = false := by
  cases hb : Nat.beq k 200 with
  | true => have := Nat.eq_of_beq_eq_true hb; omega
  | false => rfl
theorem isRow_le {k : Nat} (h : isRow g k = true) : k ≤ 88 := by
  unfold isRow at h
  split at h <;> first | omega | exact Nat.le_of_ble_eq_true h
theorem pre_ok (hr : r.Ok g) (a : Nat) (e : IE) (a' : Nat) (h : preB (lens r.M g) g a e = some a') : ∃ b x sz n m : Nat, (sigB r).row a = (b, x, sz, n) ∧ (sigB r).row a' = (b, x, sz, m) ∧ e.val (sigB r) = m ∧ m ≤ n := by
  have hM := hr.some
  have hf := hr.few
  have hT := total_is r.M
  unfold preB at h
  split at h
  · rename_i h1
    have e4 : e.val (sigB r) = ((4 : Nat) : Int) := isV_val h1
    split at h
    · cases h; exact ⟨r.b, r.x + 0, 1, total r.M, 4, rfl, rfl, e4, by omega⟩
    · cases h; exact ⟨r.b, r.x + 0, 1, total r.M, 4, rfl, rfl, e4, by omega⟩
    · cases h; exact ⟨r.b, r.x + 4, 1, total r.M - 4, 4, rfl, rfl, e4, by omega⟩
    · cases h; exact ⟨r.b, r.x + 8, 1, 78, 4, rfl, rfl, e4, by omega⟩
    · split at h
      · rename_i hg
        cases h
        obtain ⟨i, g3, g4⟩ := hr.two (Nat.le_of_ble_eq_true hg)
        exact ⟨r.b, r.x + r.at_, 1, total r.M - r.at_, 4, rfl, rfl, e4, by omega⟩
      · cases h
    · split at h
      · rename_i hg
        cases h
        obtain ⟨i, g3, g4⟩ := hr.two (Nat.le_of_ble_eq_true hg)
        exact ⟨r.b, r.x + (r.at_ + 4), 1, total r.M - r.at_ - 4, 4, rfl, rfl, e4, by omega⟩
      · cases h
    · cases h
  · rename_i h1 hneg
    have e4 : e.val (sigB r) = ((74 : Nat) : Int) := isV_val h1
    split at h
    · cases h; exact ⟨r.b, r.x + 8, 1, 78, 74, rfl, rfl, e4, by omega⟩
    · cases h
  · split at h
    · rename_i h1 h2
      cases h
      have e := IE.same_eq h1
      subst e
      obtain ⟨g1, g2⟩ := hr.end_
      exact ⟨r.b, r.x + 0, 1, total r.M, total 10000, rfl, rfl, g1, by have := total_is 10000; omega⟩
    · cases h
theorem head_get {k : Nat} {x : SV} (h : headS[k]? = some x) : x = .int .u8 (cont k) := by
  have hk : k < 86 := by
    have := (List.getElem?_eq_some_iff.1 h).1
    exact this
  rw [okAt_get head_ok hk] at h
  simpa using h.symm
theorem rec_get {k : Nat} {x : SV} (h : recS[k]? = some x) : k < 15 ∧ x = .int .u8 (recN.getD k 0) := by
  have hk : k < 15 := by
    have := (List.getElem?_eq_some_iff.1 h).1
    exact this
  rw [okAt_get rec_ok hk] at h
  exact ⟨hk, by simpa using h.symm⟩
theorem offH_is {a o : Nat} (h : offH a = some o) : a ≤ 88 ∧ ∀ t, rowO t a = o := by
  unfold offH at h
  split at h
  all_goals first | (cases h; exact ⟨by omega, fun _ => rfl⟩) | skip
  split at h
  · rename_i h1 h2
    have h1 := Nat.le_of_ble_eq_true h1
    have h2 := Nat.le_of_ble_eq_true h2
    cases h
    refine ⟨h2, fun t => ?_⟩
    unfold rowO
    split <;> first | omega | rfl
  · cases h
theorem cells_ok (hr : r.Ok g) (a : Nat) (i : IE) (c : Nat) (x : SV) (h : cellsB (lens r.M g) g a i c = some x) (h1 : i.val (sigB r) < ((sigB r).row a).2.2.2) (h0 : 0 ≤ i.val (sigB r)) : VRel (.nil (sigB r)) x ((sigB r).cell a (i.val (sigB r)).toNat c) := by
  unfold cellsB at h
  split at h
  · rename_i ha
    have : (sigB r).cell a (i.val (sigB r)).toNat c = opV c := by simp only [sigB, ha]
    rw [this]
    unfold opS at h
    split at h <;> first | (cases h; done) | (cases h; first | exact .int _ _ | exact .bool _ | exact .string _)
  · rename_i ha
    have hc : ∀ j, (sigB r).cell a j c = .int .u8 (cont (rowO r.at_ a + j)) := fun j => by simp only [sigB, ha]
    rw [hc]
    split at h
    · rename_i z hz
      have hv := ptNum_val (lens_pts (r := r) (g := g)) i hz
      have hz' : (i.val (sigB r)).toNat = z := by rw [hv]; rfl
      rw [hz']
      split at h
      · rename_i o ho
        rw [(offH_is ho).2, head_get h]
        exact .int _ _
      · split at h
        · rename_i o ho
          unfold offR at ho
          obtain ⟨h15, rfl⟩ := rec_get h
          have key : ∀ {m : Nat}, rowO r.at_ a = r.at_ + m → o = m → 2 ≤ g → VRel (.nil (sigB r)) (.int .u8 (recN.getD (o + z) 0)) (.int .u8 (cont (rowO r.at_ a + z))) := fun {m} e1 e2 hg => by
            obtain ⟨j, g3, -⟩ := hr.two hg
            subst e2
            rw [e1, g3, Nat.add_assoc, cont_rec h15]
            exact .int _ _
          split at ho
          · rename_i hg _; cases ho; exact key (m := 0) rfl rfl (Nat.le_of_ble_eq_true hg)
          · rename_i hg _; cases ho; exact key (m := 8) rfl rfl (Nat.le_of_ble_eq_true hg)
          · rename_i hg _; cases ho; exact key (m := 4) rfl rfl (Nat.le_of_ble_eq_true hg)
          · cases ho
        · cases h
    · cases h
theorem numB (hr : r.Ok g) {F : List Fact} (h : ∀ f ∈ F, f.holds (sigB r)) : NumOk (envB g r F) where
  lt a b x hx := by
    have hx : ltB (lens r.M g) F a b = some x := hx
    unfold ltB at hx
    split at hx
    · rename_i y hy
      cases hx
      exact ltPt_val lens_pts hy
    · exact (numL (sigB r) h).lt a b x hx
  eq a b x hx := by
    have hx : eqB (lens r.M g) F a b = some x := hx
    unfold eqB at hx
    split at hx
    · rename_i y hy
      cases hx
      exact eqPt_val lens_pts hy
    · exact (numL (sigB r) h).eq a b x hx
  rows a ks hk := by
    have hk : rowsB g a = some ks := hk
    unfold rowsB at hk
    split at hk
    · rename_i hi
      cases hk
      have := row_is (r := r) (nb88 (isRow_le hi))
      show ((sigB r).row a).2.2.1 = 1
      rw [this]
    · cases hk
  pre a e a' h := pre_ok hr a e a' h
  overs f h := by cases h
  idxs f h := by
    have h : f ∈ [429] := h
    obtain rfl := List.mem_singleton.1 h
    exact idx1
  sames f h := by cases h
  mkzs f t h := by cases h
  cells a i c x h h1 h0 := cells_ok hr a i c x h h1 h0
  str a i c b j d r h := by cases h
  bool a i c b j d r h := by cases h
  maps := ⟨fun _ _ _ _ h => (by cases h), fun _ _ _ _ _ h => (by cases h), fun _ _ _ _ h => (by cases h), fun a lo hi a' h => sub_ok hr a lo hi a' h⟩
theorem row_in (hr : r.Ok g) {k : Nat} (h : isRow g k = true) : rowO r.at_ k + rowL r.M r.at_ k ≤ total r.M := by
  have hM := hr.some
  have hT := total_is r.M
  have hT2 := total_is 10000
  obtain ⟨-, he⟩ := hr.end_
  unfold isRow at h
  split at h
  · show 0 + total r.M ≤ total r.M; omega
  · obtain ⟨-, g2⟩ := hr.one (Nat.le_of_ble_eq_true h)
    show r.at_ + (total r.M - r.at_) ≤ total r.M; omega
  · obtain ⟨i, -, g4⟩ := hr.two (Nat.le_of_ble_eq_true h)
    show r.at_ + 4 ≤ total r.M; omega
  · obtain ⟨i, -, g4⟩ := hr.two (Nat.le_of_ble_eq_true h)
    show r.at_ + 8 + 7 ≤ total r.M; omega
  · obtain ⟨i, -, g4⟩ := hr.two (Nat.le_of_ble_eq_true h)
    show r.at_ + 4 + (total r.M - r.at_ - 4) ≤ total r.M; omega
  · obtain ⟨i, -, g4⟩ := hr.two (Nat.le_of_ble_eq_true h)
    show r.at_ + 4 + 4 ≤ total r.M; omega
  · show 0 + 4 ≤ total r.M; omega
  · cases h
  · cases h
  · show 0 + total 10000 ≤ total r.M; omega
  · rename_i n0 n1 n2 n3 n4 n5 n6 n7 n8 n9
    have h := Nat.le_of_ble_eq_true h
    have hk : k = 10 ∨ k = 11 ∨ k = 12 ∨ k = 13 ∨ k = 14 ∨ k = 15 ∨ k = 16 ∨ k = 17 ∨ 18 ≤ k := by
      have m0 : k ≠ 0 := n0
      have m1 : k ≠ 1 := n1
      have m2 : k ≠ 2 := n2
      have m3 : k ≠ 3 := n3
      have m4 : k ≠ 4 := n4
      have m5 : k ≠ 5 := n5
      have m6 : k ≠ 6 := n6
      have m7 : k ≠ 7 := n7
      have m8 : k ≠ 8 := n8
      have m9 : k ≠ 9 := n9
      omega
    rcases hk with rfl | rfl | rfl | rfl | rfl | rfl | rfl | rfl | hk
    · show 0 + total r.M ≤ total r.M; omega
    · show 0 + 4 ≤ total r.M; omega
    · show 8 + 78 ≤ total r.M; omega
    · show 4 + (total r.M - 4) ≤ total r.M; omega
    · show 4 + 4 ≤ total r.M; omega
    · show 8 + 4 ≤ total r.M; omega
    · show 82 + 4 ≤ total r.M; omega
    · show 8 + 74 ≤ total r.M; omega
    · have hl : rowL r.M r.at_ k = 88 - k := by
        unfold rowL
        split <;> first | omega | rfl
      have ho : rowO r.at_ k = 12 + (k - 18) := by
        unfold rowO
        split <;> first | omega | rfl
      rw [hl, ho]
      omega
/-- The bytes lie there. -/
structure Bytes (r : Rd) (W : World) : Prop where
  tabs : Tabs W
  lie : ∃ (arr : Array Value) (el : TypeId) (fz : Nat × Nat), W.heap[r.b]? = some (.cells arr el fz) ∧ ∀ k, k < total r.M → arr[r.x + k]? = some (.int .u8 (cont k))
theorem liesB (hr : r.Ok g) {W : World} (hW : Bytes r W) (F : List Fact) : Lies (envB g r F) W where
  cells gl cs hg := (hW.tabs (sigB r)).cells gl cs hg
  rows a ks hk := by
    have hk : rowsB g a = some ks := hk
    unfold rowsB at hk
    split at hk
    · rename_i hi
      cases hk
      obtain ⟨arr, el, fz, h1, h2⟩ := hW.lie
      have h200 := nb88 (isRow_le hi)
      refine ⟨r.b, r.x + rowO r.at_ a, rowL r.M r.at_ a, arr, el, fz, row_is h200, h1, fun i c k hi' hk => ?_⟩
      have hc : c = 0 := by
        have := (List.getElem?_eq_some_iff.1 hk).1
        have : c < 1 := this
        omega
      subst hc
      have hk0 : k = none := by simpa using hk.symm
      subst hk0
      have hin := row_in hr hi
      have hcell : (sigB r).cell a i 0 = .int .u8 (cont (rowO r.at_ a + i)) := by simp only [sigB, h200]
      refine ⟨?_, ?_⟩
      · show arr[r.x + rowO r.at_ a + i * 1 + 0]? = some ((sigB r).cell a i 0)
        rw [hcell, show r.x + rowO r.at_ a + i * 1 + 0 = r.x + (rowO r.at_ a + i) by omega]
        exact h2 _ (by omega)
      · show ((sigB r).cell a i 0).oneCell' = true
        rw [hcell]; rfl
    · cases hk
/-- image.read defers a call that recovers. -/
noncomputable def dfrB (g : Nat) (r : Rd) (F : List Fact) : Sym.Callee := semK (envB g r F) (fun _ _ _ => none) 20
noncomputable def knowB (g : Nat) (r : Rd) (F : List Fact) : Nat → List SV → SW → Option (SV × SW) := dfrK (envB g r F) (dfrB g r F) [112] (fun _ _ _ => none)
theorem knowsB (hr : r.Ok g) (F : List Fact) : Known (envB g r F) (knowB g r F) := by
  have hb : CalleeMono (dfrB g r F) ∧ CalleeSound (envB g r F) (dfrB g r F) := semK_both (known_nothing (envB g r F)) 20
  exact known_dfr hb.2 hb.1 _ (known_nothing _)
end
end Go.Proofs.YtcbkglclienegaaGreatDoor
