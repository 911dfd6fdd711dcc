/- Whether spans are allowed: both sides. -/
import Derived.Test.YtmcmagheiijnhaaGreatDoorV1
import Derived.Test.YtmcmagheiijnhaaGreatDoorRxI
set_option linter.all false
set_option maxRecDepth 100000
namespace Go.Proofs.YtmcmagheiijnhaaGreatDoor
open Go.RX Go.RX.Sym
open Classical

def spanK : List (Option IntKind) := [some .i64, some .i64]
def rowB : Kinds := fun a => match a with | 51 => some spanK | _ => none
noncomputable def bd95 : Code := match Tryz.f95.body with | some c => c | none => .skip
theorem bd95_is : Tryz.f95.body = some bd95 := by kernel_rfl
theorem nt95 : Tryz.f95.ntmps = 32 := by kernel_rfl
def sl95 : List Nat := [25, 14, 11, 10, 9, 8, 7, 4, 2, 0]
theorem lp95_4 : (flatC bd95).drop 4 = .block 0 (.loop (inC [4] bd95)) :: (flatC bd95).drop 5 := by kernel_rfl
def s95a : DT Lf := (.lt (.lit 64) (.len 51) (.leaf ⟨1, frN sl95 [(2, (.int .i64 12))], [], 0⟩) (.leaf ⟨0, frN sl95 [(10, (.int .i64 0)), (9, (.sint .i64 (.len 51))), (8, (.row 51)), (0, (.row 51))], [], 0⟩))
theorem s95a_ok (σ : Sig) : s95a.ok (pieceIs (envR rowB σ) (fun _ => noC) 40 32 sl95 (((flatC bd95).drop 0).take 4) (cutSt (frN sl95 [(0, (.row 51))]) [] 0)) [] = true := by kernel_rfl
def s95l : DT Lp := (.lt (.var 1) (.len 51) (.lt (.sel 51 (.var 1) 0) (.lit 0) (.leaf ⟨false, ⟨1, frN sl95 [(2, (.int .i64 14))], [], 1⟩, []⟩) (.lt (.lit 253402300799) (.sel 51 (.var 1) 0) (.leaf ⟨false, ⟨1, frN sl95 [(2, (.int .i64 14))], [], 1⟩, []⟩) (.lt (.sel 51 (.var 1) 1) (.lit 0) (.leaf ⟨false, ⟨1, frN sl95 [(2, (.int .i64 14))], [], 1⟩, []⟩) (.lt (.lit 253402300799) (.sel 51 (.var 1) 1) (.leaf ⟨false, ⟨1, frN sl95 [(2, (.int .i64 14))], [], 1⟩, []⟩) (.lt (.sel 51 (.var 1) 1) (.sel 51 (.var 1) 0) (.leaf ⟨false, ⟨1, frN sl95 [(2, (.int .i64 8))], [], 1⟩, []⟩) (.leaf ⟨true, ⟨0, frN sl95 [(10, (.sint .i64 (.bin .add .i64 (.var 1) (.lit 1)))), (9, (.sint .i64 (.len 51))), (8, (.row 51)), (0, (.row 51))], [(0, (.cells [(.sint .i64 (.sel 51 (.var 1) 0)), (.sint .i64 (.sel 51 (.var 1) 1))] 216))], 1⟩, [(1, (.bin .add .i64 (.var 1) (.lit 1)))]⟩)))))) (.leaf ⟨false, ⟨2, frN sl95 [(0, (.row 51))], [], 0⟩, []⟩))
theorem s95l_ok (σ : Sig) : s95l.ok (lpIs (envR rowB σ) (fun _ => noC) 40 32 sl95 (inC [4] bd95) (frN sl95 [(0, (.row 51)), (8, (.row 51)), (9, (.sint .i64 (.len 51))), (10, (.sint .i64 (.var 1)))]) [] 0 [51]) [⟨true, (.var 1), (.lit 0), false⟩] = true := by kernel_rfl
def s95z : DT Lf := (.leaf ⟨1, frN sl95 [(2, (.int .i64 0))], [], 0⟩)
theorem s95z_ok (σ : Sig) : s95z.ok (pieceIs (envR rowB σ) (fun _ => noC) 40 32 sl95 (((flatC bd95).drop 5).take 2) (cutSt (frN sl95 [(0, (.row 51))]) [] 0)) [] = true := by kernel_rfl
noncomputable def bd80 : Code := match Tryz.f80.body with | some c => c | none => .skip
theorem bd80_is : Tryz.f80.body = some bd80 := by kernel_rfl
theorem nt80 : Tryz.f80.ntmps = 40 := by kernel_rfl
def sl80 : List Nat := [39, 28, 10, 6, 3, 2, 0]
theorem lp80_4 : (flatC bd80).drop 4 = .block 0 (.loop (inC [4] bd80)) :: (flatC bd80).drop 5 := by kernel_rfl
def s80a : DT Lf := (.lt (.lit 64) (.len 51) (.leaf ⟨1, frN sl80 [(2, (.int .i64 12))], [], 0⟩) (.leaf ⟨0, frN sl80 [(3, (.int .i64 0)), (0, (.row 51))], [], 0⟩))
theorem s80a_ok (σ : Sig) : s80a.ok (pieceIs (envR rowB σ) (fun _ => noC) 40 40 sl80 (((flatC bd80).drop 0).take 4) (cutSt (frN sl80 [(0, (.row 51))]) [] 0)) [] = true := by kernel_rfl
def s80l : DT Lp := (.lt (.var 1) (.len 51) (.lt (.sel 51 (.var 1) 0) (.lit 0) (.leaf ⟨false, ⟨1, frN sl80 [(2, (.int .i64 14))], [], 0⟩, []⟩) (.lt (.lit 253402300799) (.sel 51 (.var 1) 0) (.leaf ⟨false, ⟨1, frN sl80 [(2, (.int .i64 14))], [], 0⟩, []⟩) (.lt (.sel 51 (.var 1) 1) (.lit 0) (.leaf ⟨false, ⟨1, frN sl80 [(2, (.int .i64 14))], [], 0⟩, []⟩) (.lt (.lit 253402300799) (.sel 51 (.var 1) 1) (.leaf ⟨false, ⟨1, frN sl80 [(2, (.int .i64 14))], [], 0⟩, []⟩) (.lt (.sel 51 (.var 1) 1) (.sel 51 (.var 1) 0) (.leaf ⟨false, ⟨1, frN sl80 [(2, (.int .i64 8))], [], 0⟩, []⟩) (.leaf ⟨true, ⟨0, frN sl80 [(3, (.sint .i64 (.bin .add .i64 (.var 1) (.lit 1)))), (0, (.row 51))], [], 0⟩, [(1, (.bin .add .i64 (.var 1) (.lit 1)))]⟩)))))) (.leaf ⟨false, ⟨2, frN sl80 [(0, (.row 51))], [], 0⟩, []⟩))
theorem s80l_ok (σ : Sig) : s80l.ok (lpIs (envR rowB σ) (fun _ => noC) 40 40 sl80 (inC [4] bd80) (frN sl80 [(0, (.row 51)), (3, (.sint .i64 (.var 1)))]) [] 0 [51]) [⟨true, (.var 1), (.lit 0), false⟩] = true := by kernel_rfl
def s80z : DT Lf := (.leaf ⟨1, frN sl80 [(2, (.int .i64 0))], [], 0⟩)
theorem s80z_ok (σ : Sig) : s80z.ok (pieceIs (envR rowB σ) (fun _ => noC) 40 40 sl80 (((flatC bd80).drop 5).take 2) (cutSt (frN sl80 [(0, (.row 51))]) [] 0)) [] = true := by kernel_rfl
/-- Spans in memory. -/
structure Sps where
  n : Nat
  f : Nat → Int
  t : Nat → Int
def Sps.cell (s : Sps) (i c : Nat) : Value := .int .i64 (if c = 0 then s.f i else s.t i)
/-- What is wrong with the spans from i on, of which there are k. -/
noncomputable def Sps.scan (s : Sps) : Nat → Nat → Int
  | 0, _ => 0
  | k + 1, i => if s.f i < 0 then 14 else if 253402300799 < s.f i then 14 else if s.t i < 0 then 14 else if 253402300799 < s.t i then 14 else if s.t i < s.f i then 8 else s.scan k (i + 1)
noncomputable def Sps.err (s : Sps) : Int := if 64 < s.n then 12 else s.scan s.n 0
/-- The slice that they lie in. -/
inductive Sps.Is (s : Sps) (W : World) : Value → Prop
  | nil (h : s.n = 0) : s.Is W (.slice none 0 0)
  | emp {a : Addr} (h : s.n = 0) : s.Is W (.slice (some a) 0 0)
  | some {b x cap : Nat} {arr : Array Value} {el : TypeId} {fz : Nat × Nat} (h1 : W.heap[b]? = some (.cells arr el fz)) (h2 : ∀ i, i < s.n → arr[x + i * 2]? = some (.int .i64 (s.f i)) ∧ arr[x + i * 2 + 1]? = some (.int .i64 (s.t i))) (hc : s.n ≤ cap) (hn : s.n ≤ 1000000) : s.Is W (.slice (some ⟨b, x, none⟩) s.n cap)

section
variable {s : Sps} {W : World}
structure StatB (s : Sps) (W : World) (σ : Sig) : Prop where
  rows : RowsIn W rowB σ
  row : (σ.row 51).2.2.2 = s.n
  cell : ∀ i c, i < s.n → c < 2 → σ.cell 51 i c = s.cell i c
  few : s.n ≤ 1000000
theorem StatB.puts {σ : Sig} (h : StatB s W σ) (θ : List (Nat × IE)) : StatB s W (σ.puts θ) := ⟨fun a ks e => h.rows a ks e, h.row, h.cell, h.few⟩
theorem StatB.len {σ : Sig} (h : StatB s W σ) : (IE.len 51).val σ = s.n := by
  show (((σ.row 51).2.2.2 : Nat) : Int) = s.n
  rw [h.row]
theorem StatB.sel0 {σ : Sig} (h : StatB s W σ) {i : Nat} (hv : σ.var 1 = i) (hi : i < s.n) : (IE.sel 51 (.var 1) 0).val σ = s.f i := by
  show (match σ.cell 51 (σ.var 1).toNat 0 with | .int _ n => n | _ => 0) = s.f i
  rw [hv, Int.toNat_natCast, h.cell i 0 hi (by omega)]
  rfl
theorem StatB.sel1 {σ : Sig} (h : StatB s W σ) {i : Nat} (hv : σ.var 1 = i) (hi : i < s.n) : (IE.sel 51 (.var 1) 1).val σ = s.t i := by
  show (match σ.cell 51 (σ.var 1).toNat 1 with | .int _ n => n | _ => 0) = s.t i
  rw [hv, Int.toNat_natCast, h.cell i 1 hi (by omega)]
  rfl
def JB (s : Sps) (W : World) (σ : Sig) (k : Nat) : Prop := StatB s W σ ∧ ∃ i : Nat, σ.var 1 = i ∧ i + k = s.n ∧ s.scan s.n 0 = s.scan k i
theorem JB.nonneg {σ : Sig} {k : Nat} (h : JB s W σ k) : ∀ f ∈ ([⟨true, (.var 1), (.lit 0), false⟩] : List Fact), f.holds σ := by
  obtain ⟨-, i, hv, -, -⟩ := h
  exact hcons (holds_lt (by simp only [IE.val, hv]; exact no (by omega))) hnil
/-- The slice, as the row 51 of some numbers. -/
theorem Sps.Is.sig {v : Value} (hW : Spaces W) (h : s.Is W v) : v = .slice none 0 0 ∧ s.n = 0 ∨ ∃ σ : Sig, StatB s W σ ∧ σ.var 1 = 0 ∧ VRel (.nil σ) (.row 51) v := by
  cases h with
  | nil h => exact .inl ⟨rfl, h⟩
  | emp h =>
    obtain ⟨arr, el, fz, h1, -⟩ := hW.cells 0 spaceCells rfl
    refine .inr ⟨{ var := fun _ => 0, fn := fnS, row := fun a => if a = 51 then (0, 0, 2, 0) else (0, 0, 0, 0), cell := fun a i c => if a = 51 then s.cell i c else .bool false }, ⟨fun a ks e => ?_, h.symm, fun i c _ _ => rfl, by omega⟩, rfl, .rowE rfl⟩
    unfold rowB at e
    split at e
    · simp only [Option.some.injEq] at e
      subst e
      exact ⟨0, 0, 0, arr, el, fz, rfl, h1, fun i c k hi => by omega⟩
    · cases e
  | @some b x cap arr el fz h1 h2 hc hn =>
    refine .inr ⟨{ var := fun _ => 0, fn := fnS, row := fun a => if a = 51 then (b, x, 2, s.n) else (0, 0, 0, 0), cell := fun a i c => if a = 51 then s.cell i c else .bool false }, ⟨fun a ks e => ?_, rfl, fun i c _ _ => rfl, hn⟩, rfl, .row rfl hc⟩
    unfold rowB at e
    split at e
    · simp only [Option.some.injEq] at e
      subst e
      refine ⟨b, x, s.n, arr, el, fz, rfl, h1, fun i c k hi hk => ?_⟩
      match c, hk with
      | 0, hk => simp [spanK] at hk; subst hk; exact ⟨(h2 i hi).1, _, rfl⟩
      | 1, hk => simp [spanK] at hk; subst hk; exact ⟨(h2 i hi).2, _, rfl⟩
      | c + 2, hk => simp [spanK] at hk
    · cases e
end
end Go.Proofs.YtmcmagheiijnhaaGreatDoor

/- Whether spans are allowed: what both calls hand back. -/
set_option linter.all false
set_option maxRecDepth 100000
namespace Go.Proofs.YtmcmagheiijnhaaGreatDoor
open Go.RX Go.RX.Sym

theorem r95_12 (σ : Sig) : leftOk (.int .i64 12) [] 0 (envR rowB σ []) sl95 Tryz.f95.results.toList (cutSt (frN sl95 [(2, .int .i64 12)]) [] 0) = true := by kernel_rfl
theorem r95_14 (σ : Sig) : leftOk (.int .i64 14) [] 1 (envR rowB σ []) sl95 Tryz.f95.results.toList (cutSt (frN sl95 [(2, .int .i64 14)]) [] 1) = true := by kernel_rfl
theorem r95_8 (σ : Sig) : leftOk (.int .i64 8) [] 1 (envR rowB σ []) sl95 Tryz.f95.results.toList (cutSt (frN sl95 [(2, .int .i64 8)]) [] 1) = true := by kernel_rfl
theorem r95_0 (σ : Sig) : leftOk (.int .i64 0) [] 0 (envR rowB σ []) sl95 Tryz.f95.results.toList (cutSt (frN sl95 [(2, .int .i64 0)]) [] 0) = true := by kernel_rfl
theorem nil95 (σ : Sig) : (DT.leaf okV).ok (callIs (envF σ) (fun _ => noC) 40 95 [.nilslice]) [] = true := by kernel_rfl
theorem fr95 : frameOf [.row 51] sl95 = frN sl95 [(0, .row 51)] := by kernel_rfl
theorem see95 : seeAll [51] [(1, .lit 0)] 0 (frN sl95 [(0, (.row 51)), (8, (.row 51)), (9, (.sint .i64 (.len 51))), (10, (.sint .i64 (.var 1)))]) (frN sl95 [(10, (.int .i64 0)), (9, (.sint .i64 (.len 51))), (8, (.row 51)), (0, (.row 51))]) [] [] = true := by kernel_rfl
theorem sk95 {s : Sps} {W : World} {v : Value} (hW : Spaces W) (hs : s.Is W v) : Calls Tryz.prog 95 #[v] W fun e w' => e = .returned (.int .i64 s.err) ∧ On W w' := by
  rcases hs.sig hW with ⟨rfl, h0⟩ | ⟨σ, hst, hv0, hrel⟩
  · have e0 : s.err = 0 := by unfold Sps.err; rw [if_neg (by omega), h0]; rfl
    rw [e0]
    exact fn_dt (E := envF (sigV fun _ => 0)) (K := fun _ => noC) (σ := sigV fun _ => 0) (P := Tryz.prog) (fun _ => rfl) (fun _ => rfl) (fnF _ hW) (T := DT.leaf okV) (d := 40) (f := 95) (args := [.nilslice]) (nil95 _) (.cons .nilslice .nil) fun ρ _ u hu => by cases hu; rfl
  refine tmpl_begin (E := envR rowB σ []) (f := 95) (fn := Tryz.f95) (body := bd95) Tryz.func95 bd95_is sl95 (args := [.row 51]) (vals := [v]) (.cons hrel .nil) (by rw [nt95]; decide) fun a hA => wpL_whole ?_
  rw [nt95, fr95] at hA
  refine walk_take 4 (E := fun F => envR rowB σ F) (K := fun _ => noC) (fun _ => rfl) (fun _ => rfl) (fnR hW hst.rows) (s95a_ok σ) hnil hA fun l hl a1 w1 h1 => ?_
  simp only [s95a, DT.eval] at hl
  rw [hst.len] at hl
  split at hl
  · rename_i c1
    subst hl
    refine tmpl_leaves (E := envR rowB σ []) (numR hst.rows hnil) (r95_12 σ) h1 (liesR [] hW hst.rows) fun u w' hl => ?_
    obtain ⟨rfl, o⟩ := left_int hl
    have e0 : s.err = 12 := if_pos (by have : (64 : Int) < s.n := c1; omega)
    rw [e0]
    exact ⟨rfl, o⟩
  · rename_i c1
    subst hl
    have e0 : s.err = s.scan s.n 0 := if_neg (by have : ¬ (64 : Int) < s.n := c1; omega)
    rw [e0]
    show wpL _ _ ((flatC bd95).drop 4) _ _ _
    rw [lp95_4]
    refine loop_dt (E := fun σ F => envR rowB σ F) (K := fun _ _ => noC) (fun _ _ => rfl) (fun _ _ => rfl) (JB s W) (fun σ k hJ => fnR hW hJ.1.rows) s95l_ok (fun σ k h => h.nonneg) (σ0 := σ.puts [(1, .lit 0)]) (N := s.n) ⟨hst.puts _, 0, rfl, by omega, rfl⟩ (h1.sub (σ.puts_is _ [51]) see95) fun σ k p hJ hp => ?_
    obtain ⟨hst, i, hv, hk, hsc⟩ := id hJ
    simp only [s95l, DT.eval] at hp
    have ev : (IE.var 1).val σ = i := hv
    rw [hst.len, ev] at hp
    split at hp
    · rename_i hi
      have hi : i < s.n := by omega
      obtain ⟨k, rfl⟩ : ∃ j, k = j + 1 := ⟨k - 1, by omega⟩
      rw [hst.sel0 hv hi, hst.sel1 hv hi] at hp
      have e1 : s.scan (k + 1) i = if s.f i < 0 then 14 else if 253402300799 < s.f i then 14 else if s.t i < 0 then 14 else if 253402300799 < s.t i then 14 else if s.t i < s.f i then 8 else s.scan k (i + 1) := rfl
      rw [e1] at hsc
      clear e1
      have l0 : ∀ m, (IE.lit m).val σ = m := fun _ => rfl
      simp only [l0] at hp
      have bad14 : s.scan s.n 0 = 14 → ∀ a' w', AtT σ 32 sl95 (frN sl95 [(2, .int .i64 14)]) [] 1 W a' w' → OutL 0 (Exit.then (wpL Tryz.prog 0 ((flatC bd95).drop 5) (bodyPostM Fence.wide 0 Tryz.prog Tryz.f95 fun e w' => e = .returned (.int .i64 (s.scan s.n 0)) ∧ On W w')) (bodyPostM Fence.wide 0 Tryz.prog Tryz.f95 fun e w' => e = .returned (.int .i64 (s.scan s.n 0)) ∧ On W w')) 1 a' w' := fun e a' w' h' => by
        rw [e]
        refine tmpl_leaves (E := envR rowB σ []) (numR hst.rows hnil) (r95_14 σ) h' (liesR [] hW hst.rows) fun u w' hl => ?_
        obtain ⟨rfl, o⟩ := left_int hl
        exact ⟨rfl, o⟩
      split at hp
      · rename_i c; subst hp; rw [if_pos c] at hsc; exact bad14 hsc
      rename_i c; rw [if_neg c] at hsc
      split at hp
      · rename_i c; subst hp; rw [if_pos c] at hsc; exact bad14 hsc
      rename_i c; rw [if_neg c] at hsc
      split at hp
      · rename_i c; subst hp; rw [if_pos c] at hsc; exact bad14 hsc
      rename_i c; rw [if_neg c] at hsc
      split at hp
      · rename_i c; subst hp; rw [if_pos c] at hsc; exact bad14 hsc
      rename_i c; rw [if_neg c] at hsc
      split at hp
      · rename_i c; subst hp; rw [if_pos c] at hsc
        rw [hsc]
        intro a' w' h'
        refine tmpl_leaves (E := envR rowB σ []) (numR hst.rows hnil) (r95_8 σ) h' (liesR [] hW hst.rows) fun u w' hl => ?_
        obtain ⟨rfl, o⟩ := left_int hl
        exact ⟨rfl, o⟩
      rename_i c; rw [if_neg c] at hsc
      subst hp
      refine ⟨k, by omega, hst.puts _, i + 1, ?_, by omega, hsc⟩
      show opVal .add .i64 (σ.var 1) 1 = _
      rw [hv]
      exact add1 hi (by have := hst.few; omega)
    · rename_i hi
      subst hp
      have hk0 : k = 0 := by omega
      subst hk0
      rw [hsc]
      intro a' w' h'
      show wpL _ _ ((flatC bd95).drop 5) _ _ _
      refine walk_take 2 (E := fun F => envR rowB σ F) (K := fun _ => noC) (fun _ => rfl) (fun _ => rfl) (fnR hW hst.rows) (s95z_ok σ) hnil h' fun l hl a1 w1 h1 => ?_
      simp only [s95z, DT.eval] at hl
      subst hl
      refine tmpl_leaves (E := envR rowB σ []) (numR hst.rows hnil) (r95_0 σ) h1 (liesR [] hW hst.rows) fun u w' hl => ?_
      obtain ⟨rfl, o⟩ := left_int hl
      exact ⟨rfl, o⟩
theorem r80_12 (σ : Sig) : leftOk (.int .i64 12) [] 0 (envR rowB σ []) sl80 Tryz.f80.results.toList (cutSt (frN sl80 [(2, .int .i64 12)]) [] 0) = true := by kernel_rfl
theorem r80_14 (σ : Sig) : leftOk (.int .i64 14) [] 0 (envR rowB σ []) sl80 Tryz.f80.results.toList (cutSt (frN sl80 [(2, .int .i64 14)]) [] 0) = true := by kernel_rfl
theorem r80_8 (σ : Sig) : leftOk (.int .i64 8) [] 0 (envR rowB σ []) sl80 Tryz.f80.results.toList (cutSt (frN sl80 [(2, .int .i64 8)]) [] 0) = true := by kernel_rfl
theorem r80_0 (σ : Sig) : leftOk (.int .i64 0) [] 0 (envR rowB σ []) sl80 Tryz.f80.results.toList (cutSt (frN sl80 [(2, .int .i64 0)]) [] 0) = true := by kernel_rfl
theorem nil80 (σ : Sig) : (DT.leaf okV).ok (callIs (envF σ) (fun _ => noC) 40 80 [.nilslice]) [] = true := by kernel_rfl
theorem fr80 : frameOf [.row 51] sl80 = frN sl80 [(0, .row 51)] := by kernel_rfl
theorem see80 : seeAll [51] [(1, .lit 0)] 0 (frN sl80 [(0, (.row 51)), (3, (.sint .i64 (.var 1)))]) (frN sl80 [(3, (.int .i64 0)), (0, (.row 51))]) [] [] = true := by kernel_rfl
theorem sk80 {s : Sps} {W : World} {v : Value} (hW : Spaces W) (hs : s.Is W v) : Calls Tryz.prog 80 #[v] W fun e w' => e = .returned (.int .i64 s.err) ∧ On W w' := by
  rcases hs.sig hW with ⟨rfl, h0⟩ | ⟨σ, hst, hv0, hrel⟩
  · have e0 : s.err = 0 := by unfold Sps.err; rw [if_neg (by omega), h0]; rfl
    rw [e0]
    exact fn_dt (E := envF (sigV fun _ => 0)) (K := fun _ => noC) (σ := sigV fun _ => 0) (P := Tryz.prog) (fun _ => rfl) (fun _ => rfl) (fnF _ hW) (T := DT.leaf okV) (d := 40) (f := 80) (args := [.nilslice]) (nil80 _) (.cons .nilslice .nil) fun ρ _ u hu => by cases hu; rfl
  refine tmpl_begin (E := envR rowB σ []) (f := 80) (fn := Tryz.f80) (body := bd80) Tryz.func80 bd80_is sl80 (args := [.row 51]) (vals := [v]) (.cons hrel .nil) (by rw [nt80]; decide) fun a hA => wpL_whole ?_
  rw [nt80, fr80] at hA
  refine walk_take 4 (E := fun F => envR rowB σ F) (K := fun _ => noC) (fun _ => rfl) (fun _ => rfl) (fnR hW hst.rows) (s80a_ok σ) hnil hA fun l hl a1 w1 h1 => ?_
  simp only [s80a, DT.eval] at hl
  rw [hst.len] at hl
  split at hl
  · rename_i c1
    subst hl
    refine tmpl_leaves (E := envR rowB σ []) (numR hst.rows hnil) (r80_12 σ) h1 (liesR [] hW hst.rows) fun u w' hl => ?_
    obtain ⟨rfl, o⟩ := left_int hl
    have e0 : s.err = 12 := if_pos (by have : (64 : Int) < s.n := c1; omega)
    rw [e0]
    exact ⟨rfl, o⟩
  · rename_i c1
    subst hl
    have e0 : s.err = s.scan s.n 0 := if_neg (by have : ¬ (64 : Int) < s.n := c1; omega)
    rw [e0]
    show wpL _ _ ((flatC bd80).drop 4) _ _ _
    rw [lp80_4]
    refine loop_dt (E := fun σ F => envR rowB σ F) (K := fun _ _ => noC) (fun _ _ => rfl) (fun _ _ => rfl) (JB s W) (fun σ k hJ => fnR hW hJ.1.rows) s80l_ok (fun σ k h => h.nonneg) (σ0 := σ.puts [(1, .lit 0)]) (N := s.n) ⟨hst.puts _, 0, rfl, by omega, rfl⟩ (h1.sub (σ.puts_is _ [51]) see80) fun σ k p hJ hp => ?_
    obtain ⟨hst, i, hv, hk, hsc⟩ := id hJ
    simp only [s80l, DT.eval] at hp
    have ev : (IE.var 1).val σ = i := hv
    rw [hst.len, ev] at hp
    split at hp
    · rename_i hi
      have hi : i < s.n := by omega
      obtain ⟨k, rfl⟩ : ∃ j, k = j + 1 := ⟨k - 1, by omega⟩
      rw [hst.sel0 hv hi, hst.sel1 hv hi] at hp
      have e1 : s.scan (k + 1) i = if s.f i < 0 then 14 else if 253402300799 < s.f i then 14 else if s.t i < 0 then 14 else if 253402300799 < s.t i then 14 else if s.t i < s.f i then 8 else s.scan k (i + 1) := rfl
      rw [e1] at hsc
      clear e1
      have l0 : ∀ m, (IE.lit m).val σ = m := fun _ => rfl
      simp only [l0] at hp
      have bad14 : s.scan s.n 0 = 14 → ∀ a' w', AtT σ 40 sl80 (frN sl80 [(2, .int .i64 14)]) [] 0 W a' w' → OutL 0 (Exit.then (wpL Tryz.prog 0 ((flatC bd80).drop 5) (bodyPostM Fence.wide 0 Tryz.prog Tryz.f80 fun e w' => e = .returned (.int .i64 (s.scan s.n 0)) ∧ On W w')) (bodyPostM Fence.wide 0 Tryz.prog Tryz.f80 fun e w' => e = .returned (.int .i64 (s.scan s.n 0)) ∧ On W w')) 1 a' w' := fun e a' w' h' => by
        rw [e]
        refine tmpl_leaves (E := envR rowB σ []) (numR hst.rows hnil) (r80_14 σ) h' (liesR [] hW hst.rows) fun u w' hl => ?_
        obtain ⟨rfl, o⟩ := left_int hl
        exact ⟨rfl, o⟩
      split at hp
      · rename_i c; subst hp; rw [if_pos c] at hsc; exact bad14 hsc
      rename_i c; rw [if_neg c] at hsc
      split at hp
      · rename_i c; subst hp; rw [if_pos c] at hsc; exact bad14 hsc
      rename_i c; rw [if_neg c] at hsc
      split at hp
      · rename_i c; subst hp; rw [if_pos c] at hsc; exact bad14 hsc
      rename_i c; rw [if_neg c] at hsc
      split at hp
      · rename_i c; subst hp; rw [if_pos c] at hsc; exact bad14 hsc
      rename_i c; rw [if_neg c] at hsc
      split at hp
      · rename_i c; subst hp; rw [if_pos c] at hsc
        rw [hsc]
        intro a' w' h'
        refine tmpl_leaves (E := envR rowB σ []) (numR hst.rows hnil) (r80_8 σ) h' (liesR [] hW hst.rows) fun u w' hl => ?_
        obtain ⟨rfl, o⟩ := left_int hl
        exact ⟨rfl, o⟩
      rename_i c; rw [if_neg c] at hsc
      subst hp
      refine ⟨k, by omega, hst.puts _, i + 1, ?_, by omega, hsc⟩
      show opVal .add .i64 (σ.var 1) 1 = _
      rw [hv]
      exact add1 hi (by have := hst.few; omega)
    · rename_i hi
      subst hp
      have hk0 : k = 0 := by omega
      subst hk0
      rw [hsc]
      intro a' w' h'
      show wpL _ _ ((flatC bd80).drop 5) _ _ _
      refine walk_take 2 (E := fun F => envR rowB σ F) (K := fun _ => noC) (fun _ => rfl) (fun _ => rfl) (fnR hW hst.rows) (s80z_ok σ) hnil h' fun l hl a1 w1 h1 => ?_
      simp only [s80z, DT.eval] at hl
      subst hl
      refine tmpl_leaves (E := envR rowB σ []) (numR hst.rows hnil) (r80_0 σ) h1 (liesR [] hW hst.rows) fun u w' hl => ?_
      obtain ⟨rfl, o⟩ := left_int hl
      exact ⟨rfl, o⟩
end Go.Proofs.YtmcmagheiijnhaaGreatDoor

/- Whether a text is a name: both sides. -/
set_option linter.all false
set_option maxRecDepth 100000
namespace Go.Proofs.YtmcmagheiijnhaaGreatDoor
open Go.RX Go.RX.Sym
open Classical

noncomputable def bd73 : Code := match Tryz.f73.body with | some c => c | none => .skip
theorem bd73_is : Tryz.f73.body = some bd73 := by kernel_rfl
theorem nt73 : Tryz.f73.ntmps = 48 := by kernel_rfl
def sl73 : List Nat := [46, 16, 15, 14, 12, 5, 4, 3, 2, 0]
theorem lp73_4 : (flatC bd73).drop 4 = .block 0 (.loop (inC [4] bd73)) :: (flatC bd73).drop 5 := by kernel_rfl
def n73a0 : Lf := ⟨1, frN sl73 [(2, (.bool false))], [], 0⟩
def n73a : DT Lf := (.eq (.len 50) (.lit 0) (.leaf n73a0) (.lt (.lit 24) (.len 50) (.leaf n73a0) (.leaf ⟨0, frN sl73 [(15, (.int .i64 0)), (14, (.sint .i64 (.len 50))), (0, (.xstr 50))], [], 0⟩)))
theorem n73a_ok (σ : Sig) : n73a.ok (pieceIs (envF σ) (fun _ => noC) 40 48 sl73 (((flatC bd73).drop 0).take 4) (cutSt (frN sl73 [(0, (.xstr 50))]) [] 0)) [] = true := by kernel_rfl
def n73l0 : Lp := ⟨true, ⟨0, frN sl73 [(15, (.sint .i64 (.bin .add .i64 (.var 1) (.lit 1)))), (14, (.sint .i64 (.len 50))), (0, (.xstr 50))], [], 0⟩, [(1, (.bin .add .i64 (.var 1) (.lit 1)))]⟩
def n73l1 : Lp := ⟨false, ⟨1, frN sl73 [(2, (.bool false))], [], 0⟩, []⟩
def n73l2 : Lp := ⟨false, ⟨2, frN sl73 [(0, (.xstr 50))], [], 0⟩, []⟩
def n73l : DT Lp := (.lt (.var 1) (.len 50) (.lt (.bin .or .u8 (.sel 50 (.var 1) 0) (.lit 32)) (.lit 97) (.lt (.sel 50 (.var 1) 0) (.lit 48) (.eq (.sel 50 (.var 1) 0) (.lit 45) (.leaf n73l0) (.eq (.sel 50 (.var 1) 0) (.lit 95) (.leaf n73l0) (.leaf n73l1))) (.lt (.lit 57) (.sel 50 (.var 1) 0) (.eq (.sel 50 (.var 1) 0) (.lit 45) (.leaf n73l0) (.eq (.sel 50 (.var 1) 0) (.lit 95) (.leaf n73l0) (.leaf n73l1))) (.leaf n73l0))) (.lt (.lit 122) (.bin .or .u8 (.sel 50 (.var 1) 0) (.lit 32)) (.lt (.sel 50 (.var 1) 0) (.lit 48) (.eq (.sel 50 (.var 1) 0) (.lit 45) (.leaf n73l0) (.eq (.sel 50 (.var 1) 0) (.lit 95) (.leaf n73l0) (.leaf n73l1))) (.lt (.lit 57) (.sel 50 (.var 1) 0) (.eq (.sel 50 (.var 1) 0) (.lit 45) (.leaf n73l0) (.eq (.sel 50 (.var 1) 0) (.lit 95) (.leaf n73l0) (.leaf n73l1))) (.leaf n73l0))) (.leaf n73l0))) (.leaf n73l2))
theorem n73l_ok (σ : Sig) : n73l.ok (lpIs (envF σ) (fun _ => noC) 40 48 sl73 (inC [4] bd73) (frN sl73 [(0, (.xstr 50)), (14, (.sint .i64 (.len 50))), (15, (.sint .i64 (.var 1)))]) [] 0 [50]) [⟨true, (.var 1), (.lit 0), false⟩] = true := by kernel_rfl
def n73z : DT Lf := (.leaf ⟨1, frN sl73 [(2, (.bool true))], [], 0⟩)
theorem n73z_ok (σ : Sig) : n73z.ok (pieceIs (envF σ) (fun _ => noC) 40 48 sl73 (((flatC bd73).drop 5).take 2) (cutSt (frN sl73 [(0, (.xstr 50))]) [] 0)) [] = true := by kernel_rfl
noncomputable def bd50 : Code := match Tryz.f50.body with | some c => c | none => .skip
theorem bd50_is : Tryz.f50.body = some bd50 := by kernel_rfl
theorem nt50 : Tryz.f50.ntmps = 53 := by kernel_rfl
def sl50 : List Nat := [52, 16, 12, 4, 3, 2, 0]
theorem lp50_4 : (flatC bd50).drop 4 = .block 0 (.loop (inC [4] bd50)) :: (flatC bd50).drop 5 := by kernel_rfl
def n50a0 : Lf := ⟨1, frN sl50 [(2, (.bool false))], [], 0⟩
def n50a : DT Lf := (.lt (.len 50) (.lit 1) (.leaf n50a0) (.lt (.lit 24) (.len 50) (.leaf n50a0) (.leaf ⟨0, frN sl50 [(3, (.int .i64 0)), (0, (.xstr 50))], [], 0⟩)))
theorem n50a_ok (σ : Sig) : n50a.ok (pieceIs (envF σ) (fun _ => noC) 40 53 sl50 (((flatC bd50).drop 0).take 4) (cutSt (frN sl50 [(0, (.xstr 50))]) [] 0)) [] = true := by kernel_rfl
def n50l0 : Lp := ⟨true, ⟨0, frN sl50 [(3, (.sint .i64 (.bin .add .i64 (.var 1) (.lit 1)))), (0, (.xstr 50))], [], 0⟩, [(1, (.bin .add .i64 (.var 1) (.lit 1)))]⟩
def n50l1 : Lp := ⟨false, ⟨1, frN sl50 [(2, (.bool false))], [], 0⟩, []⟩
def n50l2 : Lp := ⟨false, ⟨2, frN sl50 [(0, (.xstr 50))], [], 0⟩, []⟩
def n50l : DT Lp := (.lt (.var 1) (.len 50) (.lt (.sel 50 (.var 1) 0) (.lit 97) (.lt (.sel 50 (.var 1) 0) (.lit 65) (.lt (.sel 50 (.var 1) 0) (.lit 48) (.eq (.sel 50 (.var 1) 0) (.lit 45) (.leaf n50l0) (.eq (.sel 50 (.var 1) 0) (.lit 95) (.leaf n50l0) (.leaf n50l1))) (.lt (.lit 57) (.sel 50 (.var 1) 0) (.eq (.sel 50 (.var 1) 0) (.lit 45) (.leaf n50l0) (.eq (.sel 50 (.var 1) 0) (.lit 95) (.leaf n50l0) (.leaf n50l1))) (.leaf n50l0))) (.lt (.lit 90) (.sel 50 (.var 1) 0) (.lt (.sel 50 (.var 1) 0) (.lit 48) (.eq (.sel 50 (.var 1) 0) (.lit 45) (.leaf n50l0) (.eq (.sel 50 (.var 1) 0) (.lit 95) (.leaf n50l0) (.leaf n50l1))) (.lt (.lit 57) (.sel 50 (.var 1) 0) (.eq (.sel 50 (.var 1) 0) (.lit 45) (.leaf n50l0) (.eq (.sel 50 (.var 1) 0) (.lit 95) (.leaf n50l0) (.leaf n50l1))) (.leaf n50l0))) (.leaf n50l0))) (.lt (.lit 122) (.sel 50 (.var 1) 0) (.lt (.sel 50 (.var 1) 0) (.lit 65) (.lt (.sel 50 (.var 1) 0) (.lit 48) (.eq (.sel 50 (.var 1) 0) (.lit 45) (.leaf n50l0) (.eq (.sel 50 (.var 1) 0) (.lit 95) (.leaf n50l0) (.leaf n50l1))) (.lt (.lit 57) (.sel 50 (.var 1) 0) (.eq (.sel 50 (.var 1) 0) (.lit 45) (.leaf n50l0) (.eq (.sel 50 (.var 1) 0) (.lit 95) (.leaf n50l0) (.leaf n50l1))) (.leaf n50l0))) (.lt (.lit 90) (.sel 50 (.var 1) 0) (.lt (.sel 50 (.var 1) 0) (.lit 48) (.eq (.sel 50 (.var 1) 0) (.lit 45) (.leaf n50l0) (.eq (.sel 50 (.var 1) 0) (.lit 95) (.leaf n50l0) (.leaf n50l1))) (.lt (.lit 57) (.sel 50 (.var 1) 0) (.eq (.sel 50 (.var 1) 0) (.lit 45) (.leaf n50l0) (.eq (.sel 50 (.var 1) 0) (.lit 95) (.leaf n50l0) (.leaf n50l1))) (.leaf n50l0))) (.leaf n50l0))) (.leaf n50l0))) (.leaf n50l2))
theorem n50l_ok (σ : Sig) : n50l.ok (lpIs (envF σ) (fun _ => noC) 40 53 sl50 (inC [4] bd50) (frN sl50 [(0, (.xstr 50)), (3, (.sint .i64 (.var 1)))]) [] 0 [50]) [⟨true, (.var 1), (.lit 0), false⟩] = true := by kernel_rfl
def n50z : DT Lf := (.leaf ⟨1, frN sl50 [(2, (.bool true))], [], 0⟩)
theorem n50z_ok (σ : Sig) : n50z.ok (pieceIs (envF σ) (fun _ => noC) 40 53 sl50 (((flatC bd50).drop 5).take 2) (cutSt (frN sl50 [(0, (.xstr 50))]) [] 0)) [] = true := by kernel_rfl
def nmB (c : Int) : Prop := (97 ≤ c ∧ c ≤ 122) ∨ (65 ≤ c ∧ c ≤ 90) ∨ (48 ≤ c ∧ c ≤ 57) ∨ c = 45 ∨ c = 95
noncomputable def orB (c : Nat) : Bool := match (Sym.ltb (opVal .or .u8 (.ofNat c) 32) 97 || Sym.ltb 122 (opVal .or .u8 (.ofNat c) 32)), decide ((97 ≤ c ∧ c ≤ 122) ∨ (65 ≤ c ∧ c ≤ 90)) with | true, false => true | false, true => true | _, _ => false
theorem orB_all : (List.range 256).all orB = true := by kernel_rfl
theorem or_letter {c : Nat} (h : c < 256) : (opVal .or .u8 (c : Int) 32 < 97 ∨ 122 < opVal .or .u8 (c : Int) 32) ↔ ¬ ((97 ≤ c ∧ c ≤ 122) ∨ (65 ≤ c ∧ c ≤ 90)) := by
  have := List.all_eq_true.1 orB_all c (List.mem_range.2 h)
  unfold orB at this
  rw [ltb_eq, ltb_eq] at this
  change (match (decide (opVal .or .u8 (c : Int) 32 < 97) || decide (122 < opVal .or .u8 (c : Int) 32)), decide ((97 ≤ c ∧ c ≤ 122) ∨ (65 ≤ c ∧ c ≤ 90)) with | true, false => true | false, true => true | _, _ => false) = true at this
  generalize opVal .or .u8 (c : Int) 32 = z at this ⊢
  split at this
  · rename_i h1 h2
    simp only [Bool.or_eq_true, Bool.or_eq_false_iff, decide_eq_true_eq, decide_eq_false_iff_not] at h1 h2
    omega
  · rename_i h1 h2
    simp only [Bool.or_eq_true, Bool.or_eq_false_iff, decide_eq_true_eq, decide_eq_false_iff_not] at h1 h2
    omega
  · cases this
theorem n73l_eval {σ : Sig} {c : Nat} (hv : σ.var 1 < (IE.len 50).val σ) (hc : (IE.sel 50 (.var 1) 0).val σ = c) (h : c < 256) : n73l.eval σ = if nmB c then n73l0 else n73l1 := by
  have e1 : (IE.bin .or .u8 (.sel 50 (.var 1) 0) (.lit 32)).val σ = opVal .or .u8 (c : Int) 32 := by
    show opVal .or .u8 ((IE.sel 50 (.var 1) 0).val σ) 32 = _
    rw [hc]
  have hl := or_letter h
  have l0 : ∀ m, (IE.lit m).val σ = m := fun _ => rfl
  have v1 : (IE.var 1).val σ = σ.var 1 := rfl
  simp only [n73l, DT.eval, hc, e1, l0, v1, if_pos hv]
  generalize opVal .or .u8 (c : Int) 32 = z at hl ⊢
  clear hc e1 l0 v1 hv
  by_cases hb : nmB c
  · rw [if_pos hb]
    unfold nmB at hb
    repeat' split
    all_goals first | rfl | (exfalso; omega)
  · rw [if_neg hb]
    unfold nmB at hb
    repeat' split
    all_goals first | rfl | (exfalso; omega)
theorem n50l_eval {σ : Sig} {c : Nat} (hv : σ.var 1 < (IE.len 50).val σ) (hc : (IE.sel 50 (.var 1) 0).val σ = c) (h : c < 256) : n50l.eval σ = if nmB c then n50l0 else n50l1 := by
  have l0 : ∀ m, (IE.lit m).val σ = m := fun _ => rfl
  have v1 : (IE.var 1).val σ = σ.var 1 := rfl
  simp only [n50l, DT.eval, hc, l0, v1, if_pos hv]
  clear hc l0 v1 hv
  by_cases hb : nmB c
  · rw [if_pos hb]
    unfold nmB at hb
    repeat' split
    all_goals first | rfl | (exfalso; omega)
  · rw [if_neg hb]
    unfold nmB at hb
    repeat' split
    all_goals first | rfl | (exfalso; omega)

def byteOf (s : ByteArray) (i : Nat) : Nat := match s[i]? with | some y => y.toNat | none => 0
theorem byteOf_lt {s : ByteArray} {i : Nat} : byteOf s i < 256 := by
  unfold byteOf
  split
  · rename_i y _; exact y.toNat_lt
  · omega
def nameOk (s : ByteArray) : Prop := (1 ≤ s.size ∧ s.size ≤ 24) ∧ ∀ i, i < s.size → nmB (byteOf s i)
structure StatN (s : ByteArray) (σ : Sig) : Prop where
  row : (σ.row 50).2.2.2 = s.size
  cell : ∀ i, i < s.size → σ.cell 50 i 0 = .int .u8 (byteOf s i)
section
variable {s : ByteArray} {W : World}
theorem StatN.puts {σ : Sig} (h : StatN s σ) (θ : List (Nat × IE)) : StatN s (σ.puts θ) := ⟨h.row, h.cell⟩
theorem StatN.len {σ : Sig} (h : StatN s σ) : (IE.len 50).val σ = s.size := by
  show (((σ.row 50).2.2.2 : Nat) : Int) = s.size
  rw [h.row]
theorem StatN.sel {σ : Sig} (h : StatN s σ) {i : Nat} (hv : σ.var 1 = i) (hi : i < s.size) : (IE.sel 50 (.var 1) 0).val σ = byteOf s i := by
  show (match σ.cell 50 (σ.var 1).toNat 0 with | .int _ n => n | _ => 0) = _
  rw [hv, Int.toNat_natCast, h.cell i hi]
def JN (s : ByteArray) (σ : Sig) (k : Nat) : Prop := StatN s σ ∧ ∃ i : Nat, σ.var 1 = i ∧ i + k = s.size ∧ s.size ≤ 24 ∧ 1 ≤ s.size ∧ ∀ j, j < i → nmB (byteOf s j)
theorem JN.nonneg {σ : Sig} {k : Nat} (h : JN s σ k) : ∀ f ∈ ([⟨true, (.var 1), (.lit 0), false⟩] : List Fact), f.holds σ := by
  obtain ⟨-, i, hv, -⟩ := h
  exact hcons (holds_lt (by simp only [IE.val, hv]; exact no (by omega))) hnil
noncomputable def sigN (s : ByteArray) : Sig := { var := fun _ => 0, fn := fnS, row := fun a => if a = 50 then (0, 0, 1, s.size) else (0, 0, 0, 0), cell := fun a i _ => if a = 50 then .int .u8 (byteOf s i) else .bool false }
theorem statN : StatN s (sigN s) := ⟨rfl, fun i _ => rfl⟩
theorem relN : VRel (.nil (sigN s)) (.xstr 50) (.string s) := .xstr (b := 0) (x := 0) rfl fun i y hy => by
  show Value.int .u8 (byteOf s i) = _
  unfold byteOf
  rw [hy]
end
end Go.Proofs.YtmcmagheiijnhaaGreatDoor

/- Whether a text is a name: what both calls hand back. -/
set_option linter.all false
set_option maxRecDepth 100000
namespace Go.Proofs.YtmcmagheiijnhaaGreatDoor
open Go.RX Go.RX.Sym
open Classical

theorem r73_t (σ : Sig) : leftOk (.bool true) [] 0 (envF σ []) sl73 Tryz.f73.results.toList (cutSt (frN sl73 [(2, .bool true)]) [] 0) = true := by kernel_rfl
theorem r73_f (σ : Sig) : leftOk (.bool false) [] 0 (envF σ []) sl73 Tryz.f73.results.toList (cutSt (frN sl73 [(2, .bool false)]) [] 0) = true := by kernel_rfl
theorem fr73 : frameOf [.xstr 50] sl73 = frN sl73 [(0, .xstr 50)] := by kernel_rfl
theorem see73 : seeAll [50] [(1, .lit 0)] 0 (frN sl73 [(0, (.xstr 50)), (14, (.sint .i64 (.len 50))), (15, (.sint .i64 (.var 1)))]) (frN sl73 [(15, (.int .i64 0)), (14, (.sint .i64 (.len 50))), (0, (.xstr 50))]) [] [] = true := by kernel_rfl
theorem nm73 {s : ByteArray} {W : World} (hW : Spaces W) : Calls Tryz.prog 73 #[.string s] W fun e w' => e = .returned (.bool (decide (nameOk s))) ∧ On W w' := by
  have hst := statN (s := s)
  have relN := relN (s := s)
  generalize hsg : sigN s = σ at hst relN
  have hv0 : σ.var 1 = 0 := by rw [← hsg]; rfl
  clear hsg
  refine tmpl_begin (E := envF σ []) (f := 73) (fn := Tryz.f73) (body := bd73) Tryz.func73 bd73_is sl73 (args := [.xstr 50]) (vals := [.string s]) (.cons relN .nil) (by rw [nt73]; decide) fun a hA => wpL_whole ?_
  rw [nt73, fr73] at hA
  have hno : ¬ nameOk s → ∀ {σ : Sig} a' w', AtT σ 48 sl73 (frN sl73 [(2, .bool false)]) [] 0 W a' w' → bodyPostM Fence.wide 0 Tryz.prog Tryz.f73 (fun e w' => e = .returned (.bool (decide (nameOk s))) ∧ On W w') .ret a' w' := fun h {σ} a' w' h' => by
    rw [decide_eq_false h]
    refine tmpl_leaves (E := envF σ []) (numF σ hnil) (r73_f σ) h' (liesF σ [] hW) fun u w' hl => ?_
    obtain ⟨rfl, o⟩ := left_bool hl
    exact ⟨rfl, o⟩
  refine walk_take 4 (E := fun F => envF σ F) (K := fun _ => noC) (fun _ => rfl) (fun _ => rfl) (fnF σ hW) (n73a_ok σ) hnil hA fun l hl a1 w1 h1 => ?_
  have l0 : ∀ m, (IE.lit m).val σ = m := fun _ => rfl
  simp only [n73a, DT.eval, hst.len, l0] at hl
  split at hl
  · rename_i c1
    subst hl
    exact hno (fun h => by have := h.1; omega) _ _ h1
  split at hl
  · rename_i c1 c2
    subst hl
    exact hno (fun h => by have := h.1; omega) _ _ h1
  · rename_i c1 c2
    subst hl
    show wpL _ _ ((flatC bd73).drop 4) _ _ _
    rw [lp73_4]
    refine loop_dt (E := fun σ F => envF σ F) (K := fun _ _ => noC) (fun _ _ => rfl) (fun _ _ => rfl) (JN s) (fun σ k hJ => fnF σ hW) n73l_ok (fun σ k h => h.nonneg) (σ0 := σ.puts [(1, .lit 0)]) (N := s.size) ⟨hst.puts _, 0, rfl, by omega, by omega, by omega, fun j hj => by omega⟩ (h1.sub (σ.puts_is _ [50]) see73) fun σ k p hJ hp => ?_
    obtain ⟨hst, i, hv, hk, h24, h1s, hall⟩ := id hJ
    by_cases hi : i < s.size
    · rw [n73l_eval (c := byteOf s i) (by rw [hst.len, hv]; omega) (hst.sel hv hi) byteOf_lt] at hp
      split at hp
      · rename_i hb
        subst hp
        obtain ⟨k, rfl⟩ : ∃ j, k = j + 1 := ⟨k - 1, by omega⟩
        refine ⟨k, by omega, hst.puts _, i + 1, ?_, by omega, h24, h1s, fun j hj => ?_⟩
        · show opVal .add .i64 (σ.var 1) 1 = _
          rw [hv]
          exact add1 hi (by omega)
        · rcases Nat.lt_or_eq_of_le (Nat.le_of_lt_succ hj) with h | h
          · exact hall j h
          · rw [h]; exact hb
      · rename_i hb
        subst hp
        exact fun a' w' h' => hno (fun h => hb (h.2 i hi)) a' w' h'
    · have ev : (IE.var 1).val σ = i := hv
      have hnl : ¬ ((i : Int) < s.size) := by omega
      simp only [n73l, DT.eval, hst.len, ev, if_neg hnl] at hp
      subst hp
      have hok : nameOk s := ⟨⟨h1s, h24⟩, fun j hj => hall j (by omega)⟩
      intro a' w' h'
      show wpL _ _ ((flatC bd73).drop 5) _ _ _
      refine walk_take 2 (E := fun F => envF σ F) (K := fun _ => noC) (fun _ => rfl) (fun _ => rfl) (fnF σ hW) (n73z_ok σ) hnil h' fun l hl a1 w1 h1 => ?_
      simp only [n73z, DT.eval] at hl
      subst hl
      rw [decide_eq_true hok]
      refine tmpl_leaves (E := envF σ []) (numF σ hnil) (r73_t σ) h1 (liesF σ [] hW) fun u w' hl => ?_
      obtain ⟨rfl, o⟩ := left_bool hl
      exact ⟨rfl, o⟩
theorem r50_t (σ : Sig) : leftOk (.bool true) [] 0 (envF σ []) sl50 Tryz.f50.results.toList (cutSt (frN sl50 [(2, .bool true)]) [] 0) = true := by kernel_rfl
theorem r50_f (σ : Sig) : leftOk (.bool false) [] 0 (envF σ []) sl50 Tryz.f50.results.toList (cutSt (frN sl50 [(2, .bool false)]) [] 0) = true := by kernel_rfl
theorem fr50 : frameOf [.xstr 50] sl50 = frN sl50 [(0, .xstr 50)] := by kernel_rfl
theorem see50 : seeAll [50] [(1, .lit 0)] 0 (frN sl50 [(0, (.xstr 50)), (3, (.sint .i64 (.var 1)))]) (frN sl50 [(3, (.int .i64 0)), (0, (.xstr 50))]) [] [] = true := by kernel_rfl
theorem nm50 {s : ByteArray} {W : World} (hW : Spaces W) : Calls Tryz.prog 50 #[.string s] W fun e w' => e = .returned (.bool (decide (nameOk s))) ∧ On W w' := by
  have hst := statN (s := s)
  have relN := relN (s := s)
  generalize hsg : sigN s = σ at hst relN
  have hv0 : σ.var 1 = 0 := by rw [← hsg]; rfl
  clear hsg
  refine tmpl_begin (E := envF σ []) (f := 50) (fn := Tryz.f50) (body := bd50) Tryz.func50 bd50_is sl50 (args := [.xstr 50]) (vals := [.string s]) (.cons relN .nil) (by rw [nt50]; decide) fun a hA => wpL_whole ?_
  rw [nt50, fr50] at hA
  have hno : ¬ nameOk s → ∀ {σ : Sig} a' w', AtT σ 53 sl50 (frN sl50 [(2, .bool false)]) [] 0 W a' w' → bodyPostM Fence.wide 0 Tryz.prog Tryz.f50 (fun e w' => e = .returned (.bool (decide (nameOk s))) ∧ On W w') .ret a' w' := fun h {σ} a' w' h' => by
    rw [decide_eq_false h]
    refine tmpl_leaves (E := envF σ []) (numF σ hnil) (r50_f σ) h' (liesF σ [] hW) fun u w' hl => ?_
    obtain ⟨rfl, o⟩ := left_bool hl
    exact ⟨rfl, o⟩
  refine walk_take 4 (E := fun F => envF σ F) (K := fun _ => noC) (fun _ => rfl) (fun _ => rfl) (fnF σ hW) (n50a_ok σ) hnil hA fun l hl a1 w1 h1 => ?_
  have l0 : ∀ m, (IE.lit m).val σ = m := fun _ => rfl
  simp only [n50a, DT.eval, hst.len, l0] at hl
  split at hl
  · rename_i c1
    subst hl
    exact hno (fun h => by have := h.1; omega) _ _ h1
  split at hl
  · rename_i c1 c2
    subst hl
    exact hno (fun h => by have := h.1; omega) _ _ h1
  · rename_i c1 c2
    subst hl
    show wpL _ _ ((flatC bd50).drop 4) _ _ _
    rw [lp50_4]
    refine loop_dt (E := fun σ F => envF σ F) (K := fun _ _ => noC) (fun _ _ => rfl) (fun _ _ => rfl) (JN s) (fun σ k hJ => fnF σ hW) n50l_ok (fun σ k h => h.nonneg) (σ0 := σ.puts [(1, .lit 0)]) (N := s.size) ⟨hst.puts _, 0, rfl, by omega, by omega, by omega, fun j hj => by omega⟩ (h1.sub (σ.puts_is _ [50]) see50) fun σ k p hJ hp => ?_
    obtain ⟨hst, i, hv, hk, h24, h1s, hall⟩ := id hJ
    by_cases hi : i < s.size
    · rw [n50l_eval (c := byteOf s i) (by rw [hst.len, hv]; omega) (hst.sel hv hi) byteOf_lt] at hp
      split at hp
      · rename_i hb
        subst hp
        obtain ⟨k, rfl⟩ : ∃ j, k = j + 1 := ⟨k - 1, by omega⟩
        refine ⟨k, by omega, hst.puts _, i + 1, ?_, by omega, h24, h1s, fun j hj => ?_⟩
        · show opVal .add .i64 (σ.var 1) 1 = _
          rw [hv]
          exact add1 hi (by omega)
        · rcases Nat.lt_or_eq_of_le (Nat.le_of_lt_succ hj) with h | h
          · exact hall j h
          · rw [h]; exact hb
      · rename_i hb
        subst hp
        exact fun a' w' h' => hno (fun h => hb (h.2 i hi)) a' w' h'
    · have ev : (IE.var 1).val σ = i := hv
      have hnl : ¬ ((i : Int) < s.size) := by omega
      simp only [n50l, DT.eval, hst.len, ev, if_neg hnl] at hp
      subst hp
      have hok : nameOk s := ⟨⟨h1s, h24⟩, fun j hj => hall j (by omega)⟩
      intro a' w' h'
      show wpL _ _ ((flatC bd50).drop 5) _ _ _
      refine walk_take 2 (E := fun F => envF σ F) (K := fun _ => noC) (fun _ => rfl) (fun _ => rfl) (fnF σ hW) (n50z_ok σ) hnil h' fun l hl a1 w1 h1 => ?_
      simp only [n50z, DT.eval] at hl
      subst hl
      rw [decide_eq_true hok]
      refine tmpl_leaves (E := envF σ []) (numF σ hnil) (r50_t σ) h1 (liesF σ [] hW) fun u w' hl => ?_
      obtain ⟨rfl, o⟩ := left_bool hl
      exact ⟨rfl, o⟩
end Go.Proofs.YtmcmagheiijnhaaGreatDoor
