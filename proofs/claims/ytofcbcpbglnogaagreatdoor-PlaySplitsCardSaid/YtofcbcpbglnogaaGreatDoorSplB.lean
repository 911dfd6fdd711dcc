/- play.Split, whole: the script in which each allowed tick is of one second. -/
import Derived.Test.YtofcbcpbglnogaaGreatDoorSee
set_option linter.all false
set_option maxRecDepth 100000
namespace Go.Proofs.YtofcbcpbglnogaaGreatDoor
open Go.RX
open Go.RX.Sym

def o0 : Nat → Value := fun _ => .bool false
/-- An operation's cells. -/
structure OpV (o : Nat → Value) : Prop where
  num : ∀ c, c < 4 → ∃ z, o c = .int .i64 z
theorem Ls.cell_op (v : Ls) (i : Nat) : OpV (v.cell i) := ⟨fun c hc => by
  match c, hc with
  | 0, _ => exact ⟨_, rfl⟩
  | 1, _ => exact ⟨_, rfl⟩
  | 2, _ => exact ⟨_, rfl⟩
  | 3, _ => exact ⟨_, rfl⟩⟩
theorem Ls.rep_op (v : Ls) (i : Nat) : OpV (v.rep i) := by
  unfold Ls.rep
  split
  · refine ⟨fun c hc => ?_⟩
    by_cases h1 : c = 1
    · exact ⟨1, by rw [if_pos h1]⟩
    · obtain ⟨z, hz⟩ := (v.cell_op i).num c hc
      exact ⟨z, by rw [if_neg h1]; exact hz⟩
  · exact v.cell_op i

theorem add_small {x y : Int} (h1 : -9223372036854775808 ≤ x + y) (h2 : x + y ≤ 9223372036854775807) : opVal .add .i64 x y = x + y := by
  have hw : IntKind.i64.wrap (x + y) = x + y := wrap_fits (by simp only [lowOf]; omega) (by simp only [highOf]; omega)
  exact opVal_int (op := .add) (k := .i64) (x := x) (y := y) (n := x + y) (by simp) (by simp) (by simp only [Sym.intOp]; rw [wrapped_eq, show Int.add x y = x + y from rfl, hw])

section
variable {v : Ls} {W : World}

/-- The head of the loop over the list. -/
def HeadAt (v : Ls) (L : List (Nat → Value)) (i : Nat) (W : World) (a : Act) (w : World) : Prop :=
  (L = [] ∧ AtT (sigP v [] o0 i 0 0) 43 spSl (frH oN) [] 0 W a w) ∨ (L ≠ [] ∧ AtT (sigP v L o0 i 0 0) 43 spSl (frH oO) objO 1 W a w)
/-- The head of the inner loop. -/
def InAt (v : Ls) (M : List (Nat → Value)) (o : Nat → Value) (i k t : Nat) (W : World) (a : Act) (w : World) : Prop :=
  (M = [] ∧ AtT (sigP v [] o i k t) 43 spSl (frI oN kI) [(1, .cells opcI 62)] 2 W a w) ∨ (M ≠ [] ∧ AtT (sigP v M o i k t) 43 spSl (frI oO kI) objI 2 W a w)

/-- Behind the first part of a round: the copy of the operation is what is to be appended. -/
theorem copy_n {L : List (Nat → Value)} {i k t k' t' : Nat} {o : Nat → Value} {R : Nat → Nat → Prop} : OVT (sigP v L o i k t) (sigP v L (v.cell i) i k' t') R (.cells opcI 62) (.cells opcN 62) := by
  refine .cells (.cons (.num ?_) (.cons (.num ?_) (.cons (.num ?_) (.cons (.num ?_) (.cons (.cellv ?_) (.cons (.cellv ?_) .nil))))))
  all_goals simp [IE.val, sigP, Ls.cell]
theorem copy_g {L : List (Nat → Value)} {i k t k' t' : Nat} {o : Nat → Value} {R : Nat → Nat → Prop} : OVT (sigP v L o i k t) (sigP v L (fun c => if c = 1 then .int .i64 1 else v.cell i c) i k' t') R (.cells opcI 62) (.cells opcG 62) := by
  refine .cells (.cons (.num ?_) (.cons (.int ?_) (.cons (.num ?_) (.cons (.num ?_) (.cons (.cellv ?_) (.cons (.cellv ?_) .nil))))))
  all_goals simp [IE.val, sigP, Ls.cell]
theorem own_same {L : List (Nat → Value)} {i k t k' t' i' : Nat} {o o' : Nat → Value} {R : Nat → Nat → Prop} : OVT (sigP v L o i k t) (sigP v L o' i' k' t') R (.own 1 []) (.own 1 []) :=
  .own (k := 0) rfl rfl (by simp) (fun _ _ _ _ => rfl) (fun i c hi => by omega)

theorem in_n {o : Nat → Value} {i t : Nat} {opc : List SV} {tv : SV} {a : Act} {w : World} (h : AtT (sigP v [] o0 i 0 0) 43 spSl (frP oN 0 tv) [(0, .cells opc 62)] 1 W a w) (hc : OVT (sigP v [] o0 i 0 0) (sigP v [] o i 0 t) (fun i j => lookN i [(1, 0)] = some j) (.cells opcI 62) (.cells opc 62))
    (ht : SVT (sigP v [] o0 i 0 0) (sigP v [] o i 0 t) (fun i j => lookN i [(1, 0)] = some j) (.sint .i64 (.var 2)) tv) : InAt v [] o i 0 t W a w :=
  .inl ⟨rfl, see h [(1, 0)] (by simp) (by simp) (acons (.row rfl) (acons (.lit rfl) (acons (.row rfl) (acons (.num rfl) (acons (.num rfl) (acons (.ptr rfl) (acons ht (acons (.int rfl) anil)))))))) (acons ⟨by omega, 0, _, rfl, rfl, hc⟩ anil)⟩
theorem in_o {L : List (Nat → Value)} (hL : L ≠ []) (hm : L.length ≤ 1000000) {o : Nat → Value} {i t : Nat} {opc : List SV} {tv : SV} {a : Act} {w : World} (h : AtT (sigP v L o0 i 0 0) 43 spSl (frP oO 1 tv) (objO ++ [(1, .cells opc 62)]) 2 W a w) (hc : OVT (sigP v L o0 i 0 0) (sigP v L o i 0 t) (fun i j => lookN i [(0, 0), (1, 1)] = some j) (.cells opcI 62) (.cells opc 62))
    (ht : SVT (sigP v L o0 i 0 0) (sigP v L o i 0 t) (fun i j => lookN i [(0, 0), (1, 1)] = some j) (.sint .i64 (.var 2)) tv) : InAt v L o i 0 t W a w :=
  .inr ⟨hL, see h [(0, 0), (1, 1)] (by simp) (by simp) (acons (.row rfl) (acons (.own (k := 0) rfl rfl rfl hm) (acons (.row rfl) (acons (.num rfl) (acons (.num rfl) (acons (.ptr rfl) (acons ht (acons (.int rfl) anil)))))))) (acons ⟨by omega, 0, _, rfl, rfl, own_same⟩ (acons ⟨by omega, 1, _, rfl, rfl, hc⟩ anil))⟩

theorem cell_get {L : List (Nat → Value)} {o : Nat → Value} (ho : OpV o) {i k t : Nat} : ∀ c, c < 6 → ∃ y, opcI[c]? = some y ∧ Go.RX.valOf (sigP v L o i k t) y = some (o c) := fun c hc => by
  have hn : ∀ c, c < 4 → (Value.int IntKind.i64 (match o c with | .int _ n => n | _ => 0)) = o c := fun c hc => by
    obtain ⟨z, hz⟩ := ho.num c hc
    rw [hz]
  match c, hc with
  | 0, _ => exact ⟨_, rfl, congrArg some (hn 0 (by omega))⟩
  | 1, _ => exact ⟨_, rfl, congrArg some (hn 1 (by omega))⟩
  | 2, _ => exact ⟨_, rfl, congrArg some (hn 2 (by omega))⟩
  | 3, _ => exact ⟨_, rfl, congrArg some (hn 3 (by omega))⟩
  | 4, _ => exact ⟨_, rfl, rfl⟩
  | 5, _ => exact ⟨_, rfl, rfl⟩

/-- One more behind what has come out. -/
theorem own_more {L : List (Nat → Value)} {o : Nat → Value} (ho : OpV o) {i k t k' t' : Nat} {R : Nat → Nat → Prop} : OVT (sigP v L o i k t) (sigP v (L ++ [o]) o i k' t') R (.own 1 []) (.own 1 opcI) := by
  refine .own (k := 1) (b' := 0) (x' := 0) rfl ?_ rfl (fun i c hi hc => gets_left hi) fun j c hj hc => ?_
  · show (0, 0, 6, (L ++ [o]).length) = (0, 0, 6, L.length + 1)
    simp
  · have : j = 0 := by omega
    subst this
    obtain ⟨y, h1, h2⟩ := cell_get (v := v) (L := L) ho (i := i) (k := k) (t := t) c hc
    refine ⟨y, by simpa using h1, ?_⟩
    rw [h2]
    show some (o c) = some (gets (L ++ [o]) (L.length + 0) c)
    rw [Nat.add_zero, gets_snoc]
theorem own_first {o : Nat → Value} (ho : OpV o) {i k t k' t' : Nat} {R : Nat → Nat → Prop} : OVT (sigP v [] o i k t) (sigP v [o] o i k' t') R (.own 1 []) (.cells opcI 63) := by
  refine .first (n := 1) rfl rfl (by decide) fun j c hj hc => ?_
  have : j = 0 := by omega
  subst this
  obtain ⟨y, h1, h2⟩ := cell_get (v := v) (L := []) ho (i := i) (k := k) (t := t) c hc
  refine ⟨y, by simpa using h1, ?_⟩
  rw [h2]
  rfl
theorem copy_i {L L' : List (Nat → Value)} {o : Nat → Value} {i k t k' t' : Nat} {R : Nat → Nat → Prop} : OVT (sigP v L o i k t) (sigP v L' o i k' t') R (.cells opcI 62) (.cells opcI 62) :=
  .cells (.cons (.num rfl) (.cons (.num rfl) (.cons (.num rfl) (.cons (.num rfl) (.cons (.cellv rfl) (.cons (.cellv rfl) .nil))))))

theorem val_inc {L : List (Nat → Value)} {o : Nat → Value} {i k t : Nat} (h : k ≤ 1000000) : IE.val (sigP v L o i k t) (.bin .add .i64 (.var 1) (.lit 1)) = ((k + 1 : Nat) : Int) := by
  simp only [IE.val, sigP]
  rw [add_small (by omega) (by omega)]
  simp
theorem val_inc0 {L : List (Nat → Value)} {o : Nat → Value} {i k t : Nat} (h : i ≤ 1000000) : IE.val (sigP v L o i k t) (.bin .add .i64 (.var 0) (.lit 1)) = ((i + 1 : Nat) : Int) := by
  simp only [IE.val, sigP]
  rw [add_small (by omega) (by omega)]
  simp

/-- The inner loop. -/
theorem inner {o : Nat → Value} (ho : OpV o) (hv : v.Lies W) (hG : RX.Lies (env sig0) W) {L : List (Nat → Value)} {i t : Nat} (ht : t ≤ 100000) (hl : L.length + t ≤ 200000) (ht1 : 1 ≤ t) {Q : Exit → Act → World → Prop} {a : Act} {w : World} (h : InAt v L o i 0 t W a w)
    (hQ : ∀ a' w', AtT (sigP v (L ++ List.replicate t o) o i t t) 43 spSl (frI oO kI) objI 2 W a' w' → Q .normal a' w') : (Code.block 2 (.loop spIN)).wpIn Fence.wide 0 Tryz.prog Q a w := by
  refine wpIn_block (wpIn_loop_n (J := fun m a w => ∃ k, k + m = t ∧ InAt v (L ++ List.replicate k o) o i k t W a w) (N := t) ⟨0, by simp, by simpa using h⟩ ?_)
  rintro m a w ⟨k, hk, hI⟩
  have hlen : (L ++ List.replicate k o).length = L.length + k := by simp
  have hsnoc : L ++ List.replicate (k + 1) o = L ++ List.replicate k o ++ [o] := by rw [replicate_snoc, List.append_assoc]
  cases m with
  | zero =>
    have hkt : k = t := by omega
    subst hkt
    rcases hI with ⟨hM, -⟩ | ⟨hM, hA⟩
    · have : (L ++ List.replicate k o).length = 0 := by rw [hM]; rfl
      omega
    · refine tmpl_step (E := envP (sigP v (L ++ List.replicate k o) o i k k) [fGo false]) (known_nothing _) (numP (hcons (holds_lt (by simp [IE.val, sigP])) hnil)) (q_iX _) hA (liesP hv hG _ _ _ _ _ _) fun a' w' hA' => ?_
      exact hQ a' w' hA'
  | succ m =>
    have fgo : ∀ (M : List (Nat → Value)), ∀ g ∈ [fGo true], g.holds (sigP v M o i k t) := fun M => hcons (holds_lt (by simp [IE.val, sigP]; omega)) hnil
    rcases hI with ⟨hM, hA⟩ | ⟨hM, hA⟩
    · refine tmpl_step (E := envP (sigP v [] o i k t) [fGo true]) (known_nothing _) (numP (fgo _)) (q_iN _) hA (liesP hv hG _ _ _ _ _ _) fun a' w' hA' => ?_
      refine ⟨m, by omega, k + 1, by omega, .inr ⟨by simp, ?_⟩⟩
      rw [hsnoc, hM, List.nil_append]
      exact see hA' [(0, 3), (1, 1)] (by simp) (by simp) (acons (.row rfl) (acons (.first rfl (by omega) rfl (by omega)) (acons (.row rfl) (acons (.num rfl) (acons (.num rfl) (acons (.ptr rfl) (acons (.num rfl) (acons (.num (val_inc (by omega)).symm) anil)))))))) (acons ⟨by omega, 3, _, rfl, rfl, own_first ho⟩ (acons ⟨by omega, 1, _, rfl, rfl, copy_i⟩ anil))
    · refine tmpl_step (E := envP (sigP v (L ++ List.replicate k o) o i k t) [fGo true]) (known_nothing _) (numP (fgo _)) (q_iO _) hA (liesP hv hG _ _ _ _ _ _) fun a' w' hA' => ?_
      refine ⟨m, by omega, k + 1, by omega, .inr ⟨by simp, ?_⟩⟩
      rw [hsnoc]
      exact see hA' [(0, 3), (1, 1)] (by simp) (by simp) (acons (.row rfl) (acons (.own (k := 1) (b' := 0) (x' := 0) rfl rfl (by show (0, 0, 6, (L ++ List.replicate k o ++ [o]).length) = _; simp; omega) (by omega)) (acons (.row rfl) (acons (.num rfl) (acons (.num rfl) (acons (.ptr rfl) (acons (.num rfl) (acons (.num (val_inc (by omega)).symm) anil)))))))) (acons ⟨by omega, 3, _, rfl, rfl, own_more ho⟩ (acons ⟨by omega, 1, _, rfl, rfl, copy_i⟩ anil))

/-- What the function hands back. -/
def SplitLeft (v : Ls) (W : World) (u : Value) (w' : World) : Prop :=
  (v.n ≤ 10000 ∧ (v.outs v.n).length ≤ 10000 ∧ v.outs v.n ≠ [] ∧ LeftT (sigP v (v.outs v.n) o0 v.n 0 0) W u (.tuple [.oslice 0 1 0 6, .int .i64 0]) objO 1 w') ∨
  (v.n ≤ 10000 ∧ (v.outs v.n).length ≤ 10000 ∧ v.outs v.n = [] ∧ u = .tuple #[.slice none 0 0, .int .i64 0] ∧ On W w') ∨
  (¬ (v.n ≤ 10000 ∧ (v.outs v.n).length ≤ 10000) ∧ u = .tuple #[.slice none 0 0, .int .i64 12] ∧ On W w')

theorem left_nil {σ : Sig} {u : Value} {m : Int} {n : Nat} {w' : World} (h : LeftT σ W u (.tuple [.nilslice, .int .i64 m]) [] n w') : u = .tuple #[.slice none 0 0, .int .i64 m] ∧ On W w' := by
  obtain ⟨on, ρ, -, hx, -⟩ := h
  cases hx with
  | tuple hx =>
    cases hx with
    | cons h1 hx =>
      cases hx with
      | cons h2 hx =>
        cases hx
        cases h1
        cases h2
        exact ⟨rfl, on⟩

theorem rep_of_not (v : Ls) {i : Nat} (h : ¬ (v.kd i = 1 ∧ v.fine i)) : v.rep i = v.cell i ∧ v.tim i = 1 := ⟨by unfold Ls.rep; rw [if_neg h], by unfold Ls.tim; rw [if_neg h]⟩
theorem rep_of (v : Ls) {i : Nat} (h : v.kd i = 1 ∧ v.fine i) : v.rep i = (fun c => if c = 1 then .int .i64 1 else v.cell i c) ∧ v.tim i = (v.d i).toNat ∧ 1 ≤ v.d i ∧ v.d i ≤ 100000 :=
  ⟨by unfold Ls.rep; rw [if_pos h], by unfold Ls.tim; rw [if_pos h], h.2.2.2.2.2.1, h.2.2.2.2.2.2⟩

theorem sub_val {L : List (Nat → Value)} {o : Nat → Value} {i k t : Nat} (h : L.length ≤ 10000) : IE.val (sigP v L o i k t) (.bin .sub .i64 (.lit 10000) (.len 1)) = 10000 - (L.length : Int) := by
  simp only [IE.val, sigP]
  have e : (IntKind.i64).wrap (10000 - (L.length : Int)) = 10000 - (L.length : Int) := wrap_fits (by simp only [lowOf]; omega) (by simp only [highOf]; omega)
  exact opVal_int (op := .sub) (k := .i64) (by simp) (by simp) (by simp only [Sym.intOp]; rw [wrapped_eq, show Int.sub 10000 (L.length : Int) = 10000 - (L.length : Int) from rfl, e])

theorem kind_val {L : List (Nat → Value)} {o : Nat → Value} {i k t : Nat} : IE.val (sigP v L o i k t) (.sel 0 (.var 0) 0) = v.kd i := by simp [IE.val, sigP, Ls.cell]
theorem d_val {L : List (Nat → Value)} {o : Nat → Value} {i k t : Nat} : IE.val (sigP v L o i k t) (.sel 0 (.var 0) 1) = v.d i := by simp [IE.val, sigP, Ls.cell]
theorem ok_val {L : List (Nat → Value)} {o : Nat → Value} {i k t : Nat} : IE.val (sigP v L o i k t) (.fn 0 [.var 0]) = if v.fine i then 0 else 2 := by
  show (if v.fine ((i : Int)).toNat then (0 : Int) else 2) = _
  rw [Int.toNat_natCast]

theorem play_split (hv : v.Lies W) (hG : RX.Lies (env sig0) W) {cap : Nat} (hcap : v.n ≤ cap) :
    Calls Tryz.prog 5 #[.slice (some ⟨v.b, v.x, none⟩) v.n cap] W fun e w' => ∃ u, e = .returned u ∧ SplitLeft v W u w' := by
  have hrow : VRels (.nil (sigP v [] o0 0 0 0)) [.row 0] [.slice (some ⟨v.b, v.x, none⟩) v.n cap] := .cons (.row (sz := 6) rfl hcap) .nil
  refine tmpl_begin (E := envP (sigP v [] o0 0 0 0) []) Tryz.func5 sp_body spSl hrow (by rw [sp_n]; decide) fun a hA => ?_
  rw [sp_n] at hA
  have lens : ∀ {y : Bool}, (10000 < v.n ↔ y = true) → (fLen y).holds (sigP v [] o0 0 0 0) := fun {y} h => holds_lt (by simp only [IE.val, sigP]; rw [← h]; omega)
  by_cases hbig : 10000 < v.n
  · refine tmpl_chain 2 (E := envP (sigP v [] o0 0 0 0) [fLen true]) (known_nothing _) (numP (hcons (lens (by simpa using hbig)) hnil)) (q_long _) hA (liesP hv hG _ _ _ _ _ _) fun a1 w1 h1 => ?_
    refine tmpl_leaves (E := envP (sigP v [] o0 0 0 0) []) (numP hnil) (l_E _ 0) h1 (liesP hv hG _ _ _ _ _ _) fun u w' hl => ⟨u, rfl, .inr (.inr ⟨by omega, left_nil hl⟩)⟩
  refine tmpl_chain 3 (E := envP (sigP v [] o0 0 0 0) [fLen false]) (known_nothing _) (numP (hcons (lens (by simpa using hbig)) hnil)) (q_begin _) hA (liesP hv hG _ _ _ _ _ _) fun a1 w1 h1 => ?_
  show (rest 3 spBody).wpIn _ _ _ _ a1 w1
  rw [sp_rest]
  refine wpIn_seq (tmpl_chain 1 (E := envP (sigP v [] o0 0 0 0) []) (known_nothing _) (numP hnil) (q_r4 _) h1 (liesP hv hG _ _ _ _ _ _) fun a2 w2 h2 => ?_)
  show (rest 1 spA).wpIn _ _ _ _ a2 w2
  rw [sp_blk]
  refine wpIn_block (wpIn_loop_n (J := fun m a w => ∃ i, i + m = v.n ∧ (v.outs i).length ≤ 10000 ∧ HeadAt v (v.outs i) i W a w) (N := v.n) ⟨0, by omega, by simp [Ls.outs], .inl ⟨rfl, ?_⟩⟩ ?_)
  · exact see h2 [] (by simp) (by simp) (acons (.row rfl) (acons (.lit rfl) (acons (.row rfl) (acons (.num rfl) (acons (.int rfl) anil))))) anil
  rintro m a3 w3 ⟨i, hi, hlen, hH⟩
  have ins : ∀ {L : List (Nat → Value)} {y : Bool}, (i < v.n ↔ y = true) → (fIn y).holds (sigP v L o0 i 0 0) := fun {L y} h => holds_lt (by simp only [IE.val, sigP]; rw [← h]; omega)
  have neg : ∀ {L : List (Nat → Value)}, fNeg.holds (sigP v L o0 i 0 0) := fun {L} => holds_lt (by simp [IE.val, sigP])
  cases m with
  | zero =>
    have hin : i = v.n := by omega
    subst hin
    rcases hH with ⟨hL, hA3⟩ | ⟨hL, hA3⟩
    · refine tmpl_chain 2 (E := envP (sigP v [] o0 v.n 0 0) [fIn false]) (known_nothing _) (numP (hcons (ins (by simp)) hnil)) (q_eN _) hA3 (liesP hv hG _ _ _ _ _ _) fun a4 w4 h4 => ?_
      show spB.wpIn _ _ _ _ a4 w4
      refine tmpl_step (E := envP (sigP v [] o0 v.n 0 0) []) (known_nothing _) (numP hnil) (q_zN _) h4 (liesP hv hG _ _ _ _ _ _) fun a5 w5 h5 => ?_
      exact tmpl_leaves (E := envP (sigP v [] o0 v.n 0 0) []) (numP hnil) (l_N _) h5 (liesP hv hG _ _ _ _ _ _) fun u w' hl => ⟨u, rfl, .inr (.inl ⟨by omega, hlen, hL, left_nil hl⟩)⟩
    · refine tmpl_chain 2 (E := envP (sigP v (v.outs v.n) o0 v.n 0 0) [fIn false]) (known_nothing _) (numP (hcons (ins (by simp)) hnil)) (q_eO _) hA3 (liesP hv hG _ _ _ _ _ _) fun a4 w4 h4 => ?_
      show spB.wpIn _ _ _ _ a4 w4
      refine tmpl_step (E := envP (sigP v (v.outs v.n) o0 v.n 0 0) []) (known_nothing _) (numP hnil) (q_zO _) h4 (liesP hv hG _ _ _ _ _ _) fun a5 w5 h5 => ?_
      exact tmpl_leaves (E := envP (sigP v (v.outs v.n) o0 v.n 0 0) []) (numP hnil) (l_O _) h5 (liesP hv hG _ _ _ _ _ _) fun u w' hl => ⟨u, rfl, .inl ⟨by omega, hlen, hL, hl⟩⟩
  | succ m =>
    have hin : i < v.n := by omega
    have kinds : ∀ {L : List (Nat → Value)} {y : Bool}, (v.kd i = 1 ↔ y = true) → (fKind y).holds (sigP v L o0 i 0 0) := fun {L y} h => holds_eq (by rw [kind_val, ← h]; rfl)
    have oks : ∀ {L : List (Nat → Value)} {y : Bool}, (v.fine i ↔ y = true) → (fOk y).holds (sigP v L o0 i 0 0) := fun {L y} h => holds_eq (by
      rw [ok_val, ← h]
      show (if v.fine i then (0 : Int) else 2) = 0 ↔ v.fine i
      split <;> simp_all)
    have hstep : v.outs (i + 1) = v.outs i ++ List.replicate (v.tim i) (v.rep i) := rfl
    have hsl : (v.outs (i + 1)).length = (v.outs i).length + v.tim i := by rw [hstep]; simp
    have hup : (v.outs (i + 1)).length ≤ (v.outs v.n).length := Ls.outs_le (by omega)
    -- behind the inner loop
    have tail : ∀ {L : List (Nat → Value)} (Q : Exit → Act → World → Prop) (a6 : Act) (w6 : World), InAt v L (v.rep i) i 0 (v.tim i) W a6 w6 → L = v.outs i → (v.outs (i + 1)).length ≤ 10000 →
        (∀ a7 w7, HeadAt v (v.outs (i + 1)) (i + 1) W a7 w7 → Q .normal a7 w7) → (Code.block 2 (.loop spIN)).wpIn Fence.wide 0 Tryz.prog (fun e a w => (Exit.inBlock 1 (Exit.then (spR16.wpIn Fence.wide 0 Tryz.prog Q) Q)) e a w) a6 w6 := fun {L} Q a6 w6 hI hLe hfit hQ => by
      subst hLe
      have htl := v.tim_le i
      refine inner (v.rep_op i) hv hG htl (by omega) (v.tim_pos i) hI fun a7 w7 h7 => ?_
      show spR16.wpIn _ _ _ _ a7 w7
      refine tmpl_step (E := envP (sigP v (v.outs i ++ List.replicate (v.tim i) (v.rep i)) (v.rep i) i (v.tim i) (v.tim i)) []) (known_nothing _) (numP hnil) (q_16 _) h7 (liesP hv hG _ _ _ _ _ _) fun a8 w8 h8 => hQ a8 w8 (.inr ⟨?_, ?_⟩)
      · have := v.tim_pos i
        intro e
        rw [e] at hsl
        simp at hsl
        omega
      · rw [hstep]
        exact see h8 [(0, 0)] (by simp) (by simp) (acons (.row rfl) (acons (.own (k := 0) rfl rfl rfl (by rw [← hstep]; omega)) (acons (.row rfl) (acons (.num rfl) (acons (.num (val_inc0 (by omega)).symm) anil))))) (acons ⟨by omega, 0, _, rfl, rfl, own_same⟩ anil)
    have back : ∀ {a7 : Act} {w7 : World}, (v.outs (i + 1)).length ≤ 10000 → HeadAt v (v.outs (i + 1)) (i + 1) W a7 w7 → ∃ k', k' < m + 1 ∧ ∃ i, i + k' = v.n ∧ (v.outs i).length ≤ 10000 ∧ HeadAt v (v.outs i) i W a7 w7 := fun hf hh => ⟨m, by omega, i + 1, by omega, hf, hh⟩
    rcases hH with ⟨hL, hA3⟩ | ⟨hL, hA3⟩
    · have hl0 : (v.outs i).length = 0 := by rw [hL]; rfl
      refine tmpl_chain 2 (E := envP (sigP v [] o0 i 0 0) [fIn true]) (known_nothing _) (numP (hcons (ins (by simpa using hin)) hnil)) (q_hN _) hA3 (liesP hv hG _ _ _ _ _ _) fun a4 w4 h4 => ?_
      show (rest 2 spL).wpIn _ _ _ _ a4 w4
      rw [sp_l]
      refine wpIn_seq (wpIn_block ?_)
      by_cases hk : v.kd i = 1
      · by_cases hf : v.fine i
        · obtain ⟨e1, e2, e3, e4⟩ := rep_of v ⟨hk, hf⟩
          have bigs : ∀ {y : Bool}, (10000 < v.d i ↔ y = true) → (fBig y).holds (sigP v [] o0 i 0 0) := fun {y} h => holds_lt (by rw [d_val, ← h]; rfl)
          by_cases hb : 10000 < v.d i
          · refine tmpl_chain 5 (E := envP (sigP v [] o0 i 0 0) [fIn true, fNeg, fKind true, fOk true, fBig true]) (known_P (fun _ => hk)) (numP (hcons (ins (by simpa using hin)) (hcons neg (hcons (kinds (by simpa using hk)) (hcons (oks (by simpa using hf)) (hcons (bigs (by simpa using hb)) hnil)))))) (q_nX _) h4 (liesP hv hG _ _ _ _ _ _) fun a5 w5 h5 => ?_
            exact tmpl_leaves (E := envP (sigP v [] o0 i 0 0) []) (numP hnil) (l_E _ 1) h5 (liesP hv hG _ _ _ _ _ _) fun u w' hl => ⟨u, rfl, .inr (.inr ⟨by omega, left_nil hl⟩)⟩
          · refine tmpl_chain 5 (E := envP (sigP v [] o0 i 0 0) [fIn true, fNeg, fKind true, fOk true, fBig false]) (known_P (fun _ => hk)) (numP (hcons (ins (by simpa using hin)) (hcons neg (hcons (kinds (by simpa using hk)) (hcons (oks (by simpa using hf)) (hcons (bigs (by simpa using hb)) hnil)))))) (q_nG _) h4 (liesP hv hG _ _ _ _ _ _) fun a5 w5 h5 => ?_
            show (rest 5 spB1).wpIn _ _ _ _ a5 w5
            rw [sp_b1]
            have hfit : (v.outs (i + 1)).length ≤ 10000 := by omega
            refine tail _ a5 w5 ?_ hL.symm hfit fun a7 w7 h7 => back hfit h7
            rw [e1]
            exact in_n h5 copy_g (.num (by rw [d_val]; simp only [IE.val, sigP]; omega))
        · obtain ⟨e1, e2⟩ := rep_of_not v (i := i) (fun h => hf h.2)
          refine tmpl_chain 5 (E := envP (sigP v [] o0 i 0 0) [fIn true, fNeg, fKind true, fOk false]) (known_P (fun _ => hk)) (numP (hcons (ins (by simpa using hin)) (hcons neg (hcons (kinds (by simpa using hk)) (hcons (oks (by simpa using hf)) hnil))))) (q_nB _) h4 (liesP hv hG _ _ _ _ _ _) fun a5 w5 h5 => ?_
          show (rest 5 spB1).wpIn _ _ _ _ a5 w5
          rw [sp_b1]
          have hfit : (v.outs (i + 1)).length ≤ 10000 := by omega
          refine tail _ a5 w5 ?_ hL.symm hfit fun a7 w7 h7 => back hfit h7
          rw [e1]
          exact in_n h5 copy_n (.int (by simp only [IE.val, sigP]; omega))
      · obtain ⟨e1, e2⟩ := rep_of_not v (i := i) (fun h => hk h.1)
        refine tmpl_chain 5 (E := envP (sigP v [] o0 i 0 0) [fIn true, fNeg, fKind false]) (known_nothing _) (numP (hcons (ins (by simpa using hin)) (hcons neg (hcons (kinds (by simpa using hk)) hnil)))) (q_nN _) h4 (liesP hv hG _ _ _ _ _ _) fun a5 w5 h5 => ?_
        show (rest 5 spB1).wpIn _ _ _ _ a5 w5
        rw [sp_b1]
        have hfit : (v.outs (i + 1)).length ≤ 10000 := by omega
        refine tail _ a5 w5 ?_ hL.symm hfit fun a7 w7 h7 => back hfit h7
        rw [e1]
        exact in_n h5 copy_n (.int (by simp only [IE.val, sigP]; omega))
    · refine tmpl_chain 2 (E := envP (sigP v (v.outs i) o0 i 0 0) [fIn true]) (known_nothing _) (numP (hcons (ins (by simpa using hin)) hnil)) (q_hO _) hA3 (liesP hv hG _ _ _ _ _ _) fun a4 w4 h4 => ?_
      show (rest 2 spL).wpIn _ _ _ _ a4 w4
      rw [sp_l]
      refine wpIn_seq (wpIn_block ?_)
      have fulls : ∀ {y : Bool}, (10000 - ((v.outs i).length : Int) < 1 ↔ y = true) → (fFull y).holds (sigP v (v.outs i) o0 i 0 0) := fun {y} h => holds_lt (by rw [sub_val hlen, ← h]; rfl)
      have rooms : ∀ {y : Bool}, (10000 - ((v.outs i).length : Int) < v.d i ↔ y = true) → (fRoom y).holds (sigP v (v.outs i) o0 i 0 0) := fun {y} h => holds_lt (by rw [sub_val hlen, d_val, ← h])
      by_cases hk : v.kd i = 1
      · by_cases hf : v.fine i
        · obtain ⟨e1, e2, e3, e4⟩ := rep_of v ⟨hk, hf⟩
          by_cases hb : 10000 - ((v.outs i).length : Int) < v.d i
          · refine tmpl_chain 5 (E := envP (sigP v (v.outs i) o0 i 0 0) [fIn true, fNeg, fKind true, fOk true, fRoom true]) (known_P (fun _ => hk)) (numP (hcons (ins (by simpa using hin)) (hcons neg (hcons (kinds (by simpa using hk)) (hcons (oks (by simpa using hf)) (hcons (rooms (by simpa using hb)) hnil)))))) (q_oGX _) h4 (liesP hv hG _ _ _ _ _ _) fun a5 w5 h5 => ?_
            exact tmpl_leaves (E := envP (sigP v (v.outs i) o0 i 0 0) []) (numP hnil) (l_E _ 2) h5 (liesP hv hG _ _ _ _ _ _) fun u w' hl => ⟨u, rfl, .inr (.inr ⟨by omega, left_nil hl⟩)⟩
          · refine tmpl_chain 5 (E := envP (sigP v (v.outs i) o0 i 0 0) [fIn true, fNeg, fKind true, fOk true, fRoom false]) (known_P (fun _ => hk)) (numP (hcons (ins (by simpa using hin)) (hcons neg (hcons (kinds (by simpa using hk)) (hcons (oks (by simpa using hf)) (hcons (rooms (by simpa using hb)) hnil)))))) (q_oG _) h4 (liesP hv hG _ _ _ _ _ _) fun a5 w5 h5 => ?_
            show (rest 5 spB1).wpIn _ _ _ _ a5 w5
            rw [sp_b1]
            have hfit : (v.outs (i + 1)).length ≤ 10000 := by omega
            refine tail _ a5 w5 ?_ rfl hfit fun a7 w7 h7 => back hfit h7
            rw [e1]
            exact in_o hL (by omega) h5 copy_g (.num (by rw [d_val]; simp only [IE.val, sigP]; omega))
        · obtain ⟨e1, e2⟩ := rep_of_not v (i := i) (fun h => hf h.2)
          by_cases hb : 10000 - ((v.outs i).length : Int) < 1
          · refine tmpl_chain 5 (E := envP (sigP v (v.outs i) o0 i 0 0) [fIn true, fNeg, fKind true, fOk false, fFull true]) (known_P (fun _ => hk)) (numP (hcons (ins (by simpa using hin)) (hcons neg (hcons (kinds (by simpa using hk)) (hcons (oks (by simpa using hf)) (hcons (fulls (by simpa using hb)) hnil)))))) (q_oBX _) h4 (liesP hv hG _ _ _ _ _ _) fun a5 w5 h5 => ?_
            exact tmpl_leaves (E := envP (sigP v (v.outs i) o0 i 0 0) []) (numP hnil) (l_E _ 2) h5 (liesP hv hG _ _ _ _ _ _) fun u w' hl => ⟨u, rfl, .inr (.inr ⟨by omega, left_nil hl⟩)⟩
          · refine tmpl_chain 5 (E := envP (sigP v (v.outs i) o0 i 0 0) [fIn true, fNeg, fKind true, fOk false, fFull false]) (known_P (fun _ => hk)) (numP (hcons (ins (by simpa using hin)) (hcons neg (hcons (kinds (by simpa using hk)) (hcons (oks (by simpa using hf)) (hcons (fulls (by simpa using hb)) hnil)))))) (q_oB _) h4 (liesP hv hG _ _ _ _ _ _) fun a5 w5 h5 => ?_
            show (rest 5 spB1).wpIn _ _ _ _ a5 w5
            rw [sp_b1]
            have hfit : (v.outs (i + 1)).length ≤ 10000 := by omega
            refine tail _ a5 w5 ?_ rfl hfit fun a7 w7 h7 => back hfit h7
            rw [e1]
            exact in_o hL (by omega) h5 copy_n (.int (by simp only [IE.val, sigP]; omega))
      · obtain ⟨e1, e2⟩ := rep_of_not v (i := i) (fun h => hk h.1)
        by_cases hb : 10000 - ((v.outs i).length : Int) < 1
        · refine tmpl_chain 5 (E := envP (sigP v (v.outs i) o0 i 0 0) [fIn true, fNeg, fKind false, fFull true]) (known_nothing _) (numP (hcons (ins (by simpa using hin)) (hcons neg (hcons (kinds (by simpa using hk)) (hcons (fulls (by simpa using hb)) hnil))))) (q_oNX _) h4 (liesP hv hG _ _ _ _ _ _) fun a5 w5 h5 => ?_
          exact tmpl_leaves (E := envP (sigP v (v.outs i) o0 i 0 0) []) (numP hnil) (l_E _ 2) h5 (liesP hv hG _ _ _ _ _ _) fun u w' hl => ⟨u, rfl, .inr (.inr ⟨by omega, left_nil hl⟩)⟩
        · refine tmpl_chain 5 (E := envP (sigP v (v.outs i) o0 i 0 0) [fIn true, fNeg, fKind false, fFull false]) (known_nothing _) (numP (hcons (ins (by simpa using hin)) (hcons neg (hcons (kinds (by simpa using hk)) (hcons (fulls (by simpa using hb)) hnil))))) (q_oN _) h4 (liesP hv hG _ _ _ _ _ _) fun a5 w5 h5 => ?_
          show (rest 5 spB1).wpIn _ _ _ _ a5 w5
          rw [sp_b1]
          have hfit : (v.outs (i + 1)).length ≤ 10000 := by omega
          refine tail _ a5 w5 ?_ rfl hfit fun a7 w7 h7 => back hfit h7
          rw [e1]
          exact in_o hL (by omega) h5 copy_n (.int (by simp only [IE.val, sigP]; omega))
end
end Go.Proofs.YtofcbcpbglnogaaGreatDoor
