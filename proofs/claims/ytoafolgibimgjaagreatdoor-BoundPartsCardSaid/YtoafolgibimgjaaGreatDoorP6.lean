/- What the evaluator is run over: the program; a setup's numbers and their bounds. -/
import Derived.Test.YtoafolgibimgjaaGreatDoorP1
set_option linter.all false
namespace Go.Proofs.YtoafolgibimgjaaGreatDoor
open Go.RX

/-- Closed runs. -/
noncomputable def envC : Env := { P := Tryz.prog, G := fun _ => none }

/-- Of a task: six numbers of eight bits. -/
def taskKinds : List (Option IntKind) := [some .u8, some .u8, some .u8, some .u8, some .u8, some .u8]
/-- The tasks that are handed in; those of them that are looked at. -/
def rowsT (a : Nat) : Option (List (Option IntKind)) := match a with | 0 => some taskKinds | 1 => some taskKinds | _ => none
/-- The bounds of what is handed in: from lo to hi tasks, of which m are looked at. -/
def bounds (lo hi m : Int) (e : IE) : Option (Int × Int) := match e with
  | .len a => (match a with | 0 => some (lo, hi) | 1 => some (m, m) | _ => none)
  | .var i => (match i with | 5 => some (0, 18446744073709551615) | 6 => some (0, 65535) | 7 => some (0, 65535) | _ => some (0, 255))
  | .sel _ _ _ => some (0, 255)
  | .fn f _ => (match f with | 1 => some (0, 5) | 2 => some (0, 11) | _ => none)
  | _ => none
noncomputable def cutT (lo hi m : Int) (a : Nat) (e : IE) : Option Nat := match a with
  | 0 => (match rng (bounds lo hi m) e with
    | some r => (match Sym.eqb r.1 m, Sym.eqb r.2 m with | true, true => some 1 | _, _ => none)
    | none => none)
  | _ => none
noncomputable def envG (σ : Sig) (lo hi m : Int) : Env := { P := Tryz.prog, G := fun _ => none, rows := rowsT, pre := cutT lo hi m, lt := ordLt (bounds lo hi m) [], eq := ordEq (bounds lo hi m) [], sig := σ }
/-- No tasks. -/
noncomputable def envN (σ : Sig) : Env := { P := Tryz.prog, G := fun _ => none, lt := ordLt (bounds 0 0 0) [], eq := ordEq (bounds 0 0 0) [], sig := σ }

/-! ### What is known of calls -/
def sameArgs (a b : List IE) : Bool := IE.same (.fn 0 a) (.fn 0 b)
/-- small: a limit of two small numbers. -/
noncomputable def knowSmall (B : IE → Option (Int × Int)) : List SV → Option SV
  | [.sint .u8 a, .sint .u8 b] => (match loGe B 0 a, loGe B 0 b with
    | true, true => some (.agg [.sint .i64 (.fn 1 [a, b]), .sint .i64 (.fn 2 [a, b])])
    | _, _ => none)
  | _ => none
/-- policy.CheckLimit: such limits are allowed. -/
def knowLimit : List SV → Option SV
  | [.agg [.sint .i64 (.fn 1 l), .sint .i64 (.fn 2 l')]] => (match sameArgs l l' with | true => some (.int .i64 0) | false => none)
  | _ => none
noncomputable def knowG0 (B : IE → Option (Int × Int)) (f : Nat) (args : List SV) (S : SW) : Option (SV × SW) :=
  match Nat.beq f 9 with
  | true => (match knowSmall B args with | some x => some (x, S) | none => none)
  | false => match Nat.beq f 52 with
    | true => (match knowLimit args with | some x => some (x, S) | none => none)
    | false => none
noncomputable def knowG (B : IE → Option (Int × Int)) (f : Nat) (args : List SV) (S : SW) : Option (SV × SW) :=
  match Nat.beq f 7, args with | true, [] => some (.bool true, S) | _, _ => knowG0 B f args S

/-- What the limits' numbers are. -/
def fnG (f : Nat) (l : List Int) : Int := match f with
  | 1 => (match l with | [x, _] => x % 6 | _ => 0)
  | 2 => (match l with | [x, y] => if x % 6 = 0 then 0 else y % 12 | _ => 0)
  | _ => 0

/-- The setup's cells, and the two other numbers. -/
def tail : List SV := [.sint .u8 (.var 0), .sint .u8 (.var 1), .sint .u8 (.var 2), .sint .u8 (.var 3), .sint .u8 (.var 4), .sint .u64 (.var 5)]
def argG (l : SV) : List SV := [.agg (l :: tail), .sint .u16 (.var 6), .sint .u16 (.var 7)]
end Go.Proofs.YtoafolgibimgjaaGreatDoor

/- The chapter's examples hold: a closed run of the program, reckoned by the evaluator. -/
namespace Go.Proofs.YtoafolgibimgjaaGreatDoor
open Go.RX
theorem works_run : isBool true ((semK envC (fun _ _ _ => none) 40).call 7 [] ⟨.nil, 0, 0⟩) = true := by kernel_rfl
end Go.Proofs.YtoafolgibimgjaaGreatDoor

/- What small and CheckLimit answer; the law's function answers true, whatever the setup. -/
namespace Go.Proofs.YtoafolgibimgjaaGreatDoor
open Go.RX Go.RX.Sym

/-! ### What is known ahead -/
noncomputable def named (f : Nat) : Bool := match Tryz.prog.funcs[f]? with
  | some fn => !(fn.name == "runtime.NumGoroutine") && fn.body.isSome
  | none => false
theorem nameF {f : Nat} (h : named f = true) (vals : Array Value) (w : World) : (callFunc f vals).run Tryz.prog w = .ok (.enter f vals) w := by
  unfold named at h
  split at h
  · rename_i fn hfn
    simp only [Bool.and_eq_true, Bool.not_eq_true'] at h
    obtain ⟨h1, h2⟩ := h
    obtain ⟨c, hc⟩ := Option.isSome_iff_exists.1 h2
    simp [callFunc, hfn, hc]
    simpa using h1
  · cases h
theorem nameW : named 7 = true := by kernel_rfl
theorem nameS : named 9 = true := by kernel_rfl
theorem nameL : named 52 = true := by kernel_rfl

theorem lies_none {E : Env} {W : World} (h1 : E.G = fun _ => none) (h2 : E.rows = fun _ => none) : Lies E W := ⟨fun _ _ h => by simp [h1] at h, fun _ _ h => by simp [h2] at h⟩
theorem works_calls (W : World) : Calls Tryz.prog 7 #[] W fun e w' => e = .returned (.bool true) ∧ On W w' := by
  obtain ⟨S', hr⟩ := isBool_some works_run
  exact run_bool (E := envC) (known_nothing _) hr .nil (num_nothing rfl rfl rfl) (lies_none rfl rfl)

/-! ### small -/
/-- The two numbers, and a fact of the first. -/
def sigS (x y : Int) : Sig := ⟨fun i => match i with | 0 => x | 1 => y | _ => 0, fun _ _ => 0, fun _ => (0, 0, 0, 0), fun _ _ _ => .bool false⟩
noncomputable def envS (σ : Sig) (F : List Fact) : Env := { P := Tryz.prog, G := fun _ => none, lt := factLt F, eq := factEq F, sig := σ }
def remE (i : Nat) (m : Int) : IE := .conv .i64 (.bin .rem .u8 (.var i) (.lit m))
def isPairV (a b : Want) : Option (SV × SW) → Bool
  | some (.agg [x, y], _) => (match wantOkV a x, wantOkV b y with | true, true => true | _, _ => false)
  | _ => false
theorem isPairV_some {a b : Want} {r : Option (SV × SW)} (h : isPairV a b r = true) : ∃ x y S, r = some (.agg [x, y], S) ∧ wantOkV a x = true ∧ wantOkV b y = true := by
  unfold isPairV at h
  split at h
  · rename_i x y S
    split at h
    · rename_i h1 h2
      exact ⟨x, y, S, rfl, h1, h2⟩
    · cases h
  · cases h
theorem small_run1 (σ : Sig) : isPairV (.num .i64 (remE 0 6)) (.num .i64 (remE 1 12)) ((semK (envS σ [⟨false, remE 0 6, .lit 0, false⟩]) (fun _ _ _ => none) 10).call 9 [.sint .u8 (.var 0), .sint .u8 (.var 1)] ⟨.nil, 0, 0⟩) = true := by kernel_rfl
theorem small_run0 (σ : Sig) : isPairV (.num .i64 (remE 0 6)) (.num .i64 (.lit 0)) ((semK (envS σ [⟨false, remE 0 6, .lit 0, true⟩]) (fun _ _ _ => none) 10).call 9 [.sint .u8 (.var 0), .sint .u8 (.var 1)] ⟨.nil, 0, 0⟩) = true := by kernel_rfl

theorem rem_val {σ : Sig} {i : Nat} {m : Int} (hx : 0 ≤ σ.var i) (hm : 0 < m) (hm2 : m < 100) : (remE i m).val σ = σ.var i % m := by
  have h1 : Int.tmod (σ.var i) m = σ.var i % m := Int.tmod_eq_emod_of_nonneg hx
  have h2 : 0 ≤ σ.var i % m := Int.emod_nonneg _ (by omega)
  have h3 : σ.var i % m < m := Int.emod_lt_of_pos _ hm
  have hz : eqb m (.ofNat 0) = false := by
    rw [eqb_eq]
    exact decide_eq_false (by show ¬ (m = 0); omega)
  simp only [remE, IE.val]
  rw [opVal_int (op := .rem) (k := .u8) (x := σ.var i) (y := m) (n := σ.var i % m) (by simp) (by simp) (by simp only [intOp, hz]; rw [int_eq, h1])]
  exact wrap_fits (by simp only [lowOf]; omega) (by simp only [highOf]; omega)

theorem small_calls {x y : Int} (hx : 0 ≤ x) (hy : 0 ≤ y) (W : World) : Calls Tryz.prog 9 #[.int .u8 x, .int .u8 y] W fun e w' => e = .returned (.agg #[.int .i64 (fnG 1 [x, y]), .int .i64 (fnG 2 [x, y])]) ∧ On W w' := by
  have hargs : VRels (.nil (sigS x y)) [.sint .u8 (.var 0), .sint .u8 (.var 1)] [.int .u8 x, .int .u8 y] := .cons (.sint .u8 (.var 0)) (.cons (.sint .u8 (.var 1)) .nil)
  have v0 : (remE 0 6).val (sigS x y) = x % 6 := rem_val (σ := sigS x y) (i := 0) hx (by omega) (by omega)
  have v1 : (remE 1 12).val (sigS x y) = y % 12 := rem_val (σ := sigS x y) (i := 1) hy (by omega) (by omega)
  have fin : ∀ (F : List Fact) (b : IE), (∀ f ∈ F, f.holds (sigS x y)) → b.val (sigS x y) = fnG 2 [x, y] →
      isPairV (.num .i64 (remE 0 6)) (.num .i64 b) ((semK (envS (sigS x y) F) (fun _ _ _ => none) 10).call 9 [.sint .u8 (.var 0), .sint .u8 (.var 1)] ⟨.nil, 0, 0⟩) = true →
      Calls Tryz.prog 9 #[.int .u8 x, .int .u8 y] W fun e w' => e = .returned (.agg #[.int .i64 (fnG 1 [x, y]), .int .i64 (fnG 2 [x, y])]) ∧ On W w' := by
    intro F b hF hb hr
    obtain ⟨sx, sy, S', hr, h1, h2⟩ := isPairV_some hr
    refine callsIn_wide.1 (CallsIn.mono (callsIn_wide.2 (run_empty (E := envS (sigS x y) F) (known_nothing _) hr hargs (fact_num rfl rfl hF (fun _ _ h => by cases h)) (lies_none rfl rfl))) (n := 0) ?_)
    rintro e w' ⟨v, ρ, rfl, he, hv, ho⟩
    cases hv with
    | agg hl =>
      cases hl with
      | cons hx' hl =>
        cases hl with
        | cons hy' hl =>
          cases hl
          have g1 := wantOkV_is h1 hx'
          have g2 := wantOkV_is h2 hy'
          have hsig : ρ.sig = sigS x y := he.sig
          simp only [wantIsV, hsig] at g1 g2
          rw [g1, g2, v0, hb]
          exact ⟨rfl, ho⟩
  by_cases h : x % 6 = 0
  · exact fin [⟨false, remE 0 6, .lit 0, true⟩] (.lit 0) (fun f hf => by
      simp only [List.mem_cons, List.mem_nil_iff, or_false] at hf
      subst hf
      exact ⟨fun _ => rfl, fun _ => by rw [v0, h]; rfl⟩) (by simp [fnG, h, IE.val]) (small_run0 _)
  · exact fin [⟨false, remE 0 6, .lit 0, false⟩] (remE 1 12) (fun f hf => by
      simp only [List.mem_cons, List.mem_nil_iff, or_false] at hf
      subst hf
      exact ⟨fun hh => absurd (by rw [v0] at hh; exact hh) h, fun hh => by cases hh⟩) (by rw [v1]; simp [fnG, h]) (small_run1 _)

/-! ### policy.CheckLimit -/
def boundsL (e : IE) : Option (Int × Int) := match e with
  | .var i => (match i with | 0 => some (0, 5) | 1 => some (0, 11) | _ => none)
  | _ => none
noncomputable def envL (σ : Sig) (F : List Fact) : Env := { P := Tryz.prog, G := fun _ => none, lt := ordLt boundsL F, eq := ordEq boundsL F, sig := σ }
def isZero : Option (SV × SW) → Bool
  | some (.int .i64 (.ofNat 0), _) => true
  | _ => false
theorem isZero_some {r : Option (SV × SW)} (h : isZero r = true) : ∃ S, r = some (.int .i64 0, S) := by
  unfold isZero at h
  split at h
  · exact ⟨_, rfl⟩
  · cases h
def argL : List SV := [.agg [.sint .i64 (.var 0), .sint .i64 (.var 1)]]
theorem limit_run1 (σ : Sig) : isZero ((semK (envL σ [⟨true, .lit 0, .var 0, true⟩]) (fun _ _ _ => none) 10).call 52 argL ⟨.nil, 0, 0⟩) = true := by kernel_rfl
theorem limit_run0 (σ : Sig) : isZero ((semK (envL σ [⟨true, .lit 0, .var 0, false⟩, ⟨false, .var 1, .lit 0, true⟩]) (fun _ _ _ => none) 10).call 52 argL ⟨.nil, 0, 0⟩) = true := by kernel_rfl
theorem based_L {t u : Int} (h1 : 0 ≤ t) (h2 : t ≤ 5) (h3 : 0 ≤ u) (h4 : u ≤ 11) : Based (sigS t u) boundsL := fun e r h => by
  unfold boundsL at h
  split at h
  · split at h
    · simp only [Option.some.injEq] at h; subst h; exact ⟨h1, h2⟩
    · simp only [Option.some.injEq] at h; subst h; exact ⟨h3, h4⟩
    · cases h
  · cases h
theorem limit_calls {t u : Int} (h1 : 0 ≤ t) (h2 : t ≤ 5) (h3 : 0 ≤ u) (h4 : u ≤ 11) (h5 : t = 0 → u = 0) (W : World) : Calls Tryz.prog 52 #[.agg #[.int .i64 t, .int .i64 u]] W fun e w' => e = .returned (.int .i64 0) ∧ On W w' := by
  have hargs : VRels (.nil (sigS t u)) argL [.agg #[.int .i64 t, .int .i64 u]] := .cons (.agg (.cons (.sint .i64 (.var 0)) (.cons (.sint .i64 (.var 1)) .nil))) .nil
  have fin : ∀ (F : List Fact), (∀ f ∈ F, f.holds (sigS t u)) → isZero ((semK (envL (sigS t u) F) (fun _ _ _ => none) 10).call 52 argL ⟨.nil, 0, 0⟩) = true →
      Calls Tryz.prog 52 #[.agg #[.int .i64 t, .int .i64 u]] W fun e w' => e = .returned (.int .i64 0) ∧ On W w' := by
    intro F hF hr
    obtain ⟨S', hr⟩ := isZero_some hr
    refine callsIn_wide.1 (CallsIn.mono (callsIn_wide.2 (run_empty (E := envL (sigS t u) F) (known_nothing _) hr hargs (ord_num rfl rfl (based_L h1 h2 h3 h4) hF (fun _ _ h => by cases h)) (lies_none rfl rfl))) (n := 0) ?_)
    rintro e w' ⟨v, ρ, rfl, he, hv, ho⟩
    cases hv
    exact ⟨rfl, ho⟩
  by_cases h : (0 : Int) < t
  · exact fin [⟨true, .lit 0, .var 0, true⟩] (fun f hf => by
      simp only [List.mem_cons, List.mem_nil_iff, or_false] at hf
      subst hf
      exact ⟨fun _ => rfl, fun _ => h⟩) (limit_run1 _)
  · exact fin [⟨true, .lit 0, .var 0, false⟩, ⟨false, .var 1, .lit 0, true⟩] (fun f hf => by
      simp only [List.mem_cons, List.mem_nil_iff, or_false] at hf
      rcases hf with rfl | rfl
      · exact ⟨fun hh => absurd hh h, fun hh => by cases hh⟩
      · exact ⟨fun _ => rfl, fun _ => h5 (by omega)⟩) (limit_run0 _)

/-! ### The calls that are known -/
theorem fn1_range (l : List Int) : 0 ≤ fnG 1 l ∧ fnG 1 l ≤ 5 := by
  unfold fnG
  split <;> first | omega | skip
  all_goals (split <;> omega)
theorem fn2_range (l : List Int) : 0 ≤ fnG 2 l ∧ fnG 2 l ≤ 11 := by
  show 0 ≤ (match l with | [x, y] => if x % 6 = 0 then 0 else y % 12 | _ => 0) ∧ (match l with | [x, y] => if x % 6 = 0 then 0 else y % 12 | _ => 0) ≤ 11
  split
  · split <;> omega
  · omega
theorem fn_zero (l : List Int) (h : fnG 1 l = 0) : fnG 2 l = 0 := by
  revert h
  show (match l with | [x, _] => x % 6 | _ => 0) = 0 → (match l with | [x, y] => if x % 6 = 0 then 0 else y % 12 | _ => 0) = 0
  split
  · intro h; simp [h]
  · intro _; rfl

theorem sameArgs_eq {a b : List IE} (h : sameArgs a b = true) : a = b := by
  have := IE.same_eq h
  simpa using this
theorem knowSmall_some {B : IE → Option (Int × Int)} {args : List SV} {x : SV} (h : knowSmall B args = some x) : ∃ a b, args = [.sint .u8 a, .sint .u8 b] ∧ loGe B 0 a = true ∧ loGe B 0 b = true ∧ x = .agg [.sint .i64 (.fn 1 [a, b]), .sint .i64 (.fn 2 [a, b])] := by
  unfold knowSmall at h
  split at h
  · rename_i a b
    split at h
    · rename_i h1 h2
      simp only [Option.some.injEq] at h
      exact ⟨a, b, rfl, h1, h2, h.symm⟩
    · cases h
  · cases h
theorem knowLimit_some {args : List SV} {x : SV} (h : knowLimit args = some x) : ∃ l, args = [.agg [.sint .i64 (.fn 1 l), .sint .i64 (.fn 2 l)]] ∧ x = .int .i64 0 := by
  unfold knowLimit at h
  split at h
  · rename_i l l'
    split at h
    · rename_i h1
      have := sameArgs_eq h1
      subst this
      simp only [Option.some.injEq] at h
      exact ⟨l, rfl, h.symm⟩
    · cases h
  · cases h
theorem knowG0_some {B : IE → Option (Int × Int)} {f : Nat} {args : List SV} {S S' : SW} {x : SV} (h : knowG0 B f args S = some (x, S')) : S' = S ∧ ((f = 9 ∧ knowSmall B args = some x) ∨ (f = 52 ∧ knowLimit args = some x)) := by
  unfold knowG0 at h
  split at h
  · rename_i hb
    have hb := Nat.eq_of_beq_eq_true hb
    split at h
    · rename_i y hy
      simp only [Option.some.injEq, Prod.mk.injEq] at h
      obtain ⟨rfl, rfl⟩ := h
      exact ⟨rfl, .inl ⟨hb, hy⟩⟩
    · cases h
  · split at h
    · rename_i hb
      have hb := Nat.eq_of_beq_eq_true hb
      split at h
      · rename_i y hy
        simp only [Option.some.injEq, Prod.mk.injEq] at h
        obtain ⟨rfl, rfl⟩ := h
        exact ⟨rfl, .inr ⟨hb, hy⟩⟩
      · cases h
    · cases h

theorem known_G0 {E : Env} {B : IE → Option (Int × Int)} (hP : E.P = Tryz.prog) (hB : Based E.sig B) (hfn : E.sig.fn = fnG) : Known E (knowG0 B) where
  name f args S r h vals w := by
    obtain ⟨x, S'⟩ := r
    rw [hP]
    rcases (knowG0_some h).2 with ⟨rfl, -⟩ | ⟨rfl, -⟩
    · exact nameF nameS vals w
    · exact nameF nameL vals w
  mono f args S x S' h := by
    obtain ⟨rfl, -⟩ := knowG0_some h
    exact .refl _
  call f args S x S' h ρ vals w hok hfr hv := by
    obtain ⟨hS, h9⟩ := knowG0_some h
    clear h
    subst hS
    have hsig : ρ.sig = E.sig := hok.glob.num.sig
    rcases h9 with ⟨rfl, h⟩ | ⟨rfl, h⟩
    · obtain ⟨a, b, rfl, h1, h2, rfl⟩ := knowSmall_some h
      cases hv with
      | cons g1 hv =>
        cases hv with
        | cons g2 hv =>
          cases hv
          have g1 := g1.sint_inv
          have g2 := g2.sint_inv
          subst g1
          subst g2
          rw [hsig]
          have key := small_calls (loGe_val hB h1) (loGe_val hB h2) w
          rw [hP]
          refine callsIn_wide.1 (CallsIn.mono (callsIn_wide.2 key) (n := 0) ?_)
          rintro e w' ⟨rfl, o⟩
          have fnv : ∀ k, IE.val ρ.sig (.fn k [a, b]) = fnG k [a.val E.sig, b.val E.sig] := fun k => by simp only [IE.val, IE.vals, hsig, hfn]
          have r1 := VRel.sint (ρ := ρ) .i64 (.fn 1 [a, b])
          have r2 := VRel.sint (ρ := ρ) .i64 (.fn 2 [a, b])
          rw [fnv] at r1 r2
          exact ⟨_, ρ, rfl, ext_on hok.wrel hok.tidy o, .agg (.cons r1 (.cons r2 .nil))⟩
    · obtain ⟨l, rfl, rfl⟩ := knowLimit_some h
      cases hv with
      | cons g1 hv =>
        cases hv
        cases g1 with
        | agg g =>
          cases g with
          | cons ga g =>
            cases g with
            | cons gb g =>
              cases g
              have ga := ga.sint_inv
              have gb := gb.sint_inv
              subst ga
              subst gb
              have fnv : ∀ k, IE.val ρ.sig (.fn k l) = fnG k (IE.vals E.sig l) := fun k => by simp only [IE.val, hsig, hfn]
              rw [fnv, fnv, hP]
              have key := limit_calls (fn1_range (IE.vals E.sig l)).1 (fn1_range (IE.vals E.sig l)).2 (fn2_range (IE.vals E.sig l)).1 (fn2_range (IE.vals E.sig l)).2 (fn_zero _) w
              refine callsIn_wide.1 (CallsIn.mono (callsIn_wide.2 key) (n := 0) ?_)
              rintro e w' ⟨rfl, o⟩
              exact ⟨_, ρ, rfl, ext_on hok.wrel hok.tidy o, .int .i64 0⟩
theorem known_G {E : Env} {B : IE → Option (Int × Int)} (hP : E.P = Tryz.prog) (hB : Based E.sig B) (hfn : E.sig.fn = fnG) : Known E (knowG B) :=
  known_bool (by rw [hP]; exact nameF nameW) (fun w _ => by rw [hP]; exact works_calls w) (known_G0 hP hB hfn)

/-! ### A setup -/
/-- Tasks in memory: block, first place, how many, what their cells hold; the other numbers. -/
structure Setup where
  b : Nat
  x : Nat
  n : Nat
  cell : Nat → Nat → Int
  var : Nat → Int

structure Setup.Small (v : Setup) : Prop where
  cell : ∀ i c, 0 ≤ v.cell i c ∧ v.cell i c ≤ 255
  five : 0 ≤ v.var 5 ∧ v.var 5 ≤ 18446744073709551615
  six : 0 ≤ v.var 6 ∧ v.var 6 ≤ 65535
  seven : 0 ≤ v.var 7 ∧ v.var 7 ≤ 65535
  other : ∀ i, i ≠ 5 → i ≠ 6 → i ≠ 7 → 0 ≤ v.var i ∧ v.var i ≤ 255
  few : v.n ≤ 9223372036854775807

/-- The tasks lie there. -/
def Setup.Lie (v : Setup) (W : World) : Prop := ∃ (arr : Array Value) (el : TypeId) (fz : Nat × Nat), W.heap[v.b]? = some (.cells arr el fz) ∧ ∀ i c, i < v.n → c < 6 → arr[v.x + i * 6 + c]? = some (.int .u8 (v.cell i c))

def sigG (v : Setup) : Sig := ⟨v.var, fnG, fun a => match a with | 0 => (v.b, v.x, 6, v.n) | 1 => (v.b, v.x, 6, min v.n 5) | _ => (0, 0, 0, 0), fun _ i c => .int .u8 (v.cell i c)⟩

theorem based_G {v : Setup} (hv : v.Small) {lo hi m : Int} (h1 : lo ≤ v.n) (h2 : (v.n : Int) ≤ hi) (h3 : ((min v.n 5 : Nat) : Int) = m) : Based (sigG v) (bounds lo hi m) := fun e r h => by
  unfold bounds at h
  split at h
  · split at h
    · simp only [Option.some.injEq] at h; subst h; exact ⟨h1, h2⟩
    · simp only [Option.some.injEq] at h; subst h
      have : IE.val (sigG v) (.len 1) = m := by rw [← h3]; rfl
      rw [this]
      exact ⟨Int.le_refl _, Int.le_refl _⟩
    · cases h
  · split at h
    · simp only [Option.some.injEq] at h; subst h; exact hv.five
    · simp only [Option.some.injEq] at h; subst h; exact hv.six
    · simp only [Option.some.injEq] at h; subst h; exact hv.seven
    · rename_i h5 h6 h7
      simp only [Option.some.injEq] at h; subst h
      exact hv.other _ h5 h6 h7
  · simp only [Option.some.injEq] at h; subst h
    exact hv.cell _ _
  · split at h
    · simp only [Option.some.injEq] at h; subst h; exact fn1_range _
    · simp only [Option.some.injEq] at h; subst h; exact fn2_range _
    · cases h
  · cases h

theorem cut_G {v : Setup} (hv : v.Small) {lo hi m : Int} (h1 : lo ≤ v.n) (h2 : (v.n : Int) ≤ hi) (h3 : ((min v.n 5 : Nat) : Int) = m) (a : Nat) (e : IE) (a' : Nat) (h : cutT lo hi m a e = some a') :
    ∃ b x sz n k : Nat, (sigG v).row a = (b, x, sz, n) ∧ (sigG v).row a' = (b, x, sz, k) ∧ e.val (sigG v) = k ∧ k ≤ n := by
  unfold cutT at h
  split at h
  · split at h
    · rename_i r hr
      split at h
      · rename_i e1 e2
        rw [eqb_eq] at e1 e2
        have e1 := of_decide_eq_true e1
        have e2 := of_decide_eq_true e2
        simp only [Option.some.injEq] at h
        subst h
        have := rng_some (based_G hv h1 h2 h3) hr
        refine ⟨v.b, v.x, 6, v.n, min v.n 5, rfl, rfl, ?_, Nat.min_le_left _ _⟩
        omega
      · cases h
    · cases h
  · cases h

theorem num_G {v : Setup} (hv : v.Small) {lo hi m : Int} (h1 : lo ≤ v.n) (h2 : (v.n : Int) ≤ hi) (h3 : ((min v.n 5 : Nat) : Int) = m) : NumOk (envG (sigG v) lo hi m) :=
  ord_num rfl rfl (based_G hv h1 h2 h3) (fun f h => by cases h) (fun a ks h => by
    have h : rowsT a = some ks := h
    unfold rowsT at h
    split at h
    · simp only [Option.some.injEq] at h; subst h; rfl
    · simp only [Option.some.injEq] at h; subst h; rfl
    · cases h) (cut_G hv h1 h2 h3)

theorem lies_G {v : Setup} {W : World} (h : v.Lie W) (lo hi m : Int) : Lies (envG (sigG v) lo hi m) W where
  cells g cs hg := by simp [envG] at hg
  rows a ks ha := by
    have ha : rowsT a = some ks := ha
    obtain ⟨arr, el, fz, h1, h2⟩ := h
    have fin : ∀ (a n : Nat), n ≤ v.n → (sigG v).row a = (v.b, v.x, 6, n) → ∃ (b x n : Nat) (arr : Array Value) (el : TypeId) (fz : Nat × Nat), (sigG v).row a = (b, x, taskKinds.length, n) ∧ W.heap[b]? = some (.cells arr el fz) ∧
        ∀ (i c : Nat) (k : Option IntKind), i < n → taskKinds[c]? = some k → arr[x + i * taskKinds.length + c]? = some ((sigG v).cell a i c) ∧ (match k with | some k => ∃ z, (sigG v).cell a i c = .int k z | none => ((sigG v).cell a i c).oneCell' = true) := by
      intro a n hn hrow
      refine ⟨v.b, v.x, n, arr, el, fz, hrow, h1, fun i c k hi hc => ?_⟩
      have hc6 : c < 6 := (List.getElem?_eq_some_iff.1 hc).1
      refine ⟨h2 i c (by omega) hc6, ?_⟩
      have : k = some .u8 := by
        have : ∀ c < 6, taskKinds[c]? = some (some .u8) := by decide
        rw [this c hc6] at hc
        simpa using hc.symm
      subst this
      exact ⟨_, rfl⟩
    unfold rowsT at ha
    split at ha
    · simp only [Option.some.injEq] at ha; subst ha
      exact fin 0 v.n (Nat.le_refl _) rfl
    · simp only [Option.some.injEq] at ha; subst ha
      exact fin 1 (min v.n 5) (Nat.min_le_left _ _) rfl
    · cases ha

end Go.Proofs.YtoafolgibimgjaaGreatDoor
