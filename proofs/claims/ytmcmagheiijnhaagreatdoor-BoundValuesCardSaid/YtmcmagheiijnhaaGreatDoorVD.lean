/- bound.Span and wakemanref43.Span: the errors, and what the first hands back. -/
import Derived.Test.YtmcmagheiijnhaaGreatDoorVC
import Derived.Test.YtmcmagheiijnhaaGreatDoorRxI
set_option linter.all false
set_option maxRecDepth 100000
namespace Go.Proofs.YtmcmagheiijnhaaGreatDoor
open Go.RX Go.RX.Sym
open Classical

/-- Numbers' texts: all by v. -/
noncomputable def sigD (c : Cfg) (v : Nat → Int) : Sig where
  var := v
  fn := c.fn
  row a := match a with | 0 => (c.b, c.x, 30, c.n) | a + 1 => c.loc a
  cell a := match a with | 0 => c.cell | a + 1 => fun j k => (c.pln a).sk.cell j k
  obj _ _ := False
def gOf (v : Nat → Int) (k : Nat) : Int := v (k + 20)
noncomputable def kChk (f : Nat) (nl : Bool) (K : Nat → List SV → SW → Option (SV × SW)) : Nat → List SV → SW → Option (SV × SW) := plainK f (atG (cfArgs (jobS nl)) (some (iv 33))) K
abbrev fe (a b : IE) (y : Bool) : Fact := ⟨false, a, b, y⟩
abbrev fl (a b : IE) (y : Bool) : Fact := ⟨true, a, b, y⟩
/-- What is asked until an error comes. -/
def prF : Nat → List Fact
  | 0 => [fe (.var 33) (.lit 0) false]
  | 1 => [fe (.var 33) (.lit 0) true, fl (.var 41) (.lit 1) true]
  | 2 => [fe (.var 33) (.lit 0) true, fl (.var 41) (.lit 1) false, fl (.lit 68719476736) (.var 41) true]
  | 3 => [fe (.var 33) (.lit 0) true, fl (.var 41) (.lit 1) false, fl (.lit 68719476736) (.var 41) false, fl (.var 42) (.lit 0) true]
  | 4 => [fe (.var 33) (.lit 0) true, fl (.var 41) (.lit 1) false, fl (.lit 68719476736) (.var 41) false, fl (.var 42) (.lit 0) false, fl (.lit 1000000) (.var 42) true]
  | _ => [fe (.var 33) (.lit 0) true, fl (.var 41) (.lit 1) false, fl (.lit 68719476736) (.var 41) false, fl (.var 42) (.lit 0) false, fl (.lit 1000000) (.var 42) false]
def spF (nl : Bool) : Nat → List Fact
  | 5 => prF 5 ++ [fl (.var 1) (.lit 0) true]
  | 6 => prF 5 ++ [fl (.var 1) (.lit 0) false] ++ (match nl with | true => [] | false => [fl (.var 1) (.len 0) false])
  | i => prF i
def spR : Nat → SV
  | 0 => iv 33
  | 5 => .int .i64 3
  | 6 => .int .i64 3
  | _ => .int .i64 2
def spArgs (nl : Bool) : List SV := cfArgs (jobS nl) ++ [iv 1, .agg [iv 41, iv 42]]
noncomputable def spOk (σ : Sig) (f chk : Nat) (nl : Bool) : Bool := allB (fun i => (DT.leaf (.tuple [z0, spR i])).ok (callIs (envC σ) (fun _ => kChk chk nl noC) 40 f (spArgs nl)) (spF nl i)) 7
theorem spP_r (σ : Sig) : spOk σ 11 19 false = true := by kernel_rfl
theorem spP_n (σ : Sig) : spOk σ 11 19 true = true := by kernel_rfl
theorem spR_r (σ : Sig) : spOk σ 12 22 false = true := by kernel_rfl
theorem spR_n (σ : Sig) : spOk σ 12 22 true = true := by kernel_rfl
abbrev okF : List Fact := prF 5 ++ [fl (.var 1) (.lit 0) false, fl (.var 1) (.len 0) true]
def latA : List SV := [.agg [jc 26, jc 27, jc 28, jc 29], z0, iv 41, jc 18]
def spE : IE := .bin .add .i64 (.bin .add .i64 (.var 50) (.sel 0 (.var 1) 17)) (.bin .add .i64 (.sel 0 (.var 1) 26) (.lit 1))
theorem spP_ok (σ : Sig) : (DT.leaf (.tuple [.sint .i64 spE, z0])).ok (callIs (envC σ) (fun _ => plainK 28 (atG latA (some (.tuple [iv 50, z0]))) (kChk 19 false noC)) 40 11 (spArgs false)) okF = true := by kernel_rfl
/-! wakemanref43.Span's loop -/
noncomputable def bd12 : Code := match Tryz.f12.body with | some c => c | none => .skip
theorem bd12_is : Tryz.f12.body = some bd12 := by kernel_rfl
theorem nt12 : Tryz.f12.ntmps = 79 := by kernel_rfl
def sl12 : List Nat := [71, 55, 30, 21, 17, 12, 11, 10, 9, 8, 7, 6, 5, 3, 2, 1, 0]
theorem lp12 : (flatC bd12).drop 11 = .block 0 (.loop (inC [11] bd12)) :: (flatC bd12).drop 12 := by kernel_rfl
def oS : List (Nat × SObj) := [(3, .cells [jc 15, jc 16, jc 17, jc 18, jc 19, jc 20, jc 21, jc 22, jc 23, jc 24, jc 25, jc 26, jc 27, jc 28, jc 29] 126)]
def fr12 (n k : SV) : List SV := frN sl12 [(11, k), (10, n), (9, .ptr 3 0)]
def spN : IE := .bin .add .i64 (.sel 0 (.var 1) 17) (.bin .mul .i64 (.bin .add .i64 (.sel 0 (.var 1) 26) (.lit 1)) (.bin .add .i64 (.bin .add .i64 (.sel 0 (.var 1) 18) (.lit 1)) (.var 41)))
def t12a : DT Lf := .leaf ⟨0, fr12 (.sint .i64 spN) (.int .i64 1), oS, 4⟩
theorem t12a_ok (σ : Sig) : t12a.ok (pieceIs (envC σ) (fun _ => kChk 22 false noC) 40 79 sl12 ((flatC bd12).take 11) (cutSt (frameOf (spArgs false) sl12) [] 0)) okF = true := by kernel_rfl
def wt12 : IE := .fn 64 [.var 1, .var 2]
def sm12 : IE := .bin .add .i64 (.var 3) wt12
def sj12 : IE := .bin .sub .i64 (.bin .add .i64 sm12 (.sel 0 (.var 1) 29)) (.lit 1)
def k2' : IE := .bin .add .i64 (.var 2) (.lit 1)
def t12b : DT Lp := .lt (.sel 0 (.var 1) 26) (.var 2) (.leaf ⟨false, ⟨2, fr12 (iv 3) .unknown, [], 4⟩, []⟩)
  (.lt (.lit 0) (.sel 0 (.var 1) 29) (.leaf ⟨true, ⟨0, fr12 (.sint .i64 sj12) (.sint .i64 k2'), oS, 4⟩, [(2, k2'), (3, sj12)]⟩) (.leaf ⟨true, ⟨0, fr12 (.sint .i64 sm12) (.sint .i64 k2'), oS, 4⟩, [(2, k2'), (3, sm12)]⟩))
def wtA : List SV := [.agg [jc 26, jc 27, jc 28, jc 29], iv 2]
noncomputable def kWt (F : List Fact) : Nat → List SV → SW → Option (SV × SW) := match factLt F (.sel 0 (.var 1) 26) (.var 2) with
  | some false => plainK 29 (atG wtA (some (.tuple [.sint .i64 wt12, z0]))) noC
  | _ => noC
theorem t12b_ok (σ : Sig) : t12b.ok (lpIs (envC σ) kWt 40 79 sl12 (inC [11] bd12) (fr12 (iv 3) (iv 2)) oS 4 [0]) [] = true := by kernel_rfl
def t12z : DT Lf := .leaf ⟨1, frN sl12 [(7, z0), (6, iv 3)], [], 4⟩
theorem t12z_ok (σ : Sig) : t12z.ok (pieceIs (envC σ) (fun _ => noC) 40 79 sl12 (((flatC bd12).drop 12).take 2) (cutSt (fr12 (iv 3) .unknown) [] 4)) [] = true := by kernel_rfl
theorem r12 (σ : Sig) : leftOk (.tuple [iv 3, z0]) [] 4 (envC σ []) sl12 Tryz.f12.results.toList (cutSt (frN sl12 [(7, z0), (6, iv 3)]) [] 4) = true := by kernel_rfl
end Go.Proofs.YtmcmagheiijnhaaGreatDoor

/- bound.Span and wakemanref43.Span: what is known of their calls. -/
set_option linter.all false
set_option maxRecDepth 100000
namespace Go.Proofs.YtmcmagheiijnhaaGreatDoor
open Go.RX Go.RX.Sym
open Classical

def prOk (r p : Int) : Prop := (1 ≤ r ∧ r ≤ 68719476736) ∧ (0 ≤ p ∧ p ≤ 1000000)
def spS (l : List Int) (r : Int) : Int := l.getD 2 0 + (l.getD 11 0 + 1) * (l.getD 3 0 + 1 + r) + sumW (l.getD 12 0) (l.getD 13 0) (l.getD 14 0) (l.getD 11 0).toNat
noncomputable def spanEr (c : Cfg) (g : Nat → Int) (job r p : Int) : Int := if cfgE c g = 0 then if prOk r p then if 0 ≤ job ∧ job < c.n then 0 else 3 else 2 else cfgE c g
noncomputable def spanVal (c : Cfg) (g : Nat → Int) (job r p : Int) : Int := if spanEr c g job r p = 0 then spS (c.pol job.toNat) r else 0
section
variable {c : Cfg} {W : World} {g v : Nat → Int}
theorem sigD_is : IsC c (sigD c v) := ⟨rfl, rfl, rfl, fun _ => rfl, fun _ _ _ => rfl⟩
theorem cfArgs_vals {ρ : Ren} (hσ : IsC c ρ.sig) {nl : Bool} {vals : List Value} (h : VRels ρ (cfArgs (jobS nl)) vals) : ∃ cap, Cp.fits c.n cap ∧ vals = [.agg (cfgV c (fun k => ρ.sig.var (k + 20)) nl cap).toArray] := by
  cases h with
  | cons h hs =>
    cases hs
    cases h with
    | agg h => cases h with
      | cons g0 h => cases h with
        | cons g1 h => cases h with
          | cons g2 h => cases h with
            | cons g3 h => cases h with
              | cons g4 h => cases h with
                | cons g5 h => cases h with
                  | cons g6 h => cases h with
                    | cons g7 h =>
                      cases h
                      have g0 := g0.sint_inv
                      have g1 := g1.sint_inv
                      have g2 := g2.sint_inv
                      have g3 := g3.sint_inv
                      have g4 := g4.sint_inv
                      have g5 := g5.sint_inv
                      have g6 := g6.sint_inv
                      subst g0; subst g1; subst g2; subst g3; subst g4; subst g5; subst g6
                      cases nl with
                      | true => cases g7; exact ⟨.cap c.n, Nat.le_refl _, rfl⟩
                      | false =>
                        obtain ⟨cap, hc, rfl⟩ := Cfg.jobV_of hσ.row0 g7
                        exact ⟨cap, hc, rfl⟩
/-- What a check of configurations is. -/
def ChkIs (c : Cfg) (f : Nat) : Prop := (∀ (vals : Array Value) w, (callFunc f vals).run Tryz.prog w = .ok (.enter f vals) w) ∧ ∀ {W : World} {g : Nat → Int} {nl : Bool} {cap : Cp}, Spaces W → c.Ok W → (nl = true → c.n = 0) → Cp.fits c.n cap →
  Calls Tryz.prog f #[.agg (cfgV c g nl cap).toArray] W fun e w' => e = .returned (.int .i64 (cfgE c g)) ∧ On W w'
theorem name_CFGP (vals : Array Value) (w : World) : (callFunc 19 vals).run Tryz.prog w = .ok (.enter 19 vals) w := by kernel_rfl
theorem name_CFGR (vals : Array Value) (w : World) : (callFunc 22 vals).run Tryz.prog w = .ok (.enter 22 vals) w := by kernel_rfl
theorem chkP : ChkIs c 19 := ⟨name_CFGP, fun hW hc hnl hcap => cfgP_calls hW hc hnl hcap⟩
theorem chkR : ChkIs c 22 := ⟨name_CFGR, fun hW hc hnl hcap => cfgR_calls hW hc hnl hcap⟩
theorem known_chk {f : Nat} (hf : ChkIs c f) (hc : c.Ok W) {σ : Sig} (hσ : IsC c σ) {nl : Bool} (hnl : nl = true → c.n = 0) (he : σ.var 33 = cfgE c (fun k => σ.var (k + 20))) {F : List Fact} {K : Nat → List SV → SW → Option (SV × SW)} (hK : Known (envC σ F) K) : Known (envC σ F) (kChk f nl K) :=
  known_num hf.1 (fun ρ vals w S hs hok hvs => by
    have hs : ρ.sig = σ := hs
    obtain ⟨cap, h1, rfl⟩ := cfArgs_vals (c := c) (by rw [hs]; exact hσ) hvs
    rw [hs]
    have e : (envC σ F).sig.var 33 = cfgE c (fun k => σ.var (k + 20)) := he
    rw [e]
    exact hf.2 (spacesC hok) (okC_of hc hσ hok.glob.lies) hnl h1) hK
/-- The arguments of Span. -/
noncomputable def vS (c : Cfg) (g : Nat → Int) (job r p x : Int) (n : Nat) : Int := match n with
  | 1 => job | 2 => 1 | 3 => 0 | 20 => g 0 | 21 => g 1 | 22 => g 2 | 23 => g 3 | 24 => g 4 | 25 => g 5 | 26 => g 6 | 33 => cfgE c g | 41 => r | 42 => p | 50 => x | _ => 0
variable {job r p x : Int}
theorem vS_e : (sigD c (vS c g job r p x)).var 33 = cfgE c (fun k => (sigD c (vS c g job r p x)).var (k + 20)) := rfl
theorem spArgs_rel {nl : Bool} {cap : Cp} (hcap : Cp.fits c.n cap) : VRels (.nil (sigD c (vS c g job r p x))) (spArgs nl) [.agg (cfgV c g nl cap).toArray, .int .i64 job, .agg #[.int .i64 r, .int .i64 p]] := by
  have h : ∀ n, VRel (.nil (sigD c (vS c g job r p x))) (.sint .i64 (.var n)) (.int .i64 (vS c g job r p x n)) := fun n => VRel.sint (ρ := .nil (sigD c (vS c g job r p x))) .i64 (.var n)
  have hcf := cfArgs_rel (σ := sigD c (vS c g job r p x)) (g := fun k => vS c g job r p x (k + 20)) (c := c) sigD_is (fun _ => rfl) (nl := nl) hcap
  cases hcf with
  | cons h1 hn => exact .cons h1 (.cons (h 1) (.cons (.agg (.cons (h 41) (.cons (h 42) .nil))) .nil))
/-- Where an error comes. -/
theorem span_err {f chk : Nat} (hchk : ChkIs c chk) {nl : Bool} (hok : ∀ σ, spOk σ f chk nl = true) (hW : Spaces W) (hc : c.Ok W) (hnl : nl = true → c.n = 0) {cap : Cp} (hcap : Cp.fits c.n cap) (he : spanEr c g job r p ≠ 0) :
    Calls Tryz.prog f #[.agg (cfgV c g nl cap).toArray, .int .i64 job, .agg #[.int .i64 r, .int .i64 p]] W fun e w' => e = .returned (.tuple #[.int .i64 (spanVal c g job r p), .int .i64 (spanEr c g job r p)]) ∧ On W w' := by
  have hval : spanVal c g job r p = 0 := by unfold spanVal; rw [if_neg he]
  rw [hval]
  have key : ∀ i, i < 7 → (∀ f ∈ spF nl i, f.holds (sigD c (vS c g job r p 0))) → (∀ ρ : Ren, ρ.sig = sigD c (vS c g job r p 0) → ∀ u, VRel ρ (spR i) u → u = .int .i64 (spanEr c g job r p)) →
      Calls Tryz.prog f #[.agg (cfgV c g nl cap).toArray, .int .i64 job, .agg #[.int .i64 r, .int .i64 p]] W fun e w' => e = .returned (.tuple #[.int .i64 0, .int .i64 (spanEr c g job r p)]) ∧ On W w' := fun i hi hF hR => by
    refine fn_dtF (E := envC (sigD c (vS c g job r p 0))) (K := fun _ => kChk chk nl noC) (σ := sigD c (vS c g job r p 0)) (P := Tryz.prog) (fun _ => rfl) (fun _ => rfl) (fun F hF => ⟨numC hW hc sigD_is (noM rfl) hF, known_chk hchk hc sigD_is hnl vS_e (known_nothing _), liesC hW hc sigD_is F⟩) (T := DT.leaf (.tuple [z0, spR i])) hF (d := 40) (f := f) (args := spArgs nl) (allB_at (hok _) hi) (spArgs_rel hcap) fun ρ hs u hu => ?_
    simp only [DT.eval] at hu
    cases hu with
    | tuple h => cases h with
      | cons g1 h => cases h with
        | cons g2 h =>
          cases h
          cases g1
          rw [hR ρ hs _ g2]
  have v33 : (sigD c (vS c g job r p 0)).var 33 = cfgE c g := rfl
  by_cases h0 : cfgE c g = 0
  · have z33 : (fe (.var 33) (.lit 0) true).holds (sigD c (vS c g job r p 0)) := holds_eq (by show cfgE c g = 0 ↔ _; exact ⟨fun _ => rfl, fun _ => h0⟩)
    have er2 : ¬ prOk r p → ∀ ρ : Ren, ρ.sig = sigD c (vS c g job r p 0) → ∀ u, VRel ρ (.int .i64 2) u → u = .int .i64 (spanEr c g job r p) := fun h ρ hs u hu => by
      cases hu
      unfold spanEr
      rw [if_pos h0, if_neg h]
    by_cases c1 : r < 1
    · exact key 1 (by decide) (hcons z33 (hcons (holds_lt (by show r < 1 ↔ _; exact ⟨fun _ => rfl, fun _ => c1⟩)) hnil)) (er2 fun h => by have := h.1.1; omega)
    by_cases c2 : 68719476736 < r
    · exact key 2 (by decide) (hcons z33 (hcons (holds_lt (by show r < 1 ↔ _; exact no c1)) (hcons (holds_lt (by show 68719476736 < r ↔ _; exact ⟨fun _ => rfl, fun _ => c2⟩)) hnil))) (er2 fun h => by have := h.1.2; omega)
    by_cases c3 : p < 0
    · exact key 3 (by decide) (hcons z33 (hcons (holds_lt (by show r < 1 ↔ _; exact no c1)) (hcons (holds_lt (by show 68719476736 < r ↔ _; exact no c2)) (hcons (holds_lt (by show p < 0 ↔ _; exact ⟨fun _ => rfl, fun _ => c3⟩)) hnil)))) (er2 fun h => by have := h.2.1; omega)
    by_cases c4 : 1000000 < p
    · exact key 4 (by decide) (hcons z33 (hcons (holds_lt (by show r < 1 ↔ _; exact no c1)) (hcons (holds_lt (by show 68719476736 < r ↔ _; exact no c2)) (hcons (holds_lt (by show p < 0 ↔ _; exact no c3)) (hcons (holds_lt (by show 1000000 < p ↔ _; exact ⟨fun _ => rfl, fun _ => c4⟩)) hnil))))) (er2 fun h => by have := h.2.2; omega)
    have hpr : prOk r p := ⟨⟨by omega, by omega⟩, by omega, by omega⟩
    have hp5 : ∀ f ∈ prF 5, f.holds (sigD c (vS c g job r p 0)) := hcons z33 (hcons (holds_lt (by show r < 1 ↔ _; exact no c1)) (hcons (holds_lt (by show 68719476736 < r ↔ _; exact no c2)) (hcons (holds_lt (by show p < 0 ↔ _; exact no c3)) (hcons (holds_lt (by show 1000000 < p ↔ _; exact no c4)) hnil))))
    have hj : ¬ (0 ≤ job ∧ job < c.n) := fun h => he (by unfold spanEr; rw [if_pos h0, if_pos hpr, if_pos h])
    have er3 : ∀ ρ : Ren, ρ.sig = sigD c (vS c g job r p 0) → ∀ u, VRel ρ (.int .i64 3) u → u = .int .i64 (spanEr c g job r p) := fun ρ hs u hu => by
      cases hu
      unfold spanEr
      rw [if_pos h0, if_pos hpr, if_neg hj]
    by_cases c5 : job < 0
    · exact key 5 (by decide) (fun f hf => by
        rcases List.mem_append.1 hf with h | h
        · exact hp5 f h
        · exact (hcons (holds_lt (by show job < 0 ↔ _; exact ⟨fun _ => rfl, fun _ => c5⟩)) hnil) f h) er3
    · exact key 6 (by decide) (fun f hf => by
        rcases List.mem_append.1 hf with h | h
        · rcases List.mem_append.1 h with h | h
          · exact hp5 f h
          · exact (hcons (holds_lt (by show job < 0 ↔ _; exact no c5)) hnil) f h
        · cases nl with
          | true => cases h
          | false => exact (hcons (holds_lt (by rw [IsC.len (c := c) sigD_is]; show job < (c.n : Int) ↔ _; exact no (by omega))) hnil) f h) er3
  · refine key 0 (by decide) (hcons (holds_eq (by show cfgE c g = 0 ↔ _; exact no h0)) hnil) fun ρ hs u hu => ?_
    have := hu.sint_inv
    rw [hs] at this
    rw [this]
    unfold spanEr
    rw [if_neg h0]
    rfl
end
end Go.Proofs.YtmcmagheiijnhaaGreatDoor

/- bound.Span and wakemanref43.Span: a job's span. -/
set_option linter.all false
set_option maxRecDepth 100000
namespace Go.Proofs.YtmcmagheiijnhaaGreatDoor
open Go.RX Go.RX.Sym
open Classical

theorem name_LATEST (vals : Array Value) (w : World) : (callFunc 28 vals).run Tryz.prog w = .ok (.enter 28 vals) w := by kernel_rfl
section
variable {c : Cfg} {W : World} {g : Nat → Int} {job r p : Int}
/-- A job of a valid configuration, a valid premise. -/
structure SpOk (c : Cfg) (g : Nat → Int) (job r p : Int) (i : Nat) : Prop where
  chk : cfgE c g = 0
  pr : prOk r p
  is : job = i
  lt : i < c.n
theorem spOk_of (h : spanEr c g job r p = 0) : ∃ i, SpOk c g job r p i := by
  unfold spanEr at h
  split at h
  · rename_i h0
    split at h
    · rename_i h1
      split at h
      · rename_i h2
        exact ⟨job.toNat, h0, h1, by omega, by omega⟩
      · cases h
    · cases h
  · rename_i h0; exact absurd h h0
theorem SpOk.er {i : Nat} (h : SpOk c g job r p i) : spanEr c g job r p = 0 := by
  unfold spanEr
  rw [if_pos h.chk, if_pos h.pr, if_pos ⟨by rw [h.is]; omega, by rw [h.is]; have := h.lt; omega⟩]
theorem cfgE_zero (h : cfgE c g = 0) : c.n ≤ 64 ∧ ∀ i, i < c.n → polS (c.pol i) := by
  unfold cfgE at h
  split at h
  · split at h
    · cases h
    · rename_i hn
      split at h
      · split at h
        · split at h
          · rename_i h3; exact ⟨by omega, fun i hi => (h3 i hi).2⟩
          · cases h
        · cases h
      · cases h
  · cases h
/-- What a valid policy's numbers are. -/
structure PolIn (l : List Int) (m : Nat) : Prop where
  prio : 0 ≤ l.getD 1 0 ∧ l.getD 1 0 ≤ 100
  splay : 0 ≤ l.getD 2 0 ∧ l.getD 2 0 ≤ 68719476736
  dead : 0 ≤ l.getD 3 0 ∧ l.getD 3 0 ≤ 68719476736
  max : l.getD 11 0 = m
  few : m ≤ 20
  ret : retOk m (l.getD 12 0) (l.getD 13 0) (l.getD 14 0)
theorem polIn {l : List Int} (h : polS l) : ∃ m, PolIn l m := by
  obtain ⟨h1, h2, h3, h4, h5, h6, h7, h8⟩ := h
  have h2 : 0 ≤ l.getD 1 0 ∧ l.getD 1 0 ≤ 100 := h2
  have h3 : 0 ≤ l.getD 2 0 ∧ l.getD 2 0 ≤ 68719476736 := h3
  have h4 : 0 ≤ l.getD 3 0 ∧ l.getD 3 0 ≤ 68719476736 := h4
  have h8 : retOk (l.getD 11 0) (l.getD 12 0) (l.getD 13 0) (l.getD 14 0) := h8
  have hm : 0 ≤ l.getD 11 0 ∧ l.getD 11 0 ≤ 20 := by
    rcases h8 with h | h
    · omega
    · omega
  have e : l.getD 11 0 = ((l.getD 11 0).toNat : Int) := by omega
  exact ⟨(l.getD 11 0).toNat, h2, h3, h4, e, by omega, by rw [← e]; exact h8⟩
theorem ret_or {m : Nat} {b d j : Int} (h : retOk m b d j) : m = 0 ∨ ((1 ≤ b ∧ b ≤ 68719476736) ∧ (b ≤ d ∧ d ≤ 68719476736) ∧ (0 ≤ j ∧ j ≤ 68719476736)) := by
  rcases h with h | h
  · exact .inl (by omega)
  · exact .inr h.2
theorem sel_val {σ : Sig} (hσ : IsC c σ) {i : Nat} (hv : σ.var 1 = i) {k : Nat} : (IE.sel 0 (.var 1) (k + 15)).val σ = (c.pol i).getD k 0 := by
  show (match σ.cell 0 (σ.var 1).toNat (k + 15) with | .int _ n => n | _ => 0) = _
  rw [hv, Int.toNat_natCast, hσ.cell0]
  rfl
theorem holds_ok {σ : Sig} (hσ : IsC c σ) {i : Nat} (h : SpOk c g job r p i) (h33 : σ.var 33 = cfgE c g) (h41 : σ.var 41 = r) (h42 : σ.var 42 = p) (h1 : σ.var 1 = job) : ∀ f ∈ okF, f.holds σ := by
  have hp := h.pr
  have hlt := h.lt
  refine hcons (holds_eq (by show σ.var 33 = 0 ↔ _; rw [h33]; exact ⟨fun _ => rfl, fun _ => h.chk⟩)) (hcons (holds_lt (by show σ.var 41 < 1 ↔ _; rw [h41]; exact no (by have := hp.1.1; omega))) (hcons (holds_lt (by show 68719476736 < σ.var 41 ↔ _; rw [h41]; exact no (by have := hp.1.2; omega))) (hcons (holds_lt (by show σ.var 42 < 0 ↔ _; rw [h42]; exact no (by have := hp.2.1; omega)))
    (hcons (holds_lt (by show 1000000 < σ.var 42 ↔ _; rw [h42]; exact no (by have := hp.2.2; omega))) (hcons (holds_lt (by show σ.var 1 < 0 ↔ _; rw [h1, h.is]; exact no (by omega))) (hcons (holds_lt (by rw [hσ.len]; show σ.var 1 < (c.n : Int) ↔ _; rw [h1, h.is]; exact ⟨fun _ => rfl, fun _ => by omega⟩)) hnil))))))
theorem spS_eq {l : List Int} {m : Nat} (hp : PolIn l m) : spS l r = latV m (l.getD 12 0) (l.getD 13 0) (l.getD 14 0) r (l.getD 3 0) + l.getD 2 0 + ((m : Int) + 1) := by
  unfold spS latV
  rw [hp.max, Int.toNat_natCast]
  have e : ((m : Int) + 1) * (l.getD 3 0 + 1 + r) = ((m + 1 : Nat) : Int) * (r + l.getD 3 0) + ((m : Int) + 1) := by
    rw [show l.getD 3 0 + 1 + r = (r + l.getD 3 0) + 1 by omega, Int.mul_add, Int.mul_one]
    rfl
  rw [e]
  omega
theorem latV_in {l : List Int} {m : Nat} (hp : PolIn l m) (hr : 0 ≤ r ∧ r ≤ 68719476736) : 0 ≤ latV m (l.getD 12 0) (l.getD 13 0) (l.getD 14 0) r (l.getD 3 0) ∧ latV m (l.getD 12 0) (l.getD 13 0) (l.getD 14 0) r (l.getD 3 0) ≤ 10000000000000 := by
  have hs := sumW_in (m := m) (ret_or hp.ret) m (Nat.le_refl m)
  have hd := hp.dead
  have hf := hp.few
  have hb : ((m + 1 : Nat) : Int) * (r + l.getD 3 0) ≤ 21 * (r + l.getD 3 0) := Int.mul_le_mul_of_nonneg_right (by omega) (by omega)
  have h0 : 0 ≤ ((m + 1 : Nat) : Int) * (r + l.getD 3 0) := Int.mul_nonneg (by omega) (by omega)
  have h3 : (m : Int) * 137438953472 ≤ 20 * 137438953472 := by omega
  unfold latV
  omega
theorem spanP_calls (hW : Spaces W) (hc : c.Ok W) {nl : Bool} (hnl : nl = true → c.n = 0) {cap : Cp} (hcap : Cp.fits c.n cap) :
    Calls Tryz.prog 11 #[.agg (cfgV c g nl cap).toArray, .int .i64 job, .agg #[.int .i64 r, .int .i64 p]] W fun e w' => e = .returned (.tuple #[.int .i64 (spanVal c g job r p), .int .i64 (spanEr c g job r p)]) ∧ On W w' := by
  by_cases he : spanEr c g job r p = 0
  · obtain ⟨i, h⟩ := spOk_of he
    have hlt := h.lt
    obtain rfl : nl = false := by
      cases nl with
      | true => have := hnl rfl; omega
      | false => rfl
    obtain ⟨m, hp⟩ := polIn ((cfgE_zero h.chk).2 i h.lt)
    have hr : 0 ≤ r ∧ r ≤ 68719476736 := by have := h.pr.1; omega
    let x := latV m ((c.pol i).getD 12 0) ((c.pol i).getD 13 0) ((c.pol i).getD 14 0) r ((c.pol i).getD 3 0)
    have hx : 0 ≤ x ∧ x ≤ 10000000000000 := latV_in hp hr
    have hv1 : (sigD c (vS c g job r p x)).var 1 = i := h.is
    refine fn_dtF (E := envC (sigD c (vS c g job r p x))) (K := fun _ => plainK 28 (atG latA (some (.tuple [iv 50, z0]))) (kChk 19 false noC)) (σ := sigD c (vS c g job r p x)) (P := Tryz.prog) (fun _ => rfl) (fun _ => rfl) (fun F hF => ⟨numC hW hc sigD_is (noM rfl) hF, known_tup name_LATEST (fun ρ vals w S hs hok hvs => ?_) (known_chk chkP hc sigD_is hnl vS_e (known_nothing _)), liesC hW hc sigD_is F⟩)
      (T := DT.leaf (.tuple [.sint .i64 spE, z0])) (holds_ok sigD_is h rfl rfl rfl rfl) (d := 40) (f := 11) (args := spArgs false) (spP_ok _) (spArgs_rel hcap) fun ρ hs u hu => ?_
    · have hs : ρ.sig = sigD c (vS c g job r p x) := hs
      have e : vals = [.agg #[.int .i64 (m : Int), .int .i64 ((c.pol i).getD 12 0), .int .i64 ((c.pol i).getD 13 0), .int .i64 ((c.pol i).getD 14 0)], .int .i64 0, .int .i64 r, .int .i64 ((c.pol i).getD 3 0)] := by
        have hI : IsC c ρ.sig := by rw [hs]; exact sigD_is
        have hV : ρ.sig.var 1 = i := by rw [hs]; exact hv1
        cases hvs with
        | cons h1 hvs => cases hvs with
          | cons h2 hvs => cases hvs with
            | cons h3 hvs => cases hvs with
              | cons h4 hvs =>
                cases hvs
                cases h2
                rw [h3.sint_inv, jc_val hI hV (z := (c.pol i).getD 3 0) rfl h4]
                have e41 : (IE.var 41).val ρ.sig = r := by rw [hs]; rfl
                rw [e41]
                cases h1 with
                | agg q => cases q with
                  | cons q1 q => cases q with
                    | cons q2 q => cases q with
                      | cons q3 q => cases q with
                        | cons q4 q =>
                          cases q
                          rw [jc_val hI hV (z := (c.pol i).getD 11 0) rfl q1, jc_val hI hV (z := (c.pol i).getD 12 0) rfl q2, jc_val hI hV (z := (c.pol i).getD 13 0) rfl q3, jc_val hI hV (z := (c.pol i).getD 14 0) rfl q4, hp.max]
      rw [e]
      exact lat_calls (spacesC hok) hp.few hp.ret hr hp.dead
    · simp only [DT.eval] at hu
      cases hu with
      | tuple q => cases q with
        | cons g1 q => cases q with
          | cons g2 q =>
            cases q
            cases g2
            have g1 := g1.sint_inv
            have hI : IsC c ρ.sig := by rw [hs]; exact sigD_is
            have hV : ρ.sig.var 1 = i := by rw [hs]; exact hv1
            have e50 : ρ.sig.var 50 = x := by rw [hs]; rfl
            have es : spE.val ρ.sig = spS (c.pol i) r := by
              show opVal .add .i64 (opVal .add .i64 (ρ.sig.var 50) ((IE.sel 0 (.var 1) 17).val ρ.sig)) (opVal .add .i64 ((IE.sel 0 (.var 1) 26).val ρ.sig) 1) = _
              rw [sel_val hI hV (k := 2), sel_val hI hV (k := 11), e50, hp.max]
              have h2 := hp.splay
              have h3 := hp.few
              rw [add_op (x := x) ⟨by omega, by omega⟩, add_op (x := (m : Int)) ⟨by omega, by omega⟩, add_op ⟨by omega, by omega⟩, spS_eq hp]
            rw [g1, es, he]
            unfold spanVal
            rw [if_pos he, h.is, Int.toNat_natCast]
  · exact span_err chkP (fun σ => by cases nl with | true => exact spP_n σ | false => exact spP_r σ) hW hc hnl hcap he
end
end Go.Proofs.YtmcmagheiijnhaaGreatDoor

/- wakemanref43.Span: the same. -/
set_option linter.all false
set_option maxRecDepth 100000
namespace Go.Proofs.YtmcmagheiijnhaaGreatDoor
open Go.RX Go.RX.Sym
open Classical

theorem s12_see : seeAll [0] [(2, .lit 1), (3, spN)] 4 (fr12 (iv 3) (iv 2)) (fr12 (.sint .i64 spN) (.int .i64 1)) oS oS = true := by kernel_rfl
theorem known_tupE {E : Env} {f : Nat} {e : IE} {A : List SV} {K : Nat → List SV → SW → Option (SV × SW)} (hname : ∀ (vals : Array Value) w, (callFunc f vals).run E.P w = .ok (.enter f vals) w)
    (h : ∀ ρ vals w S, ρ.sig = E.sig → RX.Ok E ρ S w → VRels ρ A vals → Calls E.P f vals.toArray w fun o w' => o = .returned (.tuple #[.int .i64 (e.val E.sig), .int .i64 0]) ∧ On w w') (hK : Known E K) : Known E (plainK f (atG A (some (.tuple [.sint .i64 e, z0]))) K) :=
  known_plain hname (fun args x hg ρ vals w S hok hr => by
    unfold atG at hg
    split at hg
    · rename_i ha
      have ha := svsEq_sound _ _ ha
      subst ha
      simp only [Option.some.injEq] at hg
      subst hg
      refine callsIn_wide.1 (CallsIn.mono (callsIn_wide.2 (h ρ vals w S hok.num.sig hok hr)) (n := 0) ?_)
      rintro o w' ⟨rfl, on⟩
      refine ⟨_, rfl, ?_, on⟩
      have h1 := VRel.sint (ρ := ρ) .i64 e
      rw [hok.num.sig] at h1
      exact .tuple (.cons h1 (.cons (.int .i64 0) .nil))
    · cases hg) hK
section
variable {c : Cfg} {W : World} {g : Nat → Int} {job r p : Int}
/-- At the loop's head. -/
structure JP (c : Cfg) (i m : Nat) (B : Int) (σ : Sig) (q : Nat) : Prop where
  is : IsC c σ
  obj : σ.obj = fun _ _ => False
  v1 : σ.var 1 = i
  at_ : ∃ k : Nat, σ.var 2 = ((k + 1 : Nat) : Int) ∧ σ.var 3 = B + sumW ((c.pol i).getD 12 0) ((c.pol i).getD 13 0) ((c.pol i).getD 14 0) k ∧ k + q = m
theorem wt12_val {i k : Nat} {σ : Sig} (hσ : IsC c σ) (h1 : σ.var 1 = i) (h2 : σ.var 2 = ((k + 1 : Nat) : Int)) : wt12.val σ = wkS ((c.pol i).getD 12 0) ((c.pol i).getD 13 0) k := by
  show σ.fn 64 [σ.var 1, σ.var 2] = _
  rw [hσ.fn, h1, h2]
  show wkS ((c.pol (Int.toNat (i : Int))).getD 12 0) ((c.pol (Int.toNat (i : Int))).getD 13 0) (Int.toNat ((k + 1 : Nat) : Int) - 1) = _
  rw [Int.toNat_natCast, Int.toNat_natCast, Nat.add_sub_cancel]
theorem spanR_calls (hW : Spaces W) (hc : c.Ok W) {nl : Bool} (hnl : nl = true → c.n = 0) {cap : Cp} (hcap : Cp.fits c.n cap) :
    Calls Tryz.prog 12 #[.agg (cfgV c g nl cap).toArray, .int .i64 job, .agg #[.int .i64 r, .int .i64 p]] W fun e w' => e = .returned (.tuple #[.int .i64 (spanVal c g job r p), .int .i64 (spanEr c g job r p)]) ∧ On W w' := by
  by_cases he : spanEr c g job r p = 0
  · obtain ⟨i, h⟩ := spOk_of he
    have hlt := h.lt
    obtain rfl : nl = false := by
      cases nl with
      | true => have := hnl rfl; omega
      | false => rfl
    obtain ⟨m, hp⟩ := polIn ((cfgE_zero h.chk).2 i h.lt)
    have hr : 0 ≤ r ∧ r ≤ 68719476736 := by have := h.pr.1; omega
    have hσ0 : IsC c (sigD c (vS c g job r p 0)) := sigD_is
    have ho0 : (sigD c (vS c g job r p 0)).obj = fun _ _ => False := rfl
    have hv1 : (sigD c (vS c g job r p 0)).var 1 = i := h.is
    have h41 : (sigD c (vS c g job r p 0)).var 41 = r := rfl
    have hok : ∀ f ∈ okF, f.holds (sigD c (vS c g job r p 0)) := holds_ok sigD_is h rfl rfl rfl rfl
    have h33 := vS_e (c := c) (g := g) (job := job) (r := r) (p := p) (x := 0)
    have hrel := spArgs_rel (c := c) (g := g) (job := job) (r := r) (p := p) (x := 0) (nl := false) hcap
    generalize sigD c (vS c g job r p 0) = σ at hσ0 ho0 hv1 h41 hok h33 hrel
    refine tmpl_begin (E := envC σ []) (f := 12) (fn := Tryz.f12) (body := bd12) Tryz.func12 bd12_is sl12 (args := spArgs false) hrel (by rw [nt12]; decide) fun a hA => wpL_whole ?_
    rw [nt12] at hA
    refine walk_take 11 (E := fun F => envC σ F) (K := fun _ => kChk 22 false noC) (fun _ => rfl) (fun _ => rfl) (fun F hF => ⟨numC hW hc hσ0 (noM ho0) hF, known_chk chkR hc hσ0 hnl h33 (known_nothing _), liesC hW hc hσ0 F⟩) (t12a_ok σ) hok hA fun l hl a1 w1 h1 => ?_
    simp only [t12a, DT.eval] at hl
    subst hl
    show wpL _ _ ((flatC bd12).drop 11) _ _ _
    rw [lp12]
    have hspl := hp.splay
    have hded := hp.dead
    have hfew := hp.few
    have hsum := sumW_in (m := m) (ret_or hp.ret)
    have hB : 0 ≤ ((m : Int) + 1) * ((c.pol i).getD 3 0 + 1 + r) ∧ ((m : Int) + 1) * ((c.pol i).getD 3 0 + 1 + r) ≤ 21 * ((c.pol i).getD 3 0 + 1 + r) := ⟨Int.mul_nonneg (by omega) (by omega), Int.mul_le_mul_of_nonneg_right (by omega) (by omega)⟩
    have hN : spN.val σ = (c.pol i).getD 2 0 + ((m : Int) + 1) * ((c.pol i).getD 3 0 + 1 + r) := by
      show opVal .add .i64 ((IE.sel 0 (.var 1) 17).val σ) (opVal .mul .i64 (opVal .add .i64 ((IE.sel 0 (.var 1) 26).val σ) 1) (opVal .add .i64 (opVal .add .i64 ((IE.sel 0 (.var 1) 18).val σ) 1) (σ.var 41))) = _
      rw [sel_val hσ0 hv1 (k := 2), sel_val hσ0 hv1 (k := 11), sel_val hσ0 hv1 (k := 3), h41, hp.max, add_op (x := (m : Int)) ⟨by omega, by omega⟩, add_op (x := (c.pol i).getD 3 0) ⟨by omega, by omega⟩, add_op (x := (c.pol i).getD 3 0 + 1) ⟨by omega, by omega⟩, mul_op ⟨by omega, by omega⟩, add_op ⟨by omega, by omega⟩]
    have hS : spS (c.pol i) r = (c.pol i).getD 2 0 + ((m : Int) + 1) * ((c.pol i).getD 3 0 + 1 + r) + sumW ((c.pol i).getD 12 0) ((c.pol i).getD 13 0) ((c.pol i).getD 14 0) m := by
      unfold spS
      rw [hp.max, Int.toNat_natCast]
    generalize hBB : (c.pol i).getD 2 0 + ((m : Int) + 1) * ((c.pol i).getD 3 0 + 1 + r) = B at hN hS
    have hBin : 0 ≤ B ∧ B ≤ 4000000000000 := by omega
    have hE : ∀ σ q, JP c i m B σ q → ∀ F, (∀ f ∈ F, f.holds σ) → NumOk (envC σ F) ∧ Known (envC σ F) (kWt F) ∧ Lies (envC σ F) W := fun σ q hJ F hF => by
      have hn := numC hW hc hJ.is (noM hJ.obj) hF
      refine ⟨hn, ?_, liesC hW hc hJ.is F⟩
      unfold kWt
      split
      · rename_i hlt
        have := hn.lt (.sel 0 (.var 1) 26) (.var 2) false hlt
        rw [ltb_eq] at this
        have hle : ¬ (IE.sel 0 (.var 1) 26).val σ < (IE.var 2).val σ := of_decide_eq_false this
        obtain ⟨k, hv2, -, hk⟩ := hJ.at_
        have ev2 : (IE.var 2).val σ = ((k + 1 : Nat) : Int) := hv2
        rw [sel_val hJ.is hJ.v1 (k := 11), hp.max, ev2] at hle
        refine known_tupE name_WAITR (fun ρ vals w S hs hok hvs => ?_) (known_nothing _)
        have hs : ρ.sig = σ := hs
        have e : vals = [.agg #[.int .i64 (m : Int), .int .i64 ((c.pol i).getD 12 0), .int .i64 ((c.pol i).getD 13 0), .int .i64 ((c.pol i).getD 14 0)], .int .i64 ((k + 1 : Nat) : Int)] := by
          have hI : IsC c ρ.sig := by rw [hs]; exact hJ.is
          have hV : ρ.sig.var 1 = i := by rw [hs]; exact hJ.v1
          cases hvs with
          | cons h1 hvs => cases hvs with
            | cons h2 hvs =>
              cases hvs
              have e2 : (IE.var 2).val ρ.sig = ((k + 1 : Nat) : Int) := by rw [hs]; exact hv2
              rw [h2.sint_inv, e2]
              cases h1 with
              | agg q => cases q with
                | cons q1 q => cases q with
                  | cons q2 q => cases q with
                    | cons q3 q => cases q with
                      | cons q4 q =>
                        cases q
                        rw [jc_val hI hV (z := (c.pol i).getD 11 0) rfl q1, jc_val hI hV (z := (c.pol i).getD 12 0) rfl q2, jc_val hI hV (z := (c.pol i).getD 13 0) rfl q3, jc_val hI hV (z := (c.pol i).getD 14 0) rfl q4, hp.max]
        rw [e]
        have hw := waitR_calls (k := k + 1) (spacesC hok) hp.ret (by omega) (by omega : ((k + 1 : Nat) : Int) ≤ (m : Int))
        have ew : wt12.val (envC σ F).sig = wkS ((c.pol i).getD 12 0) ((c.pol i).getD 13 0) k := wt12_val hJ.is hJ.v1 hv2
        rw [ew]
        exact hw
      · exact known_nothing _
    refine loop_dt (E := fun σ F => envC σ F) (K := fun _ F => kWt F) (fun _ _ => rfl) (fun _ _ => rfl) (JP c i m B) hE t12b_ok (fun σ q h => hnil) (σ0 := σ.puts [(2, .lit 1), (3, spN)]) (N := m) ⟨hσ0.puts _, ho0, hv1, 0, rfl, by show spN.val σ = _; rw [hN]; show B = B + 0; omega, by omega⟩ (h1.sub (σ.puts_is _ [0]) s12_see) fun σ q pp hJ hpp => ?_
    obtain ⟨k, hv2, hv3, hk⟩ := hJ.at_
    have ev2 : (IE.var 2).val σ = ((k + 1 : Nat) : Int) := hv2
    have ew := wt12_val hJ.is hJ.v1 hv2
    have l0 : (IE.lit 0).val σ = 0 := rfl
    simp only [t12b, DT.eval, sel_val hJ.is hJ.v1 (k := 11), sel_val hJ.is hJ.v1 (k := 14), hp.max, ev2, l0] at hpp
    by_cases hkm : k < m
    · rw [if_neg (by omega)] at hpp
      obtain ⟨q, rfl⟩ : ∃ x, q = x + 1 := ⟨q - 1, by omega⟩
      have hret := ret_or hp.ret
      have hret : (1 ≤ (c.pol i).getD 12 0 ∧ (c.pol i).getD 12 0 ≤ 68719476736) ∧ ((c.pol i).getD 12 0 ≤ (c.pol i).getD 13 0 ∧ (c.pol i).getD 13 0 ≤ 68719476736) ∧ (0 ≤ (c.pol i).getD 14 0 ∧ (c.pol i).getD 14 0 ≤ 68719476736) := by
        rcases hret with h | h
        · omega
        · exact h
      obtain ⟨⟨d3, d4⟩, ⟨d5, d6⟩, d7, d8⟩ := hret
      have hw := wkS_in d3 d5 k
      have hs := hsum k (by omega)
      have hs2 : (k : Int) * 137438953472 ≤ 20 * 137438953472 := by omega
      have hn2 : opVal .add .i64 (σ.var 2) 1 = ((k + 1 + 1 : Nat) : Int) := by rw [hv2]; exact add1 (n := m + 1) (by omega) (by omega)
      have hsm : sm12.val σ = B + sumW ((c.pol i).getD 12 0) ((c.pol i).getD 13 0) ((c.pol i).getD 14 0) k + wkS ((c.pol i).getD 12 0) ((c.pol i).getD 13 0) k := by
        show opVal .add .i64 (σ.var 3) (wt12.val σ) = _
        rw [hv3, ew, add_op ⟨by omega, by omega⟩]
      have hstep : sumW ((c.pol i).getD 12 0) ((c.pol i).getD 13 0) ((c.pol i).getD 14 0) (k + 1) = sumW ((c.pol i).getD 12 0) ((c.pol i).getD 13 0) ((c.pol i).getD 14 0) k + (wkS ((c.pol i).getD 12 0) ((c.pol i).getD 13 0) k + max ((c.pol i).getD 14 0 - 1) 0) := rfl
      by_cases hj : 0 < (c.pol i).getD 14 0
      · rw [if_pos hj] at hpp
        subst hpp
        refine ⟨q, by omega, hJ.is.puts _, hJ.obj, hJ.v1, k + 1, hn2, ?_, by omega⟩
        show opVal .sub .i64 (opVal .add .i64 (sm12.val σ) ((IE.sel 0 (.var 1) 29).val σ)) 1 = _
        rw [hsm, sel_val hJ.is hJ.v1 (k := 14), add_op ⟨by omega, by omega⟩, sub_op ⟨by omega, by omega⟩, hstep]
        omega
      · rw [if_neg hj] at hpp
        subst hpp
        refine ⟨q, by omega, hJ.is.puts _, hJ.obj, hJ.v1, k + 1, hn2, ?_, by omega⟩
        show sm12.val σ = _
        rw [hsm, hstep]
        omega
    · rw [if_pos (by omega)] at hpp
      subst hpp
      intro a2 w2 h2
      show wpL _ _ ((flatC bd12).drop 12) _ _ _
      refine walk_take 2 (E := fun F => envC σ F) (K := fun _ => noC) (fun _ => rfl) (fun _ => rfl) (fun F hF => ⟨numC hW hc hJ.is (noM hJ.obj) hF, known_nothing _, liesC hW hc hJ.is F⟩) (t12z_ok σ) hnil h2 fun l hl a3 w3 h3 => ?_
      simp only [t12z, DT.eval] at hl
      subst hl
      refine tmpl_leaves (E := envC σ []) (numC hW hc hJ.is (noM hJ.obj) hnil) (r12 σ) h3 (liesC hW hc hJ.is []) fun u w' hl => ?_
      obtain ⟨on, ρ, hs, hx, -⟩ := hl
      cases hx with
      | tuple q => cases q with
        | cons g1 q => cases q with
          | cons g2 q =>
            cases q
            cases g2
            have g1 := g1.sint_inv
            have e3 : (IE.var 3).val ρ.sig = spanVal c g job r p := by
              rw [hs]
              show σ.var 3 = _
              unfold spanVal
              rw [if_pos he, h.is, Int.toNat_natCast, hS, hv3, show k = m by omega]
            rw [g1, e3, he]
            exact ⟨rfl, on⟩
  · exact span_err chkR (fun σ => by cases nl with | true => exact spR_n σ | false => exact spR_r σ) hW hc hnl hcap he
end
end Go.Proofs.YtmcmagheiijnhaaGreatDoor
