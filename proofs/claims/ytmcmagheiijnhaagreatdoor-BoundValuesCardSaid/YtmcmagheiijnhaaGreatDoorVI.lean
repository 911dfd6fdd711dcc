/- Window and Bound of both sides, by contract. -/
import Derived.Test.YtmcmagheiijnhaaGreatDoorVE
import Derived.Test.YtmcmagheiijnhaaGreatDoorVF
import Derived.Test.YtmcmagheiijnhaaGreatDoorVG
import Derived.Test.YtmcmagheiijnhaaGreatDoorVH
import Derived.Test.YtmcmagheiijnhaaGreatDoorRxI
set_option linter.all false
set_option maxRecDepth 100000
namespace Go.Proofs.YtmcmagheiijnhaaGreatDoor
open Go.RX Go.RX.Sym
open Classical

theorem allR_at {f : Nat → Bool} {a : Nat} : ∀ {n i : Nat}, allR f a n = true → a ≤ i → i < a + n → f i = true
  | 0, i, _, h1, h2 => absurd h2 (by omega)
  | n + 1, i, h, h1, h2 => by
    simp only [allR] at h
    split at h
    · rename_i h3
      by_cases e : i = a + n
      · rw [e]; exact h3
      · exact allR_at h h1 (by omega)
    · cases h
theorem win_all (σ : Sig) {n : Nat} (h : n < 64) : winB σ n = true := by
  by_cases h1 : n < 20
  · exact allR_at (win_a σ) (by omega) (by omega)
  by_cases h2 : n < 34
  · exact allR_at (win_E σ) (by omega) (by omega)
  by_cases h3 : n < 45
  · exact allR_at (win_F σ) (by omega) (by omega)
  by_cases h4 : n < 55
  · exact allR_at (win_G σ) (by omega) (by omega)
  · exact allR_at (win_H σ) (by omega) (by omega)
def bnE (nl : Bool) : IE := .bin .add .i64 (.var 51) (.bin .mul .i64 (.bin .add .i64 (match nl with | true => .lit 0 | false => .len 0) (.var 42)) (.max (.var 41) (.var 25)))
def prT {α : Type} (x bad err : DT α) : DT α := .eq (.var 33) (.lit 0) (.lt (.var 41) (.lit 1) bad (.lt (.lit 68719476736) (.var 41) bad (.lt (.var 42) (.lit 0) bad (.lt (.lit 1000000) (.var 42) bad x)))) err
def bnT (nl : Bool) : DT SV := prT (.leaf (.tuple [.sint .i64 (bnE nl), z0])) (.leaf (.tuple [z0, .int .i64 2])) (.leaf (.tuple [z0, iv 33]))
def bnArgs (nl : Bool) : List SV := cfArgs (jobS nl) ++ [.agg [iv 41, iv 42]]
theorem bnP_r (σ : Sig) : (bnT false).ok (callIs (envC σ) (fun _ => kSpl 26 false (kChk 19 false noC)) 40 7 (bnArgs false)) [] = true := by kernel_rfl
theorem bnP_n (σ : Sig) : (bnT true).ok (callIs (envC σ) (fun _ => kSpl 26 true (kChk 19 true noC)) 40 7 (bnArgs true)) [] = true := by kernel_rfl
theorem bnR_r (σ : Sig) : (bnT false).ok (callIs (envC σ) (fun _ => kSpl 53 false (kChk 22 false noC)) 40 8 (bnArgs false)) [] = true := by kernel_rfl
theorem bnR_n (σ : Sig) : (bnT true).ok (callIs (envC σ) (fun _ => kSpl 53 true (kChk 22 true noC)) 40 8 (bnArgs true)) [] = true := by kernel_rfl
def wnT : DT SV := .eq (.var 33) (.lit 0) (.leaf (.tuple [iv 52, z0])) (.leaf (.tuple [z0, iv 33]))
theorem wnR_r (σ : Sig) : wnT.ok (callIs (envC σ) (fun _ => kWin false (kChk 22 false noC)) 40 10 (cfArgs (.row 0))) [] = true := by kernel_rfl
theorem wnR_n (σ : Sig) : wnT.ok (callIs (envC σ) (fun _ => kWin true (kChk 22 true noC)) 40 10 (cfArgs .nilslice)) [] = true := by kernel_rfl
noncomputable def bndEr (c : Cfg) (g : Nat → Int) (r p : Int) : Int := if cfgE c g = 0 then if prOk r p then 0 else 2 else cfgE c g
noncomputable def bndVal (c : Cfg) (g : Nat → Int) (r p : Int) : Int := if bndEr c g r p = 0 then opVal .add .i64 (mxS c 2 c.n) (opVal .mul .i64 (opVal .add .i64 (c.n : Int) p) (max r (g 5))) else 0
noncomputable def winVal (c : Cfg) (g : Nat → Int) : Int := if cfgE c g = 0 then winV c g else 0
section
variable {c : Cfg} {W : World} {g : Nat → Int} {r p : Int}
theorem tup_vals {ρ : Ren} {x y : SV} {u : Value} (h : VRel ρ (.tuple [x, y]) u) : ∃ a b, VRel ρ x a ∧ VRel ρ y b ∧ u = .tuple #[a, b] := by
  cases h with
  | tuple q => cases q with
    | cons g1 q => cases q with
      | cons g2 q =>
        cases q
        exact ⟨_, _, g1, g2, rfl⟩
theorem bnArgs_rel {nl : Bool} {cap : Cp} (hcap : Cp.fits c.n cap) : VRels (.nil (sigD c (vN c g r p))) (bnArgs nl) [.agg (cfgV c g nl cap).toArray, .agg #[.int .i64 r, .int .i64 p]] := by
  have h : ∀ n, VRel (.nil (sigD c (vN c g r p))) (.sint .i64 (.var n)) (.int .i64 (vN c g r p n)) := fun n => VRel.sint (ρ := .nil (sigD c (vN c g r p))) .i64 (.var n)
  have hcf := vN_rel (c := c) (g := g) (r := r) (p := p) (nl := nl) hcap
  cases hcf with
  | cons h1 hn => exact .cons h1 (.cons (.agg (.cons (h 41) (.cons (h 42) .nil))) .nil)
theorem bnd_of {f spl chk : Nat} (hs : SplIs c spl) (hk : ChkIs c chk) {nl : Bool} (hok : ∀ σ, (bnT nl).ok (callIs (envC σ) (fun _ => kSpl spl nl (kChk chk nl noC)) 40 f (bnArgs nl)) [] = true) (hW : Spaces W) (hc : c.Ok W) {cap : Cp} (hnl : nl = true → c.n = 0) (hcap : Cp.fits c.n cap) :
    Calls Tryz.prog f #[.agg (cfgV c g nl cap).toArray, .agg #[.int .i64 r, .int .i64 p]] W fun e w' => e = .returned (.tuple #[.int .i64 (bndVal c g r p), .int .i64 (bndEr c g r p)]) ∧ On W w' := by
  refine fn_dtF (E := envC (sigD c (vN c g r p))) (K := fun _ => kSpl spl nl (kChk chk nl noC)) (σ := sigD c (vN c g r p)) (P := Tryz.prog) (fun _ => rfl) (fun _ => rfl) (fun F hF => ⟨numC hW hc sigD_is (noM rfl) hF, known_spl hs hc sigD_is hnl rfl (known_chk hk hc sigD_is hnl rfl (known_nothing _)), liesC hW hc sigD_is F⟩) (T := bnT nl) hnil (d := 40) (f := f) (args := bnArgs nl) (hok _) (bnArgs_rel hcap) fun ρ hsg u hu => ?_
  have v33 : (IE.var 33).val (sigD c (vN c g r p)) = cfgE c g := rfl
  have v41 : (IE.var 41).val (sigD c (vN c g r p)) = r := rfl
  have v42 : (IE.var 42).val (sigD c (vN c g r p)) = p := rfl
  have el : ∀ n, (IE.lit n).val (sigD c (vN c g r p)) = n := fun _ => rfl
  simp only [bnT, prT, DT.eval, v33, v41, v42, el] at hu
  have bad : bndEr c g r p ≠ 0 → ∀ y : Int, y = bndEr c g r p → ∀ a b, VRel ρ z0 a → b = Value.int .i64 y → Value.tuple #[a, b] = .tuple #[.int .i64 (bndVal c g r p), .int .i64 (bndEr c g r p)] := fun h y hy a b ha hb => by
    cases ha
    rw [hb, hy]
    unfold bndVal
    rw [if_neg h]
  by_cases h0 : cfgE c g = 0
  · rw [if_pos h0] at hu
    by_cases hp : prOk r p
    · rw [if_neg (by have := hp.1; omega), if_neg (by have := hp.1; omega), if_neg (by have := hp.2; omega), if_neg (by have := hp.2; omega)] at hu
      obtain ⟨a, b, h1, h2, rfl⟩ := tup_vals hu
      cases h2
      have h1 := h1.sint_inv
      have he : bndEr c g r p = 0 := by unfold bndEr; rw [if_pos h0, if_pos hp]
      have hv : (bnE nl).val ρ.sig = bndVal c g r p := by
        rw [hsg]
        unfold bndVal
        rw [if_pos he]
        cases nl with
        | true =>
          show opVal .add .i64 (mxS c 2 c.n) (opVal .mul .i64 (opVal .add .i64 0 p) (if r < g 5 then g 5 else r)) = _
          rw [max_val, hnl rfl]; rfl
        | false =>
          show opVal .add .i64 (mxS c 2 c.n) (opVal .mul .i64 (opVal .add .i64 (c.n : Int) p) (if r < g 5 then g 5 else r)) = _
          rw [max_val]
      rw [h1, hv, he]
    · have he : bndEr c g r p = 2 := by unfold bndEr; rw [if_pos h0, if_neg hp]
      have hu2 : VRel ρ (.tuple [z0, .int .i64 2]) u := by
        split at hu; · exact hu
        split at hu; · exact hu
        split at hu; · exact hu
        split at hu; · exact hu
        exact absurd ⟨⟨by omega, by omega⟩, by omega, by omega⟩ hp
      obtain ⟨a, b, h1, h2, rfl⟩ := tup_vals hu2
      cases h2
      exact bad (by rw [he]; decide) 2 he.symm _ _ h1 rfl
  · rw [if_neg h0] at hu
    have he : bndEr c g r p = cfgE c g := by unfold bndEr; rw [if_neg h0]
    obtain ⟨a, b, h1, h2, rfl⟩ := tup_vals hu
    have h2 := h2.sint_inv
    rw [hsg] at h2
    exact bad (by rw [he]; exact h0) _ he.symm _ _ h1 h2
theorem bndP_calls (hW : Spaces W) (hc : c.Ok W) {nl : Bool} {cap : Cp} (hnl : nl = true → c.n = 0) (hcap : Cp.fits c.n cap) :
    Calls Tryz.prog 7 #[.agg (cfgV c g nl cap).toArray, .agg #[.int .i64 r, .int .i64 p]] W fun e w' => e = .returned (.tuple #[.int .i64 (bndVal c g r p), .int .i64 (bndEr c g r p)]) ∧ On W w' :=
  bnd_of splP chkP (fun σ => by cases nl with | true => exact bnP_n σ | false => exact bnP_r σ) hW hc hnl hcap
theorem bndR_calls (hW : Spaces W) (hc : c.Ok W) {nl : Bool} {cap : Cp} (hnl : nl = true → c.n = 0) (hcap : Cp.fits c.n cap) :
    Calls Tryz.prog 8 #[.agg (cfgV c g nl cap).toArray, .agg #[.int .i64 r, .int .i64 p]] W fun e w' => e = .returned (.tuple #[.int .i64 (bndVal c g r p), .int .i64 (bndEr c g r p)]) ∧ On W w' :=
  bnd_of splR chkR (fun σ => by cases nl with | true => exact bnR_n σ | false => exact bnR_r σ) hW hc hnl hcap
theorem winR_calls (hW : Spaces W) (hc : c.Ok W) {nl : Bool} {cap : Cp} (hnl : nl = true → c.n = 0) (hcap : Cp.fits c.n cap) :
    Calls Tryz.prog 10 #[.agg (cfgV c g nl cap).toArray] W fun e w' => e = .returned (.tuple #[.int .i64 (winVal c g), .int .i64 (cfgE c g)]) ∧ On W w' := by
  refine fn_dtF (E := envC (sigD c (vN c g 0 0))) (K := fun _ => kWin nl (kChk 22 nl noC)) (σ := sigD c (vN c g 0 0)) (P := Tryz.prog) (fun _ => rfl) (fun _ => rfl) (fun F hF => ⟨numC hW hc sigD_is (noM rfl) hF, known_win hc sigD_is hnl rfl (known_chk chkR hc sigD_is hnl rfl (known_nothing _)), liesC hW hc sigD_is F⟩) (T := wnT) hnil (d := 40) (f := 10) (args := cfArgs (jobS nl)) (by cases nl with | true => exact wnR_n _ | false => exact wnR_r _) (vN_rel hcap) fun ρ hsg u hu => ?_
  have v33 : (IE.var 33).val (sigD c (vN c g 0 0)) = cfgE c g := rfl
  have el : (IE.lit 0).val (sigD c (vN c g 0 0)) = 0 := rfl
  simp only [wnT, DT.eval, v33, el] at hu
  by_cases h0 : cfgE c g = 0
  · rw [if_pos h0] at hu
    obtain ⟨a, b, h1, h2, rfl⟩ := tup_vals hu
    cases h2
    have h1 := h1.sint_inv
    rw [hsg] at h1
    rw [h1, h0]
    unfold winVal
    rw [if_pos h0]
    rfl
  · rw [if_neg h0] at hu
    obtain ⟨a, b, h1, h2, rfl⟩ := tup_vals hu
    cases h1
    have h2 := h2.sint_inv
    rw [hsg] at h2
    rw [h2]
    unfold winVal
    rw [if_neg h0]
    rfl
end
end Go.Proofs.YtmcmagheiijnhaaGreatDoor

/- bound.Window by contract. -/
set_option linter.all false
set_option maxRecDepth 100000
namespace Go.Proofs.YtmcmagheiijnhaaGreatDoor
open Go.RX Go.RX.Sym
open Classical

section
variable {c : Cfg} {W : World} {g : Nat → Int}
theorem selL_val {σ : Sig} (hσ : IsC c σ) {i k : Nat} : (selL i (k + 15)).val σ = (c.pol i).getD k 0 := by
  show (match σ.cell 0 (Int.toNat ((i : Nat) : Int)) (k + 15) with | .int _ n => n | _ => 0) = _
  rw [Int.toNat_natCast, hσ.cell0]
  rfl
theorem lo_val {σ : Sig} (hσ : IsC c σ) : ∀ n, (∀ i, i < n + 1 → 0 ≤ (c.pol i).getD 1 0 ∧ (c.pol i).getD 1 0 ≤ 100) → (loE (n + 1)).val σ = mnS c 1 (n + 1) ∧ (hiE (n + 1)).val σ = mxS c 1 (n + 1)
  | 0, h => by
    have h0 := h 0 (by omega)
    refine ⟨?_, ?_⟩
    · show (selL 0 16).val σ = min 100 ((c.pol 0).getD 1 0)
      rw [selL_val hσ (k := 1)]; omega
    · show (selL 0 16).val σ = max 0 ((c.pol 0).getD 1 0)
      rw [selL_val hσ (k := 1)]; omega
  | n + 1, h => by
    have ih := lo_val hσ n fun i hi => h i (by omega)
    refine ⟨?_, ?_⟩
    · show (if (selL (n + 1) 16).val σ < (loE (n + 1)).val σ then (selL (n + 1) 16).val σ else (loE (n + 1)).val σ) = min (mnS c 1 (n + 1)) ((c.pol (n + 1)).getD 1 0)
      rw [min_val, ih.1, selL_val hσ (k := 1)]
    · show (if (hiE (n + 1)).val σ < (selL (n + 1) 16).val σ then (selL (n + 1) 16).val σ else (hiE (n + 1)).val σ) = max (mxS c 1 (n + 1)) ((c.pol (n + 1)).getD 1 0)
      rw [max_val, ih.2, selL_val hσ (k := 1)]
theorem lenF_holds {σ : Sig} (hσ : IsC c σ) : ∀ n, n ≤ c.n → ∀ f ∈ lenF n, f.holds σ
  | 0, _ => hnil
  | n + 1, h => hcons (holds_lt (by rw [hσ.len]; show ((n : Nat) : Int) < (c.n : Int) ↔ _; exact ⟨fun _ => rfl, fun _ => by omega⟩)) (lenF_holds hσ n (by omega))
theorem winP_calls (hW : Spaces W) (hc : c.Ok W) {nl : Bool} {cap : Cp} (hnl : nl = true → c.n = 0) (hcap : Cp.fits c.n cap) :
    Calls Tryz.prog 9 #[.agg (cfgV c g nl cap).toArray] W fun e w' => e = .returned (.tuple #[.int .i64 (winVal c g), .int .i64 (cfgE c g)]) ∧ On W w' := by
  have hchk : ∀ {F : List Fact} {K}, Known (envC (sigD c (vN c g 0 0)) F) K → Known (envC (sigD c (vN c g 0 0)) F) (kChk 19 nl K) := fun hK => known_chk chkP hc sigD_is hnl rfl hK
  by_cases h0 : cfgE c g = 0
  · have hv : winVal c g = winV c g := by unfold winVal; rw [if_pos h0]
    have z33 : (fe (.var 33) (.lit 0) true).holds (sigD c (vN c g 0 0)) := holds_eq (by show cfgE c g = 0 ↔ _; exact ⟨fun _ => rfl, fun _ => h0⟩)
    have key : ∀ (F0 : List Fact) (e : IE), (∀ f ∈ F0, f.holds (sigD c (vN c g 0 0))) → (DT.leaf (.tuple [.sint .i64 e, z0])).ok (callIs (envC (sigD c (vN c g 0 0))) (fun _ => kSpl 26 nl (kChk 19 nl noC)) 40 9 (cfArgs (jobS nl))) F0 = true → e.val (sigD c (vN c g 0 0)) = winV c g →
        Calls Tryz.prog 9 #[.agg (cfgV c g nl cap).toArray] W fun e w' => e = .returned (.tuple #[.int .i64 (winVal c g), .int .i64 (cfgE c g)]) ∧ On W w' := fun F0 e hF hok he => by
      refine fn_dtF (E := envC (sigD c (vN c g 0 0))) (K := fun _ => kSpl 26 nl (kChk 19 nl noC)) (σ := sigD c (vN c g 0 0)) (P := Tryz.prog) (fun _ => rfl) (fun _ => rfl) (fun F hF => ⟨numC hW hc sigD_is (noM rfl) hF, known_spl splP hc sigD_is hnl rfl (hchk (known_nothing _)), liesC hW hc sigD_is F⟩) (T := .leaf (.tuple [.sint .i64 e, z0])) hF (d := 40) (f := 9) (args := cfArgs (jobS nl)) hok (vN_rel hcap) fun ρ hsg u hu => ?_
      simp only [DT.eval] at hu
      obtain ⟨a, b, h1, h2, rfl⟩ := tup_vals hu
      cases h2
      have h1 := h1.sint_inv
      rw [hsg, he] at h1
      rw [h1, hv, h0]
    have w0 : c.n = 0 → wn0.val (sigD c (vN c g 0 0)) = winV c g := fun hn => by
      unfold winV wV
      rw [if_pos hn]
      show opVal .add .i64 (opVal .add .i64 (opVal .mul .i64 0 (g 3)) (mxS c 2 c.n)) 1 = opVal .add .i64 (opVal .add .i64 (opVal .mul .i64 (opVal .sub .i64 (mxS c 1 c.n) 0) (g 3)) (mxS c 2 c.n)) 1
      rw [show mxS c 1 c.n = 0 by rw [hn]; rfl, sub00]
    cases nl with
    | true => exact key [fe (.var 33) (.lit 0) true] wn0 (hcons z33 hnil) (win_n _) (w0 (hnl rfl))
    | false =>
      obtain ⟨hn64, hpol⟩ := cfgE_zero h0
      have hend : (fl (.lit (c.n : Int)) (.len 0) false).holds (sigD c (vN c g 0 0)) := holds_lt (by rw [IsC.len (c := c) sigD_is]; show (c.n : Int) < (c.n : Int) ↔ _; exact no (by omega))
      by_cases hn : c.n = 0
      · refine key (lenN 0) wn0 (hcons z33 (hcons ?_ hnil)) (win_0 _) (w0 hn)
        have := hend
        rw [hn] at this
        exact this
      · obtain ⟨m, hm⟩ : ∃ m, c.n = m + 1 := ⟨c.n - 1, by omega⟩
        have hl := lo_val (c := c) (σ := sigD c (vN c g 0 0)) sigD_is m fun i hi => by
          obtain ⟨q, hq⟩ := polIn (hpol i (by omega))
          exact hq.prio
        refine key (lenN (m + 1)) (wnE (loE (m + 1)) (hiE (m + 1))) (hcons z33 (hcons ?_ (lenF_holds sigD_is (m + 1) (by omega)))) (win_all _ (by omega)) ?_
        · rw [hm] at hend
          exact hend
        · unfold winV wV
          rw [if_neg hn]
          show opVal .add .i64 (opVal .add .i64 (opVal .mul .i64 (opVal .sub .i64 ((hiE (m + 1)).val _) ((loE (m + 1)).val _)) (g 3)) (mxS c 2 c.n)) 1 = _
          rw [hl.1, hl.2, ← hm]
  · have n33 : ∀ f ∈ [fe (.var 33) (.lit 0) false], f.holds (sigD c (vN c g 0 0)) := hcons (holds_eq (by show cfgE c g = 0 ↔ _; exact no h0)) hnil
    refine fn_dtF (E := envC (sigD c (vN c g 0 0))) (K := fun _ => kChk 19 nl noC) (σ := sigD c (vN c g 0 0)) (P := Tryz.prog) (fun _ => rfl) (fun _ => rfl) (fun F hF => ⟨numC hW hc sigD_is (noM rfl) hF, hchk (known_nothing _), liesC hW hc sigD_is F⟩) (T := .leaf (.tuple [z0, iv 33])) n33 (d := 40) (f := 9) (args := cfArgs (jobS nl)) (by cases nl with | true => exact win_en _ | false => exact win_e _) (vN_rel hcap) fun ρ hsg u hu => ?_
    simp only [DT.eval] at hu
    obtain ⟨a, b, h1, h2, rfl⟩ := tup_vals hu
    cases h1
    have h2 := h2.sint_inv
    rw [hsg] at h2
    rw [h2]
    unfold winVal
    rw [if_neg h0]
    rfl
end
end Go.Proofs.YtmcmagheiijnhaaGreatDoor
