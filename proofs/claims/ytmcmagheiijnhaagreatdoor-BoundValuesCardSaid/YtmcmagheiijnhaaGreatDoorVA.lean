/- config.Check hands back what cfgE says. -/
import Derived.Test.YtmcmagheiijnhaaGreatDoorV9
import Derived.Test.YtmcmagheiijnhaaGreatDoorRxI
set_option linter.all false
set_option maxRecDepth 100000
namespace Go.Proofs.YtmcmagheiijnhaaGreatDoor
open Go.RX Go.RX.Sym
open Classical

def glOk (g : Nat → Int) : Prop := inR (g 0) 1 1000 ∧ inR (g 1) 1 1024 ∧ inR (g 2) 0 4096 ∧ inR (g 3) 1 68719476736 ∧ limOk (g 5) (g 6)
noncomputable def cfgE (c : Cfg) (g : Nat → Int) : Int :=
  if glOk g then if 64 < c.n then 12 else if ∀ i, i < c.n → nameOk (c.name i) then if ∀ i, i < c.n → ¬ ∃ k, k < i ∧ c.name k = c.name i then if ∀ i, i < c.n → (c.pln i).ok ∧ polS (c.pol i) then 0 else 16 else 6 else 15 else 16
/-- How the slice of the jobs ends: with a capacity; or it has no jobs and no capacity, and points anywhere. -/
inductive Cp where
  | cap (k : Nat)
  | at_ (p : Addr)
def Cp.fits (n : Nat) : Cp → Prop | .cap k => n ≤ k | .at_ _ => n = 0
def Cfg.jobV (c : Cfg) (nl : Bool) (cap : Cp) : Value := match nl with | true => .slice none 0 0 | false => match cap with | .cap k => .slice (some ⟨c.b, c.x, none⟩) c.n k | .at_ p => .slice (some p) 0 0
theorem Cfg.jobV_rel {c : Cfg} {cap : Cp} {ρ : Ren} (h : ρ.sig.row 0 = (c.b, c.x, 30, c.n)) (hc : Cp.fits c.n cap) : VRel ρ (.row 0) (c.jobV false cap) := by
  cases cap with
  | cap k => exact .row h hc
  | at_ p =>
    have hc : c.n = 0 := hc
    exact .rowE (by rw [h, hc])
theorem Cfg.jobV_of {c : Cfg} {ρ : Ren} (h : ρ.sig.row 0 = (c.b, c.x, 30, c.n)) {v : Value} (hv : VRel ρ (.row 0) v) : ∃ cap, Cp.fits c.n cap ∧ v = c.jobV false cap := by
  cases hv with
  | row h1 hc =>
    rw [h] at h1
    cases h1
    exact ⟨.cap _, hc, rfl⟩
  | rowE h1 =>
    rw [h] at h1
    simp only [Prod.mk.injEq] at h1
    exact ⟨.at_ _, h1.2.2.2, rfl⟩
def jobS : Bool → SV | true => .nilslice | false => .row 0
def cfgV (c : Cfg) (g : Nat → Int) (nl : Bool) (cap : Cp) : List Value := [.int .i64 (g 0), .int .i64 (g 1), .int .i64 (g 2), .int .i64 (g 3), .int .u64 (g 4), .int .i64 (g 5), .int .i64 (g 6), c.jobV nl cap]
/-- Numbers' texts: 20.. the globals, 5 an index. -/
noncomputable def sigC (c : Cfg) (g : Nat → Int) (i : Int) : Sig where
  var j := match j with | 0 | 1 | 2 | 3 | 4 => 0 | 5 => i | 6 | 7 | 8 | 9 | 10 | 11 | 12 | 13 | 14 | 15 | 16 | 17 | 18 | 19 => 0 | k + 20 => g k
  fn := c.fn
  row a := match a with | 0 => (c.b, c.x, 30, c.n) | a + 1 => c.loc a
  cell a := match a with | 0 => c.cell | a + 1 => fun j k => (c.pln a).sk.cell j k
  obj _ _ := False
section
variable {c : Cfg} {W : World} {g : Nat → Int}
theorem sigC_is {i : Int} : IsC c (sigC c g i) := ⟨rfl, rfl, rfl, fun _ => rfl, fun _ _ _ => rfl⟩
/-- What numbers' texts 20.. stand for. -/
def IsG (g : Nat → Int) (σ : Sig) : Prop := ∀ k, σ.var (k + 20) = g k
theorem sigC_g {i : Int} : IsG g (sigC c g i) := fun _ => rfl
theorem glT_eval {σ : Sig} (hσ : IsC c σ) (hg : IsG g σ) {x : DT SV} : (glT x).eval σ = if glOk g then x.eval σ else .int .i64 16 := by
  have e0 : (IE.var 20).val σ = g 0 := hg 0
  have e1 : (IE.var 21).val σ = g 1 := hg 1
  have e2 : (IE.var 22).val σ = g 2 := hg 2
  have e3 : (IE.var 23).val σ = g 3 := hg 3
  have e5 : (IE.fn 52 [.var 25, .var 26]).val σ = ind (limOk (g 5) (g 6)) := by
    show σ.fn 52 [σ.var 25, σ.var 26] = _
    have h5 : σ.var 25 = g 5 := hg 5
    have h6 : σ.var 26 = g 6 := hg 6
    rw [hσ.fn, h5, h6]; rfl
  have el : ∀ n, (IE.lit n).val σ = n := fun _ => rfl
  simp only [glT, ev, DT.eval, e0, e1, e2, e3, e5, el, ind_one]
  by_cases h : glOk g
  · obtain ⟨h0, h1, h2, h3, h5⟩ := id h
    rw [if_pos h, if_neg (by have := h0.1; omega), if_neg (by have := h0.2; omega), if_neg (by have := h1.1; omega), if_neg (by have := h1.2; omega), if_neg (by have := h2.1; omega), if_neg (by have := h2.2; omega), if_neg (by have := h3.1; omega), if_neg (by have := h3.2; omega), if_pos h5]
  · rw [if_neg h]
    split; · rfl
    split; · rfl
    split; · rfl
    split; · rfl
    split; · rfl
    split; · rfl
    split; · rfl
    split; · rfl
    split
    · rename_i a0 a1 a2 a3 a4 a5 a6 a7 a8
      exact absurd ⟨⟨by omega, by omega⟩, ⟨by omega, by omega⟩, ⟨by omega, by omega⟩, ⟨by omega, by omega⟩, a8⟩ h
    · rfl
theorem cfT_eval {σ : Sig} (hσ : IsC c σ) (hg : IsG g σ) {x : Int} : (cfT x).eval σ = .int .i64 (if glOk g then if 64 < c.n then 12 else x else 16) := by
  rw [cfT, glT_eval hσ hg]
  by_cases h : glOk g
  · rw [if_pos h, if_pos h]
    simp only [DT.eval, ev, hσ.len]
    have el : (IE.lit 64).val σ = 64 := rfl
    rw [el]
    by_cases hn : 64 < c.n
    · rw [if_pos hn, if_pos (by omega)]
    · rw [if_neg hn, if_neg (by omega)]
  · rw [if_neg h, if_neg h]
theorem first_bad {q : Nat → Prop} : ∀ {n : Nat}, ¬ (∀ j, j < n → q j) → ∃ i, i < n ∧ (∀ j, j < i → q j) ∧ ¬ q i
  | 0, h => absurd (fun j hj => absurd hj (Nat.not_lt_zero j)) h
  | n + 1, h => by
    by_cases h' : ∀ j, j < n → q j
    · refine ⟨n, Nat.lt_succ_self n, h', fun hq => h fun j hj => ?_⟩
      rcases Nat.lt_or_eq_of_le (Nat.le_of_lt_succ hj) with hlt | rfl
      · exact h' j hlt
      · exact hq
    · obtain ⟨i, h1, h2, h3⟩ := first_bad h'
      exact ⟨i, Nat.lt_succ_of_lt h1, h2, h3⟩
theorem known_limC {f : Nat} (hname : ∀ (vals : Array Value) w, (callFunc f vals).run Tryz.prog w = .ok (.enter f vals) w) (hcall : ∀ {W : World} {t u : Int}, Spaces W → Calls Tryz.prog f #[.agg #[.int .i64 t, .int .i64 u]] W fun e w' => e = .returned (errV (limOk t u) 16) ∧ On W w')
    {σ : Sig} (hσ : IsC c σ) {F : List Fact} (hn : NumOk (envC σ F)) {K : Nat → List SV → SW → Option (SV × SW)} (hK : Known (envC σ F) K) : Known (envC σ F) (limK (envC σ F) f K) := by
  refine known_askQ hn (p := limOk (σ.var 25) (σ.var 26)) (u := errV (limOk (σ.var 25) (σ.var 26)) 16) hname (by show σ.fn 52 [σ.var 25, σ.var 26] = _; rw [hσ.fn]; rfl)
    (fun h ρ => by unfold errV; rw [if_pos h]; exact .int .i64 0) (fun h ρ => by unfold errV; rw [if_neg h]; exact .int .i64 16) (fun ρ vals w S hr hok hvs => ?_) hK
  have h1 := (flatA_vals (n := 2) (l := [.var 25, .var 26]) rfl hvs).1
  have hr : ρ.sig = σ := hr
  rw [h1, hr]
  exact hcall (spacesC hok)
theorem cfArgs_rel {σ : Sig} (hσ : IsC c σ) (hg : IsG g σ) {nl : Bool} {cap : Cp} (hcap : Cp.fits c.n cap) : VRels (.nil σ) (cfArgs (jobS nl)) [.agg (cfgV c g nl cap).toArray] := by
  have h : ∀ k i, VRel (.nil σ) (.sint k (.var (i + 20))) (.int k (g i)) := fun k i => by
    have := VRel.sint (ρ := .nil σ) k (.var (i + 20))
    have e : (IE.var (i + 20)).val (Ren.nil σ).sig = g i := hg i
    rw [e] at this
    exact this
  have hj : VRel (.nil σ) (jobS nl) (c.jobV nl cap) := by
    cases nl with
    | true => exact .nilslice
    | false => exact Cfg.jobV_rel (ρ := .nil σ) hσ.row0 hcap
  exact .cons (.agg (.cons (h _ 0) (.cons (h _ 1) (.cons (h _ 2) (.cons (h _ 3) (.cons (h _ 4) (.cons (h _ 5) (.cons (h _ 6) (.cons hj .nil))))))))) .nil
theorem noM {σ : Sig} (ho : σ.obj = fun _ _ => False) : MapC c σ := fun ob h => by rw [ho] at h; cases h
theorem upA : updOk ⟨heapOf (ob1 72 15), 8, 0⟩ [] = true := by kernel_rfl
theorem kpA : keptOk ⟨heapOf (ob1 72 15), 8, 0⟩ [] (ob1 72 15) = true := by kernel_rfl
theorem upC : updOk ⟨heapOf (ob1 75 16), 8, 0⟩ [] = true := by kernel_rfl
theorem kpC : keptOk ⟨heapOf (ob1 75 16), 8, 0⟩ [] (ob1 75 16) = true := by kernel_rfl
theorem upB : updOk ⟨heapOf ob2r, 8, 0⟩ [(1, none), (2, none)] = true := by kernel_rfl
theorem kpB : keptOk ⟨heapOf ob2r, 8, 0⟩ [(1, none), (2, none)] (ob2 (.map [] 0)) = true := by kernel_rfl
theorem none5 {q : Nat → Prop} (h : ∀ j, j < c.n → q j) {i : Int} : (∀ j, j < c.n → q j) → no5 = .int .i64 (-1) := fun _ => rfl
theorem cfgP_calls (hW : Spaces W) (hc : c.Ok W) {nl : Bool} {cap : Cp} (hnl : nl = true → c.n = 0) (hcap : Cp.fits c.n cap) : Calls Tryz.prog 19 #[.agg (cfgV c g nl cap).toArray] W fun e w' => e = .returned (.int .i64 (cfgE c g)) ∧ On W w' := by
  have num : ∀ {i : Int} {F : List Fact}, (∀ f ∈ F, f.holds (sigC c g i)) → NumOk (envC (sigC c g i) F) := fun {i F} hF => numC hW hc sigC_is (noM rfl) hF
  have lim : ∀ {i : Int} {F : List Fact}, (∀ f ∈ F, f.holds (sigC c g i)) → Known (envC (sigC c g i) F) (limK (envC (sigC c g i) F) 71 noC) := fun hF => known_limC name_LIMP (fun h => limP_calls h) sigC_is (num hF) (known_nothing _)
  have h5 : ∀ i : Nat, ∀ f ∈ nv5, f.holds (sigC c g (i : Int)) := fun i => hcons (holds_lt (by show ((i : Nat) : Int) < 0 ↔ _; exact no (by omega))) hnil
  have fin : ∀ {i x : Int} {ρ : Ren}, ρ.sig = sigC c g i → ∀ u, VRel ρ ((cfT x).eval (sigC c g i)) u → x = (if ∀ i, i < c.n → nameOk (c.name i) then if ∀ i, i < c.n → ¬ ∃ k, k < i ∧ c.name k = c.name i then if ∀ i, i < c.n → (c.pln i).ok ∧ polS (c.pol i) then 0 else 16 else 6 else 15) → u = .int .i64 (cfgE c g) := fun {i x ρ} hs u hu hx => by
    rw [cfT_eval sigC_is sigC_g, hx] at hu
    cases hu
    rfl
  cases nl with
  | true =>
    have h0 := hnl rfl
    refine fn_dtF (E := envC (sigC c g 0)) (K := fun F => limK (envC (sigC c g 0) F) 71 noC) (σ := sigC c g 0) (P := Tryz.prog) (fun _ => rfl) (fun _ => rfl) (fun F hF => ⟨num hF, lim hF, liesC hW hc sigC_is F⟩) (T := glT (ev 0)) hnil (d := 40) (f := 19) (args := cfArgs .nilslice) (cfN_ok _) (cfArgs_rel (nl := true) sigC_is sigC_g hcap) fun ρ hs u hu => ?_
    rw [glT_eval sigC_is sigC_g] at hu
    have e : cfgE c g = if glOk g then 0 else 16 := by
      unfold cfgE
      rw [if_neg (by omega : ¬ 64 < c.n), if_pos (fun i hi => absurd hi (by omega)), if_pos (fun i hi => absurd hi (by omega)), if_pos (fun i hi => absurd hi (by omega))]
    rw [e]
    split at hu
    · cases hu; rename_i h; rw [if_pos h]
    · cases hu; rename_i h; rw [if_neg h]
  | false =>
    have calA := fun (i : Int) (F : List Fact) (x : SV) => idx_calls (ruleA_T c) (W := W) hc (σ0 := sigC c g i) sigC_is rfl rfl (F := F) (x := x)
    have calB := fun (i : Int) (F : List Fact) (x : SV) => idx_calls (ruleB_T c) (W := W) hc (σ0 := sigC c g i) sigC_is rfl rfl (F := F) (x := x)
    have calC := fun (i : Int) (F : List Fact) (x : SV) => idx_calls (ruleC_T c) (W := W) hc (σ0 := sigC c g i) sigC_is rfl rfl (F := F) (x := x)
    have kan : ∀ (i : Int) (F : List Fact) K, (∀ i, i < c.n → nameOk (c.name i)) → Known (envC (sigC c g i) F) K → Known (envC (sigC c g i) F) (kA no5 K) := fun i F K h hK => known_memo (calA i F no5 (fun _ => rfl) fun i hi _ hq => absurd (h i hi) hq) upA kpA hK
    have kbn : ∀ (i : Int) (F : List Fact) K, (∀ i, i < c.n → ¬ ∃ k, k < i ∧ c.name k = c.name i) → Known (envC (sigC c g i) F) K → Known (envC (sigC c g i) F) (kB no5 K) := fun i F K h hK => known_memo (calB i F no5 (fun _ => rfl) fun i hi _ hq => absurd (h i hi) hq) upB kpB hK
    have kcn : ∀ (i : Int) (F : List Fact) K, (∀ i, i < c.n → (c.pln i).ok ∧ polS (c.pol i)) → Known (envC (sigC c g i) F) K → Known (envC (sigC c g i) F) (kC no5 K) := fun i F K h hK => known_memo (calC i F no5 (fun _ => rfl) fun i hi _ hq => absurd (h i hi) hq) upC kpC hK
    have uniq : ∀ {q : Nat → Prop} {i j : Nat}, (∀ m, m < i → q m) → ¬ q i → (∀ m, m < j → q m) → ¬ q j → i = j := fun {q i j} h1 h2 h3 h4 => by
      rcases Nat.lt_trichotomy i j with h | h | h
      · exact absurd (h3 i h) h2
      · exact h
      · exact absurd (h1 j h) h4
    by_cases hA : ∀ i, i < c.n → nameOk (c.name i)
    · by_cases hB : ∀ i, i < c.n → ¬ ∃ k, k < i ∧ c.name k = c.name i
      · by_cases hC : ∀ i, i < c.n → (c.pln i).ok ∧ polS (c.pol i)
        · exact fn_dtF (E := envC (sigC c g 0)) (K := fun F => kA no5 (kB no5 (kC no5 (limK (envC (sigC c g 0) F) 71 noC)))) (σ := sigC c g 0) (P := Tryz.prog) (fun _ => rfl) (fun _ => rfl) (fun F hF => ⟨num hF, kan 0 F _ hA (kbn 0 F _ hB (kcn 0 F _ hC (lim hF))), liesC hW hc sigC_is F⟩) (T := cfT 0) hnil (d := 40) (f := 19) (args := cfArgs (.row 0)) (cfO_ok _) (cfArgs_rel (nl := false) sigC_is sigC_g hcap) fun ρ hs u hu =>
            fin hs u hu (by rw [if_pos hA, if_pos hB, if_pos hC])
        · obtain ⟨i, hi, hq, hni⟩ := first_bad hC
          exact fn_dtF (E := envC (sigC c g i)) (K := fun F => kA no5 (kB no5 (kC at5 (limK (envC (sigC c g i) F) 71 noC)))) (σ := sigC c g i) (P := Tryz.prog) (fun _ => rfl) (fun _ => rfl) (fun F hF => ⟨num hF, kan i F _ hA (kbn i F _ hB (known_memo (calC i F at5 (fun h => absurd h hC) fun j hj h1 h2 => ⟨rfl, congrArg Int.ofNat (uniq hq hni h1 h2)⟩) upC kpC (lim hF))), liesC hW hc sigC_is F⟩) (T := cfT 16) (h5 i) (d := 40) (f := 19) (args := cfArgs (.row 0)) (cfC_ok _) (cfArgs_rel (nl := false) sigC_is sigC_g hcap) fun ρ hs u hu =>
            fin hs u hu (by rw [if_pos hA, if_pos hB, if_neg hC])
      · obtain ⟨i, hi, hq, hni⟩ := first_bad hB
        exact fn_dtF (E := envC (sigC c g i)) (K := fun F => kA no5 (kB at5 (limK (envC (sigC c g i) F) 71 noC))) (σ := sigC c g i) (P := Tryz.prog) (fun _ => rfl) (fun _ => rfl) (fun F hF => ⟨num hF, kan i F _ hA (known_memo (calB i F at5 (fun h => absurd h hB) fun j hj h1 h2 => ⟨rfl, congrArg Int.ofNat (uniq (q := fun i => ¬ ∃ k, k < i ∧ c.name k = c.name i) hq hni h1 h2)⟩) upB kpB (lim hF)), liesC hW hc sigC_is F⟩) (T := cfT 6) (h5 i) (d := 40) (f := 19) (args := cfArgs (.row 0)) (cfB_ok _) (cfArgs_rel (nl := false) sigC_is sigC_g hcap) fun ρ hs u hu =>
          fin hs u hu (by rw [if_pos hA, if_neg hB])
    · obtain ⟨i, hi, hq, hni⟩ := first_bad hA
      exact fn_dtF (E := envC (sigC c g i)) (K := fun F => kA at5 (limK (envC (sigC c g i) F) 71 noC)) (σ := sigC c g i) (P := Tryz.prog) (fun _ => rfl) (fun _ => rfl) (fun F hF => ⟨num hF, known_memo (calA i F at5 (fun h => absurd h hA) fun j hj h1 h2 => ⟨rfl, congrArg Int.ofNat (uniq hq hni h1 h2)⟩) upA kpA (lim hF), liesC hW hc sigC_is F⟩) (T := cfT 15) (h5 i) (d := 40) (f := 19) (args := cfArgs (.row 0)) (cfA_ok _) (cfArgs_rel (nl := false) sigC_is sigC_g hcap) fun ρ hs u hu =>
        fin hs u hu (by rw [if_neg hA])
end
end Go.Proofs.YtmcmagheiijnhaaGreatDoor

/- wakemanref16.Check: its pieces. -/
set_option linter.all false
set_option maxRecDepth 100000
namespace Go.Proofs.YtmcmagheiijnhaaGreatDoor
open Go.RX Go.RX.Sym
open Classical

noncomputable def bd22 : Code := match Tryz.f22.body with | some c => c | none => .skip
theorem bd22_is : Tryz.f22.body = some bd22 := by kernel_rfl
theorem nt22 : Tryz.f22.ntmps = 80 := by kernel_rfl
def sl22 : List Nat := [79, 59, 54, 39, 34, 29, 19, 14, 10, 6, 5, 4, 3, 2, 1, 0]
noncomputable def c8 : Code := inC [8] bd22
noncomputable def c82 : Code := inC [8, 2] bd22
theorem lp22_6 : (flatC bd22).drop 6 = .block 0 (.loop (inC [6] bd22)) :: (flatC bd22).drop 7 := by kernel_rfl
theorem lp22_8 : (flatC bd22).drop 8 = .block 2 (.loop c8) :: (flatC bd22).drop 9 := by kernel_rfl
theorem lp22_82 : (flatC c8).drop 2 = .block 3 c82 :: (flatC c8).drop 3 := by kernel_rfl
theorem lp22_821 : (flatC c82).drop 1 = .block 4 (.loop (inC [8, 2, 1] bd22)) :: [] := by kernel_rfl
theorem lp22_83 : ((flatC c8).drop 3).drop 1 = [] := by kernel_rfl
theorem lp22_10 : (flatC bd22).drop 10 = .block 6 (.loop (inC [10] bd22)) :: (flatC bd22).drop 11 := by kernel_rfl
def CC : SObj := .cells [iv 20, iv 21, iv 22, iv 23, .sint .u64 (.var 24), iv 25, iv 26, .row 0] 60
def oC : List (Nat × SObj) := [(0, CC)]
def fr22 (l : List (Nat × SV)) : List SV := frN sl22 ((1, .ptr 0 0) :: l)
def rt22 (n : Int) : List SV := frN sl22 [(2, .int .i64 n)]
def rl (n : Int) : Lf := ⟨1, rt22 n, [], 2⟩
def glD {α : Type} (x r : DT α) : DT α := .lt (.var 20) (.lit 1) r (.lt (.lit 1000) (.var 20) r (.lt (.var 21) (.lit 1) r (.lt (.lit 1024) (.var 21) r (.lt (.var 22) (.lit 0) r (.lt (.lit 4096) (.var 22) r (.lt (.var 23) (.lit 1) r (.lt (.lit 68719476736) (.var 23) r
  (.eq (.fn 52 [.var 25, .var 26]) (.lit 1) x r))))))))
def aF (t : Nat) (x : SV) : Lf := ⟨0, fr22 [(t, x)], oC, 2⟩
def i1 : SV := iv 1
def i1' : SV := .sint .i64 (.bin .add .i64 (.var 1) (.lit 1))
def t22a : DT Lf := glD (.lt (.lit 64) (.len 0) (.leaf (rl 12)) (.leaf (aF 3 (.int .i64 0)))) (.leaf (rl 16))
theorem t22a_ok (σ : Sig) : t22a.ok (pieceIs (envC σ) (fun F => limK (envC σ F) 79 noC) 40 80 sl22 ((flatC bd22).take 6) (cutSt (frameOf (cfArgs (.row 0)) sl22) [] 0)) [] = true := by kernel_rfl
theorem t22n_ok (σ : Sig) : (glT (ev 0)).ok (callIs (envC σ) (fun F => limK (envC σ F) 79 noC) 40 22 (cfArgs .nilslice)) [] = true := by kernel_rfl
def agL (t : Nat) : Lp := ⟨true, ⟨0, fr22 [(t, i1')], oC, 2⟩, [(1, .bin .add .i64 (.var 1) (.lit 1))]⟩
def reL (n : Int) : Lp := ⟨false, rl n, []⟩
def ouL (h : Nat) : Lp := ⟨false, ⟨h, fr22 [], oC, 2⟩, []⟩
def askP (f : Nat) (y n : DT Lp) : DT Lp := .eq (.fn f [.var 1]) (.lit 1) y n
def t22b : DT Lp := .lt (.var 1) (.len 0) (askP 60 (.leaf (agL 3)) (.leaf (reL 15))) (.leaf (ouL 2))
theorem t22b_ok (σ : Sig) : t22b.ok (lpIs (fun F => envC σ F) (fun F => jobK (envC σ F)) 40 80 sl22 (inC [6] bd22) (fr22 [(3, i1)]) oC 2 [0]) nneg = true := by kernel_rfl
def z22 (t : Nat) : DT Lf := .leaf (aF t (.int .i64 0))
theorem t22c_ok (σ : Sig) : (z22 4).ok (pieceIs (fun F => envC σ F) (fun _ => noC) 40 80 sl22 (((flatC bd22).drop 7).take 1) (cutSt (fr22 []) oC 2)) [] = true := by kernel_rfl
def t22d : DT Lf := .lt (.var 1) (.len 0) (.leaf ⟨0, fr22 [(4, i1)], oC, 2⟩) (.leaf ⟨4, fr22 [], oC, 2⟩)
theorem t22d_ok (σ : Sig) : t22d.ok (pieceIs (fun F => envC σ F) (fun _ => noC) 40 80 sl22 ((flatC c8).take 2) (cutSt (fr22 [(4, i1)]) oC 2)) [] = true := by kernel_rfl
def t22e : DT Lf := .leaf ⟨0, fr22 [(5, .int .i64 0), (4, i1)], oC, 2⟩
theorem t22e_ok (σ : Sig) : t22e.ok (pieceIs (fun F => envC σ F) (fun _ => noC) 40 80 sl22 ((flatC c82).take 1) (cutSt (fr22 [(4, i1)]) oC 2)) [] = true := by kernel_rfl
def t22f : DT Lp := .lt (.var 2) (.var 1) (.eq (.fn 90 [.var 1, .var 2]) (.lit 1) (.leaf (reL 6)) (.leaf ⟨true, ⟨0, fr22 [(5, .sint .i64 (.bin .add .i64 (.var 2) (.lit 1))), (4, i1)], oC, 2⟩, [(2, .bin .add .i64 (.var 2) (.lit 1))]⟩)) (.leaf ⟨false, ⟨6, fr22 [(4, i1)], oC, 2⟩, []⟩)
abbrev in22 : List Fact := [⟨true, .var 1, .lit 0, false⟩, ⟨true, .var 2, .lit 0, false⟩, ⟨true, .var 1, .len 0, true⟩, ⟨true, .var 2, .len 0, true⟩]
theorem t22f_ok (σ : Sig) : t22f.ok (lpIs (fun F => envC σ F) (fun _ => noC) 40 80 sl22 (inC [8, 2, 1] bd22) (fr22 [(5, iv 2), (4, i1)]) oC 2 [0]) in22 = true := by kernel_rfl
def t22g : DT Lf := .leaf ⟨0, fr22 [(4, i1')], oC, 2⟩
theorem t22g_ok (σ : Sig) : t22g.ok (pieceIs (fun F => envC σ F) (fun _ => noC) 40 80 sl22 (((flatC c8).drop 3).take 1) (cutSt (fr22 [(4, i1)]) oC 2)) [] = true := by kernel_rfl
theorem t22h_ok (σ : Sig) : (z22 6).ok (pieceIs (fun F => envC σ F) (fun _ => noC) 40 80 sl22 (((flatC bd22).drop 9).take 1) (cutSt (fr22 []) oC 2)) [] = true := by kernel_rfl
def t22i : DT Lp := .lt (.var 1) (.len 0) (askP 61 (askP 62 (.leaf (agL 6)) (.leaf (reL 16))) (.leaf (reL 16))) (.leaf (ouL 8))
theorem t22i_ok (σ : Sig) : t22i.ok (lpIs (fun F => envC σ F) (fun F => jobK (envC σ F)) 40 80 sl22 (inC [10] bd22) (fr22 [(6, i1)]) oC 2 [0]) nneg = true := by kernel_rfl
def t22z : DT Lf := .leaf (rl 0)
theorem t22z_ok (σ : Sig) : t22z.ok (pieceIs (fun F => envC σ F) (fun _ => noC) 40 80 sl22 (((flatC bd22).drop 11).take 2) (cutSt (fr22 []) oC 2)) [] = true := by kernel_rfl
theorem r22 (σ : Sig) : ∀ n ∈ ([0, 6, 12, 15, 16] : List Int), leftOk (.int .i64 n) [] 2 (envC σ []) sl22 Tryz.f22.results.toList (cutSt (rt22 n) [] 2) = true := fun n hn => by
  simp only [List.mem_cons, List.not_mem_nil, or_false] at hn
  rcases hn with rfl | rfl | rfl | rfl | rfl <;> kernel_rfl
theorem see22 (t : Nat) (h : t = 3 ∨ t = 4 ∨ t = 6) : seeAll [0] [(1, .lit 0)] 2 (fr22 [(t, i1)]) (fr22 [(t, .int .i64 0)]) oC oC = true := by
  rcases h with rfl | rfl | rfl <;> kernel_rfl
theorem see22i : seeAll [0] [(2, .lit 0)] 2 (fr22 [(5, iv 2), (4, i1)]) (fr22 [(5, .int .i64 0), (4, i1)]) oC oC = true := by kernel_rfl
theorem see22o : seeAll [0] [(1, .bin .add .i64 (.var 1) (.lit 1))] 2 (fr22 [(4, i1)]) (fr22 [(4, i1')]) oC oC = true := by kernel_rfl
end Go.Proofs.YtmcmagheiijnhaaGreatDoor

/- wakemanref16.Check hands back what cfgE says. -/
set_option linter.all false
set_option maxRecDepth 100000
namespace Go.Proofs.YtmcmagheiijnhaaGreatDoor
open Go.RX Go.RX.Sym
open Classical

section
variable {c : Cfg} {W : World} {g : Nat → Int}
theorem glD_eval {α : Type} {σ : Sig} (hσ : IsC c σ) (hg : IsG g σ) {x r : DT α} : (glD x r).eval σ = if glOk g then x.eval σ else r.eval σ := by
  have e0 : (IE.var 20).val σ = g 0 := hg 0
  have e1 : (IE.var 21).val σ = g 1 := hg 1
  have e2 : (IE.var 22).val σ = g 2 := hg 2
  have e3 : (IE.var 23).val σ = g 3 := hg 3
  have e5 : (IE.fn 52 [.var 25, .var 26]).val σ = ind (limOk (g 5) (g 6)) := by
    show σ.fn 52 [σ.var 25, σ.var 26] = _
    have h5 : σ.var 25 = g 5 := hg 5
    have h6 : σ.var 26 = g 6 := hg 6
    rw [hσ.fn, h5, h6]; rfl
  have el : ∀ n, (IE.lit n).val σ = n := fun _ => rfl
  simp only [glD, DT.eval, e0, e1, e2, e3, e5, el, ind_one]
  by_cases h : glOk g
  · obtain ⟨h0, h1, h2, h3, h5⟩ := id h
    rw [if_pos h, if_neg (by have := h0.1; omega), if_neg (by have := h0.2; omega), if_neg (by have := h1.1; omega), if_neg (by have := h1.2; omega), if_neg (by have := h2.1; omega), if_neg (by have := h2.2; omega), if_neg (by have := h3.1; omega), if_neg (by have := h3.2; omega), if_pos h5]
  · rw [if_neg h]
    split; · rfl
    split; · rfl
    split; · rfl
    split; · rfl
    split; · rfl
    split; · rfl
    split; · rfl
    split; · rfl
    split
    · rename_i a0 a1 a2 a3 a4 a5 a6 a7 a8
      exact absurd ⟨⟨by omega, by omega⟩, ⟨by omega, by omega⟩, ⟨by omega, by omega⟩, ⟨by omega, by omega⟩, a8⟩ h
    · rfl
/-- Among the jobs: all before this one keep to it. -/
structure JR (c : Cfg) (q : Nat → Prop) (σ : Sig) (k : Nat) : Prop where
  is : IsC c σ
  obj : σ.obj = fun _ _ => False
  at_ : ∃ i : Nat, σ.var 1 = i ∧ i + k = c.n ∧ ∀ j, j < i → q j
theorem JR.nonneg {q : Nat → Prop} {σ : Sig} {k : Nat} (h : JR c q σ k) : ∀ f ∈ nneg, f.holds σ := by
  obtain ⟨i, hv, -⟩ := h.at_
  exact hcons (holds_lt (by simp only [IE.val, hv]; exact no (by omega))) hnil
structure JM (c : Cfg) (q : Nat → Prop) (i : Nat) (σ : Sig) (k : Nat) : Prop where
  is : IsC c σ
  obj : σ.obj = fun _ _ => False
  v1 : σ.var 1 = i
  lt : i < c.n
  at_ : ∃ m : Nat, σ.var 2 = m ∧ m + k = i ∧ (∀ j, j < i → q j) ∧ ∀ j, j < m → c.name j ≠ c.name i
abbrev qDup (c : Cfg) (i : Nat) : Prop := ¬ ∃ k, k < i ∧ c.name k = c.name i
theorem add1' {i : Nat} {n : Nat} (h : i < n) (hn : n ≤ 127) : opVal .add .i64 (i : Int) 1 = ((i + 1 : Nat) : Int) := add1 h (by omega)
theorem cfgR_calls (hW : Spaces W) (hc : c.Ok W) {nl : Bool} {cap : Cp} (hnl : nl = true → c.n = 0) (hcap : Cp.fits c.n cap) : Calls Tryz.prog 22 #[.agg (cfgV c g nl cap).toArray] W fun e w' => e = .returned (.int .i64 (cfgE c g)) ∧ On W w' := by
  cases nl with
  | true =>
    have h0 := hnl rfl
    have num : ∀ {F : List Fact}, (∀ f ∈ F, f.holds (sigC c g 0)) → NumOk (envC (sigC c g 0) F) := fun {F} hF => numC hW hc sigC_is (noM rfl) hF
    have lim : ∀ {F : List Fact}, (∀ f ∈ F, f.holds (sigC c g 0)) → Known (envC (sigC c g 0) F) (limK (envC (sigC c g 0) F) 79 noC) := fun hF => known_limC name_LIMR (fun h => limR_calls h) sigC_is (num hF) (known_nothing _)
    refine fn_dtF (E := envC (sigC c g 0)) (K := fun F => limK (envC (sigC c g 0) F) 79 noC) (σ := sigC c g 0) (P := Tryz.prog) (fun _ => rfl) (fun _ => rfl) (fun F hF => ⟨num hF, lim hF, liesC hW hc sigC_is F⟩) (T := glT (ev 0)) hnil (d := 40) (f := 22) (args := cfArgs .nilslice) (t22n_ok _) (cfArgs_rel (nl := true) sigC_is sigC_g hcap) fun ρ hs u hu => ?_
    rw [glT_eval sigC_is sigC_g] at hu
    have e : cfgE c g = if glOk g then 0 else 16 := by
      unfold cfgE
      rw [if_neg (by omega : ¬ 64 < c.n), if_pos (fun i hi => absurd hi (by omega)), if_pos (fun i hi => absurd hi (by omega)), if_pos (fun i hi => absurd hi (by omega))]
    rw [e]
    split at hu
    · cases hu; rename_i h; rw [if_pos h]
    · cases hu; rename_i h; rw [if_neg h]
  | false =>
    have few := hc.few
    have hE : ∀ {σ : Sig} {i : Nat}, IsC c σ → σ.obj = (fun _ _ => False) → σ.var 1 = i → i ≤ 127 → ∀ F, (∀ f ∈ F, f.holds σ) → NumOk (envC σ F) ∧ Known (envC σ F) (jobK (envC σ F)) ∧ Lies (envC σ F) W := fun {σ i} hs ho hv hi F hF =>
      ⟨numC hW hc hs (noM ho) hF, known_job hW hc hs (noM ho) hv hi hF, liesC hW hc hs F⟩
    have hE0 : ∀ {σ : Sig}, IsC c σ → σ.obj = (fun _ _ => False) → ∀ F, (∀ f ∈ F, f.holds σ) → NumOk (envC σ F) ∧ Known (envC σ F) noC ∧ Lies (envC σ F) W := fun {σ} hs ho F hF =>
      ⟨numC hW hc hs (noM ho) hF, known_nothing _, liesC hW hc hs F⟩
    have done : ∀ {σ : Sig} {n : Int}, IsC c σ → σ.obj = (fun _ _ => False) → n ∈ ([0, 6, 12, 15, 16] : List Int) → n = cfgE c g → ∀ a' w', AtT σ 80 sl22 (rt22 n) [] 2 W a' w' → bodyPostM Fence.wide 0 Tryz.prog Tryz.f22 (fun e w' => e = .returned (.int .i64 (cfgE c g)) ∧ On W w') .ret a' w' := fun {σ n} hs ho hm hn a' w' h' => by
      refine tmpl_leaves (E := envC σ []) (numC hW hc hs (noM ho) hnil) (r22 σ n hm) h' (liesC hW hc hs []) fun u w' hl => ?_
      obtain ⟨rfl, o⟩ := left_int hl
      rw [hn]
      exact ⟨rfl, o⟩
    have hσ0 : IsC c (sigC c g 0) := sigC_is
    have hg0 : IsG g (sigC c g 0) := sigC_g
    have ho0 : (sigC c g 0).obj = fun _ _ => False := rfl
    have hrel := cfArgs_rel (nl := false) hσ0 hg0 hcap
    generalize sigC c g 0 = σ at hσ0 hg0 ho0 hrel
    refine tmpl_begin (E := envC σ []) (f := 22) (fn := Tryz.f22) (body := bd22) Tryz.func22 bd22_is sl22 (args := cfArgs (.row 0)) (vals := [.agg (cfgV c g false cap).toArray]) hrel (by rw [nt22]; decide) fun a hA => wpL_whole ?_
    rw [nt22] at hA
    refine walk_take 6 (E := fun F => envC σ F) (K := fun F => limK (envC σ F) 79 noC) (fun _ => rfl) (fun _ => rfl) (fun F hF => ⟨numC hW hc hσ0 (noM ho0) hF, known_limC name_LIMR (fun h => limR_calls h) hσ0 (numC hW hc hσ0 (noM ho0) hF) (known_nothing _), liesC hW hc hσ0 F⟩) (t22a_ok σ) hnil hA fun l hl a1 w1 h1 => ?_
    rw [t22a, glD_eval hσ0 hg0] at hl
    by_cases hgl : glOk g
    · rw [if_pos hgl] at hl
      have el : (IE.lit 64).val σ = 64 := rfl
      simp only [DT.eval, hσ0.len, el] at hl
      by_cases hn : 64 < c.n
      · rw [if_pos (by omega)] at hl
        subst hl
        exact done hσ0 ho0 (by simp) (by unfold cfgE; rw [if_pos hgl, if_pos hn]) _ _ h1
      · rw [if_neg (by omega)] at hl
        subst hl
        have hE2 : cfgE c g = if ∀ i, i < c.n → nameOk (c.name i) then if ∀ i, i < c.n → ¬ ∃ k, k < i ∧ c.name k = c.name i then if ∀ i, i < c.n → (c.pln i).ok ∧ polS (c.pol i) then 0 else 16 else 6 else 15 := by
          unfold cfgE; rw [if_pos hgl, if_neg hn]
        show wpL _ _ ((flatC bd22).drop 6) _ _ _
        rw [lp22_6]
        refine loop_dt (E := fun σ F => envC σ F) (K := fun σ F => jobK (envC σ F)) (fun _ _ => rfl) (fun _ _ => rfl) (JR c fun i => nameOk (c.name i)) (fun σ k h => by obtain ⟨i, hv, hk, -⟩ := h.at_; exact hE h.is h.obj hv (by omega)) t22b_ok (fun σ k h => h.nonneg) (σ0 := σ.puts [(1, .lit 0)]) (N := c.n) ⟨hσ0.puts _, ho0, 0, rfl, by omega, fun j hj => by omega⟩ (h1.sub (σ.puts_is _ [0]) (see22 3 (.inl rfl))) fun σ k p hJ hp => ?_
        obtain ⟨i, hv, hk, hq⟩ := hJ.at_
        have ev1 : (IE.var 1).val σ = i := hv
        have e60 : (IE.fn 60 [.var 1]).val σ = ind (nameOk (c.name i)) := by show σ.fn 60 [σ.var 1] = _; rw [hJ.is.fn, hv]; rfl
        have l1 : (IE.lit 1).val σ = 1 := rfl
        simp only [t22b, askP, DT.eval, ev1, e60, l1, hJ.is.len, ind_one] at hp
        by_cases hi : i < c.n
        · rw [if_pos (by omega)] at hp
          by_cases hqi : nameOk (c.name i)
          · rw [if_pos hqi] at hp
            subst hp
            obtain ⟨k, rfl⟩ : ∃ j, k = j + 1 := ⟨k - 1, by omega⟩
            refine ⟨k, by omega, hJ.is.puts _, hJ.obj, i + 1, ?_, by omega, fun j hj => ?_⟩
            · show opVal .add .i64 (σ.var 1) 1 = _
              rw [hv]; exact add1' hi few
            · rcases Nat.lt_or_eq_of_le (Nat.le_of_lt_succ hj) with h | h
              · exact hq j h
              · rw [h]; exact hqi
          · rw [if_neg hqi] at hp
            subst hp
            exact fun a' w' h' => done hJ.is hJ.obj (by simp) (by rw [hE2, if_neg fun h => hqi (h i hi)]) a' w' h'
        rw [if_neg (by omega)] at hp
        subst hp
        have hA1 : ∀ i, i < c.n → nameOk (c.name i) := fun j hj => hq j (by omega)
        rw [if_pos hA1] at hE2
        intro a2 w2 h2
        show wpL _ _ ((flatC bd22).drop 7) _ _ _
        have hJis := hJ.is
        have hJobj := hJ.obj
        clear hJ hv hk hq ev1 e60 l1 hi
        refine walk_take 1 (E := fun F => envC σ F) (K := fun _ => noC) (fun _ => rfl) (fun _ => rfl) (hE0 hJis hJobj) (t22c_ok σ) hnil h2 fun l hl a3 w3 h3 => ?_
        simp only [z22, DT.eval] at hl
        subst hl
        show wpL _ _ ((flatC bd22).drop 8) _ _ _
        rw [lp22_8]
        -- no name twice
        refine wpIn_block (wpIn_loop_n (J := fun k a w => ∃ σ, JR c (qDup c) σ k ∧ AtT σ 80 sl22 (fr22 [(4, i1)]) oC 2 W a w) (N := c.n) ⟨σ.puts [(1, .lit 0)], ⟨hJis.puts _, hJobj, 0, rfl, by omega, fun j hj => by omega⟩, h3.sub (σ.puts_is _ [0]) (see22 4 (.inr (.inl rfl)))⟩ ?_)
        rintro k a4 w4 ⟨σ, hJ, h4⟩
        obtain ⟨i, hv, hk, hq⟩ := hJ.at_
        refine wpL_whole (walk_take 2 (E := fun F => envC σ F) (K := fun _ => noC) (fun _ => rfl) (fun _ => rfl) (hE0 hJ.is hJ.obj) (t22d_ok σ) hnil h4 fun l hl a5 w5 h5 => ?_)
        have ev1 : (IE.var 1).val σ = i := hv
        simp only [t22d, DT.eval, ev1, hJ.is.len] at hl
        by_cases hi : i < c.n
        · rw [if_pos (by omega)] at hl
          subst hl
          show wpL _ _ ((flatC c8).drop 2) _ _ _
          rw [lp22_82]
          refine wpIn_block (wpL_whole (walk_take 1 (E := fun F => envC σ F) (K := fun _ => noC) (fun _ => rfl) (fun _ => rfl) (hE0 hJ.is hJ.obj) (t22e_ok σ) hnil h5 fun l hl a6 w6 h6 => ?_))
          simp only [t22e, DT.eval] at hl
          subst hl
          show wpL _ _ ((flatC c82).drop 1) _ _ _
          rw [lp22_821]
          refine loop_dt (E := fun σ F => envC σ F) (K := fun σ F => noC) (fun _ _ => rfl) (fun _ _ => rfl) (JM c (qDup c) i) (fun σ k h => hE0 h.is h.obj) t22f_ok (fun σ k h => by
            obtain ⟨m, hv2, hm, -, -⟩ := h.at_
            have hlt := h.lt
            exact hcons (holds_lt (by simp only [IE.val, h.v1]; exact no (by omega))) (hcons (holds_lt (by simp only [IE.val, hv2]; exact no (by omega))) (hcons (holds_lt (by rw [h.is.len]; simp only [IE.val, h.v1]; exact ⟨fun _ => trivial, fun _ => (by omega)⟩)) (hcons (holds_lt (by rw [h.is.len]; simp only [IE.val, hv2]; exact ⟨fun _ => trivial, fun _ => (by omega)⟩)) hnil))))
            (σ0 := σ.puts [(2, .lit 0)]) (N := i) ⟨hJ.is.puts _, hJ.obj, hv, hi, 0, rfl, by omega, hq, fun j hj => by omega⟩ (h6.sub (σ.puts_is _ [0]) see22i) fun σ k2 p hJ2 hp => ?_
          obtain ⟨m, hv2, hm, hq2, hm2⟩ := hJ2.at_
          have e1 : (IE.var 1).val σ = i := hJ2.v1
          have e2 : (IE.var 2).val σ = m := hv2
          have e90 : (IE.fn 90 [.var 1, .var 2]).val σ = ind (c.name i = c.name m) := by show σ.fn 90 [σ.var 1, σ.var 2] = _; rw [hJ2.is.fn, hJ2.v1, hv2]; rfl
          have l1 : (IE.lit 1).val σ = 1 := rfl
          simp only [t22f, DT.eval, e1, e2, e90, l1, ind_one] at hp
          by_cases hmi : m < i
          · rw [if_pos (by omega)] at hp
            by_cases hnm : c.name i = c.name m
            · rw [if_pos hnm] at hp
              subst hp
              exact fun a' w' h' => done hJ2.is hJ2.obj (by simp) (by rw [hE2, if_neg fun h => h i hi ⟨m, hmi, hnm.symm⟩]) a' w' h'
            · rw [if_neg hnm] at hp
              subst hp
              obtain ⟨k2, rfl⟩ : ∃ j, k2 = j + 1 := ⟨k2 - 1, by omega⟩
              refine ⟨k2, by omega, hJ2.is.puts _, hJ2.obj, hJ2.v1, hi, m + 1, ?_, by omega, hq2, fun j hj => ?_⟩
              · show opVal .add .i64 (σ.var 2) 1 = _
                rw [hv2]; exact add1' (by omega : m < c.n) few
              · rcases Nat.lt_or_eq_of_le (Nat.le_of_lt_succ hj) with h | h
                · exact hm2 j h
                · rw [h]; exact fun e => hnm e.symm
          · rw [if_neg (by omega)] at hp
            subst hp
            intro a7 w7 h7
            show wpL _ _ ((flatC c8).drop 3) _ _ _
            refine walk_take 1 (E := fun F => envC σ F) (K := fun _ => noC) (fun _ => rfl) (fun _ => rfl) (hE0 hJ2.is hJ2.obj) (t22g_ok σ) hnil h7 fun l hl a8 w8 h8 => ?_
            simp only [t22g, DT.eval] at hl
            subst hl
            simp only [BehindL]
            rw [lp22_83]
            simp only [wpL]
            obtain ⟨k, rfl⟩ : ∃ j, k = j + 1 := ⟨k - 1, by omega⟩
            refine ⟨k, by omega, σ.puts [(1, .bin .add .i64 (.var 1) (.lit 1))], ⟨hJ2.is.puts _, hJ2.obj, i + 1, ?_, by omega, fun j hj => ?_⟩, h8.sub (σ.puts_is _ [0]) see22o⟩
            · show opVal .add .i64 (σ.var 1) 1 = _
              rw [hJ2.v1]; exact add1' hi few
            · rcases Nat.lt_or_eq_of_le (Nat.le_of_lt_succ hj) with h | h
              · exact hq2 j h
              · rw [h]; exact fun ⟨k, hk, e⟩ => hm2 k (by omega) e
        rw [if_neg (by omega)] at hl
        subst hl
        have hB1 : ∀ i, i < c.n → ¬ ∃ k, k < i ∧ c.name k = c.name i := fun j hj => hq j (by omega)
        rw [if_pos hB1] at hE2
        show wpL _ _ ((flatC bd22).drop 9) _ _ _
        have hJis := hJ.is
        have hJobj := hJ.obj
        clear hJ hv hk hq ev1 hi
        refine walk_take 1 (E := fun F => envC σ F) (K := fun _ => noC) (fun _ => rfl) (fun _ => rfl) (hE0 hJis hJobj) (t22h_ok σ) hnil h5 fun l hl a6 w6 h6 => ?_
        simp only [z22, DT.eval] at hl
        subst hl
        show wpL _ _ ((flatC bd22).drop 10) _ _ _
        rw [lp22_10]
        refine loop_dt (E := fun σ F => envC σ F) (K := fun σ F => jobK (envC σ F)) (fun _ _ => rfl) (fun _ _ => rfl) (JR c fun i => (c.pln i).ok ∧ polS (c.pol i)) (fun σ k h => by obtain ⟨i, hv, hk, -⟩ := h.at_; exact hE h.is h.obj hv (by omega)) t22i_ok (fun σ k h => h.nonneg) (σ0 := σ.puts [(1, .lit 0)]) (N := c.n) ⟨hJis.puts _, hJobj, 0, rfl, by omega, fun j hj => by omega⟩ (h6.sub (σ.puts_is _ [0]) (see22 6 (.inr (.inr rfl)))) fun σ k p hJ hp => ?_
        obtain ⟨i, hv, hk, hq⟩ := hJ.at_
        have ev1 : (IE.var 1).val σ = i := hv
        have e61 : (IE.fn 61 [.var 1]).val σ = ind (c.pln i).ok := by show σ.fn 61 [σ.var 1] = _; rw [hJ.is.fn, hv]; rfl
        have e62 : (IE.fn 62 [.var 1]).val σ = ind (polS (c.pol i)) := by show σ.fn 62 [σ.var 1] = _; rw [hJ.is.fn, hv]; rfl
        have l1 : (IE.lit 1).val σ = 1 := rfl
        simp only [t22i, askP, DT.eval, ev1, e61, e62, l1, hJ.is.len, ind_one] at hp
        by_cases hi : i < c.n
        · rw [if_pos (by omega)] at hp
          by_cases hp1 : (c.pln i).ok
          · rw [if_pos hp1] at hp
            by_cases hp2 : polS (c.pol i)
            · rw [if_pos hp2] at hp
              subst hp
              obtain ⟨k, rfl⟩ : ∃ j, k = j + 1 := ⟨k - 1, by omega⟩
              refine ⟨k, by omega, hJ.is.puts _, hJ.obj, i + 1, ?_, by omega, fun j hj => ?_⟩
              · show opVal .add .i64 (σ.var 1) 1 = _
                rw [hv]; exact add1' hi few
              · rcases Nat.lt_or_eq_of_le (Nat.le_of_lt_succ hj) with h | h
                · exact hq j h
                · rw [h]; exact ⟨hp1, hp2⟩
            · rw [if_neg hp2] at hp
              subst hp
              exact fun a' w' h' => done hJ.is hJ.obj (by simp) (by rw [hE2, if_neg fun h => hp2 (h i hi).2]) a' w' h'
          · rw [if_neg hp1] at hp
            subst hp
            exact fun a' w' h' => done hJ.is hJ.obj (by simp) (by rw [hE2, if_neg fun h => hp1 (h i hi).1]) a' w' h'
        rw [if_neg (by omega)] at hp
        subst hp
        rw [if_pos fun j hj => hq j (by omega)] at hE2
        intro a7 w7 h7
        show wpL _ _ ((flatC bd22).drop 11) _ _ _
        refine walk_take 2 (E := fun F => envC σ F) (K := fun _ => noC) (fun _ => rfl) (fun _ => rfl) (hE0 hJ.is hJ.obj) (t22z_ok σ) hnil h7 fun l hl a8 w8 h8 => ?_
        simp only [t22z, DT.eval] at hl
        subst hl
        exact done hJ.is hJ.obj (by simp) hE2.symm _ _ h8
    · rw [if_neg hgl] at hl
      simp only [DT.eval] at hl
      subst hl
      exact done hσ0 ho0 (by simp) (by unfold cfgE; rw [if_neg hgl]) _ _ h1
end
end Go.Proofs.YtmcmagheiijnhaaGreatDoor
