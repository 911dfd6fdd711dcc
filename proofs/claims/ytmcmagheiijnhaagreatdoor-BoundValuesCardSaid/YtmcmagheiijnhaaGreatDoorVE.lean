/- The greatest splay; wakemanref43's window. -/
import Derived.Test.YtmcmagheiijnhaaGreatDoorVD
import Derived.Test.YtmcmagheiijnhaaGreatDoorRxI
set_option linter.all false
set_option maxRecDepth 100000
namespace Go.Proofs.YtmcmagheiijnhaaGreatDoor
open Go.RX Go.RX.Sym
open Classical

noncomputable def bd26 : Code := match Tryz.f26.body with | some c => c | none => .skip
theorem bd26_is : Tryz.f26.body = some bd26 := by kernel_rfl
theorem nt26 : Tryz.f26.ntmps = 20 := by kernel_rfl
def sl26 : List Nat := [10, 9, 8, 7, 5, 3, 2, 1, 0]
theorem lp26 : (flatC bd26).drop 3 = .block 0 (.loop (inC [3] bd26)) :: (flatC bd26).drop 4 := by kernel_rfl
noncomputable def bd53 : Code := match Tryz.f53.body with | some c => c | none => .skip
theorem bd53_is : Tryz.f53.body = some bd53 := by kernel_rfl
theorem nt53 : Tryz.f53.ntmps = 22 := by kernel_rfl
def sl53 : List Nat := [9, 4, 3, 2, 1, 0]
theorem lp53 : (flatC bd53).drop 3 = .block 0 (.loop (inC [3] bd53)) :: (flatC bd53).drop 4 := by kernel_rfl
noncomputable def bd27 : Code := match Tryz.f27.body with | some c => c | none => .skip
theorem bd27_is : Tryz.f27.body = some bd27 := by kernel_rfl
theorem nt27 : Tryz.f27.ntmps = 46 := by kernel_rfl
def sl27 : List Nat := [34, 10, 5, 4, 3, 2, 1, 0]
theorem lp27 : (flatC bd27).drop 3 = .block 0 (.loop (inC [3] bd27)) :: (flatC bd27).drop 4 := by kernel_rfl
def accT (nx out : List SV) (o : List (Nat × SObj)) (n0 n1 : Nat) (θ : List (Nat × IE)) : DT Lp := .lt (.var 1) (.len 0) (.leaf ⟨true, ⟨0, nx, o, n1⟩, (1, k1) :: θ⟩) (.leaf ⟨false, ⟨2, out, o, n0⟩, []⟩)
def mx17 : IE := .max (.var 3) (.sel 0 (.var 1) 17)
def hd26 (s i : SV) : List SV := frN sl26 [(9, i), (8, .sint .i64 (.len 0)), (7, .row 0), (3, s)]
def hd53 (s i : SV) : List SV := frN sl53 [(4, i), (3, s), (1, .ptr 0 0)]
def hd27 (l h i : SV) : List SV := frN sl27 [(5, i), (4, h), (3, l), (1, .ptr 0 0)]
theorem a26 (σ : Sig) : (DT.leaf (⟨0, hd26 z0 z0, [], 1⟩ : Lf)).ok (pieceIs (envC σ) (fun _ => noC) 40 20 sl26 ((flatC bd26).take 3) (cutSt (frameOf (cfArgs (.row 0)) sl26) [] 0)) [] = true := by kernel_rfl
theorem a53 (σ : Sig) : (DT.leaf (⟨0, hd53 z0 z0, oC, 1⟩ : Lf)).ok (pieceIs (envC σ) (fun _ => noC) 40 22 sl53 ((flatC bd53).take 3) (cutSt (frameOf (cfArgs (.row 0)) sl53) [] 0)) [] = true := by kernel_rfl
theorem a27 (σ : Sig) : (DT.leaf (⟨0, hd27 (.int .i64 100) z0 z0, oC, 1⟩ : Lf)).ok (pieceIs (envC σ) (fun _ => noC) 40 46 sl27 ((flatC bd27).take 3) (cutSt (frameOf (cfArgs (.row 0)) sl27) [] 0)) [] = true := by kernel_rfl
def ou26 : List SV := frN sl26 [(3, iv 3)]
theorem l26 (σ : Sig) : (accT (hd26 (.sint .i64 mx17) i1') ou26 [] 1 2 [(3, mx17)]).ok (lpIs (envC σ) (fun _ => noC) 40 20 sl26 (inC [3] bd26) (hd26 (iv 3) i1) [] 1 [0]) nneg = true := by kernel_rfl
theorem l53 (σ : Sig) : (accT (hd53 (.sint .i64 mx17) i1') (hd53 (iv 3) .unknown) oC 1 1 [(3, mx17)]).ok (lpIs (envC σ) (fun _ => noC) 40 22 sl53 (inC [3] bd53) (hd53 (iv 3) i1) oC 1 [0]) nneg = true := by kernel_rfl
def mx16 : IE := .max (.var 4) (.sel 0 (.var 1) 16)
def mn16 : IE := .min (.var 3) (.sel 0 (.var 1) 16)
theorem l27 (σ : Sig) : (accT (hd27 (.sint .i64 mn16) (.sint .i64 mx16) i1') (hd27 (iv 3) (iv 4) .unknown) oC 1 1 [(3, mn16), (4, mx16)]).ok (lpIs (envC σ) (fun _ => noC) 40 46 sl27 (inC [3] bd27) (hd27 (iv 3) (iv 4) i1) oC 1 [0]) nneg = true := by kernel_rfl
theorem s26 : seeAll [0] [(1, .lit 0), (3, .lit 0)] 1 (hd26 (iv 3) i1) (hd26 z0 z0) [] [] = true := by kernel_rfl
theorem s53 : seeAll [0] [(1, .lit 0), (3, .lit 0)] 1 (hd53 (iv 3) i1) (hd53 z0 z0) oC oC = true := by kernel_rfl
theorem s27 : seeAll [0] [(1, .lit 0), (3, .lit 100), (4, .lit 0)] 1 (hd27 (iv 3) (iv 4) i1) (hd27 (.int .i64 100) z0 z0) oC oC = true := by kernel_rfl
theorem z26 (σ : Sig) : (DT.leaf (⟨1, frN sl26 [(2, iv 3)], [], 1⟩ : Lf)).ok (pieceIs (envC σ) (fun _ => noC) 40 20 sl26 (((flatC bd26).drop 4).take 2) (cutSt ou26 [] 1)) [] = true := by kernel_rfl
theorem z53 (σ : Sig) : (DT.leaf (⟨1, frN sl53 [(2, iv 3)], [], 1⟩ : Lf)).ok (pieceIs (envC σ) (fun _ => noC) 40 22 sl53 (((flatC bd53).drop 4).take 2) (cutSt (hd53 (iv 3) .unknown) oC 1)) [] = true := by kernel_rfl
/-- The window: from the lowest, the highest, how it grows, the splay. -/
def wnE (l h : IE) : IE := .bin .add .i64 (.bin .add .i64 (.bin .mul .i64 (.bin .sub .i64 h l) (.var 23)) (.var 51)) (.lit 1)
noncomputable def kSpl (f : Nat) (nl : Bool) (K : Nat → List SV → SW → Option (SV × SW)) : Nat → List SV → SW → Option (SV × SW) := plainK f (atG (cfArgs (jobS nl)) (some (iv 51))) K
theorem z27 (σ : Sig) : (DT.eq (.len 0) (.lit 0) (.leaf (⟨1, frN sl27 [(2, .sint .i64 (wnE (.lit 0) (.var 4)))], [], 1⟩ : Lf)) (.leaf ⟨1, frN sl27 [(2, .sint .i64 (wnE (.var 3) (.var 4)))], [], 1⟩)).ok (pieceIs (envC σ) (fun _ => kSpl 53 false noC) 40 46 sl27 (((flatC bd27).drop 4).take 4) (cutSt (hd27 (iv 3) (iv 4) .unknown) oC 1)) [] = true := by kernel_rfl
theorem r26 (σ : Sig) : leftOk (iv 3) [] 1 (envC σ []) sl26 Tryz.f26.results.toList (cutSt (frN sl26 [(2, iv 3)]) [] 1) = true := by kernel_rfl
theorem r53 (σ : Sig) : leftOk (iv 3) [] 1 (envC σ []) sl53 Tryz.f53.results.toList (cutSt (frN sl53 [(2, iv 3)]) [] 1) = true := by kernel_rfl
theorem r27a (σ : Sig) : leftOk (.sint .i64 (wnE (.lit 0) (.var 4))) [] 1 (envC σ []) sl27 Tryz.f27.results.toList (cutSt (frN sl27 [(2, .sint .i64 (wnE (.lit 0) (.var 4)))]) [] 1) = true := by kernel_rfl
theorem r27b (σ : Sig) : leftOk (.sint .i64 (wnE (.var 3) (.var 4))) [] 1 (envC σ []) sl27 Tryz.f27.results.toList (cutSt (frN sl27 [(2, .sint .i64 (wnE (.var 3) (.var 4)))]) [] 1) = true := by kernel_rfl
-- no jobs: nil
theorem n26 (σ : Sig) : (DT.leaf z0).ok (callIs (envC σ) (fun _ => noC) 40 26 (cfArgs .nilslice)) [] = true := by kernel_rfl
theorem n53 (σ : Sig) : (DT.leaf z0).ok (callIs (envC σ) (fun _ => noC) 40 53 (cfArgs .nilslice)) [] = true := by kernel_rfl
def wn0 : IE := .bin .add .i64 (.bin .add .i64 (.bin .mul .i64 (.lit 0) (.var 23)) (.var 51)) (.lit 1)
theorem n27 (σ : Sig) : (DT.leaf (.sint .i64 wn0)).ok (callIs (envC σ) (fun _ => kSpl 53 true noC) 40 27 (cfArgs .nilslice)) [] = true := by kernel_rfl
end Go.Proofs.YtmcmagheiijnhaaGreatDoor

/- The greatest splay; wakemanref43's window: what is known of calls. -/
set_option linter.all false
set_option maxRecDepth 100000
namespace Go.Proofs.YtmcmagheiijnhaaGreatDoor
open Go.RX Go.RX.Sym
open Classical

def mxS (c : Cfg) (k : Nat) : Nat → Int
  | 0 => 0
  | i + 1 => max (mxS c k i) ((c.pol i).getD k 0)
def mnS (c : Cfg) (k : Nat) : Nat → Int
  | 0 => 100
  | i + 1 => min (mnS c k i) ((c.pol i).getD k 0)
section
variable {c : Cfg} {W : World}
structure JA (c : Cfg) (P : Nat → Sig → Prop) (σ : Sig) (k : Nat) : Prop where
  is : IsC c σ
  obj : σ.obj = fun _ _ => False
  at_ : ∃ i : Nat, σ.var 1 = i ∧ i + k = c.n ∧ P i σ
/-- A loop over the jobs that gathers. -/
theorem acc_loop (hW : Spaces W) (hc : c.Ok W) {nt n0 n1 : Nat} {sl : List Nat} {code : Code} {fr0 nx out : List SV} {objs : List (Nat × SObj)} {θ : List (Nat × IE)} (h : ∀ σ, (accT nx out objs n0 n1 θ).ok (lpIs (envC σ) (fun _ => noC) 40 nt sl code fr0 objs n0 [0]) nneg = true)
    (P : Nat → Sig → Prop) (step : ∀ σ i, IsC c σ → σ.var 1 = (i : Nat) → i < c.n → P i σ → P (i + 1) (σ.puts ((1, k1) :: θ))) {σ0 : Sig} (hσ0 : IsC c σ0) (ho0 : σ0.obj = fun _ _ => False) (hv0 : σ0.var 1 = 0) (hP0 : P 0 σ0) {a : Act} {w : World} (hA : AtT σ0 nt sl fr0 objs n0 W a w) {Q : Exit → Act → World → Prop}
    (hQ : ∀ σ, IsC c σ → σ.obj = (fun _ _ => False) → P c.n σ → ∀ a' w', AtT σ nt sl out objs n0 W a' w' → Q .normal a' w') : (Code.block 0 (.loop code)).wpIn Fence.wide 0 Tryz.prog Q a w := by
  refine loop_dt (E := fun σ F => envC σ F) (K := fun _ _ => noC) (fun _ _ => rfl) (fun _ _ => rfl) (JA c P) (fun σ k hJ F hF => ⟨numC hW hc hJ.is (noM hJ.obj) hF, known_nothing _, liesC hW hc hJ.is F⟩) h (fun σ k hJ => by
    obtain ⟨i, hv, -⟩ := hJ.at_
    exact hcons (holds_lt (by simp only [IE.val, hv]; exact no (by omega))) hnil) (σ0 := σ0) (N := c.n) ⟨hσ0, ho0, 0, hv0, by omega, hP0⟩ hA fun σ k p hJ hp => ?_
  obtain ⟨i, hv, hk, hPi⟩ := hJ.at_
  have e1 : (IE.var 1).val σ = i := hv
  simp only [accT, DT.eval, e1, hJ.is.len] at hp
  by_cases hi : i < c.n
  · rw [if_pos (by omega)] at hp
    subst hp
    obtain ⟨k, rfl⟩ : ∃ x, k = x + 1 := ⟨k - 1, by omega⟩
    refine ⟨k, by omega, hJ.is.puts _, hJ.obj, i + 1, ?_, by omega, step σ i hJ.is hv hi hPi⟩
    show opVal .add .i64 (σ.var 1) 1 = _
    rw [hv]; exact add1' hi hc.few
  · rw [if_neg (by omega)] at hp
    subst hp
    obtain rfl : i = c.n := by omega
    intro a' w' h'
    exact hQ σ hJ.is hJ.obj hPi a' w' h'
theorem max_val {a b : Int} : (if a < b then b else a) = max a b := by split <;> omega
theorem min_val {a b : Int} : (if b < a then b else a) = min a b := by split <;> omega
variable {g : Nat → Int}
/-- What a greatest splay is. -/
def SplIs (c : Cfg) (f : Nat) : Prop := (∀ (vals : Array Value) w, (callFunc f vals).run Tryz.prog w = .ok (.enter f vals) w) ∧ ∀ {W : World} {g : Nat → Int} {nl : Bool} {cap : Cp}, Spaces W → c.Ok W → (nl = true → c.n = 0) → Cp.fits c.n cap →
  Calls Tryz.prog f #[.agg (cfgV c g nl cap).toArray] W fun e w' => e = .returned (.int .i64 (mxS c 2 c.n)) ∧ On W w'
theorem name_SPLP (vals : Array Value) (w : World) : (callFunc 26 vals).run Tryz.prog w = .ok (.enter 26 vals) w := by kernel_rfl
theorem name_SPLR (vals : Array Value) (w : World) : (callFunc 53 vals).run Tryz.prog w = .ok (.enter 53 vals) w := by kernel_rfl
theorem left_sint {σ : Sig} {W w' : World} {u : Value} {e : IE} {z : Int} {objs : List (Nat × SObj)} {n : Nat} (h : LeftT σ W u (.sint .i64 e) objs n w') (hz : e.val σ = z) : u = .int .i64 z ∧ On W w' := by
  obtain ⟨on, ρ, hs, hx, -⟩ := h
  have := hx.sint_inv
  rw [hs, hz] at this
  exact ⟨this, on⟩
theorem mx_step {σ : Sig} {i : Nat} (hσ : IsC c σ) (hv : σ.var 1 = i) {j k : Nat} {x : Int} (hx : σ.var j = x) : (IE.max (.var j) (.sel 0 (.var 1) (k + 15))).val σ = max x ((c.pol i).getD k 0) := by
  show (if σ.var j < (IE.sel 0 (.var 1) (k + 15)).val σ then (IE.sel 0 (.var 1) (k + 15)).val σ else σ.var j) = _
  rw [sel_val hσ hv, hx, max_val]
theorem mn_step {σ : Sig} {i : Nat} (hσ : IsC c σ) (hv : σ.var 1 = i) {j k : Nat} {x : Int} (hx : σ.var j = x) : (IE.min (.var j) (.sel 0 (.var 1) (k + 15))).val σ = min x ((c.pol i).getD k 0) := by
  show (if (IE.sel 0 (.var 1) (k + 15)).val σ < σ.var j then (IE.sel 0 (.var 1) (k + 15)).val σ else σ.var j) = _
  rw [sel_val hσ hv, hx, min_val]
theorem splP : SplIs c 26 := ⟨name_SPLP, fun {W g nl cap} hW hc hnl hcap => by
  cases nl with
  | true =>
    have h0 := hnl rfl
    refine fn_dtF (E := envC (sigC c g 0)) (K := fun _ => noC) (σ := sigC c g 0) (P := Tryz.prog) (fun _ => rfl) (fun _ => rfl) (fun F hF => ⟨numC hW hc sigC_is (noM rfl) hF, known_nothing _, liesC hW hc sigC_is F⟩) (T := .leaf z0) hnil (d := 40) (f := 26) (args := cfArgs .nilslice) (n26 _) (cfArgs_rel (nl := true) sigC_is sigC_g hcap) fun ρ hs u hu => ?_
    cases hu
    rw [h0]; rfl
  | false =>
    have hσ0 : IsC c (sigC c g 0) := sigC_is
    have ho0 : (sigC c g 0).obj = fun _ _ => False := rfl
    have hrel := cfArgs_rel (nl := false) (g := g) hσ0 sigC_g hcap
    generalize sigC c g 0 = σ at hσ0 ho0 hrel
    refine tmpl_begin (E := envC σ []) (f := 26) (fn := Tryz.f26) (body := bd26) Tryz.func26 bd26_is sl26 (args := cfArgs (.row 0)) hrel (by rw [nt26]; decide) fun a hA => wpL_whole ?_
    rw [nt26] at hA
    refine walk_take 3 (E := fun F => envC σ F) (K := fun _ => noC) (fun _ => rfl) (fun _ => rfl) (fun F hF => ⟨numC hW hc hσ0 (noM ho0) hF, known_nothing _, liesC hW hc hσ0 F⟩) (a26 σ) hnil hA fun l hl a1 w1 h1 => ?_
    simp only [DT.eval] at hl
    subst hl
    show wpL _ _ ((flatC bd26).drop 3) _ _ _
    rw [lp26]
    refine acc_loop hW hc l26 (fun i σ => σ.var 3 = mxS c 2 i) (fun σ i hs hv hi hP => mx_step (k := 2) hs hv hP) (hσ0.puts [(1, .lit 0), (3, .lit 0)]) ho0 rfl rfl (h1.sub (σ.puts_is _ [0]) s26) fun σ hs ho hP a2 w2 h2 => ?_
    show wpL _ _ ((flatC bd26).drop 4) _ _ _
    refine walk_take 2 (E := fun F => envC σ F) (K := fun _ => noC) (fun _ => rfl) (fun _ => rfl) (fun F hF => ⟨numC hW hc hs (noM ho) hF, known_nothing _, liesC hW hc hs F⟩) (z26 σ) hnil h2 fun l hl a3 w3 h3 => ?_
    simp only [DT.eval] at hl
    subst hl
    refine tmpl_leaves (E := envC σ []) (numC hW hc hs (noM ho) hnil) (r26 σ) h3 (liesC hW hc hs []) fun u w' hl => ?_
    obtain ⟨rfl, o⟩ := left_sint hl hP
    exact ⟨rfl, o⟩⟩
theorem splR : SplIs c 53 := ⟨name_SPLR, fun {W g nl cap} hW hc hnl hcap => by
  cases nl with
  | true =>
    have h0 := hnl rfl
    refine fn_dtF (E := envC (sigC c g 0)) (K := fun _ => noC) (σ := sigC c g 0) (P := Tryz.prog) (fun _ => rfl) (fun _ => rfl) (fun F hF => ⟨numC hW hc sigC_is (noM rfl) hF, known_nothing _, liesC hW hc sigC_is F⟩) (T := .leaf z0) hnil (d := 40) (f := 53) (args := cfArgs .nilslice) (n53 _) (cfArgs_rel (nl := true) sigC_is sigC_g hcap) fun ρ hs u hu => ?_
    cases hu
    rw [h0]; rfl
  | false =>
    have hσ0 : IsC c (sigC c g 0) := sigC_is
    have ho0 : (sigC c g 0).obj = fun _ _ => False := rfl
    have hrel := cfArgs_rel (nl := false) (g := g) hσ0 sigC_g hcap
    generalize sigC c g 0 = σ at hσ0 ho0 hrel
    refine tmpl_begin (E := envC σ []) (f := 53) (fn := Tryz.f53) (body := bd53) Tryz.func53 bd53_is sl53 (args := cfArgs (.row 0)) hrel (by rw [nt53]; decide) fun a hA => wpL_whole ?_
    rw [nt53] at hA
    refine walk_take 3 (E := fun F => envC σ F) (K := fun _ => noC) (fun _ => rfl) (fun _ => rfl) (fun F hF => ⟨numC hW hc hσ0 (noM ho0) hF, known_nothing _, liesC hW hc hσ0 F⟩) (a53 σ) hnil hA fun l hl a1 w1 h1 => ?_
    simp only [DT.eval] at hl
    subst hl
    show wpL _ _ ((flatC bd53).drop 3) _ _ _
    rw [lp53]
    refine acc_loop hW hc l53 (fun i σ => σ.var 3 = mxS c 2 i) (fun σ i hs hv hi hP => mx_step (k := 2) hs hv hP) (hσ0.puts [(1, .lit 0), (3, .lit 0)]) ho0 rfl rfl (h1.sub (σ.puts_is _ [0]) s53) fun σ hs ho hP a2 w2 h2 => ?_
    show wpL _ _ ((flatC bd53).drop 4) _ _ _
    refine walk_take 2 (E := fun F => envC σ F) (K := fun _ => noC) (fun _ => rfl) (fun _ => rfl) (fun F hF => ⟨numC hW hc hs (noM ho) hF, known_nothing _, liesC hW hc hs F⟩) (z53 σ) hnil h2 fun l hl a3 w3 h3 => ?_
    simp only [DT.eval] at hl
    subst hl
    refine tmpl_leaves (E := envC σ []) (numC hW hc hs (noM ho) hnil) (r53 σ) h3 (liesC hW hc hs []) fun u w' hl => ?_
    obtain ⟨rfl, o⟩ := left_sint hl hP
    exact ⟨rfl, o⟩⟩
theorem known_spl {f : Nat} (hf : SplIs c f) (hc : c.Ok W) {σ : Sig} (hσ : IsC c σ) {nl : Bool} (hnl : nl = true → c.n = 0) (he : σ.var 51 = mxS c 2 c.n) {F : List Fact} {K : Nat → List SV → SW → Option (SV × SW)} (hK : Known (envC σ F) K) : Known (envC σ F) (kSpl f nl K) :=
  known_num hf.1 (fun ρ vals w S hs hok hvs => by
    have hs : ρ.sig = σ := hs
    obtain ⟨cap, h1, rfl⟩ := cfArgs_vals (c := c) (by rw [hs]; exact hσ) hvs
    have e : (envC σ F).sig.var 51 = mxS c 2 c.n := he
    rw [e]
    exact hf.2 (spacesC hok) (okC_of hc hσ hok.glob.lies) hnl h1) hK
end
end Go.Proofs.YtmcmagheiijnhaaGreatDoor

/- wakemanref43's window by contract. -/
set_option linter.all false
set_option maxRecDepth 100000
namespace Go.Proofs.YtmcmagheiijnhaaGreatDoor
open Go.RX Go.RX.Sym
open Classical

/-- A window's length. -/
noncomputable def wV (l h a s : Int) : Int := opVal .add .i64 (opVal .add .i64 (opVal .mul .i64 (opVal .sub .i64 h l) a) s) 1
noncomputable def winV (c : Cfg) (g : Nat → Int) : Int := wV (if c.n = 0 then 0 else mnS c 1 c.n) (mxS c 1 c.n) (g 3) (mxS c 2 c.n)
/-- All that is named. -/
noncomputable def vN (c : Cfg) (g : Nat → Int) (r p : Int) (n : Nat) : Int := match n with
  | 20 => g 0 | 21 => g 1 | 22 => g 2 | 23 => g 3 | 24 => g 4 | 25 => g 5 | 26 => g 6 | 33 => cfgE c g | 41 => r | 42 => p | 51 => mxS c 2 c.n | 52 => winV c g | _ => 0
theorem sub00 : opVal .sub .i64 0 0 = 0 := by rw [sub_op ⟨by omega, by omega⟩]; rfl
section
variable {c : Cfg} {W : World} {g : Nat → Int} {r p : Int}
theorem vN_rel {nl : Bool} {cap : Cp} (hcap : Cp.fits c.n cap) : VRels (.nil (sigD c (vN c g r p))) (cfArgs (jobS nl)) [.agg (cfgV c g nl cap).toArray] :=
  cfArgs_rel (σ := sigD c (vN c g r p)) (g := fun k => vN c g r p (k + 20)) (c := c) sigD_is (fun _ => rfl) (nl := nl) hcap
theorem name_WINDR (vals : Array Value) (w : World) : (callFunc 27 vals).run Tryz.prog w = .ok (.enter 27 vals) w := by kernel_rfl
theorem windR_calls (hW : Spaces W) (hc : c.Ok W) {nl : Bool} {cap : Cp} (hnl : nl = true → c.n = 0) (hcap : Cp.fits c.n cap) : Calls Tryz.prog 27 #[.agg (cfgV c g nl cap).toArray] W fun e w' => e = .returned (.int .i64 (winV c g)) ∧ On W w' := by
  cases nl with
  | true =>
    have h0 := hnl rfl
    refine fn_dtF (E := envC (sigD c (vN c g 0 0))) (K := fun _ => kSpl 53 true noC) (σ := sigD c (vN c g 0 0)) (P := Tryz.prog) (fun _ => rfl) (fun _ => rfl) (fun F hF => ⟨numC hW hc sigD_is (noM rfl) hF, known_spl splR hc sigD_is hnl rfl (known_nothing _), liesC hW hc sigD_is F⟩) (T := .leaf (.sint .i64 wn0)) hnil (d := 40) (f := 27) (args := cfArgs .nilslice) (n27 _) (vN_rel (nl := true) hcap) fun ρ hs u hu => ?_
    have := hu.sint_inv
    rw [hs] at this
    rw [this]
    have e : winV c g = opVal .add .i64 (opVal .add .i64 (opVal .mul .i64 0 (g 3)) (mxS c 2 c.n)) 1 := by
      unfold winV wV
      rw [if_pos h0, h0]
      show opVal .add .i64 (opVal .add .i64 (opVal .mul .i64 (opVal .sub .i64 0 0) (g 3)) _) 1 = _
      rw [sub00]
    rw [e]
    rfl
  | false =>
    have hσ0 : IsC c (sigD c (vN c g 0 0)) := sigD_is
    have ho0 : (sigD c (vN c g 0 0)).obj = fun _ _ => False := rfl
    have hrel := vN_rel (c := c) (g := g) (r := 0) (p := 0) (nl := false) hcap
    have h23 : (sigD c (vN c g 0 0)).var 23 = g 3 := rfl
    have h51 : (sigD c (vN c g 0 0)).var 51 = mxS c 2 c.n := rfl
    generalize sigD c (vN c g 0 0) = σ at hσ0 ho0 hrel h23 h51
    refine tmpl_begin (E := envC σ []) (f := 27) (fn := Tryz.f27) (body := bd27) Tryz.func27 bd27_is sl27 (args := cfArgs (.row 0)) hrel (by rw [nt27]; decide) fun a hA => wpL_whole ?_
    rw [nt27] at hA
    refine walk_take 3 (E := fun F => envC σ F) (K := fun _ => noC) (fun _ => rfl) (fun _ => rfl) (fun F hF => ⟨numC hW hc hσ0 (noM ho0) hF, known_nothing _, liesC hW hc hσ0 F⟩) (a27 σ) hnil hA fun l hl a1 w1 h1 => ?_
    simp only [DT.eval] at hl
    subst hl
    show wpL _ _ ((flatC bd27).drop 3) _ _ _
    rw [lp27]
    refine acc_loop hW hc l27 (fun i σ => σ.var 3 = mnS c 1 i ∧ σ.var 4 = mxS c 1 i ∧ σ.var 23 = g 3 ∧ σ.var 51 = mxS c 2 c.n) (fun σ i hs hv hi hP => ⟨mn_step (k := 1) hs hv hP.1, mx_step (k := 1) hs hv hP.2.1, hP.2.2.1, hP.2.2.2⟩) (hσ0.puts [(1, .lit 0), (3, .lit 100), (4, .lit 0)]) ho0 rfl ⟨rfl, rfl, h23, h51⟩ (h1.sub (σ.puts_is _ [0]) s27) fun σ hs ho hP a2 w2 h2 => ?_
    obtain ⟨p3, p4, p23, p51⟩ := hP
    show wpL _ _ ((flatC bd27).drop 4) _ _ _
    refine walk_take 4 (E := fun F => envC σ F) (K := fun _ => kSpl 53 false noC) (fun _ => rfl) (fun _ => rfl) (fun F hF => ⟨numC hW hc hs (noM ho) hF, known_spl splR hc hs hnl p51 (known_nothing _), liesC hW hc hs F⟩) (z27 σ) hnil h2 fun l hl a3 w3 h3 => ?_
    have l0 : (IE.lit 0).val σ = 0 := rfl
    simp only [DT.eval, hs.len, l0] at hl
    by_cases hn : c.n = 0
    · rw [if_pos (by omega)] at hl
      subst hl
      refine tmpl_leaves (E := envC σ []) (numC hW hc hs (noM ho) hnil) (r27a σ) h3 (liesC hW hc hs []) fun u w' hl => ?_
      obtain ⟨rfl, o⟩ := left_sint (z := winV c g) hl (by
        show opVal .add .i64 (opVal .add .i64 (opVal .mul .i64 (opVal .sub .i64 (σ.var 4) 0) (σ.var 23)) (σ.var 51)) 1 = _
        rw [p4, p23, p51]
        unfold winV wV
        rw [if_pos hn])
      exact ⟨rfl, o⟩
    · rw [if_neg (by omega)] at hl
      subst hl
      refine tmpl_leaves (E := envC σ []) (numC hW hc hs (noM ho) hnil) (r27b σ) h3 (liesC hW hc hs []) fun u w' hl => ?_
      obtain ⟨rfl, o⟩ := left_sint (z := winV c g) hl (by
        show opVal .add .i64 (opVal .add .i64 (opVal .mul .i64 (opVal .sub .i64 (σ.var 4) (σ.var 3)) (σ.var 23)) (σ.var 51)) 1 = _
        rw [p3, p4, p23, p51]
        unfold winV wV
        rw [if_neg hn])
      exact ⟨rfl, o⟩
noncomputable def kWin (nl : Bool) (K : Nat → List SV → SW → Option (SV × SW)) : Nat → List SV → SW → Option (SV × SW) := plainK 27 (atG (cfArgs (jobS nl)) (some (iv 52))) K
theorem known_win (hc : c.Ok W) {σ : Sig} (hσ : IsC c σ) {nl : Bool} (hnl : nl = true → c.n = 0) (he : σ.var 52 = winV c (fun k => σ.var (k + 20))) {F : List Fact} {K : Nat → List SV → SW → Option (SV × SW)} (hK : Known (envC σ F) K) : Known (envC σ F) (kWin nl K) :=
  known_num name_WINDR (fun ρ vals w S hs hok hvs => by
    have hs : ρ.sig = σ := hs
    obtain ⟨cap, h1, rfl⟩ := cfArgs_vals (c := c) (by rw [hs]; exact hσ) hvs
    rw [hs]
    have e : (envC σ F).sig.var 52 = winV c (fun k => σ.var (k + 20)) := he
    rw [e]
    exact windR_calls (spacesC hok) (okC_of hc hσ hok.glob.lies) hnl h1) hK
end
end Go.Proofs.YtmcmagheiijnhaaGreatDoor
