/- The law's runs. -/
import Derived.Test.YtmcmagheiijnhaaGreatDoorVJ
import Derived.Test.YtmcmagheiijnhaaGreatDoorRxI
import Derived.Test.YtmcmagheiijnhaaGreatDoorVK
import Derived.WideShapes
import Derived.Deep.Slices
import Derived.Test.YtmcmagheiijnhaaGreatDoorTie
import Derived.Test.YtmcmagheiijnhaaGreatDoorCards
import Derived.Test.YtmcmagheiijnhaaGreatDoorBoundValuesFacts
import Derived.Test.YtmcmagheiijnhaaGreatDoorBoundValuesFactsB
import Derived.Test.YtmcmagheiijnhaaGreatDoorBoundValuesFactsC
import Derived.SevenTiedAt
set_option linter.all false
set_option maxRecDepth 100000
namespace Go.Proofs.YtmcmagheiijnhaaGreatDoor
open Go.RX Go.RX.Sym
open Classical

noncomputable def kWorks (K : Nat → List SV → SW → Option (SV × SW)) : Nat → List SV → SW → Option (SV × SW) := plainK 6 (atG [] (some (.bool true))) K
noncomputable def kFew (nl b : Bool) (K : Nat → List SV → SW → Option (SV × SW)) : Nat → List SV → SW → Option (SV × SW) := plainK 5 (atG (cfArgs (jobS nl)) (some (.bool b))) K
noncomputable def kTup (f : Nat) (A : List SV) (a b : Nat) (K : Nat → List SV → SW → Option (SV × SW)) : Nat → List SV → SW → Option (SV × SW) := plainK f (atG A (some (.tuple [iv a, iv b]))) K
noncomputable def kAll (nl : Bool) : Nat → List SV → SW → Option (SV × SW) :=
  kTup 7 (bnArgs nl) 60 61 (kTup 8 (bnArgs nl) 60 61 (kTup 9 (cfArgs (jobS nl)) 62 33 (kTup 10 (cfArgs (jobS nl)) 62 33 (kTup 11 (spArgs nl) 63 64 (kTup 12 (spArgs nl) 63 64 noC)))))
def lawArgs (nl : Bool) : List SV := cfArgs (jobS nl) ++ [.agg [iv 41, iv 42], iv 1]
def sameF : List Fact := [fe (.var 60) (.var 60) true, fe (.var 61) (.var 61) true, fe (.var 62) (.var 62) true, fe (.var 33) (.var 33) true, fe (.var 63) (.var 63) true, fe (.var 64) (.var 64) true]
theorem law_t (σ : Sig) : (DT.leaf (.bool true)).ok (callIs (envC σ) (fun _ => kFew false true (kWorks (kAll false))) 40 3 (lawArgs false)) sameF = true := by kernel_rfl
theorem law_n (σ : Sig) : (DT.leaf (.bool true)).ok (callIs (envC σ) (fun _ => kFew true true (kWorks (kAll true))) 40 3 (lawArgs true)) sameF = true := by kernel_rfl
theorem law_f (σ : Sig) : (DT.leaf (.bool true)).ok (callIs (envR rowJ σ) (fun _ => kFew false false (kWorks noC)) 40 3 (lawArgs false)) [] = true := by kernel_rfl
theorem law_m (σ : Sig) : (DT.leaf (.bool true)).ok (callIs (envF σ) (fun _ => kFew false false (kWorks noC)) 40 3 (lawArgs false)) [] = true := by kernel_rfl
theorem few_m (σ : Sig) : (DT.leaf (.bool false)).ok (callIs (envF σ) (fun _ => noC) 40 5 (cfArgs (.row 0))) [fl (.lit 100) (.len 0) true] = true := by kernel_rfl
end Go.Proofs.YtmcmagheiijnhaaGreatDoor

/- The law holds at any configuration that lies in memory. -/
set_option linter.all false
set_option maxRecDepth 100000
namespace Go.Proofs.YtmcmagheiijnhaaGreatDoor
open Go.RX Go.RX.Sym
open Classical

theorem name_WORKS (vals : Array Value) (w : World) : (callFunc 6 vals).run Tryz.prog w = .ok (.enter 6 vals) w := by kernel_rfl
theorem name_FEW (vals : Array Value) (w : World) : (callFunc 5 vals).run Tryz.prog w = .ok (.enter 5 vals) w := by kernel_rfl
theorem name_BNP (vals : Array Value) (w : World) : (callFunc 7 vals).run Tryz.prog w = .ok (.enter 7 vals) w := by kernel_rfl
theorem name_BNR (vals : Array Value) (w : World) : (callFunc 8 vals).run Tryz.prog w = .ok (.enter 8 vals) w := by kernel_rfl
theorem name_WNP (vals : Array Value) (w : World) : (callFunc 9 vals).run Tryz.prog w = .ok (.enter 9 vals) w := by kernel_rfl
theorem name_WNR (vals : Array Value) (w : World) : (callFunc 10 vals).run Tryz.prog w = .ok (.enter 10 vals) w := by kernel_rfl
theorem name_SPP (vals : Array Value) (w : World) : (callFunc 11 vals).run Tryz.prog w = .ok (.enter 11 vals) w := by kernel_rfl
theorem name_SPR (vals : Array Value) (w : World) : (callFunc 12 vals).run Tryz.prog w = .ok (.enter 12 vals) w := by kernel_rfl
theorem works_calls {W : World} (hW : Spaces W) : Calls Tryz.prog 6 #[] W fun e w' => e = .returned (.bool true) ∧ On W w' :=
  fn_dt (E := envF (sigV fun _ => 0)) (K := fun _ => noC) (σ := sigV fun _ => 0) (P := Tryz.prog) (fun _ => rfl) (fun _ => rfl) (fnF _ hW) (T := .leaf (.bool true)) (d := 40) (f := 6) (args := []) (works_ok _) (vals := []) .nil fun ρ _ u hu => by cases hu; rfl
theorem known_val {E : Env} {f : Nat} {A : List SV} {x : SV} {K : Nat → List SV → SW → Option (SV × SW)} (hname : ∀ (vals : Array Value) w, (callFunc f vals).run E.P w = .ok (.enter f vals) w)
    (h : ∀ ρ vals w S, ρ.sig = E.sig → RX.Ok E ρ S w → VRels ρ A vals → ∃ u, VRel ρ x u ∧ Calls E.P f vals.toArray w fun e w' => e = .returned u ∧ On w w') (hK : Known E K) : Known E (plainK f (atG A (some x)) K) :=
  known_plain hname (fun args y hg ρ vals w S hok hr => by
    unfold atG at hg
    split at hg
    · rename_i ha
      have ha := svsEq_sound _ _ ha
      subst ha
      simp only [Option.some.injEq] at hg
      subst hg
      obtain ⟨u, hu, hc⟩ := h ρ vals w S hok.num.sig hok hr
      refine callsIn_wide.1 (CallsIn.mono (callsIn_wide.2 hc) (n := 0) ?_)
      rintro e w' ⟨rfl, o⟩
      exact ⟨_, rfl, hu, o⟩
    · cases hg) hK
theorem sint_at {ρ : Ren} {n : Nat} {z : Int} (h : ρ.sig.var n = z) : VRel ρ (iv n) (.int .i64 z) := by
  have := VRel.sint (ρ := ρ) .i64 (.var n)
  have e : (IE.var n).val ρ.sig = z := h
  rw [e] at this
  exact this
theorem tup_at {ρ : Ren} {a b : Nat} {x y : Int} (h1 : ρ.sig.var a = x) (h2 : ρ.sig.var b = y) : VRel ρ (.tuple [iv a, iv b]) (.tuple #[.int .i64 x, .int .i64 y]) := .tuple (.cons (sint_at h1) (.cons (sint_at h2) .nil))
section
variable {c : Cfg} {W : World} {g : Nat → Int} {job r p : Int}
noncomputable def vL (c : Cfg) (g : Nat → Int) (job r p : Int) (n : Nat) : Int := match n with
  | 1 => job | 20 => g 0 | 21 => g 1 | 22 => g 2 | 23 => g 3 | 24 => g 4 | 25 => g 5 | 26 => g 6 | 33 => cfgE c g | 41 => r | 42 => p
  | 60 => bndVal c g r p | 61 => bndEr c g r p | 62 => winVal c g | 63 => spanVal c g job r p | 64 => spanEr c g job r p | _ => 0
/-- Numbers' texts where no jobs are looked at. -/
noncomputable def sigX (c : Cfg) (v : Nat → Int) : Sig where
  var := v
  fn := fnS
  row a := match a with | 0 => (c.b, c.x, 30, c.n) | _ => (0, 0, 0, 0)
  cell a := match a with | 0 => c.cell | _ => fun _ _ => .bool false
theorem cfV {ρ : Ren} (hrow : ρ.sig.row 0 = (c.b, c.x, 30, c.n)) {nl : Bool} {vals : List Value} (h : VRels ρ (cfArgs (jobS nl)) vals) : ∃ cap, Cp.fits c.n cap ∧ vals = [.agg (cfgV c (fun k => ρ.sig.var (k + 20)) nl cap).toArray] := by
  cases h with
  | cons h hs =>
    cases hs
    cases h with
    | agg h => cases h with
      | cons g0 h => cases h with
        | cons g1 h => cases h with
          | cons g2 h => cases h with
            | cons g3 h => cases h with
              | cons g4 h => cases h with
                | cons g5 h => cases h with
                  | cons g6 h => cases h with
                    | cons g7 h =>
                      cases h
                      have g0 := g0.sint_inv
                      have g1 := g1.sint_inv
                      have g2 := g2.sint_inv
                      have g3 := g3.sint_inv
                      have g4 := g4.sint_inv
                      have g5 := g5.sint_inv
                      have g6 := g6.sint_inv
                      subst g0; subst g1; subst g2; subst g3; subst g4; subst g5; subst g6
                      cases nl with
                      | true => cases g7; exact ⟨.cap c.n, Nat.le_refl _, rfl⟩
                      | false =>
                        obtain ⟨cap, hc, rfl⟩ := Cfg.jobV_of hrow g7
                        exact ⟨cap, hc, rfl⟩
theorem cons_split {ρ : Ren} {A B : List SV} {vals : List Value} (h : VRels ρ (A ++ B) vals) : ∃ v1 v2, vals = v1 ++ v2 ∧ VRels ρ A v1 ∧ VRels ρ B v2 := by
  induction A generalizing vals with
  | nil => exact ⟨[], vals, rfl, .nil, h⟩
  | cons a A ih =>
    cases h with
    | cons h1 h2 =>
      obtain ⟨v1, v2, rfl, g1, g2⟩ := ih h2
      exact ⟨_ :: v1, v2, rfl, .cons h1 g1, g2⟩
theorem prem_vals {ρ : Ren} {vals : List Value} (h41 : ρ.sig.var 41 = r) (h42 : ρ.sig.var 42 = p) (h : VRels ρ [.agg [iv 41, iv 42]] vals) : vals = [.agg #[.int .i64 r, .int .i64 p]] := by
  cases h with
  | cons h hs =>
    cases hs
    cases h with
    | agg h => cases h with
      | cons g1 h => cases h with
        | cons g2 h =>
          cases h
          have e1 : (IE.var 41).val ρ.sig = r := h41
          have e2 : (IE.var 42).val ρ.sig = p := h42
          rw [g1.sint_inv, g2.sint_inv, e1, e2]
theorem lawArgs_rel {σ : Sig} (hv : σ.var = vL c g job r p) (hrow : σ.row 0 = (c.b, c.x, 30, c.n)) {nl : Bool} {cap : Cp} (hcap : Cp.fits c.n cap) : VRels (.nil σ) (lawArgs nl) [.agg (cfgV c g nl cap).toArray, .agg #[.int .i64 r, .int .i64 p], .int .i64 job] := by
  have h : ∀ k i, VRel (.nil σ) (.sint k (.var i)) (.int k (vL c g job r p i)) := fun k i => by
    have := VRel.sint (ρ := .nil σ) k (.var i)
    have e : (IE.var i).val (Ren.nil σ).sig = vL c g job r p i := by show σ.var i = _; rw [hv]
    rw [e] at this
    exact this
  have hj : VRel (.nil σ) (jobS nl) (c.jobV nl cap) := by
    cases nl with
    | true => exact .nilslice
    | false => exact Cfg.jobV_rel (ρ := .nil σ) hrow hcap
  exact .cons (.agg (.cons (h _ 20) (.cons (h _ 21) (.cons (h _ 22) (.cons (h _ 23) (.cons (h _ 24) (.cons (h _ 25) (.cons (h _ 26) (.cons hj .nil))))))))) (.cons (.agg (.cons (h _ 41) (.cons (h _ 42) .nil))) (.cons (h _ 1) .nil))
theorem many_calls (hW : Spaces W) (h : 100 < c.n) {cap : Cp} (hcap : Cp.fits c.n cap) : Calls Tryz.prog 5 #[.agg (cfgV c g false cap).toArray] W fun e w' => e = .returned (.bool false) ∧ On W w' := by
  have hrel := lawArgs_rel (c := c) (g := g) (job := 0) (r := 0) (p := 0) (σ := sigX c (vL c g 0 0 0)) rfl rfl (nl := false) hcap
  obtain ⟨v1, v2, hv, g1, g2⟩ := cons_split (A := cfArgs (.row 0)) hrel
  have e1 : v1 = [.agg (cfgV c g false cap).toArray] := by
    cases g1 with
    | cons q1 q2 =>
      cases q2
      simp only [List.cons_append, List.nil_append, List.cons.injEq] at hv
      rw [← hv.1]
  rw [e1] at g1
  exact fn_dtF (E := envF (sigX c (vL c g 0 0 0))) (K := fun _ => noC) (σ := sigX c (vL c g 0 0 0)) (P := Tryz.prog) (fun _ => rfl) (fun _ => rfl) (fun F hF => ⟨numF _ hF, known_nothing _, liesF _ F hW⟩) (T := .leaf (.bool false)) (hcons (holds_lt (by show (100 : Int) < ((c.n : Nat) : Int) ↔ _; exact ⟨fun _ => rfl, fun _ => by omega⟩)) hnil) (d := 40) (f := 5) (args := cfArgs (.row 0)) (few_m _) g1 fun ρ hs u hu => by cases hu; rfl
theorem law_many (hW : Spaces W) (h : 100 < c.n) {cap : Cp} (hcap : Cp.fits c.n cap) : Calls Tryz.prog 3 #[.agg (cfgV c g false cap).toArray, .agg #[.int .i64 r, .int .i64 p], .int .i64 job] W fun e w' => e = .returned (.bool true) ∧ On W w' := by
  refine fn_dtF (E := envF (sigX c (vL c g job r p))) (K := fun _ => kFew false false (kWorks noC)) (σ := sigX c (vL c g job r p)) (P := Tryz.prog) (fun _ => rfl) (fun _ => rfl) (fun F hF => ⟨numF _ hF, known_val name_FEW (fun ρ vals w S hs hok hvs => ?_) (known_val name_WORKS (fun ρ vals w S hs hok hvs => ?_) (known_nothing _)), liesF _ F hW⟩) (T := .leaf (.bool true)) hnil (d := 40) (f := 3) (args := lawArgs false) (law_m _) (lawArgs_rel rfl rfl hcap) fun ρ hs u hu => by cases hu; rfl
  · obtain ⟨cap', h1, rfl⟩ := cfV (c := c) (nl := false) (by rw [hs]; rfl) hvs
    exact ⟨_, .bool false, many_calls (spaces_ok hok) h h1⟩
  · cases hvs
    exact ⟨_, .bool true, works_calls (spaces_ok hok)⟩
end
end Go.Proofs.YtmcmagheiijnhaaGreatDoor

/- The law holds at any configuration that lies in memory: few jobs. -/
set_option linter.all false
set_option maxRecDepth 100000
namespace Go.Proofs.YtmcmagheiijnhaaGreatDoor
open Go.RX Go.RX.Sym
open Classical

section
variable {c : Cfg} {W : World} {g : Nat → Int} {job r p : Int}
theorem rowsX (hc : c.Lay W) {v : Nat → Int} : RowsIn W rowJ (sigX c v) := fun a ks e => by
  unfold rowJ at e
  split at e
  · simp only [Option.some.injEq] at e
    subst e
    obtain ⟨arr, el, fz, h1, h2⟩ := hc.lies
    refine ⟨c.b, c.x, c.n, arr, el, fz, rfl, h1, fun i k kd hi hk => ⟨?_, ?_⟩⟩
    · exact h2 i k hi (List.getElem?_eq_some_iff.1 hk).1
    · have := cell_kind (c := c) (i := i) hk; unfold KindOk at this; exact this
  · cases e
theorem layX (hc : c.Lay W) {v : Nat → Int} {F : List Fact} {w : World} (hL : Lies (envR rowJ (sigX c v) F) w) : c.Lay w where
  few := hc.few
  lies := by
    obtain ⟨b, x, n, arr, el, fz, h1, h2, h3⟩ := hL.rows 0 jobKinds rfl
    have h1 : (c.b, c.x, 30, c.n) = _ := h1
    cases h1
    refine ⟨arr, el, fz, h2, fun i k hi hk => ?_⟩
    have hkk : ∃ kd, jobKinds[k]? = some kd := ⟨_, List.getElem?_eq_getElem (by simpa [jobKinds] using hk)⟩
    obtain ⟨kd, hkd⟩ := hkk
    exact (h3 i k kd hi hkd).1
  skip := hc.skip
theorem law_not (hW : Spaces W) (hc : c.Lay W) (hf : ¬ fewOk c) {cap : Cp} (hcap : Cp.fits c.n cap) : Calls Tryz.prog 3 #[.agg (cfgV c g false cap).toArray, .agg #[.int .i64 r, .int .i64 p], .int .i64 job] W fun e w' => e = .returned (.bool true) ∧ On W w' := by
  refine fn_dtF (E := envR rowJ (sigX c (vL c g job r p))) (K := fun _ => kFew false false (kWorks noC)) (σ := sigX c (vL c g job r p)) (P := Tryz.prog) (fun _ => rfl) (fun _ => rfl) (fun F hF => ⟨numR (rowsX hc) hF, known_val name_FEW (fun ρ vals w S hs hok hvs => ?_) (known_val name_WORKS (fun ρ vals w S hs hok hvs => ?_) (known_nothing _)), liesR F hW (rowsX hc)⟩) (T := .leaf (.bool true)) hnil (d := 40) (f := 3) (args := lawArgs false) (law_f _) (lawArgs_rel rfl rfl hcap) fun ρ hs u hu => by cases hu; rfl
  · obtain ⟨cap', h1, rfl⟩ := cfV (c := c) (nl := false) (by rw [hs]; rfl) hvs
    have := few_calls (g := fun k => ρ.sig.var (k + 20)) (nl := false) (spacesR hok) (layX hc hok.glob.lies) (fun h => by cases h) h1
    rw [decide_eq_false hf] at this
    exact ⟨_, .bool false, this⟩
  · cases hvs
    exact ⟨_, .bool true, works_calls (spacesR hok)⟩
theorem Cfg.Ok.lay (hc : c.Ok W) (h : c.n ≤ 100) : c.Lay W where
  few := h
  lies := hc.lies
  skip i := by
    have := hc.skip i
    split
    · rename_i hn; rw [hn] at this; exact this
    · rename_i hn; rw [hn] at this; exact this.2.1
theorem law_few (hW : Spaces W) (hc : c.Ok W) (h100 : c.n ≤ 100) (hf : fewOk c) {nl : Bool} (hnl : nl = true → c.n = 0) {cap : Cp} (hcap : Cp.fits c.n cap) : Calls Tryz.prog 3 #[.agg (cfgV c g nl cap).toArray, .agg #[.int .i64 r, .int .i64 p], .int .i64 job] W fun e w' => e = .returned (.bool true) ∧ On W w' := by
  have hI : IsC c (sigD c (vL c g job r p)) := sigD_is
  have same : ∀ n, (fe (.var n) (.var n) true).holds (sigD c (vL c g job r p)) := fun n => holds_eq ⟨fun _ => rfl, fun _ => rfl⟩
  have hok' : ∀ {ρ : Ren} {S : SW} {w : World} {F : List Fact}, RX.Ok (envC (sigD c (vL c g job r p)) F) ρ S w → c.Ok w := fun hok => okC_of hc hI hok.glob.lies
  have h41 : ∀ {ρ : Ren}, ρ.sig = sigD c (vL c g job r p) → ρ.sig.var 41 = r ∧ ρ.sig.var 42 = p ∧ ρ.sig.var 1 = job ∧ ρ.sig.row 0 = (c.b, c.x, 30, c.n) ∧ (∀ n, ρ.sig.var n = vL c g job r p n) := fun {ρ} h => by rw [h]; exact ⟨rfl, rfl, rfl, rfl, fun _ => rfl⟩
  have kn : ∀ F, (∀ f ∈ F, f.holds (sigD c (vL c g job r p))) → Known (envC (sigD c (vL c g job r p)) F) (kFew nl true (kWorks (kAll nl))) := fun F hF => by
    have bound : ∀ {f : Nat} {K}, (∀ (vals : Array Value) w, (callFunc f vals).run Tryz.prog w = .ok (.enter f vals) w) → (∀ {w : World} {cap : Cp} {g' : Nat → Int}, Spaces w → c.Ok w → Cp.fits c.n cap → Calls Tryz.prog f #[.agg (cfgV c g' nl cap).toArray, .agg #[.int .i64 r, .int .i64 p]] w fun e w' => e = .returned (.tuple #[.int .i64 (bndVal c g' r p), .int .i64 (bndEr c g' r p)]) ∧ On w w') → Known (envC (sigD c (vL c g job r p)) F) K → Known (envC (sigD c (vL c g job r p)) F) (kTup f (bnArgs nl) 60 61 K) := fun {f K} hname hcall hK =>
      known_val hname (fun ρ vals w S hs hok hvs => by
        obtain ⟨a1, a2, a3, a4, a5⟩ := h41 (ρ := ρ) hs
        obtain ⟨v1, v2, rfl, g1, g2⟩ := cons_split hvs
        obtain ⟨cap', hcp, rfl⟩ := cfV (c := c) a4 g1
        rw [prem_vals a1 a2 g2]
        exact ⟨_, tup_at (a5 60) (a5 61), by
          have hs' : (fun k => ρ.sig.var (k + 20)) = fun k => vL c g job r p (k + 20) := funext fun k => a5 (k + 20)
          rw [hs']
          exact hcall (g' := fun k => vL c g job r p (k + 20)) (spacesC hok) (hok' hok) hcp⟩) hK
    have win : ∀ {f : Nat} {K}, (∀ (vals : Array Value) w, (callFunc f vals).run Tryz.prog w = .ok (.enter f vals) w) → (∀ {w : World} {cap : Cp} {g' : Nat → Int}, Spaces w → c.Ok w → Cp.fits c.n cap → Calls Tryz.prog f #[.agg (cfgV c g' nl cap).toArray] w fun e w' => e = .returned (.tuple #[.int .i64 (winVal c g'), .int .i64 (cfgE c g')]) ∧ On w w') → Known (envC (sigD c (vL c g job r p)) F) K → Known (envC (sigD c (vL c g job r p)) F) (kTup f (cfArgs (jobS nl)) 62 33 K) := fun {f K} hname hcall hK =>
      known_val hname (fun ρ vals w S hs hok hvs => by
        obtain ⟨a1, a2, a3, a4, a5⟩ := h41 (ρ := ρ) hs
        obtain ⟨cap', hcp, rfl⟩ := cfV (c := c) a4 hvs
        exact ⟨_, tup_at (a5 62) (a5 33), by
          have hs' : (fun k => ρ.sig.var (k + 20)) = fun k => vL c g job r p (k + 20) := funext fun k => a5 (k + 20)
          rw [hs']
          exact hcall (g' := fun k => vL c g job r p (k + 20)) (spacesC hok) (hok' hok) hcp⟩) hK
    have span : ∀ {f : Nat} {K}, (∀ (vals : Array Value) w, (callFunc f vals).run Tryz.prog w = .ok (.enter f vals) w) → (∀ {w : World} {cap : Cp} {g' : Nat → Int}, Spaces w → c.Ok w → Cp.fits c.n cap → Calls Tryz.prog f #[.agg (cfgV c g' nl cap).toArray, .int .i64 job, .agg #[.int .i64 r, .int .i64 p]] w fun e w' => e = .returned (.tuple #[.int .i64 (spanVal c g' job r p), .int .i64 (spanEr c g' job r p)]) ∧ On w w') → Known (envC (sigD c (vL c g job r p)) F) K → Known (envC (sigD c (vL c g job r p)) F) (kTup f (spArgs nl) 63 64 K) := fun {f K} hname hcall hK =>
      known_val hname (fun ρ vals w S hs hok hvs => by
        obtain ⟨a1, a2, a3, a4, a5⟩ := h41 (ρ := ρ) hs
        obtain ⟨v1, v2, rfl, g1, g2⟩ := cons_split hvs
        obtain ⟨cap', hcp, rfl⟩ := cfV (c := c) a4 g1
        cases g2 with
        | cons q1 q2 =>
          rw [prem_vals a1 a2 q2]
          have e1 : (IE.var 1).val ρ.sig = job := a3
          rw [q1.sint_inv, e1]
          exact ⟨_, tup_at (a5 63) (a5 64), by
            have hs' : (fun k => ρ.sig.var (k + 20)) = fun k => vL c g job r p (k + 20) := funext fun k => a5 (k + 20)
            rw [hs']
            exact hcall (g' := fun k => vL c g job r p (k + 20)) (spacesC hok) (hok' hok) hcp⟩) hK
    refine known_val name_FEW (fun ρ vals w S hs hok hvs => ?_) (known_val name_WORKS (fun ρ vals w S hs hok hvs => ?_) ?_)
    · obtain ⟨a1, a2, a3, a4, a5⟩ := h41 (ρ := ρ) hs
      obtain ⟨cap', hcp, rfl⟩ := cfV (c := c) a4 hvs
      have := few_calls (g := fun k => ρ.sig.var (k + 20)) (spacesC hok) ((hok' hok).lay h100) hnl hcp
      rw [decide_eq_true hf] at this
      exact ⟨_, .bool true, this⟩
    · cases hvs
      exact ⟨_, .bool true, works_calls (spacesC hok)⟩
    · exact bound name_BNP (fun h1 h2 h3 => bndP_calls h1 h2 hnl h3) (bound name_BNR (fun h1 h2 h3 => bndR_calls h1 h2 hnl h3) (win name_WNP (fun h1 h2 h3 => winP_calls h1 h2 hnl h3) (win name_WNR (fun h1 h2 h3 => winR_calls h1 h2 hnl h3) (span name_SPP (fun h1 h2 h3 => spanP_calls h1 h2 hnl h3) (span name_SPR (fun h1 h2 h3 => spanR_calls h1 h2 hnl h3) (known_nothing _))))))
  exact fn_dtF (E := envC (sigD c (vL c g job r p))) (K := fun _ => kFew nl true (kWorks (kAll nl))) (σ := sigD c (vL c g job r p)) (P := Tryz.prog) (fun _ => rfl) (fun _ => rfl) (fun F hF => ⟨numC hW hc hI (noM rfl) hF, kn F hF, liesC hW hc hI F⟩) (T := .leaf (.bool true)) (hcons (same 60) (hcons (same 61) (hcons (same 62) (hcons (same 33) (hcons (same 63) (hcons (same 64) hnil)))))) (d := 40) (f := 3) (args := lawArgs nl) (by cases nl with | true => exact law_n _ | false => exact law_t _) (lawArgs_rel rfl rfl hcap) fun ρ hs u hu => by cases hu; rfl
/-- The law, called with any configuration in memory. -/
theorem law_any (hW : Spaces W) (hLay : c.n ≤ 100 → c.Lay W) (hOk : c.n ≤ 100 → fewOk c → c.Ok W) {nl : Bool} (hnl : nl = true → c.n = 0) {cap : Cp} (hcap : Cp.fits c.n cap) : Calls Tryz.prog 3 #[.agg (cfgV c g nl cap).toArray, .agg #[.int .i64 r, .int .i64 p], .int .i64 job] W fun e w' => e = .returned (.bool true) ∧ On W w' := by
  by_cases h100 : c.n ≤ 100
  · by_cases hf : fewOk c
    · exact law_few hW (hOk h100 hf) h100 hf hnl hcap
    · cases nl with
      | true => exact absurd (fun i hi => absurd hi (by have := hnl rfl; omega)) hf
      | false => exact law_not hW (hLay h100) hf hcap
  · cases nl with
    | true => exact absurd (hnl rfl) (by omega)
    | false => exact law_many hW (by omega) hcap
end
end Go.Proofs.YtmcmagheiijnhaaGreatDoor

/- A configuration handed in: no jobs, or jobs in memory, as the precondition of a row says. -/
set_option linter.all false
set_option maxRecDepth 100000
namespace Go.Proofs.YtmcmagheiijnhaaGreatDoor
open Go.RX Go.RX.Sym Go.ChangeShapes Go.WideShapes Go.Deep
open Classical

/-- A type's cells, each with a type of its own (arrays aside). -/
def leavesOf (P : Program) : Nat → TypeId → Option (List (Nat × TypeId))
  | 0, _ => none
  | d + 1, t => match P.underlying t with
    | some (.struct fs) => (fs.toList.mapM fun f => (leavesOf P d f.type).map fun l => l.map fun p => (f.offset + p.1, p.2)).map List.flatten
    | some (.array _ _) => none
    | none => none
    | some _ => some [(0, t)]
def kindsOf (P : Program) (t : TypeId) : Option (List (Nat × Option TypeDesc)) := (leavesOf P 8 t).map fun l => l.map fun p => (p.1, P.underlying p.2)
section
variable {H : Type} {enc : TypeId × Value → H} {P : Program} {w : World} {base : Nat} {sp : Nat → Bool} {held : Bool}
theorem leaves_trod : ∀ (d : Nat) (t : TypeId) (L : List (Nat × TypeId)), leavesOf P d t = some L → ∀ (fuel : Nat) (cs : List Value) (x : DataW H × List MemPlace), DataW.trod enc P w base sp held fuel t cs = some x → ∀ o u, (o, u) ∈ L → ∃ v m y, cs[o]? = some v ∧ DataW.trod enc P w base sp held m u [v] = some y
  | 0, _, _, h => by cases h
  | d + 1, t, L, h => by
    intro fuel cs x hx o u hm
    unfold leavesOf at h
    split at h
    · rename_i fs hfs
      simp only [Option.map_eq_some_iff] at h
      obtain ⟨ls, hls, rfl⟩ := h
      obtain ⟨l, hl, hol⟩ := List.mem_flatten.1 hm
      obtain ⟨i, hi⟩ := List.getElem?_of_mem hl
      have hlen := mapM_some_length hls
      have hif : i < fs.toList.length := by
        have := (List.getElem?_eq_some_iff.1 hi).1
        omega
      have hf : fs.toList[i]? = some fs.toList[i] := List.getElem?_eq_getElem hif
      have hg := mapM_some_get hls i _ hf
      rw [hi] at hg
      simp only [Option.map_eq_some_iff] at hg
      obtain ⟨l', hl', rfl⟩ := hg
      obtain ⟨⟨o', u'⟩, hp, he⟩ := List.mem_map.1 hol
      simp only [Prod.mk.injEq] at he
      obtain ⟨rfl, rfl⟩ := he
      obtain ⟨xs, n, -, -, -, hxl, hel⟩ := DataW.trod_struct hfs hx
      have hfa : fs[i]? = some fs.toList[i] := by simpa using hf
      have := hel i _ hfa
      rw [List.getElem?_eq_getElem (by rw [hxl]; simpa using hif)] at this
      obtain ⟨v, m, y, h1, h2⟩ := leaves_trod d _ _ hl' _ _ _ this o' u' hp
      refine ⟨v, m, y, ?_, h2⟩
      rw [List.getElem?_take] at h1
      split at h1
      · rwa [List.getElem?_drop] at h1
      · cases h1
    · cases h
    · cases h
    · rename_i td h1 h2 h3
      simp only [Option.some.injEq] at h
      subst h
      simp only [List.mem_singleton, Prod.mk.injEq] at hm
      obtain ⟨rfl, rfl⟩ := hm
      suffices h : ∃ v, cs = [v] by
        obtain ⟨v, rfl⟩ := h
        exact ⟨v, fuel, x, rfl, hx⟩
      cases fuel with
      | zero => simp [DataW.trod] at hx
      | succ n =>
        unfold DataW.trod at hx
        split at hx <;> first | exact ⟨_, rfl⟩ | (cases hx; done) | (rename_i h _; rw [h3] at h; first | exact absurd (Option.some.inj h) (h1 _) | exact absurd (Option.some.inj h) (h2 _ _)) | (rename_i h; rw [h3] at h; first | exact absurd (Option.some.inj h) (h1 _) | exact absurd (Option.some.inj h) (h2 _ _))
theorem kind_trod {t : TypeId} {ks : List (Nat × Option TypeDesc)} (hk : kindsOf P t = some ks) {fuel : Nat} {cs : List Value} {x : DataW H × List MemPlace} (hx : DataW.trod enc P w base sp held fuel t cs = some x) {i o : Nat} {td : TypeDesc} (hi : ks[i]? = some (o, some td)) :
    ∃ v u m y, cs[o]? = some v ∧ P.underlying u = some td ∧ DataW.trod enc P w base sp held m u [v] = some y := by
  unfold kindsOf at hk
  simp only [Option.map_eq_some_iff] at hk
  obtain ⟨L, hL, rfl⟩ := hk
  rw [List.getElem?_map, Option.map_eq_some_iff] at hi
  obtain ⟨⟨o', u⟩, hu, he⟩ := hi
  simp only [Prod.mk.injEq] at he
  obtain ⟨rfl, hd⟩ := he
  obtain ⟨v, m, y, h1, h2⟩ := leaves_trod 8 t L hL fuel cs x hx o' u (List.mem_of_getElem? hu)
  exact ⟨v, u, m, y, h1, hd, h2⟩
theorem kind_int {t : TypeId} {ks : List (Nat × Option TypeDesc)} (hk : kindsOf P t = some ks) {fuel : Nat} {cs : List Value} {x : DataW H × List MemPlace} (hx : DataW.trod enc P w base sp held fuel t cs = some x) {i o : Nat} {k : IntKind} (hi : ks[i]? = some (o, some (.int k))) :
    ∃ z, cs[o]? = some (.int k z) ∧ (Lit.int k z).wf = true := by
  obtain ⟨v, u, m, y, h1, h2, h3⟩ := kind_trod hk hx hi
  obtain ⟨z, hz, -, hw⟩ := DataW.trod_int h2 h3
  simp only [List.cons.injEq, and_true] at hz
  subst hz
  exact ⟨z, h1, hw⟩
theorem kind_bool {t : TypeId} {ks : List (Nat × Option TypeDesc)} (hk : kindsOf P t = some ks) {fuel : Nat} {cs : List Value} {x : DataW H × List MemPlace} (hx : DataW.trod enc P w base sp held fuel t cs = some x) {i o : Nat} (hi : ks[i]? = some (o, some .bool)) :
    ∃ b, cs[o]? = some (.bool b) := by
  obtain ⟨v, u, m, y, h1, h2, h3⟩ := kind_trod hk hx hi
  obtain ⟨z, hz, -⟩ := DataW.trod_bool h2 h3
  simp only [List.cons.injEq, and_true] at hz
  subst hz
  exact ⟨z, h1⟩
theorem kind_string {t : TypeId} {ks : List (Nat × Option TypeDesc)} (hk : kindsOf P t = some ks) {fuel : Nat} {cs : List Value} {x : DataW H × List MemPlace} (hx : DataW.trod enc P w base sp held fuel t cs = some x) {i o : Nat} (hi : ks[i]? = some (o, some .string)) :
    ∃ s, cs[o]? = some (.string s) := by
  obtain ⟨v, u, m, y, h1, h2, h3⟩ := kind_trod hk hx hi
  obtain ⟨z, hz, -⟩ := DataW.trod_string h2 h3
  simp only [List.cons.injEq, and_true] at hz
  subst hz
  exact ⟨z, h1⟩
end
def i64D : Option TypeDesc := some (.int .i64)
def u64D : Option TypeDesc := some (.int .u64)
def confKinds : List (Nat × Option TypeDesc) := [(0, i64D), (1, i64D), (2, i64D), (3, i64D), (4, u64D), (5, i64D), (6, i64D), (7, some (.slice 64))]
def jobTd : List (Nat × Option TypeDesc) := [(0, some .string), (1, i64D), (2, u64D), (3, u64D), (4, u64D), (5, u64D), (6, u64D), (7, u64D), (8, some .bool), (9, some .bool), (10, i64D), (11, i64D), (12, i64D), (13, i64D), (14, some (.slice 107)),
  (15, i64D), (16, i64D), (17, i64D), (18, i64D), (19, i64D), (20, i64D), (21, i64D), (22, i64D), (23, i64D), (24, i64D), (25, i64D), (26, i64D), (27, i64D), (28, i64D), (29, i64D)]
def spanTd : List (Nat × Option TypeDesc) := [(0, i64D), (1, i64D)]
theorem conf_kinds : kindsOf Tryz.prog 29 = some confKinds := by kernel_rfl
theorem job_kinds : kindsOf Tryz.prog 64 = some jobTd := by kernel_rfl
theorem span_kinds : kindsOf Tryz.prog 107 = some spanTd := by kernel_rfl
theorem prem_kinds : kindsOf Tryz.prog 31 = some spanTd := by kernel_rfl
theorem job_cells : Tryz.prog.cellsOf 64 = 30 := by kernel_rfl
theorem span_cells : Tryz.prog.cellsOf 107 = 2 := by kernel_rfl
theorem conf_cells : Tryz.prog.cellsOf 29 = 8 := by kernel_rfl
theorem prem_cells : Tryz.prog.cellsOf 31 = 2 := by kernel_rfl
def isStruct (P : Program) (t : TypeId) : Bool := match P.underlying t with | some (.struct _) => true | _ => false
theorem conf_struct : isStruct Tryz.prog 29 = true := by kernel_rfl
theorem prem_struct : isStruct Tryz.prog 31 = true := by kernel_rfl
theorem conf_types : (Tryz.prog.cellTypes Tryz.prog.depth 29).map (fun l => (l.length, l[7]?)) = some (8, some 27) := by kernel_rfl
theorem jobs_slice : Tryz.prog.underlying 27 = some (.slice 64) := by kernel_rfl

theorem cell_heap {W : World} {a : Addr} {v : Value} (h : W.cell? a = some v) : ∃ (arr : Array Value) (el : TypeId) (fz : Nat × Nat), W.heap[a.block]? = some (.cells arr el fz) ∧ a.spot = none ∧ arr[a.off]? = some v := by
  unfold World.cell? at h
  split at h
  · rename_i c el fz hc
    split at h
    · cases h
    · rename_i hs
      exact ⟨c, el, fz, hc, by simpa using hs, h⟩
  · cases h
def intOf : Value → Int | .int _ z => z | _ => 0
def strOf : Value → ByteArray | .string s => s | _ => ByteArray.empty
def boolOf : Value → Bool | .bool b => b | _ => false
def sliN : Value → Nat | .slice _ l _ => l | _ => 0
def sliC : Value → Nat | .slice _ _ c => c | _ => 0
def sliA : Value → Option Addr | .slice a _ _ => a | _ => none
def cellAt (W : World) (b o : Nat) : Value := match W.heap[b]? with | some (.cells arr _ _) => arr[o]?.getD (.bool false) | _ => .bool false
theorem cellAt_is {W : World} {b o : Nat} {arr : Array Value} {el : TypeId} {fz : Nat × Nat} {v : Value} (h : W.heap[b]? = some (.cells arr el fz)) (ho : arr[o]? = some v) : cellAt W b o = v := by
  unfold cellAt
  rw [h]
  simp [ho]
def rawAt (W : World) (b x n i k : Nat) : Value := if i < n then cellAt W b (x + i * 30 + k) else .bool false
def spsAt (W : World) (v : Value) : Sps where
  n := sliN v
  f j := intOf (cellAt W ((sliA v).getD ⟨0, 0, none⟩).block (((sliA v).getD ⟨0, 0, none⟩).off + j * 2))
  t j := intOf (cellAt W ((sliA v).getD ⟨0, 0, none⟩).block (((sliA v).getD ⟨0, 0, none⟩).off + j * 2 + 1))
/-- The jobs that lie at a place. -/
def cfgAt (W : World) (b x n : Nat) : Cfg where
  n := n
  b := b
  x := x
  name i := strOf (rawAt W b x n i 0)
  pln i := { kind := intOf (rawAt W b x n i 1), u := fun k => intOf (rawAt W b x n i k), d := boolOf (rawAt W b x n i 8), w := boolOf (rawAt W b x n i 9), zone := intOf (rawAt W b x n i 10), st := intOf (rawAt W b x n i 11), pe := intOf (rawAt W b x n i 12), co := intOf (rawAt W b x n i 13), sk := spsAt W (rawAt W b x n i 14) }
  nil i := sliC (rawAt W b x n i 14) == 0
  adr i := sliA (rawAt W b x n i 14)
  sb i := ((sliA (rawAt W b x n i 14)).getD ⟨0, 0, none⟩).block
  sx i := ((sliA (rawAt W b x n i 14)).getD ⟨0, 0, none⟩).off
  sc i := sliC (rawAt W b x n i 14)
  pol i := (List.range 15).map fun k => intOf (rawAt W b x n i (k + 15))
/-- A slice of spans. -/
inductive SkipAt (W : World) : Value → Prop
  | nil : SkipAt W (.slice none 0 0)
  | emp {a : Addr} : SkipAt W (.slice (some a) 0 0)
  | some {b x n cap : Nat} {arr : Array Value} {el : TypeId} {fz : Nat × Nat} (h0 : 0 < cap) (h1 : W.heap[b]? = some (.cells arr el fz)) (h2 : ∀ i, i < n → (∃ z, arr[x + i * 2]? = some (.int .i64 z)) ∧ ∃ z, arr[x + i * 2 + 1]? = some (.int .i64 z)) (hc : n ≤ cap) : SkipAt W (.slice (some ⟨b, x, none⟩) n cap)
/-- A job's cells. -/
structure JobAt (W : World) (A : Nat → Value) : Prop where
  name : ∃ s, A 0 = .string s
  i1 : ∃ z, A 1 = .int .i64 z
  u : ∀ k, 2 ≤ k → k ≤ 7 → ∃ z, A k = .int .u64 z ∧ InU z
  b8 : ∃ b, A 8 = .bool b
  b9 : ∃ b, A 9 = .bool b
  i10 : ∃ z, A 10 = .int .i64 z
  i11 : ∃ z, A 11 = .int .i64 z
  i12 : ∃ z, A 12 = .int .i64 z
  i13 : ∃ z, A 13 = .int .i64 z
  skip : SkipAt W (A 14)
  pol : ∀ k, k < 15 → ∃ z, A (k + 15) = .int .i64 z
section
variable {W : World}
theorem cell_job {b x n i : Nat} (h : JobAt W (rawAt W b x n i)) : ∀ k, k < 30 → rawAt W b x n i k = (cfgAt W b x n).cell i k := by
  have hi : ∀ {kd : IntKind} {v : Value}, (∃ z, v = .int kd z) → v = .int kd (intOf v) := by
    rintro kd v ⟨z, rfl⟩; rfl
  have hu : ∀ k, 2 ≤ k → k ≤ 7 → rawAt W b x n i k = .int .u64 (intOf (rawAt W b x n i k)) := fun k h1 h2 => by
    obtain ⟨z, hz, -⟩ := h.u k h1 h2
    rw [hz]; rfl
  intro k hk
  match k, hk with
  | 0, _ => obtain ⟨s, hs⟩ := h.name; show _ = Value.string (strOf _); rw [hs]; rfl
  | 1, _ => exact hi h.i1
  | 2, _ => exact hu 2 (by omega) (by omega)
  | 3, _ => exact hu 3 (by omega) (by omega)
  | 4, _ => exact hu 4 (by omega) (by omega)
  | 5, _ => exact hu 5 (by omega) (by omega)
  | 6, _ => exact hu 6 (by omega) (by omega)
  | 7, _ => exact hu 7 (by omega) (by omega)
  | 8, _ => obtain ⟨s, hs⟩ := h.b8; show _ = Value.bool (boolOf _); rw [hs]; rfl
  | 9, _ => obtain ⟨s, hs⟩ := h.b9; show _ = Value.bool (boolOf _); rw [hs]; rfl
  | 10, _ => exact hi h.i10
  | 11, _ => exact hi h.i11
  | 12, _ => exact hi h.i12
  | 13, _ => exact hi h.i13
  | 14, _ =>
    show _ = (cfgAt W b x n).skv i
    unfold Cfg.skv cfgAt
    dsimp only
    have hs := h.skip
    generalize rawAt W b x n i 14 = v at hs
    cases hs with
    | nil => rfl
    | emp => rfl
    | @some b x n cap arr el fz h0 h1 h2 hc =>
      have : (sliC (.slice (some ⟨b, x, none⟩) n cap) == 0) = false := by
        simp only [sliC, beq_eq_false_iff_ne]
        omega
      rw [this]
      rfl
  | k + 15, hk =>
    have hk : k < 15 := by omega
    show _ = Value.int .i64 (((cfgAt W b x n).pol i).getD k 0)
    have : ((cfgAt W b x n).pol i).getD k 0 = intOf (rawAt W b x n i (k + 15)) := by
      simp [cfgAt, List.getD, hk]
    rw [this]
    exact hi (h.pol k hk)
theorem cfg_lies {b x n : Nat} {arr : Array Value} {el : TypeId} {fz : Nat × Nat} (hh : W.heap[b]? = some (.cells arr el fz)) (hin : ∀ i k, i < n → k < 30 → ∃ v, arr[x + i * 30 + k]? = some v) (hj : ∀ i, i < n → JobAt W (rawAt W b x n i)) :
    ∀ i k, i < n → k < 30 → arr[x + i * 30 + k]? = some ((cfgAt W b x n).cell i k) := fun i k hi hk => by
  rw [← cell_job (hj i hi) k hk]
  unfold rawAt
  rw [if_pos hi]
  obtain ⟨v, hv⟩ := hin i k hi hk
  rw [cellAt_is hh hv]
  exact hv
theorem skip_or {b x n : Nat} (hj : ∀ i, i < n → JobAt W (rawAt W b x n i)) (i : Nat) : SkipAt W (rawAt W b x n i 14) ∨ ¬ i < n ∧ rawAt W b x n i 14 = .bool false := by
  by_cases hi : i < n
  · exact .inl (hj i hi).skip
  · exact .inr ⟨hi, if_neg hi⟩
theorem cfg_lay {b x n : Nat} (h100 : n ≤ 100) {arr : Array Value} {el : TypeId} {fz : Nat × Nat} (hh : W.heap[b]? = some (.cells arr el fz)) (hin : ∀ i k, i < n → k < 30 → ∃ v, arr[x + i * 30 + k]? = some v) (hj : ∀ i, i < n → JobAt W (rawAt W b x n i)) : (cfgAt W b x n).Lay W where
  few := h100
  lies := ⟨arr, el, fz, hh, cfg_lies hh hin hj⟩
  skip i := by
    show match sliC (rawAt W b x n i 14) == 0 with | true => sliN (rawAt W b x n i 14) = 0 | false => sliN (rawAt W b x n i 14) ≤ sliC (rawAt W b x n i 14)
    rcases skip_or hj i with h | ⟨-, h⟩
    · generalize rawAt W b x n i 14 = v at h
      cases h with
      | nil => rfl
      | emp => rfl
      | @some b x n cap arr el fz h0 h1 h2 hc =>
        have : (sliC (.slice (some ⟨b, x, none⟩) n cap) == 0) = false := by
          simp only [sliC, beq_eq_false_iff_ne]
          omega
        rw [this]
        exact hc
    · rw [h]; rfl
theorem cfg_ok {b x n : Nat} (h100 : n ≤ 100) {arr : Array Value} {el : TypeId} {fz : Nat × Nat} (hh : W.heap[b]? = some (.cells arr el fz)) (hin : ∀ i k, i < n → k < 30 → ∃ v, arr[x + i * 30 + k]? = some v) (hj : ∀ i, i < n → JobAt W (rawAt W b x n i)) (hf : fewOk (cfgAt W b x n)) : (cfgAt W b x n).Ok W where
  few := by show n ≤ 127; omega
  lies := ⟨arr, el, fz, hh, cfg_lies hh hin hj⟩
  inU i := ⟨fun k h1 h2 => by
    show InU (intOf (rawAt W b x n i k))
    by_cases hi : i < n
    · obtain ⟨z, hz, hu⟩ := (hj i hi).u k h1 h2
      rw [hz]; exact hu
    · have : rawAt W b x n i k = .bool false := if_neg hi
      rw [this]
      exact ⟨Int.le_refl _, by show (0 : Int) < 18446744073709551616; omega⟩⟩
  skip i := by
    have hfi : i < n → sliN (rawAt W b x n i 14) ≤ 100 := fun hi => (hf i hi).1
    show match sliC (rawAt W b x n i 14) == 0 with
      | true => sliN (rawAt W b x n i 14) = 0
      | false => (∃ (arr : Array Value) (el : TypeId) (fz : Nat × Nat), W.heap[((sliA (rawAt W b x n i 14)).getD ⟨0, 0, none⟩).block]? = some (.cells arr el fz) ∧ ∀ j, j < sliN (rawAt W b x n i 14) → arr[((sliA (rawAt W b x n i 14)).getD ⟨0, 0, none⟩).off + j * 2]? = some (.int .i64 ((spsAt W (rawAt W b x n i 14)).f j)) ∧ arr[((sliA (rawAt W b x n i 14)).getD ⟨0, 0, none⟩).off + j * 2 + 1]? = some (.int .i64 ((spsAt W (rawAt W b x n i 14)).t j))) ∧ sliN (rawAt W b x n i 14) ≤ sliC (rawAt W b x n i 14) ∧ sliN (rawAt W b x n i 14) ≤ 1000000
    rcases skip_or hj i with h | ⟨-, h⟩
    · have hi : sliN (rawAt W b x n i 14) ≤ 100 := by
        by_cases hi : i < n
        · exact hfi hi
        · have : rawAt W b x n i 14 = .bool false := if_neg hi
          rw [this]; show 0 ≤ 100; omega
      generalize rawAt W b x n i 14 = v at h hi
      cases h with
      | nil => rfl
      | emp => rfl
      | @some b x n cap arr el fz h0 h1 h2 hc =>
        have : (sliC (.slice (some ⟨b, x, none⟩) n cap) == 0) = false := by
          simp only [sliC, beq_eq_false_iff_ne]
          omega
        rw [this]
        refine ⟨⟨arr, el, fz, h1, fun j hj => ?_⟩, hc, by have : n ≤ 100 := hi; omega⟩
        obtain ⟨⟨z1, e1⟩, ⟨z2, e2⟩⟩ := h2 j hj
        refine ⟨?_, ?_⟩
        · show arr[x + j * 2]? = some (.int .i64 (intOf (cellAt W b (x + j * 2))))
          rw [cellAt_is h1 e1]; exact e1
        · show arr[x + j * 2 + 1]? = some (.int .i64 (intOf (cellAt W b (x + j * 2 + 1))))
          rw [cellAt_is h1 e2]; exact e2
    · rw [h]; rfl
  pol i := by show ((List.range 15).map _).length = 15; simp
  far i h := by
    have : rawAt W b x n i 14 = .bool false := if_neg (by omega)
    show (sliC (rawAt W b x n i 14) == 0) = true
    rw [this]; rfl
end
section
variable {H : Type} {enc : TypeId × Value → H} {W : World} {base : Nat} {sp : Nat → Bool} {held : Bool}
theorem u64_in {z : Int} (h : (Lit.int .u64 z).wf = true) : InU z := by
  have h1 : IntKind.u64.min = 0 := by decide
  have h2 : IntKind.u64.max = 18446744073709551615 := by decide
  simp only [Lit.wf, Bool.and_eq_true, decide_eq_true_eq, h1, h2] at h
  exact ⟨h.1, by omega⟩
theorem skip_open (hsp : ∀ b, sp b = true) {fuel : Nat} {u : TypeId} {v : Value} {x : DataW H × List MemPlace} (hu : Tryz.prog.underlying u = some (.slice 107)) (h : DataW.trod enc Tryz.prog W base sp held fuel u [v] = some x) : SkipAt W v := by
  rcases open_slice hu h with ⟨h0, -⟩ | ⟨a, len, cap, m, n, D, Pl, hv, hb, hl, hm, hmm, -, hx⟩
  · obtain rfl : v = .slice none 0 0 := by simpa using h0
    exact .nil
  · obtain rfl : v = .slice (some a) len cap := by simpa using hv
    rw [hsp, if_pos rfl] at hmm
    subst hmm
    by_cases h0 : m = 0
    · subst h0
      obtain rfl : len = 0 := by omega
      exact .emp
    · have hspot : a.spot = none := by
        obtain ⟨cs', h1, h2⟩ := hx 0 (by omega)
        rw [span_cells] at h1
        obtain ⟨_, hlen, hcell⟩ := World.cells?_some h1
        obtain ⟨z0, e0, -⟩ := kind_int span_kinds h2 (i := 0) (o := 0) (k := .i64) rfl
        have c0 := hcell 0 (by omega)
        rw [e0, add_add] at c0
        have e : a.add (0 * 2 + 0) = a := by simp [Addr.add]
        rw [e] at c0
        obtain ⟨arr, el, fz, g1, g2, g3⟩ := cell_heap c0
        exact g2
      obtain ⟨ab, ao, asp⟩ := a
      dsimp only at hspot
      subst hspot
      have cell : ∀ i, i < m → ∃ (arr : Array Value) (el : TypeId) (fz : Nat × Nat), W.heap[ab]? = some (.cells arr el fz) ∧ (∃ z, arr[ao + i * 2]? = some (.int .i64 z)) ∧ ∃ z, arr[ao + i * 2 + 1]? = some (.int .i64 z) := fun i hi => by
        obtain ⟨cs', h1, h2⟩ := hx i hi
        rw [span_cells] at h1
        obtain ⟨_, hlen, hcell⟩ := World.cells?_some h1
        obtain ⟨z0, e0, -⟩ := kind_int span_kinds h2 (i := 0) (o := 0) (k := .i64) rfl
        obtain ⟨z1, e1, -⟩ := kind_int span_kinds h2 (i := 1) (o := 1) (k := .i64) rfl
        have c0 := hcell 0 (by omega)
        have c1 := hcell 1 (by omega)
        rw [e0, add_add, add_plain] at c0
        rw [e1, add_add, add_plain] at c1
        obtain ⟨arr, el, fz, g1, -, g3⟩ := cell_heap c0
        obtain ⟨arr', el', fz', k1, -, k3⟩ := cell_heap c1
        have g1 : W.heap[ab]? = some (.cells arr el fz) := g1
        have k1 : W.heap[ab]? = some (.cells arr' el' fz') := k1
        rw [g1] at k1
        simp only [Option.some.injEq, Obj.cells.injEq] at k1
        obtain ⟨rfl, rfl, rfl⟩ := k1
        exact ⟨arr, el, fz, g1, ⟨z0, g3⟩, ⟨z1, by rw [Nat.add_assoc]; exact k3⟩⟩
      obtain ⟨arr, el, fz, g1, -⟩ := cell 0 (by omega)
      refine .some (by omega) g1 (fun i hi => ?_) hl
      obtain ⟨arr', el', fz', k1, k3, k4⟩ := cell i (by omega)
      rw [g1] at k1
      simp only [Option.some.injEq, Obj.cells.injEq] at k1
      obtain ⟨rfl, rfl, rfl⟩ := k1
      exact ⟨k3, k4⟩
theorem job_open (hsp : ∀ b, sp b = true) {fuel : Nat} {cs : List Value} {x : DataW H × List MemPlace} (h : DataW.trod enc Tryz.prog W base sp held fuel 64 cs = some x) {A : Nat → Value} (hA : ∀ k, k < 30 → cs[k]? = some (A k)) : JobAt W A := by
  have it : ∀ {k : IntKind} (o : Nat), o < 30 → jobTd[o]? = some (o, some (.int k)) → ∃ z, A o = .int k z ∧ (Lit.int k z).wf = true := fun {k} o ho hk => by
    obtain ⟨z, hz, hw⟩ := kind_int job_kinds h hk
    rw [hA o ho] at hz
    exact ⟨z, by simpa using hz, hw⟩
  have i64 : ∀ (o : Nat), o < 30 → jobTd[o]? = some (o, some (.int .i64)) → ∃ z, A o = .int .i64 z := fun o ho hk => by
    obtain ⟨z, hz, -⟩ := it o ho hk
    exact ⟨z, hz⟩
  have u64 : ∀ (o : Nat), o < 30 → jobTd[o]? = some (o, some (.int .u64)) → ∃ z, A o = .int .u64 z ∧ InU z := fun o ho hk => by
    obtain ⟨z, hz, hw⟩ := it o ho hk
    exact ⟨z, hz, u64_in hw⟩
  have bb : ∀ (o : Nat), o < 30 → jobTd[o]? = some (o, some .bool) → ∃ z, A o = .bool z := fun o ho hk => by
    obtain ⟨z, hz⟩ := kind_bool job_kinds h hk
    rw [hA o ho] at hz
    exact ⟨z, by simpa using hz⟩
  refine ⟨?_, i64 1 (by omega) rfl, fun k h1 h2 => ?_, bb 8 (by omega) rfl, bb 9 (by omega) rfl, i64 10 (by omega) rfl, i64 11 (by omega) rfl, i64 12 (by omega) rfl, i64 13 (by omega) rfl, ?_, fun k hk => ?_⟩
  · obtain ⟨s, hs⟩ := kind_string job_kinds h (i := 0) (o := 0) rfl
    rw [hA 0 (by omega)] at hs
    exact ⟨s, by simpa using hs⟩
  · have : k = 2 ∨ k = 3 ∨ k = 4 ∨ k = 5 ∨ k = 6 ∨ k = 7 := by omega
    rcases this with rfl | rfl | rfl | rfl | rfl | rfl <;> exact u64 _ (by omega) rfl
  · obtain ⟨v, u, m, y, h1, h2, h3⟩ := kind_trod job_kinds h (i := 14) (o := 14) rfl
    rw [hA 14 (by omega)] at h1
    obtain rfl : A 14 = v := by simpa using h1
    exact skip_open hsp h2 h3
  · have : k = 0 ∨ k = 1 ∨ k = 2 ∨ k = 3 ∨ k = 4 ∨ k = 5 ∨ k = 6 ∨ k = 7 ∨ k = 8 ∨ k = 9 ∨ k = 10 ∨ k = 11 ∨ k = 12 ∨ k = 13 ∨ k = 14 := by omega
    rcases this with rfl | rfl | rfl | rfl | rfl | rfl | rfl | rfl | rfl | rfl | rfl | rfl | rfl | rfl | rfl <;> exact i64 _ (by omega) rfl
/-- What is known of a configuration's jobs. -/
def CfgIs (c : Cfg) (nl : Bool) (cap : Cp) (W : World) : Prop := (nl = true → c.n = 0) ∧ Cp.fits c.n cap ∧ (c.n ≤ 100 → c.Lay W) ∧ (c.n ≤ 100 → fewOk c → c.Ok W)
theorem jobs_open (hW : Spaces W) (hsp : ∀ b, sp b = true) {b0 : Nat} {v : Value} {fuel : Nat} {u : TypeId} {x : DataW H × List MemPlace} (hok : Cell.okWide Tryz.prog W .any b0 27 v) (hu : Tryz.prog.underlying u = some (.slice 64)) (h : DataW.trod enc Tryz.prog W base sp held fuel u [v] = some x) : ∃ c nl cap, v = Cfg.jobV c nl cap ∧ CfgIs c nl cap W := by
  rcases open_slice hu h with ⟨h0, -⟩ | ⟨a, len, cap, m, n, D, Pl, hv, hb, hl, hm, hmm, -, hx⟩
  · obtain rfl : v = .slice none 0 0 := by simpa using h0
    obtain ⟨arr, el, fz, h1, -⟩ := hW.cells 0 spaceCells rfl
    have hin : ∀ i k, i < 0 → k < 30 → ∃ v, arr[0 + i * 30 + k]? = some v := fun i k hi => by omega
    have hj : ∀ i, i < 0 → JobAt W (rawAt W 0 0 0 i) := fun i hi => by omega
    exact ⟨cfgAt W 0 0 0, true, .cap 0, rfl, fun _ => rfl, Nat.le_refl _, fun h => cfg_lay h h1 hin hj, fun h hf => cfg_ok h h1 hin hj hf⟩
  · obtain rfl : v = .slice (some a) len cap := by simpa using hv
    have hlm : len ≤ m := by rw [hmm]; split <;> omega
    simp only [Cell.okWide, jobs_slice, Cell.ok] at hok
    obtain ⟨-, hspot, row, cells, hshape, -⟩ := hok.2.2
    obtain ⟨ab, ao, asp⟩ := a
    dsimp only at hspot
    subst hspot
    have hblock : ∃ (arr : Array Value) (el : TypeId) (fz : Nat × Nat), W.heap[ab]? = some (.cells arr el fz) := by
      unfold World.shape? at hshape
      split at hshape
      · rename_i arr el fz hh
        exact ⟨arr, el, fz, hh⟩
      · cases hshape
    obtain ⟨arr, el, fz, hheap⟩ := hblock
    have hcell : ∀ i, i < len → (∀ k, k < 30 → ∃ v, arr[ao + i * 30 + k]? = some v) ∧ JobAt W (rawAt W ab ao len i) := fun i hi => by
      obtain ⟨cs', h1, h2⟩ := hx i (by omega)
      rw [job_cells] at h1
      obtain ⟨_, hlen, hc⟩ := World.cells?_some h1
      have key : ∀ k, k < 30 → ∃ y, cs'[k]? = some y ∧ arr[ao + i * 30 + k]? = some y := fun k hk => by
        have hk' : cs'[k]? = some cs'[k] := List.getElem?_eq_getElem (by omega)
        have e0 := hc k hk
        rw [hk', add_add, add_plain] at e0
        obtain ⟨arr', el', fz', g1, -, g3⟩ := cell_heap e0
        have g1' : W.heap[ab]? = some (.cells arr' el' fz') := g1
        rw [hheap] at g1'
        simp only [Option.some.injEq, Obj.cells.injEq] at g1'
        obtain ⟨rfl, -, -⟩ := g1'
        exact ⟨_, hk', by rw [Nat.add_assoc]; exact g3⟩
      refine ⟨fun k hk => ?_, job_open hsp h2 fun k hk => ?_⟩
      · obtain ⟨y, -, hy⟩ := key k hk
        exact ⟨y, hy⟩
      · obtain ⟨y, h1, h2⟩ := key k hk
        rw [h1]
        unfold rawAt
        rw [if_pos hi, cellAt_is hheap h2]
    have hin : ∀ i k, i < len → k < 30 → ∃ v, arr[ao + i * 30 + k]? = some v := fun i k hi hk => (hcell i hi).1 k hk
    have hj : ∀ i, i < len → JobAt W (rawAt W ab ao len i) := fun i hi => (hcell i hi).2
    exact ⟨cfgAt W ab ao len, false, .cap cap, rfl, fun e => (by cases e), hl, fun h => cfg_lay h hheap hin hj, fun h hf => cfg_ok h hheap hin hj hf⟩
theorem struct_of {t : TypeId} {v : Value} {b0 : Nat} {r : Reach} (hs : isStruct Tryz.prog t = true) (hval : Value.okWide Tryz.prog W r b0 t v) : ∃ cs, v = .agg cs ∧ cs.size = Tryz.prog.cellsOf t ∧ Row.okWide Tryz.prog W r b0 t cs := by
  unfold isStruct at hs
  unfold Value.okWide at hval
  split at hs
  · rename_i fs hfs
    rw [hfs] at hval
    exact hval
  · cases hs
theorem array_of {cs : Array Value} {l : List Value} (hsize : cs.size = l.length) (h : ∀ (i : Nat) (v : Value), l[i]? = some v → cs.toList[i]? = some v) : cs = l.toArray := by
  apply Array.ext'
  apply List.ext_getElem?
  intro i
  rcases Nat.lt_or_ge i l.length with hi | hi
  · have := h i _ (List.getElem?_eq_getElem hi)
    rw [this]
    simp [hi]
  · rw [List.getElem?_eq_none (by simp; omega), List.getElem?_eq_none (by simpa using hi)]
theorem conf_open (hW : Spaces W) (hsp : ∀ b, sp b = true) {b0 : Nat} {v : Value} {d : DataW H} {ps : List MemPlace} (hval : Value.okWide Tryz.prog W .any b0 29 v) (h : DataW.Trod enc Tryz.prog W base sp held 29 v d ps) :
    ∃ c g nl cap, v = .agg (cfgV c g nl cap).toArray ∧ InU (g 4) ∧ CfgIs c nl cap W := by
  obtain ⟨cs, rfl, hsize, ts, hts, -, hcells⟩ := struct_of conf_struct hval
  rw [conf_cells] at hsize
  obtain ⟨fuel, hf⟩ := h
  have hf : DataW.trod enc Tryz.prog W base sp held fuel 29 cs.toList = some (d, ps) := hf
  have hct := conf_types
  rw [hts] at hct
  simp only [Option.map_some, Option.some.injEq, Prod.mk.injEq] at hct
  obtain ⟨z0, e0, -⟩ := kind_int conf_kinds hf (i := 0) (o := 0) (k := .i64) rfl
  obtain ⟨z1, e1, -⟩ := kind_int conf_kinds hf (i := 1) (o := 1) (k := .i64) rfl
  obtain ⟨z2, e2, -⟩ := kind_int conf_kinds hf (i := 2) (o := 2) (k := .i64) rfl
  obtain ⟨z3, e3, -⟩ := kind_int conf_kinds hf (i := 3) (o := 3) (k := .i64) rfl
  obtain ⟨z4, e4, w4⟩ := kind_int conf_kinds hf (i := 4) (o := 4) (k := .u64) rfl
  obtain ⟨z5, e5, -⟩ := kind_int conf_kinds hf (i := 5) (o := 5) (k := .i64) rfl
  obtain ⟨z6, e6, -⟩ := kind_int conf_kinds hf (i := 6) (o := 6) (k := .i64) rfl
  obtain ⟨v, u, m, y, e7, hu, hv⟩ := kind_trod conf_kinds hf (i := 7) (o := 7) rfl
  obtain ⟨u', hu', hok⟩ := hcells 7 v (by rw [← Array.getElem?_toList]; exact e7)
  rw [hct.1, show 7 % 8 = 7 from rfl, hct.2] at hu'
  simp only [Option.some.injEq] at hu'
  subst hu'
  obtain ⟨c, nl, cap, rfl, hc⟩ := jobs_open hW hsp hok hu hv
  refine ⟨c, fun k => match k with | 0 => z0 | 1 => z1 | 2 => z2 | 3 => z3 | 4 => z4 | 5 => z5 | _ => z6, nl, cap, ?_, u64_in w4, hc⟩
  congr 1
  refine array_of (by rw [hsize]; rfl) fun i x hx => ?_
  match i, hx with
  | 0, hx => cases hx; exact e0
  | 1, hx => cases hx; exact e1
  | 2, hx => cases hx; exact e2
  | 3, hx => cases hx; exact e3
  | 4, hx => cases hx; exact e4
  | 5, hx => cases hx; exact e5
  | 6, hx => cases hx; exact e6
  | 7, hx => cases hx; exact e7
  | i + 8, hx => cases hx
theorem prem_open {b0 : Nat} {v : Value} {d : DataW H} {ps : List MemPlace} (hval : Value.okWide Tryz.prog W .any b0 31 v) (h : DataW.Trod enc Tryz.prog W base sp held 31 v d ps) :
    ∃ r p, v = .agg #[.int .i64 r, .int .i64 p] := by
  obtain ⟨cs, rfl, hsize, -⟩ := struct_of prem_struct hval
  rw [prem_cells] at hsize
  obtain ⟨fuel, hf⟩ := h
  have hf : DataW.trod enc Tryz.prog W base sp held fuel 31 cs.toList = some (d, ps) := hf
  obtain ⟨z0, e0, -⟩ := kind_int prem_kinds hf (i := 0) (o := 0) (k := .i64) rfl
  obtain ⟨z1, e1, -⟩ := kind_int prem_kinds hf (i := 1) (o := 1) (k := .i64) rfl
  refine ⟨z0, z1, ?_⟩
  congr 1
  exact array_of (l := [.int .i64 z0, .int .i64 z1]) (by rw [hsize]; rfl) fun i x hx => by
    match i, hx with
    | 0, hx => cases hx; exact e0
    | 1, hx => cases hx; exact e1
    | i + 2, hx => cases hx
end
end Go.Proofs.YtmcmagheiijnhaaGreatDoor

/- BoundValues holds: called with any configuration (no jobs, or jobs that lie in memory as the row's precondition says), any premise and any number of a job, in any memory in which the listed package-level variables hold what the program's text lays, it returns true, and changes nothing that was there. There is no further condition. -/
set_option linter.all false
namespace Go.Proofs.YtmcmagheiijnhaaGreatDoor
open Go.ChangeShapes Go.WideShapes Go.ChangeAt Go.RowKit Go.RX

namespace BoundValuesProof
theorem own : ownKnob Tryz.prog.godebug = none := by kernel_rfl
theorem laidOut : laidOutB Tryz.prog = true := by kernel_rfl
theorem bool4 : Tryz.prog.underlying 4 = some .bool := by kernel_rfl
theorem intT : Tryz.prog.underlying 3 = some (.int .i64) := by kernel_rfl
theorem param0 : Tryz.f3.params[0]? = some 29 := by kernel_rfl
theorem param1 : Tryz.f3.params[1]? = some 31 := by kernel_rfl
theorem param2 : Tryz.f3.params[2]? = some 3 := by kernel_rfl
def spaceVals : List Value := spaceCells.map fun | .int k n => .int k n | _ => .bool false
/-- What the row's list gives: the table lies in the world. -/
theorem spaces {W : World} (h : laidMetH Tryz.prog Rows.boundValuesRow.laid W) : Spaces W := by
  rw [MakeChecks.laidMetH_plain _ _ _ (by kernel_rfl)] at h
  obtain ⟨ps, hL, -, -⟩ := h
  refine ⟨fun g cs hg => ?_, fun a ks h => by cases h⟩
  have hg : globals g = some cs := hg
  unfold globals at hg
  split at hg
  · simp only [Option.some.injEq] at hg
    subst hg
    obtain ⟨arr, el, fz, h1, h2⟩ := laid_cells (n := 3) (s := "strings.asciiSpace") (d := Rows.laid_strings_asciiSpace) hL (by kernel_rfl) 0 236 4 spaceVals (by kernel_rfl) (by kernel_rfl) (by kernel_rfl)
    exact ⟨arr, el, fz, h1, cells_known (by kernel_rfl) h2⟩
  · cases hg
theorem laid_met (os : Os) (args : Array Value) : laidMetH Tryz.prog Rows.boundValuesRow.laid ((World.laidAll Tryz.prog os Rows.boundValuesRow.laid).forCall (fun _ _ => 0) ⟨#[], args, []⟩).memory := by
  rw [MakeChecks.laidMetH_plain _ _ _ (by kernel_rfl)]
  exact laidMet_laidAll _ (by kernel_rfl) (by kernel_rfl)

set_option maxRecDepth 100000 in
theorem lifted (os : Os) (started : os.Started) (H : Type) (enc : TypeId × Value → H) :
    ReturnsInHanded {} Tryz.checked os 3 .any (fun w args => (Rows.boundValuesSpec.pre enc Tryz.prog Tryz.f3 Rows.boundValuesRow.domain false w args ∧ laidMetH Tryz.prog Rows.boundValuesRow.laid w) ∧ sizedMet enc Tryz.prog Tryz.f3 (OpenSpec.ofChange Rows.boundValuesSpec) false w args)
      (Rows.boundValuesSpec.post enc Tryz.prog Tryz.f3 false true false false) := by
  refine returnsInHanded_of_change_and (C := Tryz.checked) (X := fun w _ => laidMetH Tryz.prog Rows.boundValuesRow.laid w) (fun _ _ _ hh h => h.of_heap hh) own started (by kernel_rfl) Tryz.func3
    (ChangeSpec.witness_shaped (enc := enc) (C := Tryz.checked) (os := os) (X := fun w _ => laidMetH Tryz.prog Rows.boundValuesRow.laid w) false (World.laidAll Tryz.prog os Rows.boundValuesRow.laid) #[.agg #[.int .i64 0, .int .i64 0, .int .i64 0, .int .i64 0, .int .u64 0, .int .i64 0, .int .i64 0, .slice none 0 0], .agg #[.int .i64 0, .int .i64 0], .int .i64 0] 8 (World.laidAll_os _ _ _)
      (World.shaped_of_ZipB (by kernel_rfl) (by kernel_rfl)) (by kernel_rfl) (by kernel_rfl) (by kernel_rfl) (laid_met os _)) ?_
  intro W base args ds gs before hval0 hW _ _ hL _
  have hW' := hW
  obtain ⟨p, q, hA0, hV, rfl, hfz, hnd⟩ := hW
  have hA : DataW.TrodAll enc Tryz.prog W 0 (fun _ => true) true [29, 31, 3] args.toList ds p := hA0
  obtain ⟨v, vs, d, ds1, pa, pb, hvs, rfl, rfl, h1, h2⟩ := trodAll_cons hA
  obtain ⟨v2, vs2, d2, ds2, pa2, pb2, rfl, rfl, rfl, h3, h4⟩ := trodAll_cons h2
  obtain ⟨v3, vs3, d3, ds3, pa3, pb3, rfl, rfl, rfl, h5, h6⟩ := trodAll_cons h4
  obtain ⟨rfl, rfl, rfl⟩ := trodAll_nil h6
  obtain ⟨rfl, rfl⟩ := trodVars_none hV
  obtain rfl : args = #[v, v2, v3] := by cases args; simp_all
  have hval : Value.okWide Tryz.prog W .any base 29 v := hval0 0 29 v param0 rfl
  have hval2 : Value.okWide Tryz.prog W .any base 31 v2 := hval0 1 31 v2 param1 rfl
  have hval3 : Value.okWide Tryz.prog W .any base 3 v3 := hval0 2 3 v3 param2 rfl
  have hS := spaces hL
  obtain ⟨c, g, nl, cap, rfl, -, hc1, hc2, hc3, hc4⟩ := conf_open hS (fun _ => rfl) hval h1
  obtain ⟨r, m, rfl⟩ := prem_open hval2 h3
  obtain ⟨z, rfl, rfl, -, -⟩ := open_int intT hval3 h5
  refine (law_any hS hc3 hc4 hc1 hc2).mono fun e W' ⟨he, ho⟩ => ?_
  subst he
  exact ⟨_, rfl, law_post laidOut rfl rfl bool4 (by kernel_rfl) hW' rfl ho⟩

theorem said : Rows.BoundValuesSaid :=
  OpenClaim.holds_of_wide 3 Tryz.f3 rfl rfl rfl rfl rfl rfl rfl ⟨rfl, rfl, rfl, rfl, rfl⟩ rfl rfl rfl rfl rfl BoundValuesFacts.funcNo Tryz.func3 BoundValuesFacts.closed
    (of_decide_eq_true (by kernel_rfl)) (by unfold Func.isWrapper; first | (rw [if_pos (by decide +kernel)]; kernel_rfl) | (rw [if_neg (by decide +kernel)]; exact ⟨rfl, rfl⟩))
    (fun os started H enc _ => lifted os started H enc)
theorem plain (f : FuncId) (fn : Func) (hf : Tryz.pinned.checked.prog.funcNamed "wakeman/wakemanlaw43.BoundValues" = some f) (hfn : Tryz.pinned.checked.prog.funcs[f]? = some fn) :
    false = Tryz.pinned.checked.prog.looks [] ∧ ∀ (j : Nat) t, fn.params[j]? = some t → Tryz.pinned.checked.prog.wantsStandIn t = false := by
  obtain rfl : f = 3 := Option.some.inj (BoundValuesFacts.funcNo.symm.trans hf) |>.symm
  obtain rfl : fn = Tryz.f3 := (Option.some.inj (Tryz.func3.symm.trans hfn)).symm
  refine ⟨BoundValuesFacts.looks, fun j t ht => ?_⟩
  have hall : (Tryz.f3.params.toList.all fun u => !Tryz.prog.wantsStandIn u) = true := by kernel_rfl
  have hm : t ∈ Tryz.f3.params.toList := by simpa using Array.mem_of_getElem? ht
  exact (show Tryz.prog.wantsStandIn t = false by simpa using List.all_eq_true.1 hall t hm)
end BoundValuesProof

theorem boundValues_card : Rows.BoundValuesCardSaid :=
  Claim7.holds_tied_plain_at .later [] _ _ _ _ BoundValuesProof.said (fun _ h => by cases h) BoundValuesFacts.wfText (fun _ h => by cases h) boundValues_row_tie rfl ⟨rfl, rfl⟩ BoundValuesFacts.mainIs rfl BoundValuesProof.plain BoundValuesFacts.goes
end Go.Proofs.YtmcmagheiijnhaaGreatDoor
