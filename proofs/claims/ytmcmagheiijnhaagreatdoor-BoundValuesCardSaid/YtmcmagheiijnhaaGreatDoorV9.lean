/- Whether a plan is allowed: the calls. -/
import Derived.Test.YtmcmagheiijnhaaGreatDoorV8
import Derived.Test.YtmcmagheiijnhaaGreatDoorV6
import Derived.Test.YtmcmagheiijnhaaGreatDoorRxI
set_option linter.all false
set_option maxRecDepth 100000
namespace Go.Proofs.YtmcmagheiijnhaaGreatDoor
open Go.RX Go.RX.Sym
open Classical

structure Pln where
  kind : Int
  u : Nat → Int
  d : Bool
  w : Bool
  zone : Int
  st : Int
  pe : Int
  co : Int
  sk : Sps
namespace Pln
noncomputable def var (p : Pln) (i : Nat) : Int := match i with
  | 1 => p.kind | 2 => p.u 2 | 3 => p.u 3 | 4 => p.u 4 | 5 => p.u 5 | 6 => p.u 6 | 7 => p.u 7 | 10 => p.zone | 11 => p.st | 12 => p.pe | 13 => p.co
  | 60 => ind (exOk (p.u 2) (p.u 3) (p.u 4) (p.u 5) (p.u 6) (p.u 7) p.d p.w) | 61 => ind (znOk p.zone) | 62 => ind (evOk p.st p.pe p.co) | 63 => p.sk.err | _ => 0
def val (p : Pln) (v : Value) : List Value := [.int .i64 p.kind, .int .u64 (p.u 2), .int .u64 (p.u 3), .int .u64 (p.u 4), .int .u64 (p.u 5), .int .u64 (p.u 6), .int .u64 (p.u 7), .bool p.d, .bool p.w, .int .i64 p.zone, .int .i64 p.st, .int .i64 p.pe, .int .i64 p.co, v]
def ok (p : Pln) : Prop := planN p.var (p.d || p.w) p.sk.n
structure InU (p : Pln) : Prop where
  u : ∀ i, 2 ≤ i → i ≤ 7 → Go.Proofs.YtmcmagheiijnhaaGreatDoor.InU (p.u i)
end Pln

theorem spacesR {R : Kinds} {σ : Sig} {F : List Fact} {ρ : Ren} {S : SW} {w : World} (hok : Ok (envR R σ F) ρ S w) : Spaces w := by
  have := hok.glob.lies
  refine ⟨fun g cs hg => ?_, fun _ _ h => by cases h⟩
  obtain ⟨arr, el, fz, h1, h2⟩ := this.cells g cs hg
  refine ⟨arr, el, fz, h1, fun k x hk => ?_⟩
  obtain ⟨v, q1, q2⟩ := h2 k x hk
  refine ⟨v, q1, ofValue_rel q2 ?_⟩
  have hg : globals g = some cs := hg
  unfold globals at hg
  split at hg
  · simp only [Option.some.injEq] at hg; subst hg; exact space_int k x hk
  · cases hg
theorem known_ask {E : Env} (hn : NumOk E) {f t : Nat} {A : List SV} {m : Int} {p : Prop} {K : Nat → List SV → SW → Option (SV × SW)} (hname : ∀ (vals : Array Value) w, (callFunc f vals).run E.P w = .ok (.enter f vals) w) (hv : E.sig.var t = ind p)
    (h : ∀ ρ vals w S, ρ.sig = E.sig → Ok E ρ S w → VRels ρ A vals → Calls E.P f vals.toArray w fun e w' => e = .returned (errV p m) ∧ On w w') (hK : Known E K) : Known E (plainK f (atG A (askV E (.var t) okV (.int .i64 m))) K) :=
  known_plain hname (fun args x hg ρ vals w S hok hr => by
    unfold atG at hg
    split at hg
    · rename_i ha
      have ha := svsEq_sound _ _ ha
      subst ha
      refine callsIn_wide.1 (CallsIn.mono (callsIn_wide.2 (h ρ vals w S hok.num.sig hok hr)) (n := 0) ?_)
      rintro e w' ⟨rfl, o⟩
      have ev : (IE.var t).val E.sig = ind p := hv
      rcases askV_some hn hg with ⟨h1, rfl⟩ | ⟨h1, rfl⟩
      · rw [ev, ind_one] at h1
        exact ⟨_, rfl, by unfold errV; rw [if_pos h1]; exact .int .i64 0, o⟩
      · rw [ev] at h1
        have h1 : ¬ p := fun hp => h1 (ind_one.2 hp)
        exact ⟨_, rfl, by unfold errV; rw [if_neg h1]; exact .int .i64 m, o⟩
    · cases hg) hK
theorem known_num {E : Env} {f t : Nat} {A : List SV} {K : Nat → List SV → SW → Option (SV × SW)} (hname : ∀ (vals : Array Value) w, (callFunc f vals).run E.P w = .ok (.enter f vals) w)
    (h : ∀ ρ vals w S, ρ.sig = E.sig → Ok E ρ S w → VRels ρ A vals → Calls E.P f vals.toArray w fun e w' => e = .returned (.int .i64 (E.sig.var t)) ∧ On w w') (hK : Known E K) : Known E (plainK f (atG A (some (.sint .i64 (.var t)))) K) :=
  known_plain hname (fun args x hg ρ vals w S hok hr => by
    unfold atG at hg
    split at hg
    · rename_i ha
      have ha := svsEq_sound _ _ ha
      subst ha
      simp only [Option.some.injEq] at hg
      subst hg
      refine callsIn_wide.1 (CallsIn.mono (callsIn_wide.2 (h ρ vals w S hok.num.sig hok hr)) (n := 0) ?_)
      rintro e w' ⟨rfl, o⟩
      refine ⟨_, rfl, ?_, o⟩
      rw [← hok.num.sig]
      exact .sint .i64 (.var t)
    · cases hg) hK
theorem name_EXP (vals : Array Value) (w : World) : (callFunc 127 vals).run Tryz.prog w = .ok (.enter 127 vals) w := by kernel_rfl
theorem name_EXR (vals : Array Value) (w : World) : (callFunc 81 vals).run Tryz.prog w = .ok (.enter 81 vals) w := by kernel_rfl
theorem name_ZNP (vals : Array Value) (w : World) : (callFunc 128 vals).run Tryz.prog w = .ok (.enter 128 vals) w := by kernel_rfl
theorem name_ZNR (vals : Array Value) (w : World) : (callFunc 82 vals).run Tryz.prog w = .ok (.enter 82 vals) w := by kernel_rfl
theorem name_EVP (vals : Array Value) (w : World) : (callFunc 136 vals).run Tryz.prog w = .ok (.enter 136 vals) w := by kernel_rfl
theorem name_EVR (vals : Array Value) (w : World) : (callFunc 83 vals).run Tryz.prog w = .ok (.enter 83 vals) w := by kernel_rfl
theorem name_SKP (vals : Array Value) (w : World) : (callFunc 95 vals).run Tryz.prog w = .ok (.enter 95 vals) w := by kernel_rfl
theorem name_SKR (vals : Array Value) (w : World) : (callFunc 80 vals).run Tryz.prog w = .ok (.enter 80 vals) w := by kernel_rfl

theorem exA_vals {ρ : Ren} {d w : Bool} {vals : List Value} (h : VRels ρ [exA d w] vals) : vals = [exVal (ρ.sig.var 2) (ρ.sig.var 3) (ρ.sig.var 4) (ρ.sig.var 5) (ρ.sig.var 6) (ρ.sig.var 7) d w] := by
  cases h with
  | cons h hs =>
    cases hs
    cases h with
    | agg h =>
      cases h with
      | cons h1 h => cases h with
        | cons h2 h => cases h with
          | cons h3 h => cases h with
            | cons h4 h => cases h with
              | cons h5 h => cases h with
                | cons h6 h => cases h with
                  | cons h7 h => cases h with
                    | cons h8 h =>
                      cases h
                      have e1 := h1.sint_inv
                      have e2 := h2.sint_inv
                      have e3 := h3.sint_inv
                      have e4 := h4.sint_inv
                      have e5 := h5.sint_inv
                      have e6 := h6.sint_inv
                      subst e1; subst e2; subst e3; subst e4; subst e5; subst e6
                      cases h7; cases h8
                      rfl
theorem is_of {σ : Sig} {s : Sps} {W w : World} {ρ : Ren} {v : Value} (hs : StatB s W σ) (hr : RowIn w spanK (σ.row 51) (σ.cell 51)) (hσ : ρ.sig = σ) (hv : VRel ρ (.row 51) v) : s.Is w v := by
  obtain ⟨b, x, n, arr, el, fz, h1, h2, h3⟩ := hr
  cases hv with
  | row h hc =>
    rw [hσ, h1] at h
    cases h
    have hn : n = s.n := by rw [← hs.row, h1]
    subst hn
    refine .some h2 (fun i hi => ?_) hc hs.few
    have a0 := h3 i 0 (some .i64) hi rfl
    have a1 := h3 i 1 (some .i64) hi rfl
    rw [hs.cell i 0 hi (by omega)] at a0
    rw [hs.cell i 1 hi (by omega)] at a1
    exact ⟨a0.1, a1.1⟩
  | rowE h =>
    rw [hσ, h1] at h
    cases h
    exact .emp (by rw [← hs.row, h1])

/-- How the spans are handed on. -/
inductive SkA (s : Sps) (W : World) (σ : Sig) : SV → Bool → Prop
  | row (h : StatB s W σ) : SkA s W σ (.row 51) false
  | nil (h : s.n = 0) (hr : RowsIn W rowB σ) : SkA s W σ .nilslice true
theorem SkA.rows {s : Sps} {W : World} {σ : Sig} {x : SV} {b : Bool} (h : SkA s W σ x b) : RowsIn W rowB σ := by
  cases h with
  | row h => exact h.rows
  | nil _ h => exact h
theorem known_plan {p : Pln} {W : World} {σ : Sig} {sk : SV} {nil : Bool} {F : List Fact} (hσ : σ.var = p.var) (hu : p.InU) (hs : SkA p.sk W σ sk nil) (hF : ∀ f ∈ F, f.holds σ) : Known (envR rowB σ F) (planK p.d p.w sk (envR rowB σ F)) := by
  have hn : NumOk (envR rowB σ F) := numR hs.rows hF
  have hv : ∀ i, (envR rowB σ F).sig.var i = p.var i := fun i => by show σ.var i = _; rw [hσ]
  have hsk : ∀ ρ vals w S, ρ.sig = (envR rowB σ F).sig → Ok (envR rowB σ F) ρ S w → VRels ρ [sk] vals → ∃ v, vals = [v] ∧ p.sk.Is w v := fun ρ vals w S hr hok hvs => by
    cases hvs with
    | cons h h2 =>
      cases h2
      refine ⟨_, rfl, ?_⟩
      cases hs with
      | row hs => exact is_of hs (hok.glob.lies.rows 51 spanK rfl) hr h
      | nil h0 _ => cases h; exact .nil h0
  have hev : ∀ ρ vals, ρ.sig = (envR rowB σ F).sig → VRels ρ [evA] vals → vals = [.agg (ivL [p.st, p.pe, p.co]).toArray] := fun ρ vals hr hvs => by
    have := (flatA_vals (n := 3) (l := [.var 11, .var 12, .var 13]) rfl hvs).1
    rw [this, hr]
    show [Value.agg (List.map _ [IE.var 11, .var 12, .var 13]).toArray] = _
    have e : ∀ i, (IE.var i).val (envR rowB σ F).sig = p.var i := hv
    simp only [List.map_cons, List.map_nil, e]
    rfl
  have hzn : ∀ ρ vals, ρ.sig = (envR rowB σ F).sig → VRels ρ [iv 10] vals → vals = ivL [p.zone] := fun ρ vals hr hvs => by
    have := (numsN_vals (n := 1) (l := [.var 10]) rfl hvs).1
    rw [this, hr]
    have e : ∀ i, (IE.var i).val (envR rowB σ F).sig = p.var i := hv
    simp only [List.map_cons, List.map_nil, e]
    rfl
  have hex : ∀ ρ vals, ρ.sig = (envR rowB σ F).sig → VRels ρ [exA p.d p.w] vals → vals = [exVal (p.u 2) (p.u 3) (p.u 4) (p.u 5) (p.u 6) (p.u 7) p.d p.w] := fun ρ vals hr hvs => by
    rw [exA_vals hvs, hr, hv, hv, hv, hv, hv, hv]; rfl
  refine known_ask hn (p := exOk (p.u 2) (p.u 3) (p.u 4) (p.u 5) (p.u 6) (p.u 7) p.d p.w) name_EXP (hv 60) (fun ρ vals w S hr hok hvs => by
    rw [hex ρ vals hr hvs]
    exact exP_calls (spacesR hok) (hu.u 2 (by omega) (by omega)) (hu.u 3 (by omega) (by omega)) (hu.u 4 (by omega) (by omega)) (hu.u 5 (by omega) (by omega)) (hu.u 6 (by omega) (by omega)) (hu.u 7 (by omega) (by omega))) ?_
  refine known_ask hn (p := exOk (p.u 2) (p.u 3) (p.u 4) (p.u 5) (p.u 6) (p.u 7) p.d p.w) name_EXR (hv 60) (fun ρ vals w S hr hok hvs => by
    rw [hex ρ vals hr hvs]
    exact exR_calls (spacesR hok)) ?_
  refine known_ask hn (p := znOk p.zone) name_ZNP (hv 61) (fun ρ vals w S hr hok hvs => by
    rw [hzn ρ vals hr hvs]
    exact znP_calls (spacesR hok) [p.zone] rfl) ?_
  refine known_ask hn (p := znOk p.zone) name_ZNR (hv 61) (fun ρ vals w S hr hok hvs => by
    rw [hzn ρ vals hr hvs]
    exact znR_calls (spacesR hok) [p.zone] rfl) ?_
  refine known_ask hn (p := evOk p.st p.pe p.co) name_EVP (hv 62) (fun ρ vals w S hr hok hvs => by
    rw [hev ρ vals hr hvs]
    exact evP_calls (spacesR hok) [p.st, p.pe, p.co] rfl) ?_
  refine known_ask hn (p := evOk p.st p.pe p.co) name_EVR (hv 62) (fun ρ vals w S hr hok hvs => by
    rw [hev ρ vals hr hvs]
    exact evR_calls (spacesR hok) [p.st, p.pe, p.co] rfl) ?_
  refine known_num name_SKP (fun ρ vals w S hr hok hvs => by
    obtain ⟨v, rfl, hi⟩ := hsk ρ vals w S hr hok hvs
    rw [hv 63]
    exact sk95 (spacesR hok) hi) ?_
  refine known_num name_SKR (fun ρ vals w S hr hok hvs => by
    obtain ⟨v, rfl, hi⟩ := hsk ρ vals w S hr hok hvs
    rw [hv 63]
    exact sk80 (spacesR hok) hi) (known_nothing _)

def plArgs (d w : Bool) (sk : SV) : List SV := [.agg [(.sint .i64 (.var 1)), (.sint .u64 (.var 2)), (.sint .u64 (.var 3)), (.sint .u64 (.var 4)), (.sint .u64 (.var 5)), (.sint .u64 (.var 6)), (.sint .u64 (.var 7)), (.bool d), (.bool w), (.sint .i64 (.var 10)), (.sint .i64 (.var 11)), (.sint .i64 (.var 12)), (.sint .i64 (.var 13)), sk]]
theorem plArgs_rel {p : Pln} {σ : Sig} (hσ : σ.var = p.var) {sk : SV} {v : Value} (hv : VRel (.nil σ) sk v) : VRels (.nil σ) (plArgs p.d p.w sk) [.agg (p.val v).toArray] := by
  have h : ∀ k i, VRel (.nil σ) (.sint k (.var i)) (.int k (p.var i)) := fun k i => by
    have := VRel.sint (ρ := .nil σ) k (.var i)
    have e : (IE.var i).val (Ren.nil σ).sig = p.var i := by show σ.var i = _; rw [hσ]
    rw [e] at this
    exact this
  exact .cons (.agg (.cons (h _ 1) (.cons (h _ 2) (.cons (h _ 3) (.cons (h _ 4) (.cons (h _ 5) (.cons (h _ 6) (.cons (h _ 7) (.cons (.bool _) (.cons (.bool _) (.cons (h _ 10) (.cons (h _ 11) (.cons (h _ 12) (.cons (h _ 13) (.cons hv .nil))))))))))))))) .nil
/-- A state for a plan. -/
theorem plan_sig {p : Pln} {W : World} (hW : Spaces W) {v : Value} (hs : p.sk.Is W v) : ∃ (σ : Sig) (sk : SV) (nil : Bool), σ.var = p.var ∧ SkA p.sk W σ sk nil ∧ VRel (.nil σ) sk v ∧ ((p.sk.n : Int) = match nil with | true => 0 | false => (IE.len 51).val σ) ∧ ((sk = .row 51 ∧ nil = false) ∨ (sk = .nilslice ∧ nil = true)) := by
  rcases hs.sig hW with ⟨rfl, h0⟩ | ⟨σ, hst, -, hrel⟩
  · obtain ⟨arr, el, fz, h1, -⟩ := hW.cells 0 spaceCells rfl
    refine ⟨{ var := p.var, fn := fnS, row := fun _ => (0, 0, 2, 0), cell := fun _ _ _ => .bool false }, .nilslice, true, rfl, .nil h0 fun a ks e => ?_, .nilslice, by simp [h0], .inr ⟨rfl, rfl⟩⟩
    unfold rowB at e
    split at e
    · simp only [Option.some.injEq] at e
      subst e
      exact ⟨0, 0, 0, arr, el, fz, rfl, h1, fun i c k hi => by omega⟩
    · cases e
  · refine ⟨{ σ with var := p.var }, .row 51, false, rfl, .row ⟨fun a ks e => hst.rows a ks e, hst.row, hst.cell, hst.few⟩, ?_, ?_, .inl ⟨rfl, rfl⟩⟩
    · cases hrel with
      | row h hc => exact .row h hc
      | rowE h => exact .rowE h
    · have := hst.len
      exact this.symm
def skOf : Bool → SV | false => .row 51 | true => .nilslice
theorem planP_T : ∀ (d w nil : Bool) (σ : Sig), (planPT (d || w) nil).ok (callIs (envR rowB σ) (fun F => planK d w (skOf nil) (envR rowB σ F)) 40 76 (plArgs d w (skOf nil))) [] = true
  | false, false, false, σ => by have h := plP00s_ok σ; rw [plP00s_is] at h; exact h
  | false, false, true, σ => by have h := plP00n_ok σ; rw [plP00n_is] at h; exact h
  | false, true, false, σ => by have h := plP01s_ok σ; rw [plP01s_is] at h; exact h
  | false, true, true, σ => by have h := plP01n_ok σ; rw [plP01n_is] at h; exact h
  | true, false, false, σ => by have h := plP10s_ok σ; rw [plP10s_is] at h; exact h
  | true, false, true, σ => by have h := plP10n_ok σ; rw [plP10n_is] at h; exact h
  | true, true, false, σ => by have h := plP11s_ok σ; rw [plP11s_is] at h; exact h
  | true, true, true, σ => by have h := plP11n_ok σ; rw [plP11n_is] at h; exact h
theorem planR_T : ∀ (d w nil : Bool) (σ : Sig), (planRT (d || w) nil).ok (callIs (envR rowB σ) (fun F => planK d w (skOf nil) (envR rowB σ F)) 40 51 (plArgs d w (skOf nil))) [] = true
  | false, false, false, σ => by have h := plR00s_ok σ; rw [plR00s_is] at h; exact h
  | false, false, true, σ => by have h := plR00n_ok σ; rw [plR00n_is] at h; exact h
  | false, true, false, σ => by have h := plR01s_ok σ; rw [plR01s_is] at h; exact h
  | false, true, true, σ => by have h := plR01n_ok σ; rw [plR01n_is] at h; exact h
  | true, false, false, σ => by have h := plR10s_ok σ; rw [plR10s_is] at h; exact h
  | true, false, true, σ => by have h := plR10n_ok σ; rw [plR10n_is] at h; exact h
  | true, true, false, σ => by have h := plR11s_ok σ; rw [plR11s_is] at h; exact h
  | true, true, true, σ => by have h := plR11n_ok σ; rw [plR11n_is] at h; exact h
theorem planP_calls {p : Pln} {W : World} (hW : Spaces W) (hu : p.InU) {v : Value} (hs : p.sk.Is W v) : Calls Tryz.prog 76 #[.agg (p.val v).toArray] W fun e w' => e = .returned (errV p.ok 16) ∧ On W w' := by
  obtain ⟨σ, sk, nil, hσ, hsk, hv, hn, hor⟩ := plan_sig hW hs
  have hsk' : sk = skOf nil := by rcases hor with ⟨rfl, rfl⟩ | ⟨rfl, rfl⟩ <;> rfl
  subst hsk'
  exact fn_dt (E := envR rowB σ) (K := fun F => planK p.d p.w (skOf nil) (envR rowB σ F)) (σ := σ) (P := Tryz.prog) (fun _ => rfl) (fun _ => rfl) (fun F hF => ⟨numR hsk.rows hF, known_plan hσ hu hsk hF, liesR F hW hsk.rows⟩) (T := planPT (p.d || p.w) nil) (d := 40) (f := 76) (args := plArgs p.d p.w (skOf nil)) (planP_T p.d p.w nil σ) (plArgs_rel hσ hv) fun ρ _ u hu => by
    rw [planPT_eval hn, hσ] at hu
    exact pick_err hu
theorem planR_calls {p : Pln} {W : World} (hW : Spaces W) (hu : p.InU) {v : Value} (hs : p.sk.Is W v) : Calls Tryz.prog 51 #[.agg (p.val v).toArray] W fun e w' => e = .returned (errV p.ok 16) ∧ On W w' := by
  obtain ⟨σ, sk, nil, hσ, hsk, hv, hn, hor⟩ := plan_sig hW hs
  have hsk' : sk = skOf nil := by rcases hor with ⟨rfl, rfl⟩ | ⟨rfl, rfl⟩ <;> rfl
  subst hsk'
  exact fn_dt (E := envR rowB σ) (K := fun F => planK p.d p.w (skOf nil) (envR rowB σ F)) (σ := σ) (P := Tryz.prog) (fun _ => rfl) (fun _ => rfl) (fun F hF => ⟨numR hsk.rows hF, known_plan hσ hu hsk hF, liesR F hW hsk.rows⟩) (T := planRT (p.d || p.w) nil) (d := 40) (f := 51) (args := plArgs p.d p.w (skOf nil)) (planR_T p.d p.w nil σ) (plArgs_rel hσ hv) fun ρ _ u hu => by
    rw [planRT_eval hn, hσ] at hu
    exact pick_err hu
end Go.Proofs.YtmcmagheiijnhaaGreatDoor

/- A configuration's jobs in memory; what is known of calls on the job at hand. -/
set_option linter.all false
set_option maxRecDepth 100000
namespace Go.Proofs.YtmcmagheiijnhaaGreatDoor
open Go.RX Go.RX.Sym
open Classical

structure Cfg where
  n : Nat
  b : Nat
  x : Nat
  name : Nat → ByteArray
  pln : Nat → Pln
  nil : Nat → Bool
  /-- Where a slice of no spans and no capacity points to, if it is not nil. -/
  adr : Nat → Option Addr
  sb : Nat → Nat
  sx : Nat → Nat
  sc : Nat → Nat
  pol : Nat → List Int
/-- The wait behind an attempt. -/
def wkS (b c : Int) : Nat → Int
  | 0 => b
  | i + 1 => min (wkS b c i + wkS b c i) c
namespace Cfg
def skv (c : Cfg) (i : Nat) : Value := match c.nil i with | true => .slice (c.adr i) 0 0 | false => .slice (some ⟨c.sb i, c.sx i, none⟩) (c.pln i).sk.n (c.sc i)
def loc (c : Cfg) (i : Nat) : Nat × Nat × Nat × Nat := match c.nil i with | true => (0, 0, 2, 0) | false => (c.sb i, c.sx i, 2, (c.pln i).sk.n)
def cell (c : Cfg) (i k : Nat) : Value := match k with
  | 0 => .string (c.name i)
  | 1 => .int .i64 (c.pln i).kind
  | 2 => .int .u64 ((c.pln i).u 2) | 3 => .int .u64 ((c.pln i).u 3) | 4 => .int .u64 ((c.pln i).u 4) | 5 => .int .u64 ((c.pln i).u 5) | 6 => .int .u64 ((c.pln i).u 6) | 7 => .int .u64 ((c.pln i).u 7)
  | 8 => .bool (c.pln i).d | 9 => .bool (c.pln i).w
  | 10 => .int .i64 (c.pln i).zone | 11 => .int .i64 (c.pln i).st | 12 => .int .i64 (c.pln i).pe | 13 => .int .i64 (c.pln i).co
  | 14 => c.skv i
  | k + 15 => .int .i64 ((c.pol i).getD k 0)
noncomputable def fn (c : Cfg) (f : Nat) (l : List Int) : Int := match f, l with
  | 60, [i] => ind (nameOk (c.name i.toNat))
  | 61, [i] => ind (c.pln i.toNat).ok
  | 62, [i] => ind (polS (c.pol i.toNat))
  | 63, [i] => ind (∃ k, k < i.toNat ∧ c.name k = c.name i.toNat)
  | 64, [i, k] => wkS ((c.pol i.toNat).getD 12 0) ((c.pol i.toNat).getD 13 0) (k.toNat - 1)
  | 90, [i, k] => ind (c.name i.toNat = c.name k.toNat)
  | f, l => fnS f l
structure Ok (c : Cfg) (W : World) : Prop where
  few : c.n ≤ 127
  lies : ∃ (arr : Array Value) (el : TypeId) (fz : Nat × Nat), W.heap[c.b]? = some (.cells arr el fz) ∧ ∀ i k, i < c.n → k < 30 → arr[c.x + i * 30 + k]? = some (c.cell i k)
  inU : ∀ i, (c.pln i).InU
  skip : ∀ i, match c.nil i with
    | true => (c.pln i).sk.n = 0
    | false => (∃ (arr : Array Value) (el : TypeId) (fz : Nat × Nat), W.heap[c.sb i]? = some (.cells arr el fz) ∧ ∀ j, j < (c.pln i).sk.n → arr[c.sx i + j * 2]? = some (.int .i64 ((c.pln i).sk.f j)) ∧ arr[c.sx i + j * 2 + 1]? = some (.int .i64 ((c.pln i).sk.t j))) ∧ (c.pln i).sk.n ≤ c.sc i ∧ (c.pln i).sk.n ≤ 1000000
  pol : ∀ i, (c.pol i).length = 15
  far : ∀ i, 127 < i → c.nil i = true
end Cfg
def jobKinds : List (Option IntKind) := [none, some .i64, some .u64, some .u64, some .u64, some .u64, some .u64, some .u64, none, none, some .i64, some .i64, some .i64, some .i64, none, some .i64, some .i64, some .i64, some .i64, some .i64, some .i64, some .i64, some .i64, some .i64, some .i64, some .i64, some .i64, some .i64, some .i64, some .i64]
def rowC : Kinds := fun a => match a with | 0 => some jobKinds | a + 1 => match Nat.ble a 127 with | true => some spanK | false => none
/-- Texts that are the same, maps of names: asked by questions. -/
noncomputable def veqF (F : List Fact) (k : Bool) (a : Nat) (i : IE) (c : Nat) (b : Nat) (j : IE) (d : Nat) : Option Bool := match k, a, c, b, d with
  | true, 0, 0, 0, 0 => factEq F (.fn 90 [i, j]) (.lit 1)
  | _, _, _, _, _ => none
noncomputable def mgetF (F : List Fact) (d : TypeDesc) (a : Nat) (k : SV) : Option (Option SV) := match d, a, k with
  | .string, 2, .cellv 0 (.var 1) 0 => (match factEq F (.fn 63 [.var 1]) (.lit 1) with | some true => some (some (.bool true)) | some false => some none | none => none)
  | _, _, _ => none
noncomputable def msetF (d : TypeDesc) (a : Nat) (k x : SV) : Option Nat := match d, a, k, x with
  | .string, 2, .cellv 0 (.var 1) 0, .bool true => some 3
  | _, _, _, _ => none
noncomputable def envC (σ : Sig) (F : List Fact) : Env := { P := Tryz.prog, G := globals, rows := rowC, lt := factLt F, eq := factEq F, sig := σ, veq := veqF F, mget := mgetF F, mset := msetF }
/-- A map of the names of the first i jobs. -/
def RepM (c : Cfg) (i : Nat) (ob : Obj) : Prop := ∃ arr clk, ob = .map arr clk ∧ (∀ e ∈ arr.toList, ∃ j, j < i ∧ e.key = .string (c.name j) ∧ e.val = .bool true) ∧ ∀ j, j < i → ∃ e ∈ arr.toList, e.key = .string (c.name j)
def MapC (c : Cfg) (σ : Sig) : Prop := ∀ ob, σ.obj 2 ob → ∃ i : Nat, σ.var 1 = i ∧ RepM c i ob ∧ ∀ ob', RepM c (i + 1) ob' → σ.obj 3 ob'
theorem bytes_beq (s t : ByteArray) : (s == t) = decide (s = t) := by
  rw [beq_toListBytes, ByteArray.toList_eq, ByteArray.toList_eq]
  by_cases h : s = t
  · subst h; simp
  · have : s.data.toList ≠ t.data.toList := fun e => h (ByteArray.ext (Array.ext' e))
    rw [decide_eq_false h]
    exact beq_false_of_ne this
theorem find_str {s : ByteArray} : ∀ {l : List MapEntry} (k : Nat), (∀ e ∈ l, ∃ t, e.key = .string t) → (∃ j e, l[j]? = some e ∧ e.key = .string s ∧ Instr.findNow .string (.string s) l k = some (some (k + j, e.val))) ∨ ((∀ e ∈ l, e.key ≠ .string s) ∧ Instr.findNow .string (.string s) l k = some none)
  | [], k, _ => .inr ⟨fun e h => (by cases h), rfl⟩
  | e :: l, k, h => by
    obtain ⟨t, ht⟩ := h e (by simp)
    have hs : Instr.sameNow .string (.string s) e.key = some (decide (s = t)) := by rw [ht, ← bytes_beq]; rfl
    by_cases hc : s = t
    · subst hc
      refine .inl ⟨0, e, rfl, ht, ?_⟩
      simp [Instr.findNow, hs]
    · rw [decide_eq_false hc] at hs
      rcases find_str (k + 1) (fun e he => h e (List.mem_cons_of_mem _ he)) with ⟨j, e', h1, h2, h3⟩ | ⟨h1, h2⟩
      · refine .inl ⟨j + 1, e', by simpa using h1, h2, ?_⟩
        simp only [Instr.findNow, hs, h3]
        congr 3
        omega
      · refine .inr ⟨fun x hx => ?_, by simp [Instr.findNow, hs, h2]⟩
        rcases List.mem_cons.1 hx with rfl | hx
        · rw [ht]; intro e; cases e; exact hc rfl
        · exact h1 x hx
/-- What texts of numbers stand for. -/
structure IsC (c : Cfg) (σ : Sig) : Prop where
  fn : σ.fn = c.fn
  row0 : σ.row 0 = (c.b, c.x, 30, c.n)
  cell0 : σ.cell 0 = c.cell
  rows : ∀ i, σ.row (i + 1) = c.loc i
  cells : ∀ i j k, σ.cell (i + 1) j k = (c.pln i).sk.cell j k
theorem IsC.puts {c : Cfg} {σ : Sig} (h : IsC c σ) (θ : List (Nat × IE)) : IsC c (σ.puts θ) := ⟨h.fn, h.row0, h.cell0, h.rows, h.cells⟩
section
variable {c : Cfg} {W : World}
def KindOk (kd : Option IntKind) (v : Value) : Prop := match kd with | some kd => ∃ z, v = .int kd z | none => v.oneCell' = true
theorem KI {kd : IntKind} {z : Int} {v : Value} (h : v = .int kd z) : KindOk (some kd) v := ⟨_, h⟩
theorem KN {v : Value} (h : v.oneCell' = true) : KindOk none v := h
theorem cell_kind {i k : Nat} {kd : Option IntKind} (h : jobKinds[k]? = some kd) : KindOk kd (c.cell i k) := by
  have hk : k < 30 := (List.getElem?_eq_some_iff.1 h).1
  rcases Nat.lt_or_ge k 15 with h15 | h15
  · match k, h15, h with
    | 0, _, h => simp [jobKinds] at h; subst h; exact KN rfl
    | 1, _, h => simp [jobKinds] at h; subst h; exact KI rfl
    | 2, _, h => simp [jobKinds] at h; subst h; exact KI rfl
    | 3, _, h => simp [jobKinds] at h; subst h; exact KI rfl
    | 4, _, h => simp [jobKinds] at h; subst h; exact KI rfl
    | 5, _, h => simp [jobKinds] at h; subst h; exact KI rfl
    | 6, _, h => simp [jobKinds] at h; subst h; exact KI rfl
    | 7, _, h => simp [jobKinds] at h; subst h; exact KI rfl
    | 8, _, h => simp [jobKinds] at h; subst h; exact KN rfl
    | 9, _, h => simp [jobKinds] at h; subst h; exact KN rfl
    | 10, _, h => simp [jobKinds] at h; subst h; exact KI rfl
    | 11, _, h => simp [jobKinds] at h; subst h; exact KI rfl
    | 12, _, h => simp [jobKinds] at h; subst h; exact KI rfl
    | 13, _, h => simp [jobKinds] at h; subst h; exact KI rfl
    | 14, _, h =>
      simp [jobKinds] at h
      subst h
      refine KN ?_
      show (c.skv i).oneCell' = true
      unfold Cfg.skv
      split <;> rfl
    | k + 15, h', _ => omega
  · obtain ⟨k, rfl⟩ : ∃ j, k = j + 15 := ⟨k - 15, by omega⟩
    have hkk : kd = some .i64 := by
      have : jobKinds[k + 15]? = some (some .i64) := by
        have : k = 0 ∨ k = 1 ∨ k = 2 ∨ k = 3 ∨ k = 4 ∨ k = 5 ∨ k = 6 ∨ k = 7 ∨ k = 8 ∨ k = 9 ∨ k = 10 ∨ k = 11 ∨ k = 12 ∨ k = 13 ∨ k = 14 := by omega
        rcases this with h | h | h | h | h | h | h | h | h | h | h | h | h | h | h <;> subst h <;> rfl
      rw [this] at h
      simpa using h.symm
    subst hkk
    exact KI rfl
theorem rowsC (hW : Spaces W) (hc : c.Ok W) {σ : Sig} (hσ : IsC c σ) : RowsIn W rowC σ := fun a ks e => by
  unfold rowC at e
  split at e
  · simp only [Option.some.injEq] at e
    subst e
    obtain ⟨arr, el, fz, h1, h2⟩ := hc.lies
    refine ⟨c.b, c.x, c.n, arr, el, fz, hσ.row0, h1, fun i k kd hi hk => ⟨?_, ?_⟩⟩
    · rw [hσ.cell0]; exact h2 i k hi (List.getElem?_eq_some_iff.1 hk).1
    · rw [hσ.cell0]; have := cell_kind (c := c) (i := i) hk; unfold KindOk at this; exact this
  · rename_i a
    split at e
    · simp only [Option.some.injEq] at e
      subst e
      have hs := hc.skip a
      rw [hσ.rows]
      unfold Cfg.loc
      split
      · obtain ⟨arr, el, fz, h1, -⟩ := hW.cells 0 spaceCells rfl
        exact ⟨0, 0, 0, arr, el, fz, rfl, h1, fun i c k hi => by omega⟩
      · rename_i hn
        rw [hn] at hs
        obtain ⟨⟨arr, el, fz, h1, h2⟩, h3, h4⟩ := hs
        refine ⟨c.sb a, c.sx a, (c.pln a).sk.n, arr, el, fz, rfl, h1, fun i k kd hi hk => ?_⟩
        rw [hσ.cells]
        match k, hk with
        | 0, hk => simp [spanK] at hk; subst hk; exact ⟨(h2 i hi).1, _, rfl⟩
        | 1, hk => simp [spanK] at hk; subst hk; exact ⟨(h2 i hi).2, _, rfl⟩
        | k + 2, hk => simp [spanK] at hk
    · cases e
theorem IsC.len {σ : Sig} (h : IsC c σ) : (IE.len 0).val σ = c.n := by
  show (((σ.row 0).2.2.2 : Nat) : Int) = c.n
  rw [h.row0]

/-! ### What is known of calls on the job at hand -/
def jc (k : Nat) : SV := .sint .i64 (.sel 0 (.var 1) k)
def ju (k : Nat) : SV := .sint .u64 (.sel 0 (.var 1) k)
def jv (k : Nat) : SV := .cellv 0 (.var 1) k
def planA : SV := .agg [jc 1, ju 2, ju 3, ju 4, ju 5, ju 6, ju 7, jv 8, jv 9, jc 10, jc 11, jc 12, jc 13, jv 14]
def polA : SV := .agg [jc 15, jc 16, jc 17, jc 18, jc 19, jc 20, jc 21, jc 22, jc 23, jc 24, jc 25, jc 26, jc 27, jc 28, jc 29]
noncomputable def jobK (E : Env) : Nat → List SV → SW → Option (SV × SW) :=
  plainK 73 (atG [jv 0] (askV E (.fn 60 [.var 1]) (.bool true) (.bool false))) (plainK 50 (atG [jv 0] (askV E (.fn 60 [.var 1]) (.bool true) (.bool false)))
  (plainK 76 (atG [planA] (askV E (.fn 61 [.var 1]) okV ruleV)) (plainK 51 (atG [planA] (askV E (.fn 61 [.var 1]) okV ruleV))
  (plainK 77 (atG [polA] (askV E (.fn 62 [.var 1]) okV ruleV)) (plainK 52 (atG [polA] (askV E (.fn 62 [.var 1]) okV ruleV)) noC)))))
theorem known_askQ {E : Env} (hn : NumOk E) {f : Nat} {q : IE} {A : List SV} {p : Prop} {yes no : SV} {u : Value} {K : Nat → List SV → SW → Option (SV × SW)} (hname : ∀ (vals : Array Value) w, (callFunc f vals).run E.P w = .ok (.enter f vals) w) (hv : q.val E.sig = ind p)
    (hy : p → ∀ ρ, VRel ρ yes u) (hno : ¬ p → ∀ ρ, VRel ρ no u)
    (h : ∀ ρ vals w S, ρ.sig = E.sig → Ok E ρ S w → VRels ρ A vals → Calls E.P f vals.toArray w fun e w' => e = .returned u ∧ On w w') (hK : Known E K) : Known E (plainK f (atG A (askV E q yes no)) K) :=
  known_plain hname (fun args x hg ρ vals w S hok hr => by
    unfold atG at hg
    split at hg
    · rename_i ha
      have ha := svsEq_sound _ _ ha
      subst ha
      refine callsIn_wide.1 (CallsIn.mono (callsIn_wide.2 (h ρ vals w S hok.num.sig hok hr)) (n := 0) ?_)
      rintro e w' ⟨rfl, o⟩
      rcases askV_some hn hg with ⟨h1, rfl⟩ | ⟨h1, rfl⟩
      · rw [hv, ind_one] at h1
        exact ⟨_, rfl, hy h1 ρ, o⟩
      · rw [hv] at h1
        have h1 : ¬ p := fun hp => h1 (ind_one.2 hp)
        exact ⟨_, rfl, hno h1 ρ, o⟩
    · cases hg) hK
theorem name_NMP (vals : Array Value) (w : World) : (callFunc 73 vals).run Tryz.prog w = .ok (.enter 73 vals) w := by kernel_rfl
theorem name_NMR (vals : Array Value) (w : World) : (callFunc 50 vals).run Tryz.prog w = .ok (.enter 50 vals) w := by kernel_rfl
theorem name_PLP (vals : Array Value) (w : World) : (callFunc 76 vals).run Tryz.prog w = .ok (.enter 76 vals) w := by kernel_rfl
theorem name_PLR (vals : Array Value) (w : World) : (callFunc 51 vals).run Tryz.prog w = .ok (.enter 51 vals) w := by kernel_rfl
theorem name_POP (vals : Array Value) (w : World) : (callFunc 77 vals).run Tryz.prog w = .ok (.enter 77 vals) w := by kernel_rfl
theorem name_POR (vals : Array Value) (w : World) : (callFunc 52 vals).run Tryz.prog w = .ok (.enter 52 vals) w := by kernel_rfl
theorem jc_val {ρ : Ren} (h : IsC c ρ.sig) {i : Nat} (hv : ρ.sig.var 1 = i) {k : Nat} {z : Int} {kd kd' : IntKind} (hz : c.cell i k = .int kd z) {v : Value} (hr : VRel ρ (.sint kd' (.sel 0 (.var 1) k)) v) : v = .int kd' z := by
  have := hr.sint_inv
  rw [this]
  show Value.int kd' (match ρ.sig.cell 0 (ρ.sig.var 1).toNat k with | .int _ n => n | _ => 0) = _
  rw [hv, Int.toNat_natCast, h.cell0, hz]
theorem jv_val {ρ : Ren} (h : IsC c ρ.sig) {i : Nat} (hv : ρ.sig.var 1 = i) {k : Nat} {v : Value} (hr : VRel ρ (jv k) v) : v = c.cell i k := by
  generalize hx : jv k = x at hr
  cases hr <;> first | (cases hx; done) | skip
  rename_i h1 _
  cases hx
  rw [h1]
  show ρ.sig.cell 0 (ρ.sig.var 1).toNat k = _
  rw [hv, Int.toNat_natCast, h.cell0]
theorem planA_vals {ρ : Ren} (h : IsC c ρ.sig) {i : Nat} (hv : ρ.sig.var 1 = i) {vals : List Value} (hr : VRels ρ [planA] vals) : vals = [.agg ((c.pln i).val (c.skv i)).toArray] := by
  cases hr with
  | cons hr hs =>
    cases hs
    cases hr with
    | agg hr =>
      cases hr with
      | cons h1 hr => cases hr with
        | cons h2 hr => cases hr with
          | cons h3 hr => cases hr with
            | cons h4 hr => cases hr with
              | cons h5 hr => cases hr with
                | cons h6 hr => cases hr with
                  | cons h7 hr => cases hr with
                    | cons h8 hr => cases hr with
                      | cons h9 hr => cases hr with
                        | cons h10 hr => cases hr with
                          | cons h11 hr => cases hr with
                            | cons h12 hr => cases hr with
                              | cons h13 hr => cases hr with
                                | cons h14 hr =>
                                  cases hr
                                  rw [jc_val h hv rfl h1, jc_val h hv rfl h2, jc_val h hv rfl h3, jc_val h hv rfl h4, jc_val h hv rfl h5, jc_val h hv rfl h6, jc_val h hv rfl h7, jv_val h hv h8, jv_val h hv h9, jc_val h hv rfl h10, jc_val h hv rfl h11, jc_val h hv rfl h12, jc_val h hv rfl h13, jv_val h hv h14]
                                  rfl
theorem polA_vals {ρ : Ren} (h : IsC c ρ.sig) {i : Nat} (hv : ρ.sig.var 1 = i) (hl : (c.pol i).length = 15) {vals : List Value} (hr : VRels ρ [polA] vals) : vals = [.agg (ivL (c.pol i)).toArray] := by
  have h1 := (flatA_vals (n := 15) (l := (List.range 15).map fun k => IE.sel 0 (.var 1) (k + 15)) rfl hr).1
  rw [h1]
  congr 2
  unfold ivL
  congr 1
  apply List.ext_getElem?
  intro k
  simp only [List.getElem?_map]
  rcases Nat.lt_or_ge k 15 with hk | hk
  · rw [List.getElem?_range hk, List.getElem?_eq_getElem (by omega : k < (c.pol i).length)]
    simp only [Option.map_some]
    show some (Value.int .i64 (match ρ.sig.cell 0 (ρ.sig.var 1).toNat (k + 15) with | .int _ n => n | _ => 0)) = _
    rw [hv, Int.toNat_natCast, h.cell0]
    show some (Value.int .i64 ((c.pol i).getD k 0)) = _
    simp [List.getD, List.getElem?_eq_getElem (by omega : k < (c.pol i).length)]
  · simp [hk, hl]
theorem name_val {σ : Sig} (hσ : IsC c σ) (i : IE) : σ.cell 0 (i.val σ).toNat 0 = .string (c.name (i.val σ).toNat) := by rw [hσ.cell0]; rfl
theorem numC (hW : Spaces W) (hc : c.Ok W) {σ : Sig} (hσ : IsC c σ) (hm : MapC c σ) {F : List Fact} (hF : ∀ f ∈ F, f.holds σ) : NumOk (envC σ F) := by
  have base : NumOk (envR rowC σ F) := numR (rowsC hW hc hσ) hF
  have heq : ∀ (a : IE) r, factEq F a (.lit 1) = some r → (a.val σ = 1 ↔ r = true) := fun a r h => by
    have := base.eq a (.lit 1) r h
    rw [eqb_eq] at this
    have e : (IE.lit 1).val (envR rowC σ F).sig = 1 := rfl
    rw [e] at this
    rw [← this]
    exact (decide_eq_true_iff (p := a.val σ = 1)).symm
  refine fact_num rfl rfl hF base.rows (hce := ⟨fun _ _ _ _ h => (by cases h), fun a i k b j d r h => ?_, fun a i k b j d r h => ?_, ⟨fun d a k r h ρ kv ob hs hk ho => ?_, fun d a k x a' h ρ kv v ob hs hk hx ho => ?_, fun d a k a' h => (by cases h)⟩⟩)
  · have h : veqF F true a i k b j d = some r := h
    unfold veqF at h
    split at h
    · have h1 := heq _ _ h
      have e : (IE.fn 90 [i, j]).val σ = ind (c.name (i.val σ).toNat = c.name (j.val σ).toNat) := by show σ.fn 90 [i.val σ, j.val σ] = _; rw [hσ.fn]; rfl
      rw [e, ind_one] at h1
      refine ⟨_, _, name_val hσ i, name_val hσ j, ?_⟩
      cases r with
      | true => rw [h1.2 rfl, bytes_beq]; simp
      | false =>
        have : ¬ c.name (i.val σ).toNat = c.name (j.val σ).toNat := fun h => by cases h1.1 h
        rw [bytes_beq]; simpa using this
    · cases h
  · have h : veqF F false a i k b j d = some r := h
    simp [veqF] at h
  · have h : mgetF F d a k = some r := h
    unfold mgetF at h
    split at h
    · obtain ⟨i, hv, ⟨arr, clk, rfl, h1, h2⟩, -⟩ := hm ob ho
      have hs : ρ.sig = σ := hs
      have hkv := jv_val (c := c) (k := 0) (by rw [hs]; exact hσ) (by rw [hs]; exact hv) hk
      have hkv : kv = .string (c.name i) := hkv
      subst hkv
      have e : (IE.fn 63 [.var 1]).val σ = ind (∃ k, k < i ∧ c.name k = c.name i) := by show σ.fn 63 [σ.var 1] = _; rw [hσ.fn, hv]; rfl
      refine ⟨arr, clk, rfl, ?_⟩
      have hfind := find_str (s := c.name i) (l := arr.toList) 0 fun e he => by obtain ⟨j, -, h3, -⟩ := h1 e he; exact ⟨_, h3⟩
      split at h
      · rename_i hq
        have hq := (heq _ _ hq).2 rfl
        rw [e, ind_one] at hq
        obtain ⟨j0, hj0, hn0⟩ := hq
        simp only [Option.some.injEq] at h
        subst h
        rcases hfind with ⟨j, e', g1, g2, g3⟩ | ⟨g1, -⟩
        · obtain ⟨j', -, -, g4⟩ := h1 e' (List.mem_of_getElem? g1)
          rw [g4] at g3
          exact .inr ⟨_, _, _, rfl, .bool true, g3⟩
        · obtain ⟨e', g2, g3⟩ := h2 j0 hj0
          exact absurd (g3.trans (by rw [hn0])) (g1 e' g2)
      · rename_i hq
        have hq : ¬ ∃ k, k < i ∧ c.name k = c.name i := fun hp => by
          have := (heq _ _ hq).1 (by rw [e, ind_one]; exact hp)
          cases this
        simp only [Option.some.injEq] at h
        subst h
        rcases hfind with ⟨j, e', g1, g2, g3⟩ | ⟨-, g2⟩
        · obtain ⟨j', g5, g6, -⟩ := h1 e' (List.mem_of_getElem? g1)
          rw [g2] at g6
          simp only [Value.string.injEq] at g6
          exact absurd ⟨j', g5, g6.symm⟩ hq
        · exact .inl ⟨rfl, g2⟩
      · cases h
    · cases h
  · have h : msetF d a k x = some a' := h
    unfold msetF at h
    split at h
    · simp only [Option.some.injEq] at h
      subst h
      obtain ⟨i, hv, ⟨arr, clk, rfl, h1, h2⟩, hup⟩ := hm ob ho
      have hs : ρ.sig = σ := hs
      have hkv := jv_val (c := c) (k := 0) (by rw [hs]; exact hσ) (by rw [hs]; exact hv) hk
      have hkv : kv = .string (c.name i) := hkv
      subst hkv
      cases hx
      refine ⟨arr, clk, rfl, ?_⟩
      have hfind := find_str (s := c.name i) (l := arr.toList) 0 fun e he => by obtain ⟨j, -, h3, -⟩ := h1 e he; exact ⟨_, h3⟩
      rcases hfind with ⟨j, e', g1, g2, g3⟩ | ⟨g1, g2⟩
      · refine .inr ⟨j, e'.val, e', by simpa using g3, by simpa using g1, ?_, hup _ ⟨_, _, rfl, fun e he => ?_, fun j0 hj0 => ?_⟩⟩
        · rw [g2]
          show some (c.name i == c.name i) = _
          rw [bytes_beq]; simp
        · simp only [Array.toList_modify] at he
          obtain ⟨m, hm1⟩ := List.mem_iff_getElem?.1 he
          rw [List.getElem?_modify] at hm1
          cases hg : arr.toList[m]? with
          | none => rw [hg] at hm1; simp at hm1
          | some e0 =>
            rw [hg] at hm1
            simp only [Option.map_eq_map, Option.map_some, Option.some.injEq] at hm1
            by_cases hjm : j = m
            · rw [if_pos hjm] at hm1
              subst hm1
              exact ⟨i, by omega, rfl, rfl⟩
            · rw [if_neg hjm] at hm1
              have hm1 : e0 = e := hm1
              subst hm1
              obtain ⟨j', q1, q2⟩ := h1 e0 (List.mem_of_getElem? hg)
              exact ⟨j', by omega, q2⟩
        · simp only [Array.toList_modify]
          have key : ∀ e0 ∈ arr.toList, ∃ e ∈ arr.toList.modify j fun e => { e with key := .string (c.name i), val := .bool true }, e.key = e0.key := fun e0 he0 => by
            obtain ⟨m, hm1⟩ := List.mem_iff_getElem?.1 he0
            by_cases hjm : j = m
            · subst hjm
              rw [g1] at hm1
              simp only [Option.some.injEq] at hm1
              subst hm1
              refine ⟨{ e' with key := .string (c.name i), val := .bool true }, List.mem_iff_getElem?.2 ⟨j, ?_⟩, g2.symm⟩
              rw [List.getElem?_modify, g1]; simp
            · refine ⟨e0, List.mem_iff_getElem?.2 ⟨m, ?_⟩, rfl⟩
              rw [List.getElem?_modify, hm1]; simp [hjm]
          rcases Nat.lt_or_eq_of_le (Nat.le_of_lt_succ hj0) with hlt | rfl
          · obtain ⟨e0, q1, q2⟩ := h2 j0 hlt
            obtain ⟨e, q3, q4⟩ := key e0 q1
            exact ⟨e, q3, q4.trans q2⟩
          · obtain ⟨e, q3, q4⟩ := key e' (List.mem_of_getElem? g1)
            exact ⟨e, q3, q4.trans g2⟩
      · refine .inl ⟨g2, hup _ ⟨_, _, rfl, fun e he => ?_, fun j0 hj0 => ?_⟩⟩
        · simp only [Array.toList_push, List.mem_append, List.mem_singleton] at he
          rcases he with he | rfl
          · obtain ⟨j', q1, q2⟩ := h1 e he
            exact ⟨j', by omega, q2⟩
          · exact ⟨i, by omega, rfl, rfl⟩
        · simp only [Array.toList_push, List.mem_append, List.mem_singleton]
          rcases Nat.lt_or_eq_of_le (Nat.le_of_lt_succ hj0) with hlt | rfl
          · obtain ⟨e0, q1, q2⟩ := h2 j0 hlt
            exact ⟨e0, .inl q1, q2⟩
          · exact ⟨_, .inr rfl, rfl⟩
    · cases h
theorem liesC (hW : Spaces W) (hc : c.Ok W) {σ : Sig} (hσ : IsC c σ) (F : List Fact) : Lies (envC σ F) W := ⟨(liesF σ F hW).cells, fun a ks ha => rowsC hW hc hσ a ks ha⟩
theorem spacesC {σ : Sig} {F : List Fact} {ρ : Ren} {S : SW} {w : World} (hok : RX.Ok (envC σ F) ρ S w) : Spaces w := by
  have := hok.glob.lies
  refine ⟨fun g cs hg => ?_, fun _ _ h => by cases h⟩
  obtain ⟨arr, el, fz, h1, h2⟩ := this.cells g cs hg
  refine ⟨arr, el, fz, h1, fun k x hk => ?_⟩
  obtain ⟨v, q1, q2⟩ := h2 k x hk
  refine ⟨v, q1, ofValue_rel q2 ?_⟩
  have hg : globals g = some cs := hg
  unfold globals at hg
  split at hg
  · simp only [Option.some.injEq] at hg; subst hg; exact space_int k x hk
  · cases hg
theorem skIs {σ : Sig} {F : List Fact} {ρ : Ren} {S : SW} {w : World} (hc : c.Ok W) (hσ : IsC c σ) (hok : RX.Ok (envC σ F) ρ S w) {i : Nat} (hi : i ≤ 127) : (c.pln i).sk.Is w (c.skv i) := by
  have hs := hc.skip i
  unfold Cfg.skv
  split
  · rename_i hn
    rw [hn] at hs
    cases c.adr i with
    | none => exact .nil hs
    | some a => exact .emp hs
  · rename_i hn
    rw [hn] at hs
    obtain ⟨-, h3, h4⟩ := hs
    obtain ⟨b, x, n, arr, el, fz, e1, e2, e3⟩ := hok.glob.lies.rows (i + 1) spanK (by show rowC (i + 1) = _; show (match Nat.ble i 127 with | true => some spanK | false => none) = _; rw [Nat.ble_eq_true_of_le hi])
    have e1 : σ.row (i + 1) = _ := e1
    rw [hσ.rows] at e1
    unfold Cfg.loc at e1
    rw [hn] at e1
    simp only [Prod.mk.injEq] at e1
    obtain ⟨rfl, rfl, -, rfl⟩ := e1
    refine .some e2 (fun j hj => ?_) h3 h4
    have a0 := e3 j 0 (some .i64) hj rfl
    have a1 := e3 j 1 (some .i64) hj rfl
    have c0 : (envC σ F).sig.cell (i + 1) j 0 = _ := hσ.cells i j 0
    have c1 : (envC σ F).sig.cell (i + 1) j 1 = _ := hσ.cells i j 1
    rw [c0] at a0
    rw [c1] at a1
    exact ⟨a0.1, a1.1⟩
theorem known_job (hW : Spaces W) (hc : c.Ok W) {σ : Sig} (hσ : IsC c σ) (hm : MapC c σ) {i : Nat} (hv : σ.var 1 = i) (hi : i ≤ 127) {F : List Fact} (hF : ∀ f ∈ F, f.holds σ) : Known (envC σ F) (jobK (envC σ F)) := by
  have hn : NumOk (envC σ F) := numC hW hc hσ hm hF
  have q60 : (IE.fn 60 [.var 1]).val (envC σ F).sig = ind (nameOk (c.name i)) := by show σ.fn 60 [σ.var 1] = _; rw [hσ.fn, hv]; rfl
  have q61 : (IE.fn 61 [.var 1]).val (envC σ F).sig = ind (c.pln i).ok := by show σ.fn 61 [σ.var 1] = _; rw [hσ.fn, hv]; rfl
  have q62 : (IE.fn 62 [.var 1]).val (envC σ F).sig = ind (polS (c.pol i)) := by show σ.fn 62 [σ.var 1] = _; rw [hσ.fn, hv]; rfl
  have hnm : ∀ ρ vals, ρ.sig = (envC σ F).sig → VRels ρ [jv 0] vals → vals = [.string (c.name i)] := fun ρ vals hr hvs => by
    cases hvs with
    | cons h h2 =>
      cases h2
      have hr : ρ.sig = σ := hr
      rw [jv_val (c := c) (by rw [hr]; exact hσ) (by rw [hr]; exact hv) h]
      rfl
  have bt : ∀ {p : Prop}, p → ∀ ρ, VRel ρ (.bool true) (.bool (decide p)) := fun {p} h ρ => by rw [decide_eq_true h]; exact .bool true
  have bf : ∀ {p : Prop}, ¬ p → ∀ ρ, VRel ρ (.bool false) (.bool (decide p)) := fun {p} h ρ => by rw [decide_eq_false h]; exact .bool false
  have et : ∀ {p : Prop}, p → ∀ ρ, VRel ρ okV (errV p 16) := fun {p} h ρ => by unfold errV; rw [if_pos h]; exact .int .i64 0
  have ef : ∀ {p : Prop}, ¬ p → ∀ ρ, VRel ρ ruleV (errV p 16) := fun {p} h ρ => by unfold errV; rw [if_neg h]; exact .int .i64 16
  have sg : ∀ {ρ : Ren}, ρ.sig = (envC σ F).sig → IsC c ρ.sig ∧ ρ.sig.var 1 = i := fun {ρ} hr => by
    have hr : ρ.sig = σ := hr
    rw [hr]; exact ⟨hσ, hv⟩
  refine known_askQ hn name_NMP q60 bt bf (fun ρ vals w S hr hok hvs => by rw [hnm ρ vals hr hvs]; exact nm73 (spacesC hok)) ?_
  refine known_askQ hn name_NMR q60 bt bf (fun ρ vals w S hr hok hvs => by rw [hnm ρ vals hr hvs]; exact nm50 (spacesC hok)) ?_
  refine known_askQ hn name_PLP q61 et ef (fun ρ vals w S hr hok hvs => by rw [planA_vals (sg hr).1 (sg hr).2 hvs]; exact planP_calls (spacesC hok) (hc.inU i) (skIs hc hσ hok hi)) ?_
  refine known_askQ hn name_PLR q61 et ef (fun ρ vals w S hr hok hvs => by rw [planA_vals (sg hr).1 (sg hr).2 hvs]; exact planR_calls (spacesC hok) (hc.inU i) (skIs hc hσ hok hi)) ?_
  refine known_askQ hn name_POP q62 et ef (fun ρ vals w S hr hok hvs => by rw [polA_vals (sg hr).1 (sg hr).2 (hc.pol i) hvs]; exact polP_calls (spacesC hok) _ (hc.pol i)) ?_
  exact known_askQ hn name_POR q62 et ef (fun ρ vals w S hr hok hvs => by rw [polA_vals (sg hr).1 (sg hr).2 (hc.pol i) hvs]; exact polR_calls (spacesC hok) _ (hc.pol i)) (known_nothing _)
end
end Go.Proofs.YtmcmagheiijnhaaGreatDoor

/- A rule asked of all jobs: the pieces of slices.IndexFunc, for the three rules. -/
set_option linter.all false
set_option maxRecDepth 100000
namespace Go.Proofs.YtmcmagheiijnhaaGreatDoor
open Go.RX Go.RX.Sym
open Classical

noncomputable def bd78 : Code := match Tryz.f78.body with | some c => c | none => .skip
theorem bd78_is : Tryz.f78.body = some bd78 := by kernel_rfl
theorem nt78 : Tryz.f78.ntmps = 19 := by kernel_rfl
def sl78 : List Nat := [16, 9, 8, 7, 5, 4, 1, 0]
theorem lp78 : (flatC bd78).drop 2 = .block 0 (.loop (inC [2] bd78)) :: (flatC bd78).drop 3 := by kernel_rfl
theorem name_IDX (vals : Array Value) (w : World) : (callFunc 78 vals).run Tryz.prog w = .ok (.enter 78 vals) w := by kernel_rfl
def fA : SV := .func 48 [] [.ptr 0 0]
def ob1 (f : Nat) (e : Int) : List (Nat × SObj) := [(0, .cells [.func f [] [], .int .i64 e] 194)]
def ob2 (m : SObj) : List (Nat × SObj) := [(0, .cells [.func 74 [] [.ptr 1 0], .int .i64 6] 194), (1, .cells [.map 2] 254), (2, m)]
def ob2r : List (Nat × SObj) := [(0, .cells [.func 74 [] [.ptr 1 0], .int .i64 6] 194)]
def hd78 : List SV := frN sl78 [(8, .sint .i64 (.var 1)), (7, .sint .i64 (.len 0)), (1, fA), (0, .row 0)]
def be78 : List SV := frN sl78 [(8, .int .i64 0), (7, .sint .i64 (.len 0)), (1, fA), (0, .row 0)]
def nx78 : List SV := frN sl78 [(8, .sint .i64 (.bin .add .i64 (.var 1) (.lit 1))), (7, .sint .i64 (.len 0)), (1, fA), (0, .row 0)]
def rt78 : List SV := frN sl78 [(4, .sint .i64 (.var 1))]
def fo78 : List SV := frN sl78 [(4, .sint .i64 (.var 5))]
def no78 : List SV := frN sl78 [(4, .int .i64 (-1))]
def ou78 : List SV := frN sl78 [(0, .row 0)]
def ag78 (ob : List (Nat × SObj)) (ω : List (Nat × Nat)) : LpF := ⟨true, ⟨0, [], nx78, ob, 8⟩, { rs := [0], θ := [(1, .bin .add .i64 (.var 1) (.lit 1))], ω := ω }⟩
def re78 (ob : List (Nat × SObj)) : LpF := ⟨false, ⟨1, [], rt78, ob, 8⟩, {}⟩
def ot78 (ob : List (Nat × SObj)) : LpF := ⟨false, ⟨2, [], ou78, ob, 8⟩, {}⟩
def ask (f : Nat) (y n : DT LpF) : DT LpF := .eq (.fn f [.var 1]) (.lit 1) y n
def tA : DT LpF := .lt (.var 1) (.len 0) (ask 60 (.leaf (ag78 (ob1 72 15) [])) (.leaf (re78 (ob1 72 15)))) (.leaf (ot78 (ob1 72 15)))
def tC : DT LpF := .lt (.var 1) (.len 0) (ask 61 (ask 62 (.leaf (ag78 (ob1 75 16) [])) (.leaf (re78 (ob1 75 16)))) (.leaf (re78 (ob1 75 16)))) (.leaf (ot78 (ob1 75 16)))
def tB : DT LpF := .lt (.var 1) (.len 0) (ask 63 (.leaf (re78 ob2r)) (.leaf (ag78 (ob2 (.blob 3)) [(2, 3)]))) (.leaf (ot78 ob2r))
abbrev nneg : List Fact := [⟨true, .var 1, .lit 0, false⟩]
theorem tA_ok (σ : Sig) : tA.ok (lpF (fun F => envC σ F) (fun F => jobK (envC σ F)) 40 19 sl78 (inC [2] bd78) hd78 [] (ob1 72 15) 1) nneg = true := by kernel_rfl
theorem tC_ok (σ : Sig) : tC.ok (lpF (fun F => envC σ F) (fun F => jobK (envC σ F)) 40 19 sl78 (inC [2] bd78) hd78 [] (ob1 75 16) 1) nneg = true := by kernel_rfl
theorem tB_ok (σ : Sig) : tB.ok (lpF (fun F => envC σ F) (fun F => jobK (envC σ F)) 40 19 sl78 (inC [2] bd78) hd78 [] (ob2 (.blob 2)) 3) nneg = true := by kernel_rfl
def bA (ob : List (Nat × SObj)) (n0 : Nat) : DT LfF := .leaf ⟨0, [], be78, ob, n0⟩
theorem bA_ok (σ : Sig) : (bA (ob1 72 15) 1).ok (pieceF (fun F => envC σ F) (fun F => jobK (envC σ F)) 40 19 sl78 ((flatC bd78).take 2) (cutStD (frameOf [.row 0, fA] sl78) [] (ob1 72 15) 1)) [] = true := by kernel_rfl
theorem bC_ok (σ : Sig) : (bA (ob1 75 16) 1).ok (pieceF (fun F => envC σ F) (fun F => jobK (envC σ F)) 40 19 sl78 ((flatC bd78).take 2) (cutStD (frameOf [.row 0, fA] sl78) [] (ob1 75 16) 1)) [] = true := by kernel_rfl
theorem bB_ok (σ : Sig) : (bA (ob2 (.map [] 0)) 3).ok (pieceF (fun F => envC σ F) (fun F => jobK (envC σ F)) 40 19 sl78 ((flatC bd78).take 2) (cutStD (frameOf [.row 0, fA] sl78) [] (ob2 (.map [] 0)) 3)) [] = true := by kernel_rfl
def zA (ob : List (Nat × SObj)) : DT LfF := .leaf ⟨1, [], no78, ob, 8⟩
theorem zA_ok (σ : Sig) : (zA (ob1 72 15)).ok (pieceF (fun F => envC σ F) (fun F => jobK (envC σ F)) 40 19 sl78 (((flatC bd78).drop 3).take 2) (cutStD ou78 [] (ob1 72 15) 8)) [] = true := by kernel_rfl
theorem zC_ok (σ : Sig) : (zA (ob1 75 16)).ok (pieceF (fun F => envC σ F) (fun F => jobK (envC σ F)) 40 19 sl78 (((flatC bd78).drop 3).take 2) (cutStD ou78 [] (ob1 75 16) 8)) [] = true := by kernel_rfl
theorem zB_ok (σ : Sig) : (zA ob2r).ok (pieceF (fun F => envC σ F) (fun F => jobK (envC σ F)) 40 19 sl78 (((flatC bd78).drop 3).take 2) (cutStD ou78 [] ob2r 8)) [] = true := by kernel_rfl
-- where it begins anew, and where it ends, seen with other numbers
def saF : Sa := { rs := [0], θ := [(1, .lit 0)] }
def saB : Sa := { rs := [0], θ := [(1, .lit 0)], β := [(2, 0)] }
theorem seeA : saAll saF 1 hd78 be78 (ob1 72 15) (ob1 72 15) = true := by kernel_rfl
theorem seeC : saAll saF 1 hd78 be78 (ob1 75 16) (ob1 75 16) = true := by kernel_rfl
theorem seeB : saAll saB 3 hd78 be78 (ob2 (.blob 2)) (ob2 (.map [] 0)) = true := by kernel_rfl
def saE : Sa := { rs := [0], θ := [(5, .var 1), (1, .lit 0)] }
theorem endA : saAll saE 8 fo78 rt78 (ob1 72 15) (ob1 72 15) = true := by kernel_rfl
theorem endC : saAll saE 8 fo78 rt78 (ob1 75 16) (ob1 75 16) = true := by kernel_rfl
theorem endB : saAll saE 8 fo78 rt78 ob2r ob2r = true := by kernel_rfl
theorem finA : saAll saF 8 no78 no78 (ob1 72 15) (ob1 72 15) = true := by kernel_rfl
theorem finC : saAll saF 8 no78 no78 (ob1 75 16) (ob1 75 16) = true := by kernel_rfl
theorem finB : saAll saF 8 no78 no78 ob2r ob2r = true := by kernel_rfl
theorem leA (σ : Sig) (F : List Fact) : leftFK (.sint .i64 (.var 5)) (ob1 72 15) [] 8 (envC σ F) sl78 Tryz.f78.results.toList (cutStD fo78 [] (ob1 72 15) 8) = (true, []) := by kernel_rfl
theorem leC (σ : Sig) (F : List Fact) : leftFK (.sint .i64 (.var 5)) (ob1 75 16) [] 8 (envC σ F) sl78 Tryz.f78.results.toList (cutStD fo78 [] (ob1 75 16) 8) = (true, []) := by kernel_rfl
theorem leB (σ : Sig) (F : List Fact) : leftFK (.sint .i64 (.var 5)) ob2r [] 8 (envC σ F) sl78 Tryz.f78.results.toList (cutStD fo78 [] ob2r 8) = (true, []) := by kernel_rfl
theorem lnA (σ : Sig) (F : List Fact) : leftFK (.int .i64 (-1)) (ob1 72 15) [] 8 (envC σ F) sl78 Tryz.f78.results.toList (cutStD no78 [] (ob1 72 15) 8) = (true, []) := by kernel_rfl
theorem lnC (σ : Sig) (F : List Fact) : leftFK (.int .i64 (-1)) (ob1 75 16) [] 8 (envC σ F) sl78 Tryz.f78.results.toList (cutStD no78 [] (ob1 75 16) 8) = (true, []) := by kernel_rfl
theorem lnB (σ : Sig) (F : List Fact) : leftFK (.int .i64 (-1)) ob2r [] 8 (envC σ F) sl78 Tryz.f78.results.toList (cutStD no78 [] ob2r 8) = (true, []) := by kernel_rfl
end Go.Proofs.YtmcmagheiijnhaaGreatDoor

/- A rule asked of all jobs: slices.IndexFunc by contract, for each rule. -/
set_option linter.all false
set_option maxRecDepth 100000
namespace Go.Proofs.YtmcmagheiijnhaaGreatDoor
open Go.RX Go.RX.Sym
open Classical

section
variable {c : Cfg} {W : World}
theorem fixC {σ σ' : Sig} {F F' : List Fact} (h : IsC c σ) (h' : IsC c σ') {b : Nat} (hf : Fix (envC σ' F') b) : Fix (envC σ F) b := by
  rcases hf with ⟨cs, hg⟩ | ⟨a, ks, ha, hb⟩
  · exact .inl ⟨cs, hg⟩
  · refine .inr ⟨a, ks, ha, ?_⟩
    have hb : (σ'.row a).1 = b := hb
    show (σ.row a).1 = b
    cases a with
    | zero => rw [h.row0]; rw [h'.row0] at hb; exact hb
    | succ a => rw [h.rows]; rw [h'.rows] at hb; exact hb
theorem okC_of (hc : c.Ok W) {σ : Sig} (hσ : IsC c σ) {F : List Fact} {w : World} (hL : Lies (envC σ F) w) : c.Ok w where
  few := hc.few
  lies := by
    obtain ⟨b, x, n, arr, el, fz, h1, h2, h3⟩ := hL.rows 0 jobKinds rfl
    have h1 : σ.row 0 = _ := h1
    rw [hσ.row0] at h1
    cases h1
    refine ⟨arr, el, fz, h2, fun i k hi hk => ?_⟩
    have hkk : ∃ kd, jobKinds[k]? = some kd := ⟨_, List.getElem?_eq_getElem (by simpa [jobKinds] using hk)⟩
    obtain ⟨kd, hkd⟩ := hkk
    have := (h3 i k kd hi hkd).1
    have e : (envC σ F).sig.cell 0 i k = c.cell i k := by show σ.cell 0 i k = _; rw [hσ.cell0]
    rw [e] at this
    exact this
  inU := hc.inU
  skip i := by
    have hs := hc.skip i
    split
    · rename_i hn; rw [hn] at hs; exact hs
    · rename_i hn
      rw [hn] at hs
      obtain ⟨-, h3, h4⟩ := hs
      have hi : i ≤ 127 := Nat.le_of_not_lt fun h => by rw [hc.far i h] at hn; cases hn
      obtain ⟨b, x, n, arr, el, fz, e1, e2, e3⟩ := hL.rows (i + 1) spanK (by show (match Nat.ble i 127 with | true => some spanK | false => none) = _; rw [Nat.ble_eq_true_of_le hi])
      have e1 : σ.row (i + 1) = _ := e1
      rw [hσ.rows] at e1
      unfold Cfg.loc at e1
      rw [hn] at e1
      simp only [Prod.mk.injEq] at e1
      obtain ⟨rfl, rfl, -, rfl⟩ := e1
      refine ⟨⟨arr, el, fz, e2, fun j hj => ?_⟩, h3, h4⟩
      have a0 := e3 j 0 (some .i64) hj rfl
      have a1 := e3 j 1 (some .i64) hj rfl
      have c0 : (envC σ F).sig.cell (i + 1) j 0 = _ := hσ.cells i j 0
      have c1 : (envC σ F).sig.cell (i + 1) j 1 = _ := hσ.cells i j 1
      rw [c0] at a0
      rw [c1] at a1
      exact ⟨a0.1, a1.1⟩
  pol := hc.pol
  far := hc.far

/-- The maps at round i. -/
def mapAB : Nat → Nat → Obj → Prop := fun _ _ _ => False
def mapB (c : Cfg) : Nat → Nat → Obj → Prop := fun i a ob => (a = 2 ∧ RepM c i ob) ∨ (a = 3 ∧ RepM c (i + 1) ob)
structure JI (c : Cfg) (σ0 : Sig) (q : Nat → Prop) (Mo : Nat → Nat → Obj → Prop) (σ : Sig) (k : Nat) : Prop where
  is : IsC c σ
  vars : ∀ j, j ≠ 1 → σ.var j = σ0.var j
  at_ : ∃ i : Nat, σ.var 1 = i ∧ i + k = c.n ∧ (∀ j, j < i → q j) ∧ σ.obj = Mo i
theorem JI.nonneg {σ0 σ : Sig} {q : Nat → Prop} {Mo : Nat → Nat → Obj → Prop} {k : Nat} (h : JI c σ0 q Mo σ k) : ∀ f ∈ nneg, f.holds σ := by
  obtain ⟨i, hv, -⟩ := h.at_
  exact hcons (holds_lt (by simp only [IE.val, hv]; exact no (by omega))) hnil

/-- What a rule's pieces are. -/
structure RuleT (c : Cfg) (q : Nat → Prop) (ob0 obh oba obe : List (Nat × SObj)) (n0 : Nat) (ω : List (Nat × Nat)) (T : DT LpF) (Mo : Nat → Nat → Obj → Prop) (β : List (Nat × Nat)) : Prop where
  hn : n0 ≤ 3
  bA : ∀ σ, (Go.Proofs.YtmcmagheiijnhaaGreatDoor.bA ob0 n0).ok (pieceF (fun F => envC σ F) (fun F => jobK (envC σ F)) 40 19 sl78 ((flatC bd78).take 2) (cutStD (frameOf [.row 0, fA] sl78) [] ob0 n0)) [] = true
  see : saAll { rs := [0], θ := [(1, .lit 0)], β := β } n0 hd78 be78 obh ob0 = true
  tr : ∀ σ, T.ok (lpF (fun F => envC σ F) (fun F => jobK (envC σ F)) 40 19 sl78 (inC [2] bd78) hd78 [] obh n0) nneg = true
  ev : ∀ σ (i : Nat), IsC c σ → σ.var 1 = i → T.eval σ = if i < c.n then (if q i then ag78 oba ω else re78 obe) else ot78 obe
  z : ∀ σ, (zA obe).ok (pieceF (fun F => envC σ F) (fun F => jobK (envC σ F)) 40 19 sl78 (((flatC bd78).drop 3).take 2) (cutStD ou78 [] obe 8)) [] = true
  fin : saAll saF 8 no78 no78 obe obe = true
  end_ : saAll saE 8 fo78 rt78 obe obe = true
  le : ∀ σ F, leftFK (.sint .i64 (.var 5)) obe [] 8 (envC σ F) sl78 Tryz.f78.results.toList (cutStD fo78 [] obe 8) = (true, [])
  ln : ∀ σ F, leftFK (.int .i64 (-1)) obe [] 8 (envC σ F) sl78 Tryz.f78.results.toList (cutStD no78 [] obe 8) = (true, [])
  map : ∀ (σ : Sig) (i : Nat), σ.var 1 = (i : Int) → σ.obj = Mo i → MapC c σ
  step : ∀ i ob, ∀ p ∈ ω, Mo i p.2 ob → Mo (i + 1) p.1 ob
  beg : ∀ p ∈ β, Mo 0 p.1 (.map #[] p.2)
  nx : ∀ σ, (T.eval σ).leaf.next ≤ 8
  zero : ∀ i, Mo i 0 = fun _ => False

theorem ruleA_T (c : Cfg) : RuleT c (fun i => nameOk (c.name i)) (ob1 72 15) (ob1 72 15) (ob1 72 15) (ob1 72 15) 1 [] tA mapAB [] where
  hn := by omega
  bA := bA_ok
  see := seeA
  tr := tA_ok
  ev σ i hσ hv := by
    have e1 : (IE.var 1).val σ = i := hv
    have e2 : (IE.fn 60 [.var 1]).val σ = ind (nameOk (c.name i)) := by show σ.fn 60 [σ.var 1] = _; rw [hσ.fn, hv]; rfl
    have e3 : (IE.lit 1).val σ = 1 := rfl
    simp only [tA, ask, DT.eval, e1, e2, e3, hσ.len, ind_one]
    by_cases h : i < c.n
    · rw [if_pos h, if_pos (by omega : (i : Int) < c.n)]
    · rw [if_neg h, if_neg (by omega : ¬ (i : Int) < c.n)]
  z := zA_ok
  fin := finA
  end_ := endA
  le := leA
  ln := lnA
  map σ i hv ho := fun ob h => by rw [ho] at h; cases h
  step i ob p hp := by cases hp
  beg p hp := by cases hp
  nx σ := by simp only [tA, ask, DT.eval]; (repeat' split) <;> exact Nat.le_refl _
  zero i := rfl
theorem ruleC_T (c : Cfg) : RuleT c (fun i => (c.pln i).ok ∧ polS (c.pol i)) (ob1 75 16) (ob1 75 16) (ob1 75 16) (ob1 75 16) 1 [] tC mapAB [] where
  hn := by omega
  bA := bC_ok
  see := seeC
  tr := tC_ok
  ev σ i hσ hv := by
    have e1 : (IE.var 1).val σ = i := hv
    have e2 : (IE.fn 61 [.var 1]).val σ = ind (c.pln i).ok := by show σ.fn 61 [σ.var 1] = _; rw [hσ.fn, hv]; rfl
    have e4 : (IE.fn 62 [.var 1]).val σ = ind (polS (c.pol i)) := by show σ.fn 62 [σ.var 1] = _; rw [hσ.fn, hv]; rfl
    have e3 : (IE.lit 1).val σ = 1 := rfl
    simp only [tC, ask, DT.eval, e1, e2, e3, e4, hσ.len, ind_one]
    by_cases h : i < c.n
    · rw [if_pos h, if_pos (by omega : (i : Int) < c.n)]
      by_cases h1 : (c.pln i).ok
      · rw [if_pos h1]
        by_cases h2 : polS (c.pol i)
        · rw [if_pos h2, if_pos ⟨h1, h2⟩]
        · rw [if_neg h2, if_neg fun h => h2 h.2]
      · rw [if_neg h1, if_neg fun h => h1 h.1]
    · rw [if_neg h, if_neg (by omega : ¬ (i : Int) < c.n)]
  z := zC_ok
  fin := finC
  end_ := endC
  le := leC
  ln := lnC
  map σ i hv ho := fun ob h => by rw [ho] at h; cases h
  step i ob p hp := by cases hp
  beg p hp := by cases hp
  nx σ := by simp only [tC, ask, DT.eval]; (repeat' split) <;> exact Nat.le_refl _
  zero i := rfl
theorem ruleB_T (c : Cfg) : RuleT c (fun i => ¬ ∃ k, k < i ∧ c.name k = c.name i) (ob2 (.map [] 0)) (ob2 (.blob 2)) (ob2 (.blob 3)) ob2r 3 [(2, 3)] tB (mapB c) [(2, 0)] where
  hn := by omega
  bA := bB_ok
  see := seeB
  tr := tB_ok
  ev σ i hσ hv := by
    have e1 : (IE.var 1).val σ = i := hv
    have e2 : (IE.fn 63 [.var 1]).val σ = ind (∃ k, k < i ∧ c.name k = c.name i) := by show σ.fn 63 [σ.var 1] = _; rw [hσ.fn, hv]; rfl
    have e3 : (IE.lit 1).val σ = 1 := rfl
    simp only [tB, ask, DT.eval, e1, e2, e3, hσ.len, ind_one]
    by_cases h : i < c.n
    · rw [if_pos h, if_pos (by omega : (i : Int) < c.n)]
      by_cases h1 : ∃ k, k < i ∧ c.name k = c.name i
      · rw [if_pos h1, if_neg (not_not.2 h1)]
      · rw [if_neg h1, if_pos h1]
    · rw [if_neg h, if_neg (by omega : ¬ (i : Int) < c.n)]
  z := zB_ok
  fin := finB
  end_ := endB
  le := leB
  ln := lnB
  map σ i hv ho := fun ob h => by
    rw [ho] at h
    rcases h with ⟨-, h⟩ | ⟨h, -⟩
    · exact ⟨i, hv, h, fun ob' h' => by rw [ho]; exact .inr ⟨rfl, h'⟩⟩
    · cases h
  step i ob p hp h := by
    simp only [List.mem_singleton] at hp
    subst hp
    rcases h with ⟨h, -⟩ | ⟨-, h⟩
    · cases h
    · exact .inl ⟨rfl, h⟩
  beg p hp := by
    simp only [List.mem_singleton] at hp
    subst hp
    exact .inl ⟨rfl, _, _, rfl, fun e he => (by simp at he), fun j hj => by omega⟩
  nx σ := by simp only [tB, ask, DT.eval]; (repeat' split) <;> exact Nat.le_refl _
  zero i := by
    funext ob
    refine propext ⟨fun h => ?_, fun h => False.elim h⟩
    rcases h with ⟨h, -⟩ | ⟨h, -⟩ <;> cases h
end
end Go.Proofs.YtmcmagheiijnhaaGreatDoor

/- A rule asked of all jobs: slices.IndexFunc hands back the first job that breaks it, or -1. -/
set_option linter.all false
set_option maxRecDepth 100000
namespace Go.Proofs.YtmcmagheiijnhaaGreatDoor
open Go.RX Go.RX.Sym
open Classical

section
variable {c : Cfg} {W : World}
theorem look_ne {j : Nat} {e : IE} (h : j ≠ 1) : sbE.look j [(1, e)] = .var j := by
  simp only [sbE.look]
  have : Nat.beq 1 j = false := by
    cases hb : Nat.beq 1 j with
    | true => exact absurd (Nat.eq_of_beq_eq_true hb).symm h
    | false => rfl
  rw [this]
theorem look_eq {e : IE} : sbE.look 1 [(1, e)] = e := rfl
theorem idx_calls {q : Nat → Prop} {ob0 obh oba obe : List (Nat × SObj)} {n0 : Nat} {ω β : List (Nat × Nat)} {T : DT LpF} {Mo : Nat → Nat → Obj → Prop} (hR : RuleT c q ob0 obh oba obe n0 ω T Mo β) (hc : c.Ok W) {σ0 : Sig} (hσ0 : IsC c σ0) (hv0 : σ0.var 1 = 0) (ho0 : σ0.obj = fun _ _ => False) {F : List Fact}
    {x : SV} (hnone : (∀ j, j < c.n → q j) → x = .int .i64 (-1)) (hsome : ∀ i, i < c.n → (∀ j, j < i → q j) → ¬ q i → x = .sint .i64 (.var 5) ∧ σ0.var 5 = i) : CallsT (envC σ0 F) 78 [.row 0, fA] ob0 n0 x ⟨heapOf obe, 8, 0⟩ := by
  have hn := hR.hn
  refine callsT_F (E := envC σ0 F) (f0 := 78) (fn := Tryz.f78) (body := bd78) (sl := sl78) Tryz.func78 bd78_is name_IDX (by rw [nt78]; decide) (by omega) fun ρ0 W0 a hok hfr hA => ?_
  rw [nt78] at hA
  have hW0 : Spaces W0 := spacesC hok
  have hc0 : c.Ok W0 := okC_of hc hσ0 hok.glob.lies
  have hap := hok.glob.apart
  have hnum : NumOk (envC σ0 F) := ⟨hok.num.lt, hok.num.eq, hok.num.rows, hok.num.pre, hok.num.overs, hok.num.idxs, hok.num.sames, hok.num.mkzs, hok.num.cells, hok.num.str, hok.num.bool, hok.num.maps⟩
  have hm0 : MapC c σ0 := fun ob h => by rw [ho0] at h; cases h
  have hE0 : ∀ F', (∀ f ∈ F', f.holds σ0) → NumOk (envC σ0 F') ∧ Known (envC σ0 F') (jobK (envC σ0 F')) ∧ Lies (envC σ0 F') W0 ∧ ApartF (envC σ0 F') ρ0 ⟨heapOf ob0, n0, 0⟩ := fun F' hF' =>
    ⟨numC hW0 hc0 hσ0 hm0 hF', known_job hW0 hc0 hσ0 hm0 (i := 0) hv0 (by omega) hF', liesC hW0 hc0 hσ0 F', fun b hb => hap b (fixC hσ0 hσ0 hb)⟩
  have hmapJ : ∀ {σ k}, JI c σ0 q Mo σ k → MapC c σ := fun {σ k} h => by
    obtain ⟨i, hv, -, -, ho⟩ := h.at_
    exact hR.map σ i hv ho
  have hE : ∀ σ k, JI c σ0 q Mo σ k → ∀ F', (∀ f ∈ F', f.holds σ) → NumOk (envC σ F') ∧ Known (envC σ F') (jobK (envC σ F')) ∧ Lies (envC σ F') W0 ∧ ApartF (envC σ F') ρ0 ⟨heapOf ob0, n0, 0⟩ := fun σ k hJ F' hF' => by
    obtain ⟨i, hv, hk, -, -⟩ := hJ.at_
    exact ⟨numC hW0 hc0 hJ.is (hmapJ hJ) hF', known_job hW0 hc0 hJ.is (hmapJ hJ) hv (by have := hc.few; omega) hF', liesC hW0 hc0 hJ.is F', fun b hb => hap b (fixC hσ0 hJ.is hb)⟩
  refine wpL_whole ?_
  refine walkF 2 (E := fun F' => envC σ0 F') (K := fun F' => jobK (envC σ0 F')) (fun _ => rfl) (fun _ => rfl) hE0 (hR.bA σ0) hnil (fun l hl => by subst hl; show n0 ≤ 8; omega) hA fun l hl a1 w1 h1 => ?_
  simp only [bA, DT.eval] at hl
  subst hl
  show wpL _ _ ((flatC bd78).drop 2) _ _ _
  rw [lp78]
  have hσ1 : IsC c { σ0.puts [(1, .lit 0)] with obj := Mo 0 } := ⟨hσ0.fn, hσ0.row0, hσ0.cell0, hσ0.rows, hσ0.cells⟩
  refine loopF (E := fun σ F => envC σ F) (K := fun σ F => jobK (envC σ F)) (fun _ _ => rfl) (fun _ _ => rfl) (JI c σ0 q Mo) hE hR.tr (fun σ k h => h.nonneg) (Nat.le_refl n0) (show n0 ≤ 8 by omega) (fun x hx => (by cases hx)) hR.nx (σ0 := { σ0.puts [(1, .lit 0)] with obj := Mo 0 }) (M := c.n)
    ⟨hσ1, fun j hj => by show (sbE.look j [(1, .lit 0)]).val σ0 = _; rw [look_ne hj]; rfl, 0, rfl, by omega, fun j hj => by omega, rfl⟩
    (h1.sa (σ' := { σ0.puts [(1, .lit 0)] with obj := Mo 0 }) (s := { rs := [0], θ := [(1, .lit 0)], β := β }) ⟨⟨fun _ => rfl, rfl, fun _ _ => rfl, fun _ _ => rfl, fun b hb => ?_⟩, fun q hq => (by cases hq), fun p hp => (by cases hp), hR.beg⟩ (Nat.le_refl n0) (show n0 ≤ 8 by omega) (fun x hx => (by cases hx)) hR.see) fun σ k p hJ hp => ?_
  · simp only [List.mem_singleton] at hb
    subst hb
    show Mo 0 0 = σ0.obj 0
    rw [hR.zero, ho0]
  obtain ⟨i, hv, hk, hq, ho⟩ := hJ.at_
  rw [hR.ev σ i hJ.is hv] at hp
  split at hp
  · rename_i hi
    split at hp
    · rename_i hqi
      subst hp
      obtain ⟨k, rfl⟩ : ∃ j, k = j + 1 := ⟨k - 1, by omega⟩
      refine ⟨{ σ.puts [(1, .bin .add .i64 (.var 1) (.lit 1))] with obj := Mo (i + 1) }, k, by omega, ⟨⟨fun _ => rfl, rfl, fun _ _ => rfl, fun _ _ => rfl, fun b hb => ?_⟩, fun q hq => (by cases hq), fun p hp ob h => ?_, fun p hp => (by cases hp)⟩, ⟨⟨hJ.is.fn, hJ.is.row0, hJ.is.cell0, hJ.is.rows, hJ.is.cells⟩, fun j hj => ?_, i + 1, ?_, by omega, fun j hj => ?_, rfl⟩⟩
      · have hb : b ∈ [0] := hb
        simp only [List.mem_singleton] at hb
        subst hb
        show Mo (i + 1) 0 = σ.obj 0
        rw [hR.zero, ho, hR.zero]
      · have h : σ.obj p.2 ob := h
        rw [ho] at h
        exact hR.step i ob p hp h
      · show (sbE.look j _).val σ = _
        rw [look_ne hj]
        exact hJ.vars j hj
      · show opVal .add .i64 (σ.var 1) 1 = _
        rw [hv]
        exact add1 hi (by have := hc.few; omega)
      · rcases Nat.lt_or_eq_of_le (Nat.le_of_lt_succ hj) with h | h
        · exact hq j h
        · rw [h]; exact hqi
    · rename_i hqi
      subst hp
      obtain ⟨rfl, hv5⟩ := hsome i hi hq hqi
      intro a' w' h'
      have h2 : AtF σ0 ρ0 ⟨heapOf ob0, n0, 0⟩ 8 19 sl78 fo78 [] obe 8 W0 a' w' := by
        refine h'.sa (s := saE) ⟨⟨fun j => ?_, by rw [hσ0.fn, hJ.is.fn], fun b hb => ?_, fun b hb => ?_, fun b hb => ?_⟩, fun q hq => (by cases hq), fun p hp => (by cases hp), fun p hp => (by cases hp)⟩ (show n0 ≤ 8 by omega) (Nat.le_refl _) (fun x hx => (by cases hx)) hR.end_
        · show σ0.var j = (sbE.look j [(5, .var 1), (1, .lit 0)]).val σ
          by_cases c5 : j = 5
          · subst c5; show σ0.var 5 = σ.var 1; rw [hv5, hv]
          · have e5 : sbE.look j [(5, .var 1), (1, .lit 0)] = sbE.look j [(1, .lit 0)] := by
              simp only [sbE.look]
              have : Nat.beq 5 j = false := by
                cases hb : Nat.beq 5 j with
                | true => exact absurd (Nat.eq_of_beq_eq_true hb).symm c5
                | false => rfl
              rw [this]
            rw [e5]
            by_cases c1 : j = 1
            · subst c1; exact hv0
            · rw [look_ne c1]; exact (hJ.vars j c1).symm
        · have hb : b ∈ [0] := hb
          simp only [List.mem_singleton] at hb
          subst hb
          rw [hσ0.row0, hJ.is.row0]
        · have hb : b ∈ [0] := hb
          simp only [List.mem_singleton] at hb
          subst hb
          rw [hσ0.cell0, hJ.is.cell0]
        · have hb : b ∈ [0] := hb
          simp only [List.mem_singleton] at hb
          subst hb
          rw [ho0, ho, hR.zero]
      have := leavesF (E := envC σ0 F) (m := 0) hnum (kept := []) rfl (hR.le σ0 F) hok hfr h2
      rw [List.append_nil] at this
      exact this
  · rename_i hi
    subst hp
    obtain rfl := hnone fun j hj => hq j (by omega)
    intro a' w' h'
    show wpL _ _ ((flatC bd78).drop 3) _ _ _
    refine walkF 2 (E := fun F' => envC σ F') (K := fun F' => jobK (envC σ F')) (fun _ => rfl) (fun _ => rfl) (hE σ k hJ) (hR.z σ) hnil (fun l hl => by subst hl; exact Nat.le_refl _) h' fun l hl a2 w2 h2 => ?_
    simp only [zA, DT.eval] at hl
    subst hl
    have h3 : AtF σ0 ρ0 ⟨heapOf ob0, n0, 0⟩ 8 19 sl78 no78 [] obe 8 W0 a2 w2 := by
      refine h2.sa (s := saF) ⟨⟨fun j => ?_, by rw [hσ0.fn, hJ.is.fn], fun b hb => ?_, fun b hb => ?_, fun b hb => ?_⟩, fun q hq => (by cases hq), fun p hp => (by cases hp), fun p hp => (by cases hp)⟩ (show n0 ≤ 8 by omega) (Nat.le_refl _) (fun x hx => (by cases hx)) hR.fin
      · show σ0.var j = (sbE.look j [(1, .lit 0)]).val σ
        by_cases c1 : j = 1
        · subst c1; exact hv0
        · rw [look_ne c1]; exact (hJ.vars j c1).symm
      · have hb : b ∈ [0] := hb
        simp only [List.mem_singleton] at hb
        subst hb
        rw [hσ0.row0, hJ.is.row0]
      · have hb : b ∈ [0] := hb
        simp only [List.mem_singleton] at hb
        subst hb
        rw [hσ0.cell0, hJ.is.cell0]
      · have hb : b ∈ [0] := hb
        simp only [List.mem_singleton] at hb
        subst hb
        rw [ho0, ho, hR.zero]
    have := leavesF (E := envC σ0 F) (m := 0) hnum (kept := []) rfl (hR.ln σ0 F) hok hfr h3
    rw [List.append_nil] at this
    exact this
end
end Go.Proofs.YtmcmagheiijnhaaGreatDoor

/- config.Check and wakemanref16.Check: what they run like, with the rules known. -/
set_option linter.all false
set_option maxRecDepth 100000
namespace Go.Proofs.YtmcmagheiijnhaaGreatDoor
open Go.RX Go.RX.Sym
open Classical

theorem fn_dtF {E : List Fact → Env} {K : List Fact → Nat → List SV → SW → Option (SV × SW)} {σ : Sig} {P : Program} (hs : ∀ F, (E F).sig = σ) (hp : ∀ F, (E F).P = P) {W : World} (hE : ∀ F, (∀ f ∈ F, f.holds σ) → NumOk (E F) ∧ Known (E F) (K F) ∧ Lies (E F) W)
    {T : DT SV} {F0 : List Fact} (h0 : ∀ f ∈ F0, f.holds σ) {d f : Nat} {args : List SV} (h : T.ok (callIs E K d f args) F0 = true) {vals : List Value} (hv : VRels (.nil σ) args vals) {v : Value} (hx : ∀ ρ : Ren, ρ.sig = σ → ∀ u, VRel ρ (T.eval σ) u → u = v) : Calls P f vals.toArray W fun e w' => e = .returned v ∧ On W w' := by
  obtain ⟨F, hF, hm⟩ := DT.sound (σ := σ) h h0
  obtain ⟨hn, hK, hL⟩ := hE F hF
  obtain ⟨S, hr⟩ := callIs_run hm
  have hv' : VRels (.nil (E F).sig) args vals := by rw [hs]; exact hv
  have := run_empty (E := E F) (K := K F) (d := d) (f := f) (args := args) hK hr hv' hn hL
  rw [hp] at this
  refine callsIn_wide.1 (CallsIn.mono (callsIn_wide.2 this) (n := 0) ?_)
  rintro e w' ⟨u, ρ, rfl, he, hu, ho⟩
  rw [hx ρ (he.sig.trans (hs F)) u hu]
  exact ⟨rfl, ho⟩

/-! ### config.Check -/
def nv5 : List Fact := [⟨true, .var 5, .lit 0, false⟩]
def cfArgs (js : SV) : List SV := [.agg [iv 20, iv 21, iv 22, iv 23, .sint .u64 (.var 24), iv 25, iv 26, js]]
noncomputable def limK (E : Env) (f : Nat) (K : Nat → List SV → SW → Option (SV × SW)) : Nat → List SV → SW → Option (SV × SW) := plainK f (atG [.agg [iv 25, iv 26]] (askV E (.fn 52 [.var 25, .var 26]) okV ruleV)) K
noncomputable def kA (x : SV) (K : Nat → List SV → SW → Option (SV × SW)) : Nat → List SV → SW → Option (SV × SW) := memoCall 78 [.row 0, fA] (ob1 72 15) 1 x [] 8 K
noncomputable def kB (x : SV) (K : Nat → List SV → SW → Option (SV × SW)) : Nat → List SV → SW → Option (SV × SW) := memoCall 78 [.row 0, fA] (ob2 (.map [] 0)) 3 x [(1, none), (2, none)] 8 K
noncomputable def kC (x : SV) (K : Nat → List SV → SW → Option (SV × SW)) : Nat → List SV → SW → Option (SV × SW) := memoCall 78 [.row 0, fA] (ob1 75 16) 1 x [] 8 K
def no5 : SV := .int .i64 (-1)
def at5 : SV := .sint .i64 (.var 5)
def ev (n : Int) : DT SV := .leaf (.int .i64 n)
def glT (x : DT SV) : DT SV := .lt (.var 20) (.lit 1) (ev 16) (.lt (.lit 1000) (.var 20) (ev 16) (.lt (.var 21) (.lit 1) (ev 16) (.lt (.lit 1024) (.var 21) (ev 16) (.lt (.var 22) (.lit 0) (ev 16) (.lt (.lit 4096) (.var 22) (ev 16) (.lt (.var 23) (.lit 1) (ev 16) (.lt (.lit 68719476736) (.var 23) (ev 16)
  (.eq (.fn 52 [.var 25, .var 26]) (.lit 1) x (ev 16)))))))))
def cfT (x : Int) : DT SV := glT (.lt (.lit 64) (.len 0) (ev 12) (ev x))
theorem cfA_ok (σ : Sig) : (cfT 15).ok (callIs (envC σ) (fun F => kA at5 (limK (envC σ F) 71 noC)) 40 19 (cfArgs (.row 0))) nv5 = true := by kernel_rfl
theorem cfB_ok (σ : Sig) : (cfT 6).ok (callIs (envC σ) (fun F => kA no5 (kB at5 (limK (envC σ F) 71 noC))) 40 19 (cfArgs (.row 0))) nv5 = true := by kernel_rfl
theorem cfC_ok (σ : Sig) : (cfT 16).ok (callIs (envC σ) (fun F => kA no5 (kB no5 (kC at5 (limK (envC σ F) 71 noC)))) 40 19 (cfArgs (.row 0))) nv5 = true := by kernel_rfl
theorem cfO_ok (σ : Sig) : (cfT 0).ok (callIs (envC σ) (fun F => kA no5 (kB no5 (kC no5 (limK (envC σ F) 71 noC)))) 40 19 (cfArgs (.row 0))) [] = true := by kernel_rfl
theorem cfN_ok (σ : Sig) : (glT (ev 0)).ok (callIs (envC σ) (fun F => limK (envC σ F) 71 noC) 40 19 (cfArgs .nilslice)) [] = true := by kernel_rfl
end Go.Proofs.YtmcmagheiijnhaaGreatDoor
