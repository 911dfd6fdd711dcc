/- Numbers in ranges, and the parts of a policy: trees. -/
import Derived.Test.YtmcmagheiijnhaaGreatDoorV1
set_option linter.all false
set_option maxRecDepth 100000
namespace Go.Proofs.YtmcmagheiijnhaaGreatDoor
open Go.RX Go.RX.Sym
open Classical

def iv (i : Nat) : SV := .sint .i64 (.var i)
def inT : DT SV := .lt (.var 1) (.var 2) (.leaf (.bool false)) (.lt (.var 3) (.var 1) (.leaf (.bool false)) (.leaf (.bool true)))
theorem inT_64 (σ : Sig) : inT.ok (callIs (envF σ) (fun _ => noC) 40 99 [iv 1, iv 2, iv 3]) [] = true := by kernel_rfl
theorem inT_int (σ : Sig) : inT.ok (callIs (envF σ) (fun _ => noC) 40 100 [iv 1, iv 2, iv 3]) [] = true := by kernel_rfl
theorem inT_ref (σ : Sig) : inT.ok (callIs (envF σ) (fun _ => noC) 40 84 [iv 1, iv 2, iv 3]) [] = true := by kernel_rfl
noncomputable def sig3 (x lo hi : Int) : Sig := sigV fun i => match i with | 1 => x | 2 => lo | 3 => hi | _ => 0
theorem in_calls {f : Nat} (hf : ∀ σ, inT.ok (callIs (envF σ) (fun _ => noC) 40 f [iv 1, iv 2, iv 3]) [] = true) {x lo hi : Int} {W : World} (hW : Spaces W) : Calls Tryz.prog f #[.int .i64 x, .int .i64 lo, .int .i64 hi] W fun e w' => e = .returned (.bool (decide (inR x lo hi))) ∧ On W w' :=
  fn_dt (E := envF (sig3 x lo hi)) (K := fun _ => noC) (σ := sig3 x lo hi) (P := Tryz.prog) (fun _ => rfl) (fun _ => rfl) (fnF _ hW) (T := inT) (d := 40) (f := f) (args := [iv 1, iv 2, iv 3]) (hf _)
    (vals := [.int .i64 x, .int .i64 lo, .int .i64 hi]) (.cons (VRel.sint (ρ := .nil (sig3 x lo hi)) .i64 (.var 1)) (.cons (VRel.sint (ρ := .nil (sig3 x lo hi)) .i64 (.var 2)) (.cons (VRel.sint (ρ := .nil (sig3 x lo hi)) .i64 (.var 3)) .nil))) fun ρ _ u hu => by
    unfold inT at hu
    rw [eval_lt, eval_lt] at hu
    have e1 : (IE.var 1).val (sig3 x lo hi) = x := rfl
    have e2 : (IE.var 2).val (sig3 x lo hi) = lo := rfl
    have e3 : (IE.var 3).val (sig3 x lo hi) = hi := rfl
    rw [e1, e2, e3] at hu
    by_cases c1 : x < lo
    · rw [pick_yes c1] at hu
      cases hu
      rw [decide_eq_false (by unfold inR; omega)]
    · rw [pick_no c1] at hu
      by_cases c2 : hi < x
      · rw [pick_yes c2] at hu
        cases hu
        rw [decide_eq_false (by unfold inR; omega)]
      · rw [pick_no c2] at hu
        cases hu
        rw [decide_eq_true (by unfold inR; omega)]
/-- Three numbers as one question. -/
def in3 : List SV → Option (List IE)
  | [x, y, z] => (match toIE x, toIE y, toIE z with
    | some (.i64, a), some (.i64, b), some (.i64, c) => some [a, b, c]
    | _, _, _ => none)
  | _ => none
/-- A call whose answer is a question. -/
noncomputable def qG (E : Env) (tag : Nat) (flat : List SV → Option (List IE)) (yes no : SV) (args : List SV) : Option SV := match flat args with
  | some l => askV E (.fn tag l) yes no
  | none => none
theorem known_q {E : Env} (hn : NumOk E) {f0 tag : Nat} {flat : List SV → Option (List IE)} {yes no : SV} {yv nv : Value} (hy : ∀ ρ, VRel ρ yes yv) (hno : ∀ ρ, VRel ρ no nv) (hname : ∀ (vals : Array Value) w, (callFunc f0 vals).run E.P w = .ok (.enter f0 vals) w)
    (h : ∀ args l, flat args = some l → ∀ (ρ : Ren) vals w S, ρ.sig = E.sig → Ok E ρ S w → VRels ρ args vals → Calls E.P f0 vals.toArray w fun e w' => e = .returned (if E.sig.fn tag (IE.vals E.sig l) = 1 then yv else nv) ∧ On w w') {K : Nat → List SV → SW → Option (SV × SW)} (hK : Known E K) : Known E (plainK f0 (qG E tag flat yes no) K) :=
  known_plain hname (fun args x hg ρ vals w S hok hv => by
    unfold qG at hg
    split at hg
    · rename_i l hl
      refine callsIn_wide.1 (CallsIn.mono (callsIn_wide.2 (h args l hl ρ vals w S hok.num.sig hok hv)) (n := 0) ?_)
      rintro e w' ⟨rfl, o⟩
      have ev : (IE.fn tag l).val E.sig = E.sig.fn tag (IE.vals E.sig l) := rfl
      rcases askV_some hn hg with ⟨h1, rfl⟩ | ⟨h1, rfl⟩
      · rw [ev] at h1
        exact ⟨_, rfl, by rw [if_pos h1]; exact hy ρ, o⟩
      · rw [ev] at h1
        exact ⟨_, rfl, by rw [if_neg h1]; exact hno ρ, o⟩
    · cases hg) hK
theorem spaces_ok {σ : Sig} {F : List Fact} {ρ : Ren} {S : SW} {w : World} (hok : Ok (envF σ F) ρ S w) : Spaces w := by
  have := hok.glob.lies
  refine ⟨fun g cs hg => ?_, fun _ _ h => by cases h⟩
  obtain ⟨arr, el, fz, h1, h2⟩ := this.cells g cs hg
  refine ⟨arr, el, fz, h1, fun k x hk => ?_⟩
  obtain ⟨v, q1, q2⟩ := h2 k x hk
  refine ⟨v, q1, ofValue_rel q2 ?_⟩
  have hg : globals g = some cs := hg
  unfold globals at hg
  split at hg
  · simp only [Option.some.injEq] at hg; subst hg; exact space_int k x hk
  · cases hg
noncomputable def inK (E : Env) : Nat → List SV → SW → Option (SV × SW) := plainK 99 (qG E 50 in3 (.bool true) (.bool false)) (plainK 100 (qG E 50 in3 (.bool true) (.bool false)) noC)
theorem name_ina (vals : Array Value) (w : World) : (callFunc 99 vals).run Tryz.prog w = .ok (.enter 99 vals) w := by kernel_rfl
theorem name_inb (vals : Array Value) (w : World) : (callFunc 100 vals).run Tryz.prog w = .ok (.enter 100 vals) w := by kernel_rfl
theorem in3_some {args : List SV} {l : List IE} (h : in3 args = some l) : ∃ x y z a b c, args = [x, y, z] ∧ l = [a, b, c] ∧ toIE x = some (.i64, a) ∧ toIE y = some (.i64, b) ∧ toIE z = some (.i64, c) := by
  unfold in3 at h
  split at h
  · split at h
    · rename_i h1 h2 h3
      simp only [Option.some.injEq] at h
      exact ⟨_, _, _, _, _, _, rfl, h.symm, h1, h2, h3⟩
    · cases h
  · cases h
theorem in_answers {f : Nat} (hf : ∀ σ, inT.ok (callIs (envF σ) (fun _ => noC) 40 f [iv 1, iv 2, iv 3]) [] = true) {σ : Sig} (hσ : σ.fn = fnS) {F : List Fact} : ∀ args l, in3 args = some l → ∀ (ρ : Ren) vals w S, ρ.sig = (envF σ F).sig → Ok (envF σ F) ρ S w → VRels ρ args vals →
    Calls Tryz.prog f vals.toArray w fun e w' => e = .returned (if (envF σ F).sig.fn 50 (IE.vals (envF σ F).sig l) = 1 then .bool true else .bool false) ∧ On w w' := fun args l hl ρ vals w S hs hok hv => by
  obtain ⟨x, y, z, a, b, c, rfl, rfl, h1, h2, h3⟩ := in3_some hl
  cases hv with
  | cons r1 hv => cases hv with
    | cons r2 hv => cases hv with
      | cons r3 hv =>
        cases hv
        have e1 := toIE_val0 h1 r1
        have e2 := toIE_val0 h2 r2
        have e3 := toIE_val0 h3 r3
        rw [hs] at e1 e2 e3
        subst e1; subst e2; subst e3
        refine callsIn_wide.1 (CallsIn.mono (callsIn_wide.2 (in_calls hf (spaces_ok hok))) (n := 0) ?_)
        rintro e w' ⟨rfl, o⟩
        refine ⟨?_, o⟩
        have : (envF σ F).sig.fn 50 (IE.vals (envF σ F).sig [a, b, c]) = ind (inR (a.val σ) (b.val σ) (c.val σ)) := by
          show σ.fn 50 [a.val σ, b.val σ, c.val σ] = _
          rw [hσ]; rfl
        rw [this]
        by_cases hp : inR (a.val σ) (b.val σ) (c.val σ)
        · rw [if_pos (ind_one.2 hp)]
          show Ending.returned (.bool (decide (inR (a.val σ) (b.val σ) (c.val σ)))) = _
          rw [decide_eq_true hp]
        · rw [if_neg fun h => hp (ind_one.1 h)]
          show Ending.returned (.bool (decide (inR (a.val σ) (b.val σ) (c.val σ)))) = _
          rw [decide_eq_false hp]
theorem known_in {σ : Sig} (hσ : σ.fn = fnS) {F : List Fact} (hF : ∀ f ∈ F, f.holds σ) : Known (envF σ F) (inK (envF σ F)) :=
  known_q (numF σ hF) (fun _ => .bool true) (fun _ => .bool false) name_ina (in_answers inT_64 hσ) (known_q (numF σ hF) (fun _ => .bool true) (fun _ => .bool false) name_inb (in_answers inT_int hσ) (known_nothing _))
theorem fnIn {σ : Sig} (hσ : σ.fn = fnS) {W : World} (h : Spaces W) : ∀ F, (∀ f ∈ F, f.holds σ) → NumOk (envF σ F) ∧ Known (envF σ F) (inK (envF σ F)) ∧ Lies (envF σ F) W := fun F hF => ⟨numF σ hF, known_in hσ hF, liesF σ F h⟩
end Go.Proofs.YtmcmagheiijnhaaGreatDoor

/- The parts of a policy: limits, breakers, further attempts, misfires; both sides. -/
set_option linter.all false
set_option maxRecDepth 100000
namespace Go.Proofs.YtmcmagheiijnhaaGreatDoor
open Go.RX Go.RX.Sym
open Classical

abbrev mS : Int := 68719476736
def qIn (e : IE) (lo hi : IE) : IE := .fn 50 [e, lo, hi]
def vl (i : Nat) (lo hi : Int) : IE := qIn (.var i) (.lit lo) (.lit hi)
/-! ### Limits -/
def limTail (b : Bool) : DT SV := .lt (.lit 0) (.var 1) (.leaf (match b with | true => okV | false => ruleV)) (.eq (.var 2) (.lit 0) (.leaf (match b with | true => okV | false => ruleV)) (.leaf ruleV))
def limP : DT SV := .eq (vl 1 0 68719476736) (.lit 1) (.eq (vl 2 0 68719476736) (.lit 1) (limTail true) (limTail false)) (.eq (vl 2 0 68719476736) (.lit 1) (limTail false) (limTail false))
def limR : DT SV := .lt (.var 1) (.lit 0) (.leaf ruleV) (.lt (.lit 68719476736) (.var 1) (.leaf ruleV) (.lt (.var 2) (.lit 0) (.leaf ruleV) (.lt (.lit 68719476736) (.var 2) (.leaf ruleV) (.eq (.var 1) (.lit 0) (.eq (.var 2) (.lit 0) (.leaf okV) (.leaf ruleV)) (.leaf okV)))))
theorem limP_ok (σ : Sig) : limP.ok (callIs (envF σ) (fun F => inK (envF σ F)) 40 71 [.agg [iv 1, iv 2]]) [] = true := by kernel_rfl
theorem limR_ok (σ : Sig) : limR.ok (callIs (envF σ) (fun _ => noC) 40 79 [.agg [iv 1, iv 2]]) [] = true := by kernel_rfl
/-! ### Breakers -/
def zeros (l : List Nat) (T : DT SV) : DT SV := match l with
  | [] => .leaf okV
  | i :: l => .eq (.var i) (.lit 0) (zeros l T) T
def brkP : DT SV := zeros [1, 2, 3] (rulT [vl 1 1 100, vl 2 1 68719476736, vl 3 1 100] true)
theorem brkP_ok (σ : Sig) : brkP.ok (callIs (envF σ) (fun F => inK (envF σ F)) 40 103 [.agg [iv 1, iv 2, iv 3]]) [] = true := by kernel_rfl
def retP : DT SV := zeros [1, 2, 3, 4] (rulT [vl 1 1 20, vl 2 1 68719476736, qIn (.var 3) (.var 2) (.lit 68719476736), vl 4 0 68719476736] true)
theorem retP_ok (σ : Sig) : retP.ok (callIs (envF σ) (fun F => inK (envF σ F)) 40 104 [.agg [iv 1, iv 2, iv 3, iv 4]]) [] = true := by kernel_rfl
def misP : DT SV := .eq (.var 1) (.lit 3) (rulT [vl 2 1 100] true) (.eq (vl 1 0 2) (.lit 1) (.eq (.var 2) (.lit 0) (.leaf okV) (.leaf ruleV)) (.eq (.var 2) (.lit 0) (.leaf ruleV) (.leaf ruleV)))
theorem misP_ok (σ : Sig) : misP.ok (callIs (envF σ) (fun F => inK (envF σ F)) 40 102 [iv 1, iv 2]) [] = true := by kernel_rfl
end Go.Proofs.YtmcmagheiijnhaaGreatDoor
