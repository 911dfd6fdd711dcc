/- The parts of a policy: both sides hand back the spec. -/
import Derived.Test.YtmcmagheiijnhaaGreatDoorV4
import Derived.Test.YtmcmagheiijnhaaGreatDoorV3
set_option linter.all false
set_option maxRecDepth 100000
namespace Go.Proofs.YtmcmagheiijnhaaGreatDoor
open Go.RX Go.RX.Sym
open Classical

def rng (x lo hi : IE) (T : DT SV) : DT SV := .lt x lo (.leaf ruleV) (.lt hi x (.leaf ruleV) T)
def vr (i : Nat) (lo hi : Int) (T : DT SV) : DT SV := rng (.var i) (.lit lo) (.lit hi) T
def brkR : DT SV := zeros [1, 2, 3] (vr 1 1 100 (vr 2 1 68719476736 (vr 3 1 100 (.leaf okV))))
def retR : DT SV := zeros [1, 2, 3, 4] (vr 1 1 20 (vr 2 1 68719476736 (rng (.var 3) (.var 2) (.lit 68719476736) (vr 4 0 68719476736 (.leaf okV)))))
def misR : DT SV := vr 1 0 3 (.eq (.var 1) (.lit 3) (vr 2 1 100 (.leaf okV)) (.eq (.var 2) (.lit 0) (.leaf okV) (.leaf ruleV)))
theorem brkR_ok (σ : Sig) : brkR.ok (callIs (envF σ) (fun _ => noC) 40 86 [.agg [iv 1, iv 2, iv 3]]) [] = true := by kernel_rfl
theorem retR_ok (σ : Sig) : retR.ok (callIs (envF σ) (fun _ => noC) 40 87 [.agg [iv 1, iv 2, iv 3, iv 4]]) [] = true := by kernel_rfl
theorem misR_ok (σ : Sig) : misR.ok (callIs (envF σ) (fun _ => noC) 40 85 [iv 1, iv 2]) [] = true := by kernel_rfl

theorem pick_or {p q : Prop} {x y : SV} : pickV p x (pickV q x y) = pickV (p ∨ q) x y := by
  by_cases hp : p
  · rw [pick_yes hp, pick_yes (.inl hp)]
  · rw [pick_no hp]
    by_cases hq : q
    · rw [pick_yes hq, pick_yes (.inr hq)]
    · rw [pick_no hq, pick_no fun h => h.elim hp hq]
theorem pick_iff {p q : Prop} {x y : SV} (h : p ↔ q) : pickV p x y = pickV q x y := by rw [propext h]
theorem rng_eval {σ : Sig} {x lo hi : IE} {T : DT SV} : (rng x lo hi T).eval σ = pickV (inR (x.val σ) (lo.val σ) (hi.val σ)) (T.eval σ) ruleV := by
  unfold rng
  rw [eval_lt, eval_lt]
  show pickV _ ruleV (pickV _ ruleV _) = _
  rw [pick_or]
  by_cases h : inR (x.val σ) (lo.val σ) (hi.val σ)
  · rw [pick_yes h, pick_no (by unfold inR at h; omega)]
  · rw [pick_no h, pick_yes (by unfold inR at h; omega)]
theorem vr_eval {σ : Sig} {i : Nat} {lo hi : Int} {T : DT SV} : (vr i lo hi T).eval σ = pickV (inR (σ.var i) lo hi) (T.eval σ) ruleV := rng_eval
theorem zeros_eval {σ : Sig} {T : DT SV} : ∀ (l : List Nat), (zeros l T).eval σ = pickV (∀ i ∈ l, σ.var i = 0) okV (T.eval σ)
  | [] => by rw [pick_yes fun i h => by cases h]; rfl
  | i :: l => by
    show (DT.eq (.var i) (.lit 0) (zeros l T) T).eval σ = _
    rw [eval_eq, zeros_eval l]
    by_cases h : σ.var i = 0
    · rw [pick_yes (p := (IE.var i).val σ = (IE.lit 0).val σ) h]
      exact pick_iff ⟨fun hl x hx => by rcases List.mem_cons.1 hx with rfl | hx; exact h; exact hl x hx, fun hl x hx => hl x (List.mem_cons_of_mem _ hx)⟩
    · have n1 : ¬ ∀ x ∈ i :: l, σ.var x = 0 := fun hl => h (hl i (by simp))
      rw [pick_no (p := (IE.var i).val σ = (IE.lit 0).val σ) h, pick_no n1]
theorem q_val {σ : Sig} (hσ : σ.fn = fnS) {x lo hi : IE} : (qIn x lo hi).val σ = 1 ↔ inR (x.val σ) (lo.val σ) (hi.val σ) := by
  show σ.fn 50 [x.val σ, lo.val σ, hi.val σ] = 1 ↔ _
  rw [hσ]
  exact ind_one
theorem vl_val {σ : Sig} (hσ : σ.fn = fnS) {i : Nat} {lo hi : Int} : (vl i lo hi).val σ = 1 ↔ inR (σ.var i) lo hi := q_val hσ
theorem mem3 {α : Type} {P : α → Prop} {a b c : α} : (∀ x ∈ [a, b, c], P x) ↔ P a ∧ P b ∧ P c := by simp
theorem mem4 {α : Type} {P : α → Prop} {a b c d : α} : (∀ x ∈ [a, b, c, d], P x) ↔ P a ∧ P b ∧ P c ∧ P d := by simp
theorem mem1 {α : Type} {P : α → Prop} {a : α} : (∀ x ∈ [a], P x) ↔ P a := by simp

section
variable {σ : Sig}
theorem brkR_eval : brkR.eval σ = pickV (brkOk (σ.var 1) (σ.var 2) (σ.var 3)) okV ruleV := by
  unfold brkR
  rw [zeros_eval, vr_eval, vr_eval, vr_eval, pick_and, pick_and]
  show pickV _ okV (pickV _ okV ruleV) = _
  rw [pick_or]
  exact pick_iff (by rw [mem3]; unfold brkOk inR; omega)
theorem brkP_eval (hσ : σ.fn = fnS) : brkP.eval σ = pickV (brkOk (σ.var 1) (σ.var 2) (σ.var 3)) okV ruleV := by
  unfold brkP
  rw [zeros_eval, rulT_eval, pick_or]
  refine pick_iff ?_
  rw [mem3, mem3, vl_val hσ, vl_val hσ, vl_val hσ]
  unfold brkOk inR; simp only [true_and]
theorem retR_eval : retR.eval σ = pickV (retOk (σ.var 1) (σ.var 2) (σ.var 3) (σ.var 4)) okV ruleV := by
  unfold retR
  rw [zeros_eval, vr_eval, vr_eval, rng_eval, vr_eval, pick_and, pick_and, pick_and]
  show pickV _ okV (pickV _ okV ruleV) = _
  rw [pick_or]
  refine pick_iff ?_
  rw [mem4]
  show (_ ∨ (((inR _ _ _ ∧ inR _ _ _) ∧ inR (σ.var 3) (σ.var 2) 68719476736) ∧ inR _ _ _)) ↔ _
  unfold retOk inR; omega
theorem retP_eval (hσ : σ.fn = fnS) : retP.eval σ = pickV (retOk (σ.var 1) (σ.var 2) (σ.var 3) (σ.var 4)) okV ruleV := by
  unfold retP
  rw [zeros_eval, rulT_eval, pick_or]
  refine pick_iff ?_
  rw [mem4, mem4, vl_val hσ, vl_val hσ, q_val hσ, vl_val hσ]
  show (_ ∨ (true = true ∧ inR _ _ _ ∧ inR _ _ _ ∧ inR (σ.var 3) (σ.var 2) 68719476736 ∧ inR _ _ _)) ↔ _
  unfold retOk inR; simp only [true_and]
theorem misR_eval : misR.eval σ = pickV (misOk (σ.var 1) (σ.var 2)) okV ruleV := by
  unfold misR
  rw [vr_eval, eval_eq, vr_eval, eval_eq]
  show pickV (inR (σ.var 1) 0 3) (pickV (σ.var 1 = 3) (pickV (inR (σ.var 2) 1 100) okV ruleV) (pickV (σ.var 2 = 0) okV ruleV)) ruleV = _
  by_cases h : misOk (σ.var 1) (σ.var 2)
  · rw [pick_yes h]
    unfold misOk at h
    rw [pick_yes (by unfold inR; omega)]
    by_cases c : σ.var 1 = 3
    · rw [pick_yes c, pick_yes (by unfold inR; omega)]
    · rw [pick_no c, pick_yes (by omega)]
  · rw [pick_no h]
    unfold misOk at h
    by_cases c0 : inR (σ.var 1) 0 3
    · rw [pick_yes c0]
      unfold inR at c0
      by_cases c : σ.var 1 = 3
      · rw [pick_yes c, pick_no (by unfold inR; omega)]
      · rw [pick_no c, pick_no (by omega)]
    · rw [pick_no c0]
theorem misP_eval (hσ : σ.fn = fnS) : misP.eval σ = pickV (misOk (σ.var 1) (σ.var 2)) okV ruleV := by
  unfold misP
  rw [eval_eq, rulT_eval, eval_eq, eval_eq, eval_eq]
  have e1 : ((vl 1 0 2).val σ = (IE.lit 1).val σ) = inR (σ.var 1) 0 2 := propext (vl_val hσ)
  have e2 : (true = true ∧ ∀ q ∈ [vl 2 1 100], q.val σ = 1) = inR (σ.var 2) 1 100 := propext (by rw [mem1, vl_val hσ]; simp)
  rw [e1, e2]
  show pickV (σ.var 1 = 3) (pickV (inR (σ.var 2) 1 100) okV ruleV) (pickV (inR (σ.var 1) 0 2) (pickV (σ.var 2 = 0) okV ruleV) (pickV (σ.var 2 = 0) ruleV ruleV)) = _
  have e3 : pickV (σ.var 2 = 0) ruleV ruleV = ruleV := by by_cases c : σ.var 2 = 0; rw [pick_yes c]; rw [pick_no c]
  rw [e3]
  by_cases h : misOk (σ.var 1) (σ.var 2)
  · rw [pick_yes h]
    unfold misOk at h
    by_cases c : σ.var 1 = 3
    · rw [pick_yes c, pick_yes (by unfold inR; omega)]
    · rw [pick_no c, pick_yes (by unfold inR; omega), pick_yes (by omega)]
  · rw [pick_no h]
    unfold misOk at h
    by_cases c : σ.var 1 = 3
    · rw [pick_yes c, pick_no (by unfold inR; omega)]
    · rw [pick_no c]
      by_cases c0 : inR (σ.var 1) 0 2
      · rw [pick_yes c0]
        unfold inR at c0
        rw [pick_no (by omega)]
      · rw [pick_no c0]
theorem limR_eval : limR.eval σ = pickV (limOk (σ.var 1) (σ.var 2)) okV ruleV := by
  show (vr 1 0 68719476736 (vr 2 0 68719476736 (.eq (.var 1) (.lit 0) (.eq (.var 2) (.lit 0) (.leaf okV) (.leaf ruleV)) (.leaf okV)))).eval σ = _
  rw [vr_eval, vr_eval, eval_eq, eval_eq]
  show pickV (inR (σ.var 1) 0 68719476736) (pickV (inR (σ.var 2) 0 68719476736) (pickV (σ.var 1 = 0) (pickV (σ.var 2 = 0) okV ruleV) okV) ruleV) ruleV = _
  by_cases h : limOk (σ.var 1) (σ.var 2)
  · rw [pick_yes h]
    unfold limOk at h
    rw [pick_yes (by unfold inR; omega), pick_yes (by unfold inR; omega)]
    by_cases c : σ.var 1 = 0
    · rw [pick_yes c, pick_yes (by omega)]
    · rw [pick_no c]
  · rw [pick_no h]
    unfold limOk at h
    by_cases c0 : inR (σ.var 1) 0 68719476736
    · rw [pick_yes c0]
      by_cases c1 : inR (σ.var 2) 0 68719476736
      · rw [pick_yes c1]
        unfold inR at c0 c1
        rw [pick_yes (by omega), pick_no (by omega)]
      · rw [pick_no c1]
    · rw [pick_no c0]
theorem limTail_eval {b : Bool} : (limTail b).eval σ = pickV (b = true ∧ (0 < σ.var 1 ∨ σ.var 2 = 0)) okV ruleV := by
  unfold limTail
  rw [eval_lt, eval_eq]
  cases b with
  | true =>
    show pickV (0 < σ.var 1) okV (pickV (σ.var 2 = 0) okV ruleV) = _
    rw [pick_or]
    exact pick_iff (by simp)
  | false =>
    have n1 : ¬ (false = true ∧ (0 < σ.var 1 ∨ σ.var 2 = 0)) := fun h => by cases h.1
    rw [pick_no n1]
    show pickV (0 < σ.var 1) ruleV (pickV (σ.var 2 = 0) ruleV ruleV) = _
    rw [pick_or]
    by_cases c : 0 < σ.var 1 ∨ σ.var 2 = 0
    · rw [pick_yes c]
    · rw [pick_no c]
theorem limP_eval (hσ : σ.fn = fnS) : limP.eval σ = pickV (limOk (σ.var 1) (σ.var 2)) okV ruleV := by
  unfold limP
  rw [eval_eq, eval_eq, eval_eq, limTail_eval, limTail_eval]
  have e1 : ((vl 1 0 68719476736).val σ = (IE.lit 1).val σ) = inR (σ.var 1) 0 68719476736 := propext (vl_val hσ)
  have e2 : ((vl 2 0 68719476736).val σ = (IE.lit 1).val σ) = inR (σ.var 2) 0 68719476736 := propext (vl_val hσ)
  rw [e1, e2]
  have n1 : ¬ (false = true ∧ (0 < σ.var 1 ∨ σ.var 2 = 0)) := fun h => by cases h.1
  rw [pick_no n1]
  have e3 : ∀ p : Prop, pickV p ruleV ruleV = ruleV := fun p => by by_cases c : p; rw [pick_yes c]; rw [pick_no c]
  rw [e3, pick_and, pick_and]
  exact pick_iff (by unfold limOk inR; simp [and_assoc])
end
end Go.Proofs.YtmcmagheiijnhaaGreatDoor
