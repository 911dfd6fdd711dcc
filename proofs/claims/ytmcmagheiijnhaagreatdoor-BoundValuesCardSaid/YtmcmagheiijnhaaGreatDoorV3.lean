/- Whether an expression is allowed: both sides. -/
import Derived.Test.YtmcmagheiijnhaaGreatDoorV2
set_option linter.all false
set_option maxRecDepth 100000
namespace Go.Proofs.YtmcmagheiijnhaaGreatDoor
open Go.RX Go.RX.Sym

def uv (i : Nat) : SV := .sint .u64 (.var i)
def exArgs (d w : Bool) : List SV := [.agg [uv 1, uv 2, uv 3, uv 4, uv 5, uv 6, .bool d, .bool w]]
/-- One set of an expression. -/
def setP (i : Nat) (M : Int) (T : DT SV) : DT SV := .eq (.var i) (.lit 0) (.leaf ruleV) (.eq (.bin .andNot .u64 (.var i) (.lit M)) (.lit 0) T (.leaf ruleV))
def setR (i : Nat) (M : Int) (T : DT SV) : DT SV := .eq (.var i) (.lit 0) (.leaf ruleV) (.eq (.bin .and .u64 (.var i) (.lit M)) (.var i) T (.leaf ruleV))
def anyT (b : Bool) (i : Nat) (M : Int) (T : DT SV) : DT SV := match b with | true => .eq (.var i) (.lit M) T (.leaf ruleV) | false => T
def exT (set : Nat → Int → DT SV → DT SV) (d w : Bool) : DT SV := set 1 1152921504606846975 (set 2 1152921504606846975 (set 3 16777215 (set 4 4294967294 (set 5 8190 (set 6 127 (anyT d 4 4294967294 (anyT w 6 127 (.leaf okV))))))))
theorem exP_ff (σ : Sig) : (exT setP false false).ok (callIs (envF σ) (fun _ => fullK) 40 127 (exArgs false false)) [] = true := by kernel_rfl
theorem exP_ft (σ : Sig) : (exT setP false true).ok (callIs (envF σ) (fun _ => fullK) 40 127 (exArgs false true)) [] = true := by kernel_rfl
theorem exP_tf (σ : Sig) : (exT setP true false).ok (callIs (envF σ) (fun _ => fullK) 40 127 (exArgs true false)) [] = true := by kernel_rfl
theorem exP_tt (σ : Sig) : (exT setP true true).ok (callIs (envF σ) (fun _ => fullK) 40 127 (exArgs true true)) [] = true := by kernel_rfl
theorem exR_ff (σ : Sig) : (exT setR false false).ok (callIs (envF σ) (fun _ => noC) 40 81 (exArgs false false)) [] = true := by kernel_rfl
theorem exR_ft (σ : Sig) : (exT setR false true).ok (callIs (envF σ) (fun _ => noC) 40 81 (exArgs false true)) [] = true := by kernel_rfl
theorem exR_tf (σ : Sig) : (exT setR true false).ok (callIs (envF σ) (fun _ => noC) 40 81 (exArgs true false)) [] = true := by kernel_rfl
theorem exR_tt (σ : Sig) : (exT setR true true).ok (callIs (envF σ) (fun _ => noC) 40 81 (exArgs true true)) [] = true := by kernel_rfl
end Go.Proofs.YtmcmagheiijnhaaGreatDoor

/- Whether an expression is allowed, as a spec; both sides hand it back. -/
set_option linter.all false
set_option maxRecDepth 100000
namespace Go.Proofs.YtmcmagheiijnhaaGreatDoor
open Go.RX Go.RX.Sym
open Classical

theorem U64.and_not {u M : Int} (h0 : 0 ≤ u) (h1 : u < 18446744073709551616) : opVal .andNot .u64 u M = 0 ↔ opVal .and .u64 u M = u := by
  have e1 : ∀ (x : BitVec 64), IntKind.u64.wrap (x.toNat : Int) = x.toNat := fun x => by
    have := x.isLt
    exact wrap_fits (by simp only [lowOf]; omega) (by simp only [highOf]; omega)
  have a1 : opVal .andNot .u64 u M = ((BitVec.ofInt 64 u &&& ~~~ (BitVec.ofInt 64 M)).toNat : Int) := by
    refine opVal_int (op := .andNot) (k := .u64) (x := u) (y := M) (n := ((BitVec.ofInt 64 u &&& ~~~ (BitVec.ofInt 64 M)).toNat : Int)) (by simp) (by simp) ?_
    simp only [intOp, bitsOp]
    rw [wrapSlow_eq]
    exact congrArg some (congrArg (SV.int .u64) (e1 _))
  have a2 : opVal .and .u64 u M = ((BitVec.ofInt 64 u &&& BitVec.ofInt 64 M).toNat : Int) := by
    refine opVal_int (op := .and) (k := .u64) (x := u) (y := M) (n := ((BitVec.ofInt 64 u &&& BitVec.ofInt 64 M).toNat : Int)) (by simp) (by simp) ?_
    simp only [intOp, bitsOp]
    rw [wrapSlow_eq]
    exact congrArg some (congrArg (SV.int .u64) (e1 _))
  rw [a1, a2]
  have hu : u = ((BitVec.ofInt 64 u).toNat : Int) := by
    rw [BitVec.toNat_ofInt]
    omega
  generalize BitVec.ofInt 64 M = y
  generalize hx : BitVec.ofInt 64 u = x at hu
  rw [hu]
  constructor
  · intro h
    have h : (x &&& ~~~y) = 0#64 := BitVec.eq_of_toNat_eq (by simpa using Int.ofNat_inj.1 h)
    have : x &&& y = x := by
      ext i hi
      have := congrArg (fun z : BitVec 64 => z[i]) h
      simp at this
      simp
      cases hh : x[i] <;> simp_all
    rw [this]
  · intro h
    have h : x &&& y = x := BitVec.eq_of_toNat_eq (Int.ofNat_inj.1 h)
    have : (x &&& ~~~y) = 0#64 := by
      ext i hi
      have := congrArg (fun z : BitVec 64 => z[i]) h
      simp at this
      simp
      cases hh : x[i] <;> simp_all
    rw [this]; rfl

theorem setR_eval {σ : Sig} {i : Nat} {M : Int} {T : DT SV} : (setR i M T).eval σ = pickV (σ.var i ≠ 0 ∧ inM (σ.var i) M) (T.eval σ) ruleV := by
  unfold setR
  rw [eval_eq, eval_eq]
  exact pick_no_and
theorem setP_eval {σ : Sig} {i : Nat} {M : Int} {T : DT SV} (h : 0 ≤ σ.var i ∧ σ.var i < 18446744073709551616) : (setP i M T).eval σ = pickV (σ.var i ≠ 0 ∧ inM (σ.var i) M) (T.eval σ) ruleV := by
  unfold setP
  rw [eval_eq, eval_eq]
  have : ((IE.bin .andNot .u64 (.var i) (.lit M)).val σ = (IE.lit 0).val σ) = inM (σ.var i) M := propext (U64.and_not h.1 h.2)
  rw [this]
  exact pick_no_and
theorem any_eval {σ : Sig} {b : Bool} {i : Nat} {M : Int} {T : DT SV} : (anyT b i M T).eval σ = pickV (anyP b (σ.var i) M) (T.eval σ) ruleV := by
  cases b with
  | true =>
    show (DT.eq (.var i) (.lit M) T (.leaf ruleV)).eval σ = _
    rw [eval_eq]
    have : anyP true (σ.var i) M = (σ.var i = M) := propext ⟨fun h => h rfl, fun h _ => h⟩
    rw [this]; rfl
  | false =>
    have : anyP false (σ.var i) M := fun h => by cases h
    rw [pick_yes this]; rfl
theorem exR_eval {σ : Sig} {d w : Bool} : (exT setR d w).eval σ = pickV (exOk (σ.var 1) (σ.var 2) (σ.var 3) (σ.var 4) (σ.var 5) (σ.var 6) d w) okV ruleV := by
  unfold exT
  rw [setR_eval, setR_eval, setR_eval, setR_eval, setR_eval, setR_eval, any_eval, any_eval, pick_and, pick_and, pick_and, pick_and, pick_and, pick_and, pick_and]
  rfl
theorem exP_eval {σ : Sig} {d w : Bool} (h : ∀ i, 1 ≤ i → i ≤ 6 → 0 ≤ σ.var i ∧ σ.var i < 18446744073709551616) : (exT setP d w).eval σ = pickV (exOk (σ.var 1) (σ.var 2) (σ.var 3) (σ.var 4) (σ.var 5) (σ.var 6) d w) okV ruleV := by
  unfold exT
  rw [setP_eval (h 1 (by omega) (by omega)), setP_eval (h 2 (by omega) (by omega)), setP_eval (h 3 (by omega) (by omega)), setP_eval (h 4 (by omega) (by omega)), setP_eval (h 5 (by omega) (by omega)), setP_eval (h 6 (by omega) (by omega)), any_eval, any_eval, pick_and, pick_and, pick_and, pick_and, pick_and, pick_and, pick_and]
  rfl
end Go.Proofs.YtmcmagheiijnhaaGreatDoor

/- Whether an expression is allowed: what the calls hand back. -/
set_option linter.all false
set_option maxRecDepth 100000
namespace Go.Proofs.YtmcmagheiijnhaaGreatDoor
open Go.RX Go.RX.Sym
open Classical

def InU (z : Int) : Prop := 0 ≤ z ∧ z < 18446744073709551616
def exVal (u1 u2 u3 u4 u5 u6 : Int) (d w : Bool) : Value := .agg #[.int .u64 u1, .int .u64 u2, .int .u64 u3, .int .u64 u4, .int .u64 u5, .int .u64 u6, .bool d, .bool w]
noncomputable def sig6 (u1 u2 u3 u4 u5 u6 : Int) : Sig := sigV fun i => match i with | 1 => u1 | 2 => u2 | 3 => u3 | 4 => u4 | 5 => u5 | 6 => u6 | _ => 0
section
variable {u1 u2 u3 u4 u5 u6 : Int} {d w : Bool} {W : World}
theorem exArgs_rel : VRels (.nil (sig6 u1 u2 u3 u4 u5 u6)) (exArgs d w) [exVal u1 u2 u3 u4 u5 u6 d w] :=
  have h : ∀ i, VRel (.nil (sig6 u1 u2 u3 u4 u5 u6)) (uv i) (.int .u64 ((sig6 u1 u2 u3 u4 u5 u6).var i)) := fun i => VRel.sint (ρ := .nil (sig6 u1 u2 u3 u4 u5 u6)) .u64 (.var i)
  .cons (.agg (.cons (h 1) (.cons (h 2) (.cons (h 3) (.cons (h 4) (.cons (h 5) (.cons (h 6) (.cons (.bool d) (.cons (.bool w) .nil))))))))) .nil
theorem exR_calls (hW : Spaces W) : Calls Tryz.prog 81 #[exVal u1 u2 u3 u4 u5 u6 d w] W fun e w' => e = .returned (errV (exOk u1 u2 u3 u4 u5 u6 d w) 16) ∧ On W w' := by
  have hok : (exT setR d w).ok (callIs (envF (sig6 u1 u2 u3 u4 u5 u6)) (fun _ => noC) 40 81 (exArgs d w)) [] = true := by
    cases d with
    | true => cases w with
      | true => exact exR_tt _
      | false => exact exR_tf _
    | false => cases w with
      | true => exact exR_ft _
      | false => exact exR_ff _
  exact fn_dt (E := envF (sig6 u1 u2 u3 u4 u5 u6)) (K := fun _ => noC) (σ := sig6 u1 u2 u3 u4 u5 u6) (P := Tryz.prog) (fun _ => rfl) (fun _ => rfl) (fnF _ hW) (T := exT setR d w) (d := 40) (f := 81) (args := exArgs d w) hok exArgs_rel fun ρ _ u hu => by
    rw [exR_eval] at hu
    exact pick_err hu
theorem exP_calls (hW : Spaces W) (h1 : InU u1) (h2 : InU u2) (h3 : InU u3) (h4 : InU u4) (h5 : InU u5) (h6 : InU u6) : Calls Tryz.prog 127 #[exVal u1 u2 u3 u4 u5 u6 d w] W fun e w' => e = .returned (errV (exOk u1 u2 u3 u4 u5 u6 d w) 16) ∧ On W w' := by
  have hok : (exT setP d w).ok (callIs (envF (sig6 u1 u2 u3 u4 u5 u6)) (fun _ => fullK) 40 127 (exArgs d w)) [] = true := by
    cases d with
    | true => cases w with
      | true => exact exP_tt _
      | false => exact exP_tf _
    | false => cases w with
      | true => exact exP_ft _
      | false => exact exP_ff _
  refine fn_dt (E := envF (sig6 u1 u2 u3 u4 u5 u6)) (K := fun _ => fullK) (σ := sig6 u1 u2 u3 u4 u5 u6) (P := Tryz.prog) (fun _ => rfl) (fun _ => rfl) (fun F hF => ⟨numF _ hF, known_full _ F hW, liesF _ F hW⟩) (T := exT setP d w) (d := 40) (f := 127) (args := exArgs d w) hok exArgs_rel fun ρ _ u hu => ?_
  have hr : ∀ i, 1 ≤ i → i ≤ 6 → 0 ≤ (sig6 u1 u2 u3 u4 u5 u6).var i ∧ (sig6 u1 u2 u3 u4 u5 u6).var i < 18446744073709551616 := fun i a b => by
    have : i = 1 ∨ i = 2 ∨ i = 3 ∨ i = 4 ∨ i = 5 ∨ i = 6 := by omega
    rcases this with rfl | rfl | rfl | rfl | rfl | rfl
    · exact h1
    · exact h2
    · exact h3
    · exact h4
    · exact h5
    · exact h6
  rw [exP_eval hr] at hu
  exact pick_err hu
end
end Go.Proofs.YtmcmagheiijnhaaGreatDoor
