/- Whether a plan is allowed: both sides, as trees. -/
import Derived.Test.YtmcmagheiijnhaaGreatDoorV7
import Derived.Test.YtmcmagheiijnhaaGreatDoorV6
set_option linter.all false
set_option maxRecDepth 100000
namespace Go.Proofs.YtmcmagheiijnhaaGreatDoor
open Go.RX Go.RX.Sym
open Classical

def uw (i : Nat) : SV := .sint .u64 (.var i)
def exA (d w : Bool) : SV := .agg [uw 2, uw 3, uw 4, uw 5, uw 6, uw 7, .bool d, .bool w]
def evA : SV := .agg [iv 11, iv 12, iv 13]
/-- A call with just these arguments. -/
noncomputable def atG (A : List SV) (g : Option SV) (args : List SV) : Option SV := match svsEq args A with | true => g | false => none
noncomputable def planK (d w : Bool) (sk : SV) (E : Env) : Nat → List SV → SW → Option (SV × SW) :=
  plainK 127 (atG [exA d w] (askV E (.var 60) okV ruleV)) (plainK 81 (atG [exA d w] (askV E (.var 60) okV ruleV))
  (plainK 128 (atG [iv 10] (askV E (.var 61) okV (.int .i64 2))) (plainK 82 (atG [iv 10] (askV E (.var 61) okV (.int .i64 2)))
  (plainK 136 (atG [evA] (askV E (.var 62) okV ruleV)) (plainK 83 (atG [evA] (askV E (.var 62) okV ruleV))
  (plainK 95 (atG [sk] (some (.sint .i64 (.var 63)))) (plainK 80 (atG [sk] (some (.sint .i64 (.var 63)))) noC)))))))
def plP00s : DT SV := (.eq (.var 1) (.lit 0) (.eq (.len 51) (.lit 0) (.eq (.var 11) (.lit 0) (.eq (.var 12) (.lit 0) (.eq (.var 13) (.lit 0) (.eq (.var 2) (.lit 0) (.eq (.var 3) (.lit 0) (.eq (.var 4) (.lit 0) (.eq (.var 5) (.lit 0) (.eq (.var 6) (.lit 0) (.eq (.var 7) (.lit 0) (.eq (.var 10) (.lit 0) (.eq (.var 63) (.lit 0) (.leaf (.int .i64 0)) (.leaf (.int .i64 16))) (.leaf (.int .i64 16))) (.leaf (.int .i64 16))) (.leaf (.int .i64 16))) (.leaf (.int .i64 16))) (.leaf (.int .i64 16))) (.leaf (.int .i64 16))) (.leaf (.int .i64 16))) (.leaf (.int .i64 16))) (.leaf (.int .i64 16))) (.leaf (.int .i64 16))) (.leaf (.int .i64 16))) (.eq (.var 1) (.lit 1) (.eq (.var 11) (.lit 0) (.eq (.var 12) (.lit 0) (.eq (.var 13) (.lit 0) (.eq (.var 60) (.lit 1) (.eq (.var 61) (.lit 1) (.eq (.var 63) (.lit 0) (.leaf (.int .i64 0)) (.leaf (.int .i64 16))) (.leaf (.int .i64 16))) (.leaf (.int .i64 16))) (.leaf (.int .i64 16))) (.leaf (.int .i64 16))) (.leaf (.int .i64 16))) (.eq (.var 1) (.lit 2) (.eq (.var 2) (.lit 0) (.eq (.var 3) (.lit 0) (.eq (.var 4) (.lit 0) (.eq (.var 5) (.lit 0) (.eq (.var 6) (.lit 0) (.eq (.var 7) (.lit 0) (.eq (.var 10) (.lit 0) (.eq (.var 62) (.lit 1) (.eq (.var 63) (.lit 0) (.leaf (.int .i64 0)) (.leaf (.int .i64 16))) (.leaf (.int .i64 16))) (.leaf (.int .i64 16))) (.leaf (.int .i64 16))) (.leaf (.int .i64 16))) (.leaf (.int .i64 16))) (.leaf (.int .i64 16))) (.leaf (.int .i64 16))) (.leaf (.int .i64 16))) (.leaf (.int .i64 16)))))
theorem plP00s_ok (σ : Sig) : plP00s.ok (callIs (envR rowB σ) (fun F => planK false false (.row 51) (envR rowB σ F)) 40 76 [(.agg [(.sint .i64 (.var 1)), (.sint .u64 (.var 2)), (.sint .u64 (.var 3)), (.sint .u64 (.var 4)), (.sint .u64 (.var 5)), (.sint .u64 (.var 6)), (.sint .u64 (.var 7)), (.bool false), (.bool false), (.sint .i64 (.var 10)), (.sint .i64 (.var 11)), (.sint .i64 (.var 12)), (.sint .i64 (.var 13)), (.row 51)])]) [] = true := by kernel_rfl
def plP00n : DT SV := (.eq (.var 1) (.lit 0) (.eq (.var 11) (.lit 0) (.eq (.var 12) (.lit 0) (.eq (.var 13) (.lit 0) (.eq (.var 2) (.lit 0) (.eq (.var 3) (.lit 0) (.eq (.var 4) (.lit 0) (.eq (.var 5) (.lit 0) (.eq (.var 6) (.lit 0) (.eq (.var 7) (.lit 0) (.eq (.var 10) (.lit 0) (.eq (.var 63) (.lit 0) (.leaf (.int .i64 0)) (.leaf (.int .i64 16))) (.leaf (.int .i64 16))) (.leaf (.int .i64 16))) (.leaf (.int .i64 16))) (.leaf (.int .i64 16))) (.leaf (.int .i64 16))) (.leaf (.int .i64 16))) (.leaf (.int .i64 16))) (.leaf (.int .i64 16))) (.leaf (.int .i64 16))) (.leaf (.int .i64 16))) (.eq (.var 1) (.lit 1) (.eq (.var 11) (.lit 0) (.eq (.var 12) (.lit 0) (.eq (.var 13) (.lit 0) (.eq (.var 60) (.lit 1) (.eq (.var 61) (.lit 1) (.eq (.var 63) (.lit 0) (.leaf (.int .i64 0)) (.leaf (.int .i64 16))) (.leaf (.int .i64 16))) (.leaf (.int .i64 16))) (.leaf (.int .i64 16))) (.leaf (.int .i64 16))) (.leaf (.int .i64 16))) (.eq (.var 1) (.lit 2) (.eq (.var 2) (.lit 0) (.eq (.var 3) (.lit 0) (.eq (.var 4) (.lit 0) (.eq (.var 5) (.lit 0) (.eq (.var 6) (.lit 0) (.eq (.var 7) (.lit 0) (.eq (.var 10) (.lit 0) (.eq (.var 62) (.lit 1) (.eq (.var 63) (.lit 0) (.leaf (.int .i64 0)) (.leaf (.int .i64 16))) (.leaf (.int .i64 16))) (.leaf (.int .i64 16))) (.leaf (.int .i64 16))) (.leaf (.int .i64 16))) (.leaf (.int .i64 16))) (.leaf (.int .i64 16))) (.leaf (.int .i64 16))) (.leaf (.int .i64 16))) (.leaf (.int .i64 16)))))
theorem plP00n_ok (σ : Sig) : plP00n.ok (callIs (envR rowB σ) (fun F => planK false false .nilslice (envR rowB σ F)) 40 76 [(.agg [(.sint .i64 (.var 1)), (.sint .u64 (.var 2)), (.sint .u64 (.var 3)), (.sint .u64 (.var 4)), (.sint .u64 (.var 5)), (.sint .u64 (.var 6)), (.sint .u64 (.var 7)), (.bool false), (.bool false), (.sint .i64 (.var 10)), (.sint .i64 (.var 11)), (.sint .i64 (.var 12)), (.sint .i64 (.var 13)), .nilslice])]) [] = true := by kernel_rfl
def plP01s : DT SV := (.eq (.var 1) (.lit 0) (.eq (.len 51) (.lit 0) (.eq (.var 11) (.lit 0) (.eq (.var 12) (.lit 0) (.eq (.var 13) (.lit 0) (.eq (.var 2) (.lit 0) (.eq (.var 3) (.lit 0) (.eq (.var 4) (.lit 0) (.eq (.var 5) (.lit 0) (.eq (.var 6) (.lit 0) (.eq (.var 7) (.lit 0) (.leaf (.int .i64 16)) (.leaf (.int .i64 16))) (.leaf (.int .i64 16))) (.leaf (.int .i64 16))) (.leaf (.int .i64 16))) (.leaf (.int .i64 16))) (.leaf (.int .i64 16))) (.leaf (.int .i64 16))) (.leaf (.int .i64 16))) (.leaf (.int .i64 16))) (.leaf (.int .i64 16))) (.eq (.var 1) (.lit 1) (.eq (.var 11) (.lit 0) (.eq (.var 12) (.lit 0) (.eq (.var 13) (.lit 0) (.eq (.var 60) (.lit 1) (.eq (.var 61) (.lit 1) (.eq (.var 63) (.lit 0) (.leaf (.int .i64 0)) (.leaf (.int .i64 16))) (.leaf (.int .i64 16))) (.leaf (.int .i64 16))) (.leaf (.int .i64 16))) (.leaf (.int .i64 16))) (.leaf (.int .i64 16))) (.eq (.var 1) (.lit 2) (.eq (.var 2) (.lit 0) (.eq (.var 3) (.lit 0) (.eq (.var 4) (.lit 0) (.eq (.var 5) (.lit 0) (.eq (.var 6) (.lit 0) (.eq (.var 7) (.lit 0) (.leaf (.int .i64 16)) (.leaf (.int .i64 16))) (.leaf (.int .i64 16))) (.leaf (.int .i64 16))) (.leaf (.int .i64 16))) (.leaf (.int .i64 16))) (.leaf (.int .i64 16))) (.leaf (.int .i64 16)))))
theorem plP01s_ok (σ : Sig) : plP01s.ok (callIs (envR rowB σ) (fun F => planK false true (.row 51) (envR rowB σ F)) 40 76 [(.agg [(.sint .i64 (.var 1)), (.sint .u64 (.var 2)), (.sint .u64 (.var 3)), (.sint .u64 (.var 4)), (.sint .u64 (.var 5)), (.sint .u64 (.var 6)), (.sint .u64 (.var 7)), (.bool false), (.bool true), (.sint .i64 (.var 10)), (.sint .i64 (.var 11)), (.sint .i64 (.var 12)), (.sint .i64 (.var 13)), (.row 51)])]) [] = true := by kernel_rfl
def plP01n : DT SV := (.eq (.var 1) (.lit 0) (.eq (.var 11) (.lit 0) (.eq (.var 12) (.lit 0) (.eq (.var 13) (.lit 0) (.eq (.var 2) (.lit 0) (.eq (.var 3) (.lit 0) (.eq (.var 4) (.lit 0) (.eq (.var 5) (.lit 0) (.eq (.var 6) (.lit 0) (.eq (.var 7) (.lit 0) (.leaf (.int .i64 16)) (.leaf (.int .i64 16))) (.leaf (.int .i64 16))) (.leaf (.int .i64 16))) (.leaf (.int .i64 16))) (.leaf (.int .i64 16))) (.leaf (.int .i64 16))) (.leaf (.int .i64 16))) (.leaf (.int .i64 16))) (.leaf (.int .i64 16))) (.eq (.var 1) (.lit 1) (.eq (.var 11) (.lit 0) (.eq (.var 12) (.lit 0) (.eq (.var 13) (.lit 0) (.eq (.var 60) (.lit 1) (.eq (.var 61) (.lit 1) (.eq (.var 63) (.lit 0) (.leaf (.int .i64 0)) (.leaf (.int .i64 16))) (.leaf (.int .i64 16))) (.leaf (.int .i64 16))) (.leaf (.int .i64 16))) (.leaf (.int .i64 16))) (.leaf (.int .i64 16))) (.eq (.var 1) (.lit 2) (.eq (.var 2) (.lit 0) (.eq (.var 3) (.lit 0) (.eq (.var 4) (.lit 0) (.eq (.var 5) (.lit 0) (.eq (.var 6) (.lit 0) (.eq (.var 7) (.lit 0) (.leaf (.int .i64 16)) (.leaf (.int .i64 16))) (.leaf (.int .i64 16))) (.leaf (.int .i64 16))) (.leaf (.int .i64 16))) (.leaf (.int .i64 16))) (.leaf (.int .i64 16))) (.leaf (.int .i64 16)))))
theorem plP01n_ok (σ : Sig) : plP01n.ok (callIs (envR rowB σ) (fun F => planK false true .nilslice (envR rowB σ F)) 40 76 [(.agg [(.sint .i64 (.var 1)), (.sint .u64 (.var 2)), (.sint .u64 (.var 3)), (.sint .u64 (.var 4)), (.sint .u64 (.var 5)), (.sint .u64 (.var 6)), (.sint .u64 (.var 7)), (.bool false), (.bool true), (.sint .i64 (.var 10)), (.sint .i64 (.var 11)), (.sint .i64 (.var 12)), (.sint .i64 (.var 13)), .nilslice])]) [] = true := by kernel_rfl
def plP10s : DT SV := (.eq (.var 1) (.lit 0) (.eq (.len 51) (.lit 0) (.eq (.var 11) (.lit 0) (.eq (.var 12) (.lit 0) (.eq (.var 13) (.lit 0) (.eq (.var 2) (.lit 0) (.eq (.var 3) (.lit 0) (.eq (.var 4) (.lit 0) (.eq (.var 5) (.lit 0) (.eq (.var 6) (.lit 0) (.eq (.var 7) (.lit 0) (.leaf (.int .i64 16)) (.leaf (.int .i64 16))) (.leaf (.int .i64 16))) (.leaf (.int .i64 16))) (.leaf (.int .i64 16))) (.leaf (.int .i64 16))) (.leaf (.int .i64 16))) (.leaf (.int .i64 16))) (.leaf (.int .i64 16))) (.leaf (.int .i64 16))) (.leaf (.int .i64 16))) (.eq (.var 1) (.lit 1) (.eq (.var 11) (.lit 0) (.eq (.var 12) (.lit 0) (.eq (.var 13) (.lit 0) (.eq (.var 60) (.lit 1) (.eq (.var 61) (.lit 1) (.eq (.var 63) (.lit 0) (.leaf (.int .i64 0)) (.leaf (.int .i64 16))) (.leaf (.int .i64 16))) (.leaf (.int .i64 16))) (.leaf (.int .i64 16))) (.leaf (.int .i64 16))) (.leaf (.int .i64 16))) (.eq (.var 1) (.lit 2) (.eq (.var 2) (.lit 0) (.eq (.var 3) (.lit 0) (.eq (.var 4) (.lit 0) (.eq (.var 5) (.lit 0) (.eq (.var 6) (.lit 0) (.eq (.var 7) (.lit 0) (.leaf (.int .i64 16)) (.leaf (.int .i64 16))) (.leaf (.int .i64 16))) (.leaf (.int .i64 16))) (.leaf (.int .i64 16))) (.leaf (.int .i64 16))) (.leaf (.int .i64 16))) (.leaf (.int .i64 16)))))
theorem plP10s_ok (σ : Sig) : plP10s.ok (callIs (envR rowB σ) (fun F => planK true false (.row 51) (envR rowB σ F)) 40 76 [(.agg [(.sint .i64 (.var 1)), (.sint .u64 (.var 2)), (.sint .u64 (.var 3)), (.sint .u64 (.var 4)), (.sint .u64 (.var 5)), (.sint .u64 (.var 6)), (.sint .u64 (.var 7)), (.bool true), (.bool false), (.sint .i64 (.var 10)), (.sint .i64 (.var 11)), (.sint .i64 (.var 12)), (.sint .i64 (.var 13)), (.row 51)])]) [] = true := by kernel_rfl
def plP10n : DT SV := (.eq (.var 1) (.lit 0) (.eq (.var 11) (.lit 0) (.eq (.var 12) (.lit 0) (.eq (.var 13) (.lit 0) (.eq (.var 2) (.lit 0) (.eq (.var 3) (.lit 0) (.eq (.var 4) (.lit 0) (.eq (.var 5) (.lit 0) (.eq (.var 6) (.lit 0) (.eq (.var 7) (.lit 0) (.leaf (.int .i64 16)) (.leaf (.int .i64 16))) (.leaf (.int .i64 16))) (.leaf (.int .i64 16))) (.leaf (.int .i64 16))) (.leaf (.int .i64 16))) (.leaf (.int .i64 16))) (.leaf (.int .i64 16))) (.leaf (.int .i64 16))) (.leaf (.int .i64 16))) (.eq (.var 1) (.lit 1) (.eq (.var 11) (.lit 0) (.eq (.var 12) (.lit 0) (.eq (.var 13) (.lit 0) (.eq (.var 60) (.lit 1) (.eq (.var 61) (.lit 1) (.eq (.var 63) (.lit 0) (.leaf (.int .i64 0)) (.leaf (.int .i64 16))) (.leaf (.int .i64 16))) (.leaf (.int .i64 16))) (.leaf (.int .i64 16))) (.leaf (.int .i64 16))) (.leaf (.int .i64 16))) (.eq (.var 1) (.lit 2) (.eq (.var 2) (.lit 0) (.eq (.var 3) (.lit 0) (.eq (.var 4) (.lit 0) (.eq (.var 5) (.lit 0) (.eq (.var 6) (.lit 0) (.eq (.var 7) (.lit 0) (.leaf (.int .i64 16)) (.leaf (.int .i64 16))) (.leaf (.int .i64 16))) (.leaf (.int .i64 16))) (.leaf (.int .i64 16))) (.leaf (.int .i64 16))) (.leaf (.int .i64 16))) (.leaf (.int .i64 16)))))
theorem plP10n_ok (σ : Sig) : plP10n.ok (callIs (envR rowB σ) (fun F => planK true false .nilslice (envR rowB σ F)) 40 76 [(.agg [(.sint .i64 (.var 1)), (.sint .u64 (.var 2)), (.sint .u64 (.var 3)), (.sint .u64 (.var 4)), (.sint .u64 (.var 5)), (.sint .u64 (.var 6)), (.sint .u64 (.var 7)), (.bool true), (.bool false), (.sint .i64 (.var 10)), (.sint .i64 (.var 11)), (.sint .i64 (.var 12)), (.sint .i64 (.var 13)), .nilslice])]) [] = true := by kernel_rfl
def plP11s : DT SV := (.eq (.var 1) (.lit 0) (.eq (.len 51) (.lit 0) (.eq (.var 11) (.lit 0) (.eq (.var 12) (.lit 0) (.eq (.var 13) (.lit 0) (.eq (.var 2) (.lit 0) (.eq (.var 3) (.lit 0) (.eq (.var 4) (.lit 0) (.eq (.var 5) (.lit 0) (.eq (.var 6) (.lit 0) (.eq (.var 7) (.lit 0) (.leaf (.int .i64 16)) (.leaf (.int .i64 16))) (.leaf (.int .i64 16))) (.leaf (.int .i64 16))) (.leaf (.int .i64 16))) (.leaf (.int .i64 16))) (.leaf (.int .i64 16))) (.leaf (.int .i64 16))) (.leaf (.int .i64 16))) (.leaf (.int .i64 16))) (.leaf (.int .i64 16))) (.eq (.var 1) (.lit 1) (.eq (.var 11) (.lit 0) (.eq (.var 12) (.lit 0) (.eq (.var 13) (.lit 0) (.eq (.var 60) (.lit 1) (.eq (.var 61) (.lit 1) (.eq (.var 63) (.lit 0) (.leaf (.int .i64 0)) (.leaf (.int .i64 16))) (.leaf (.int .i64 16))) (.leaf (.int .i64 16))) (.leaf (.int .i64 16))) (.leaf (.int .i64 16))) (.leaf (.int .i64 16))) (.eq (.var 1) (.lit 2) (.eq (.var 2) (.lit 0) (.eq (.var 3) (.lit 0) (.eq (.var 4) (.lit 0) (.eq (.var 5) (.lit 0) (.eq (.var 6) (.lit 0) (.eq (.var 7) (.lit 0) (.leaf (.int .i64 16)) (.leaf (.int .i64 16))) (.leaf (.int .i64 16))) (.leaf (.int .i64 16))) (.leaf (.int .i64 16))) (.leaf (.int .i64 16))) (.leaf (.int .i64 16))) (.leaf (.int .i64 16)))))
theorem plP11s_ok (σ : Sig) : plP11s.ok (callIs (envR rowB σ) (fun F => planK true true (.row 51) (envR rowB σ F)) 40 76 [(.agg [(.sint .i64 (.var 1)), (.sint .u64 (.var 2)), (.sint .u64 (.var 3)), (.sint .u64 (.var 4)), (.sint .u64 (.var 5)), (.sint .u64 (.var 6)), (.sint .u64 (.var 7)), (.bool true), (.bool true), (.sint .i64 (.var 10)), (.sint .i64 (.var 11)), (.sint .i64 (.var 12)), (.sint .i64 (.var 13)), (.row 51)])]) [] = true := by kernel_rfl
def plP11n : DT SV := (.eq (.var 1) (.lit 0) (.eq (.var 11) (.lit 0) (.eq (.var 12) (.lit 0) (.eq (.var 13) (.lit 0) (.eq (.var 2) (.lit 0) (.eq (.var 3) (.lit 0) (.eq (.var 4) (.lit 0) (.eq (.var 5) (.lit 0) (.eq (.var 6) (.lit 0) (.eq (.var 7) (.lit 0) (.leaf (.int .i64 16)) (.leaf (.int .i64 16))) (.leaf (.int .i64 16))) (.leaf (.int .i64 16))) (.leaf (.int .i64 16))) (.leaf (.int .i64 16))) (.leaf (.int .i64 16))) (.leaf (.int .i64 16))) (.leaf (.int .i64 16))) (.leaf (.int .i64 16))) (.eq (.var 1) (.lit 1) (.eq (.var 11) (.lit 0) (.eq (.var 12) (.lit 0) (.eq (.var 13) (.lit 0) (.eq (.var 60) (.lit 1) (.eq (.var 61) (.lit 1) (.eq (.var 63) (.lit 0) (.leaf (.int .i64 0)) (.leaf (.int .i64 16))) (.leaf (.int .i64 16))) (.leaf (.int .i64 16))) (.leaf (.int .i64 16))) (.leaf (.int .i64 16))) (.leaf (.int .i64 16))) (.eq (.var 1) (.lit 2) (.eq (.var 2) (.lit 0) (.eq (.var 3) (.lit 0) (.eq (.var 4) (.lit 0) (.eq (.var 5) (.lit 0) (.eq (.var 6) (.lit 0) (.eq (.var 7) (.lit 0) (.leaf (.int .i64 16)) (.leaf (.int .i64 16))) (.leaf (.int .i64 16))) (.leaf (.int .i64 16))) (.leaf (.int .i64 16))) (.leaf (.int .i64 16))) (.leaf (.int .i64 16))) (.leaf (.int .i64 16)))))
theorem plP11n_ok (σ : Sig) : plP11n.ok (callIs (envR rowB σ) (fun F => planK true true .nilslice (envR rowB σ F)) 40 76 [(.agg [(.sint .i64 (.var 1)), (.sint .u64 (.var 2)), (.sint .u64 (.var 3)), (.sint .u64 (.var 4)), (.sint .u64 (.var 5)), (.sint .u64 (.var 6)), (.sint .u64 (.var 7)), (.bool true), (.bool true), (.sint .i64 (.var 10)), (.sint .i64 (.var 11)), (.sint .i64 (.var 12)), (.sint .i64 (.var 13)), .nilslice])]) [] = true := by kernel_rfl
def plR00s : DT SV := (.eq (.var 1) (.lit 1) (.eq (.var 1) (.lit 2) (.eq (.var 63) (.lit 0) (.eq (.var 1) (.lit 0) (.eq (.len 51) (.lit 0) (.leaf (.int .i64 0)) (.eq (.var 60) (.lit 1) (.eq (.var 61) (.lit 1) (.leaf (.int .i64 0)) (.eq (.var 62) (.lit 1) (.leaf (.int .i64 0)) (.leaf (.int .i64 16)))) (.eq (.var 62) (.lit 1) (.leaf (.int .i64 0)) (.leaf (.int .i64 16))))) (.eq (.var 60) (.lit 1) (.eq (.var 61) (.lit 1) (.leaf (.int .i64 0)) (.eq (.var 62) (.lit 1) (.leaf (.int .i64 0)) (.leaf (.int .i64 16)))) (.eq (.var 62) (.lit 1) (.leaf (.int .i64 0)) (.leaf (.int .i64 16))))) (.leaf (.int .i64 16))) (.eq (.var 11) (.lit 0) (.eq (.var 12) (.lit 0) (.eq (.var 13) (.lit 0) (.eq (.var 63) (.lit 0) (.eq (.var 1) (.lit 0) (.eq (.len 51) (.lit 0) (.leaf (.int .i64 0)) (.eq (.var 60) (.lit 1) (.eq (.var 61) (.lit 1) (.leaf (.int .i64 0)) (.leaf (.int .i64 16))) (.leaf (.int .i64 16)))) (.eq (.var 60) (.lit 1) (.eq (.var 61) (.lit 1) (.leaf (.int .i64 0)) (.leaf (.int .i64 16))) (.leaf (.int .i64 16)))) (.leaf (.int .i64 16))) (.leaf (.int .i64 16))) (.leaf (.int .i64 16))) (.leaf (.int .i64 16)))) (.eq (.var 2) (.lit 0) (.eq (.var 3) (.lit 0) (.eq (.var 4) (.lit 0) (.eq (.var 5) (.lit 0) (.eq (.var 6) (.lit 0) (.eq (.var 7) (.lit 0) (.eq (.var 10) (.lit 0) (.eq (.var 1) (.lit 2) (.eq (.var 63) (.lit 0) (.eq (.var 1) (.lit 0) (.eq (.len 51) (.lit 0) (.leaf (.int .i64 0)) (.eq (.var 62) (.lit 1) (.leaf (.int .i64 0)) (.leaf (.int .i64 16)))) (.eq (.var 62) (.lit 1) (.leaf (.int .i64 0)) (.leaf (.int .i64 16)))) (.leaf (.int .i64 16))) (.eq (.var 11) (.lit 0) (.eq (.var 12) (.lit 0) (.eq (.var 13) (.lit 0) (.eq (.var 63) (.lit 0) (.eq (.var 1) (.lit 0) (.eq (.len 51) (.lit 0) (.leaf (.int .i64 0)) (.leaf (.int .i64 16))) (.leaf (.int .i64 16))) (.leaf (.int .i64 16))) (.leaf (.int .i64 16))) (.leaf (.int .i64 16))) (.leaf (.int .i64 16)))) (.leaf (.int .i64 16))) (.leaf (.int .i64 16))) (.leaf (.int .i64 16))) (.leaf (.int .i64 16))) (.leaf (.int .i64 16))) (.leaf (.int .i64 16))) (.leaf (.int .i64 16))))
theorem plR00s_ok (σ : Sig) : plR00s.ok (callIs (envR rowB σ) (fun F => planK false false (.row 51) (envR rowB σ F)) 40 51 [(.agg [(.sint .i64 (.var 1)), (.sint .u64 (.var 2)), (.sint .u64 (.var 3)), (.sint .u64 (.var 4)), (.sint .u64 (.var 5)), (.sint .u64 (.var 6)), (.sint .u64 (.var 7)), (.bool false), (.bool false), (.sint .i64 (.var 10)), (.sint .i64 (.var 11)), (.sint .i64 (.var 12)), (.sint .i64 (.var 13)), (.row 51)])]) [] = true := by kernel_rfl
def plR00n : DT SV := (.eq (.var 1) (.lit 1) (.eq (.var 1) (.lit 2) (.eq (.var 63) (.lit 0) (.eq (.var 1) (.lit 0) (.leaf (.int .i64 0)) (.eq (.var 60) (.lit 1) (.eq (.var 61) (.lit 1) (.leaf (.int .i64 0)) (.eq (.var 62) (.lit 1) (.leaf (.int .i64 0)) (.leaf (.int .i64 16)))) (.eq (.var 62) (.lit 1) (.leaf (.int .i64 0)) (.leaf (.int .i64 16))))) (.leaf (.int .i64 16))) (.eq (.var 11) (.lit 0) (.eq (.var 12) (.lit 0) (.eq (.var 13) (.lit 0) (.eq (.var 63) (.lit 0) (.eq (.var 1) (.lit 0) (.leaf (.int .i64 0)) (.eq (.var 60) (.lit 1) (.eq (.var 61) (.lit 1) (.leaf (.int .i64 0)) (.leaf (.int .i64 16))) (.leaf (.int .i64 16)))) (.leaf (.int .i64 16))) (.leaf (.int .i64 16))) (.leaf (.int .i64 16))) (.leaf (.int .i64 16)))) (.eq (.var 2) (.lit 0) (.eq (.var 3) (.lit 0) (.eq (.var 4) (.lit 0) (.eq (.var 5) (.lit 0) (.eq (.var 6) (.lit 0) (.eq (.var 7) (.lit 0) (.eq (.var 10) (.lit 0) (.eq (.var 1) (.lit 2) (.eq (.var 63) (.lit 0) (.eq (.var 1) (.lit 0) (.leaf (.int .i64 0)) (.eq (.var 62) (.lit 1) (.leaf (.int .i64 0)) (.leaf (.int .i64 16)))) (.leaf (.int .i64 16))) (.eq (.var 11) (.lit 0) (.eq (.var 12) (.lit 0) (.eq (.var 13) (.lit 0) (.eq (.var 63) (.lit 0) (.eq (.var 1) (.lit 0) (.leaf (.int .i64 0)) (.leaf (.int .i64 16))) (.leaf (.int .i64 16))) (.leaf (.int .i64 16))) (.leaf (.int .i64 16))) (.leaf (.int .i64 16)))) (.leaf (.int .i64 16))) (.leaf (.int .i64 16))) (.leaf (.int .i64 16))) (.leaf (.int .i64 16))) (.leaf (.int .i64 16))) (.leaf (.int .i64 16))) (.leaf (.int .i64 16))))
theorem plR00n_ok (σ : Sig) : plR00n.ok (callIs (envR rowB σ) (fun F => planK false false .nilslice (envR rowB σ F)) 40 51 [(.agg [(.sint .i64 (.var 1)), (.sint .u64 (.var 2)), (.sint .u64 (.var 3)), (.sint .u64 (.var 4)), (.sint .u64 (.var 5)), (.sint .u64 (.var 6)), (.sint .u64 (.var 7)), (.bool false), (.bool false), (.sint .i64 (.var 10)), (.sint .i64 (.var 11)), (.sint .i64 (.var 12)), (.sint .i64 (.var 13)), .nilslice])]) [] = true := by kernel_rfl
def plR01s : DT SV := (.eq (.var 1) (.lit 1) (.eq (.var 1) (.lit 2) (.eq (.var 63) (.lit 0) (.eq (.var 1) (.lit 0) (.eq (.len 51) (.lit 0) (.leaf (.int .i64 0)) (.eq (.var 60) (.lit 1) (.eq (.var 61) (.lit 1) (.leaf (.int .i64 0)) (.eq (.var 62) (.lit 1) (.leaf (.int .i64 0)) (.leaf (.int .i64 16)))) (.eq (.var 62) (.lit 1) (.leaf (.int .i64 0)) (.leaf (.int .i64 16))))) (.eq (.var 60) (.lit 1) (.eq (.var 61) (.lit 1) (.leaf (.int .i64 0)) (.eq (.var 62) (.lit 1) (.leaf (.int .i64 0)) (.leaf (.int .i64 16)))) (.eq (.var 62) (.lit 1) (.leaf (.int .i64 0)) (.leaf (.int .i64 16))))) (.leaf (.int .i64 16))) (.eq (.var 11) (.lit 0) (.eq (.var 12) (.lit 0) (.eq (.var 13) (.lit 0) (.eq (.var 63) (.lit 0) (.eq (.var 1) (.lit 0) (.eq (.len 51) (.lit 0) (.leaf (.int .i64 0)) (.eq (.var 60) (.lit 1) (.eq (.var 61) (.lit 1) (.leaf (.int .i64 0)) (.leaf (.int .i64 16))) (.leaf (.int .i64 16)))) (.eq (.var 60) (.lit 1) (.eq (.var 61) (.lit 1) (.leaf (.int .i64 0)) (.leaf (.int .i64 16))) (.leaf (.int .i64 16)))) (.leaf (.int .i64 16))) (.leaf (.int .i64 16))) (.leaf (.int .i64 16))) (.leaf (.int .i64 16)))) (.eq (.var 2) (.lit 0) (.eq (.var 3) (.lit 0) (.eq (.var 4) (.lit 0) (.eq (.var 5) (.lit 0) (.eq (.var 6) (.lit 0) (.eq (.var 7) (.lit 0) (.leaf (.int .i64 16)) (.leaf (.int .i64 16))) (.leaf (.int .i64 16))) (.leaf (.int .i64 16))) (.leaf (.int .i64 16))) (.leaf (.int .i64 16))) (.leaf (.int .i64 16))))
theorem plR01s_ok (σ : Sig) : plR01s.ok (callIs (envR rowB σ) (fun F => planK false true (.row 51) (envR rowB σ F)) 40 51 [(.agg [(.sint .i64 (.var 1)), (.sint .u64 (.var 2)), (.sint .u64 (.var 3)), (.sint .u64 (.var 4)), (.sint .u64 (.var 5)), (.sint .u64 (.var 6)), (.sint .u64 (.var 7)), (.bool false), (.bool true), (.sint .i64 (.var 10)), (.sint .i64 (.var 11)), (.sint .i64 (.var 12)), (.sint .i64 (.var 13)), (.row 51)])]) [] = true := by kernel_rfl
def plR01n : DT SV := (.eq (.var 1) (.lit 1) (.eq (.var 1) (.lit 2) (.eq (.var 63) (.lit 0) (.eq (.var 1) (.lit 0) (.leaf (.int .i64 0)) (.eq (.var 60) (.lit 1) (.eq (.var 61) (.lit 1) (.leaf (.int .i64 0)) (.eq (.var 62) (.lit 1) (.leaf (.int .i64 0)) (.leaf (.int .i64 16)))) (.eq (.var 62) (.lit 1) (.leaf (.int .i64 0)) (.leaf (.int .i64 16))))) (.leaf (.int .i64 16))) (.eq (.var 11) (.lit 0) (.eq (.var 12) (.lit 0) (.eq (.var 13) (.lit 0) (.eq (.var 63) (.lit 0) (.eq (.var 1) (.lit 0) (.leaf (.int .i64 0)) (.eq (.var 60) (.lit 1) (.eq (.var 61) (.lit 1) (.leaf (.int .i64 0)) (.leaf (.int .i64 16))) (.leaf (.int .i64 16)))) (.leaf (.int .i64 16))) (.leaf (.int .i64 16))) (.leaf (.int .i64 16))) (.leaf (.int .i64 16)))) (.eq (.var 2) (.lit 0) (.eq (.var 3) (.lit 0) (.eq (.var 4) (.lit 0) (.eq (.var 5) (.lit 0) (.eq (.var 6) (.lit 0) (.eq (.var 7) (.lit 0) (.leaf (.int .i64 16)) (.leaf (.int .i64 16))) (.leaf (.int .i64 16))) (.leaf (.int .i64 16))) (.leaf (.int .i64 16))) (.leaf (.int .i64 16))) (.leaf (.int .i64 16))))
theorem plR01n_ok (σ : Sig) : plR01n.ok (callIs (envR rowB σ) (fun F => planK false true .nilslice (envR rowB σ F)) 40 51 [(.agg [(.sint .i64 (.var 1)), (.sint .u64 (.var 2)), (.sint .u64 (.var 3)), (.sint .u64 (.var 4)), (.sint .u64 (.var 5)), (.sint .u64 (.var 6)), (.sint .u64 (.var 7)), (.bool false), (.bool true), (.sint .i64 (.var 10)), (.sint .i64 (.var 11)), (.sint .i64 (.var 12)), (.sint .i64 (.var 13)), .nilslice])]) [] = true := by kernel_rfl
def plR10s : DT SV := (.eq (.var 1) (.lit 1) (.eq (.var 1) (.lit 2) (.eq (.var 63) (.lit 0) (.eq (.var 1) (.lit 0) (.eq (.len 51) (.lit 0) (.leaf (.int .i64 0)) (.eq (.var 60) (.lit 1) (.eq (.var 61) (.lit 1) (.leaf (.int .i64 0)) (.eq (.var 62) (.lit 1) (.leaf (.int .i64 0)) (.leaf (.int .i64 16)))) (.eq (.var 62) (.lit 1) (.leaf (.int .i64 0)) (.leaf (.int .i64 16))))) (.eq (.var 60) (.lit 1) (.eq (.var 61) (.lit 1) (.leaf (.int .i64 0)) (.eq (.var 62) (.lit 1) (.leaf (.int .i64 0)) (.leaf (.int .i64 16)))) (.eq (.var 62) (.lit 1) (.leaf (.int .i64 0)) (.leaf (.int .i64 16))))) (.leaf (.int .i64 16))) (.eq (.var 11) (.lit 0) (.eq (.var 12) (.lit 0) (.eq (.var 13) (.lit 0) (.eq (.var 63) (.lit 0) (.eq (.var 1) (.lit 0) (.eq (.len 51) (.lit 0) (.leaf (.int .i64 0)) (.eq (.var 60) (.lit 1) (.eq (.var 61) (.lit 1) (.leaf (.int .i64 0)) (.leaf (.int .i64 16))) (.leaf (.int .i64 16)))) (.eq (.var 60) (.lit 1) (.eq (.var 61) (.lit 1) (.leaf (.int .i64 0)) (.leaf (.int .i64 16))) (.leaf (.int .i64 16)))) (.leaf (.int .i64 16))) (.leaf (.int .i64 16))) (.leaf (.int .i64 16))) (.leaf (.int .i64 16)))) (.eq (.var 2) (.lit 0) (.eq (.var 3) (.lit 0) (.eq (.var 4) (.lit 0) (.eq (.var 5) (.lit 0) (.eq (.var 6) (.lit 0) (.eq (.var 7) (.lit 0) (.leaf (.int .i64 16)) (.leaf (.int .i64 16))) (.leaf (.int .i64 16))) (.leaf (.int .i64 16))) (.leaf (.int .i64 16))) (.leaf (.int .i64 16))) (.leaf (.int .i64 16))))
theorem plR10s_ok (σ : Sig) : plR10s.ok (callIs (envR rowB σ) (fun F => planK true false (.row 51) (envR rowB σ F)) 40 51 [(.agg [(.sint .i64 (.var 1)), (.sint .u64 (.var 2)), (.sint .u64 (.var 3)), (.sint .u64 (.var 4)), (.sint .u64 (.var 5)), (.sint .u64 (.var 6)), (.sint .u64 (.var 7)), (.bool true), (.bool false), (.sint .i64 (.var 10)), (.sint .i64 (.var 11)), (.sint .i64 (.var 12)), (.sint .i64 (.var 13)), (.row 51)])]) [] = true := by kernel_rfl
def plR10n : DT SV := (.eq (.var 1) (.lit 1) (.eq (.var 1) (.lit 2) (.eq (.var 63) (.lit 0) (.eq (.var 1) (.lit 0) (.leaf (.int .i64 0)) (.eq (.var 60) (.lit 1) (.eq (.var 61) (.lit 1) (.leaf (.int .i64 0)) (.eq (.var 62) (.lit 1) (.leaf (.int .i64 0)) (.leaf (.int .i64 16)))) (.eq (.var 62) (.lit 1) (.leaf (.int .i64 0)) (.leaf (.int .i64 16))))) (.leaf (.int .i64 16))) (.eq (.var 11) (.lit 0) (.eq (.var 12) (.lit 0) (.eq (.var 13) (.lit 0) (.eq (.var 63) (.lit 0) (.eq (.var 1) (.lit 0) (.leaf (.int .i64 0)) (.eq (.var 60) (.lit 1) (.eq (.var 61) (.lit 1) (.leaf (.int .i64 0)) (.leaf (.int .i64 16))) (.leaf (.int .i64 16)))) (.leaf (.int .i64 16))) (.leaf (.int .i64 16))) (.leaf (.int .i64 16))) (.leaf (.int .i64 16)))) (.eq (.var 2) (.lit 0) (.eq (.var 3) (.lit 0) (.eq (.var 4) (.lit 0) (.eq (.var 5) (.lit 0) (.eq (.var 6) (.lit 0) (.eq (.var 7) (.lit 0) (.leaf (.int .i64 16)) (.leaf (.int .i64 16))) (.leaf (.int .i64 16))) (.leaf (.int .i64 16))) (.leaf (.int .i64 16))) (.leaf (.int .i64 16))) (.leaf (.int .i64 16))))
theorem plR10n_ok (σ : Sig) : plR10n.ok (callIs (envR rowB σ) (fun F => planK true false .nilslice (envR rowB σ F)) 40 51 [(.agg [(.sint .i64 (.var 1)), (.sint .u64 (.var 2)), (.sint .u64 (.var 3)), (.sint .u64 (.var 4)), (.sint .u64 (.var 5)), (.sint .u64 (.var 6)), (.sint .u64 (.var 7)), (.bool true), (.bool false), (.sint .i64 (.var 10)), (.sint .i64 (.var 11)), (.sint .i64 (.var 12)), (.sint .i64 (.var 13)), .nilslice])]) [] = true := by kernel_rfl
def plR11s : DT SV := (.eq (.var 1) (.lit 1) (.eq (.var 1) (.lit 2) (.eq (.var 63) (.lit 0) (.eq (.var 1) (.lit 0) (.eq (.len 51) (.lit 0) (.leaf (.int .i64 0)) (.eq (.var 60) (.lit 1) (.eq (.var 61) (.lit 1) (.leaf (.int .i64 0)) (.eq (.var 62) (.lit 1) (.leaf (.int .i64 0)) (.leaf (.int .i64 16)))) (.eq (.var 62) (.lit 1) (.leaf (.int .i64 0)) (.leaf (.int .i64 16))))) (.eq (.var 60) (.lit 1) (.eq (.var 61) (.lit 1) (.leaf (.int .i64 0)) (.eq (.var 62) (.lit 1) (.leaf (.int .i64 0)) (.leaf (.int .i64 16)))) (.eq (.var 62) (.lit 1) (.leaf (.int .i64 0)) (.leaf (.int .i64 16))))) (.leaf (.int .i64 16))) (.eq (.var 11) (.lit 0) (.eq (.var 12) (.lit 0) (.eq (.var 13) (.lit 0) (.eq (.var 63) (.lit 0) (.eq (.var 1) (.lit 0) (.eq (.len 51) (.lit 0) (.leaf (.int .i64 0)) (.eq (.var 60) (.lit 1) (.eq (.var 61) (.lit 1) (.leaf (.int .i64 0)) (.leaf (.int .i64 16))) (.leaf (.int .i64 16)))) (.eq (.var 60) (.lit 1) (.eq (.var 61) (.lit 1) (.leaf (.int .i64 0)) (.leaf (.int .i64 16))) (.leaf (.int .i64 16)))) (.leaf (.int .i64 16))) (.leaf (.int .i64 16))) (.leaf (.int .i64 16))) (.leaf (.int .i64 16)))) (.eq (.var 2) (.lit 0) (.eq (.var 3) (.lit 0) (.eq (.var 4) (.lit 0) (.eq (.var 5) (.lit 0) (.eq (.var 6) (.lit 0) (.eq (.var 7) (.lit 0) (.leaf (.int .i64 16)) (.leaf (.int .i64 16))) (.leaf (.int .i64 16))) (.leaf (.int .i64 16))) (.leaf (.int .i64 16))) (.leaf (.int .i64 16))) (.leaf (.int .i64 16))))
theorem plR11s_ok (σ : Sig) : plR11s.ok (callIs (envR rowB σ) (fun F => planK true true (.row 51) (envR rowB σ F)) 40 51 [(.agg [(.sint .i64 (.var 1)), (.sint .u64 (.var 2)), (.sint .u64 (.var 3)), (.sint .u64 (.var 4)), (.sint .u64 (.var 5)), (.sint .u64 (.var 6)), (.sint .u64 (.var 7)), (.bool true), (.bool true), (.sint .i64 (.var 10)), (.sint .i64 (.var 11)), (.sint .i64 (.var 12)), (.sint .i64 (.var 13)), (.row 51)])]) [] = true := by kernel_rfl
def plR11n : DT SV := (.eq (.var 1) (.lit 1) (.eq (.var 1) (.lit 2) (.eq (.var 63) (.lit 0) (.eq (.var 1) (.lit 0) (.leaf (.int .i64 0)) (.eq (.var 60) (.lit 1) (.eq (.var 61) (.lit 1) (.leaf (.int .i64 0)) (.eq (.var 62) (.lit 1) (.leaf (.int .i64 0)) (.leaf (.int .i64 16)))) (.eq (.var 62) (.lit 1) (.leaf (.int .i64 0)) (.leaf (.int .i64 16))))) (.leaf (.int .i64 16))) (.eq (.var 11) (.lit 0) (.eq (.var 12) (.lit 0) (.eq (.var 13) (.lit 0) (.eq (.var 63) (.lit 0) (.eq (.var 1) (.lit 0) (.leaf (.int .i64 0)) (.eq (.var 60) (.lit 1) (.eq (.var 61) (.lit 1) (.leaf (.int .i64 0)) (.leaf (.int .i64 16))) (.leaf (.int .i64 16)))) (.leaf (.int .i64 16))) (.leaf (.int .i64 16))) (.leaf (.int .i64 16))) (.leaf (.int .i64 16)))) (.eq (.var 2) (.lit 0) (.eq (.var 3) (.lit 0) (.eq (.var 4) (.lit 0) (.eq (.var 5) (.lit 0) (.eq (.var 6) (.lit 0) (.eq (.var 7) (.lit 0) (.leaf (.int .i64 16)) (.leaf (.int .i64 16))) (.leaf (.int .i64 16))) (.leaf (.int .i64 16))) (.leaf (.int .i64 16))) (.leaf (.int .i64 16))) (.leaf (.int .i64 16))))
theorem plR11n_ok (σ : Sig) : plR11n.ok (callIs (envR rowB σ) (fun F => planK true true .nilslice (envR rowB σ F)) 40 51 [(.agg [(.sint .i64 (.var 1)), (.sint .u64 (.var 2)), (.sint .u64 (.var 3)), (.sint .u64 (.var 4)), (.sint .u64 (.var 5)), (.sint .u64 (.var 6)), (.sint .u64 (.var 7)), (.bool true), (.bool true), (.sint .i64 (.var 10)), (.sint .i64 (.var 11)), (.sint .i64 (.var 12)), (.sint .i64 (.var 13)), .nilslice])]) [] = true := by kernel_rfl
end Go.Proofs.YtmcmagheiijnhaaGreatDoor

/- Whether a plan is allowed: all trees hand back one spec. -/
set_option linter.all false
set_option maxRecDepth 100000
namespace Go.Proofs.YtmcmagheiijnhaaGreatDoor
open Go.RX Go.RX.Sym
open Classical

/-- What is allowed, by numbers; s: a field of the expression is a star; n: how many spans. -/
def planN (v : Nat → Int) (s : Bool) (n : Int) : Prop :=
  (v 1 = 0 ∧ n = 0 ∧ (v 11 = 0 ∧ v 12 = 0 ∧ v 13 = 0) ∧ ((v 2 = 0 ∧ v 3 = 0 ∧ v 4 = 0 ∧ v 5 = 0 ∧ v 6 = 0 ∧ v 7 = 0) ∧ s = false) ∧ v 10 = 0 ∧ v 63 = 0) ∨
  (v 1 = 1 ∧ (v 11 = 0 ∧ v 12 = 0 ∧ v 13 = 0) ∧ (v 60 = 1 ∧ v 61 = 1) ∧ v 63 = 0) ∨
  (v 1 = 2 ∧ ((v 2 = 0 ∧ v 3 = 0 ∧ v 4 = 0 ∧ v 5 = 0 ∧ v 6 = 0 ∧ v 7 = 0) ∧ s = false) ∧ v 10 = 0 ∧ v 62 = 1 ∧ v 63 = 0)
abbrev BAD : DT SV := .leaf ruleV
abbrev GOOD : DT SV := .leaf okV
def zE (l : List Nat) (T : DT SV) : DT SV := match l with | [] => T | i :: l => .eq (.var i) (.lit 0) (zE l T) BAD
def yE (l : List Nat) (T : DT SV) : DT SV := match l with | [] => T | i :: l => .eq (.var i) (.lit 1) (yE l T) BAD
def eX (s : Bool) (T : DT SV) : DT SV := zE [2, 3, 4, 5, 6, 7] (match s with | true => BAD | false => T)
def lQ (nil : Bool) (T : DT SV) : DT SV := match nil with | true => T | false => .eq (.len 51) (.lit 0) T BAD
def e0 (nil : Bool) (y n : DT SV) : DT SV := .eq (.var 1) (.lit 0) (match nil with | true => GOOD | false => .eq (.len 51) (.lit 0) GOOD y) n
def planPT (s nil : Bool) : DT SV := .eq (.var 1) (.lit 0) (lQ nil (zE [11, 12, 13] (eX s (zE [10] (zE [63] GOOD))))) (.eq (.var 1) (.lit 1) (zE [11, 12, 13] (yE [60, 61] (zE [63] GOOD))) (.eq (.var 1) (.lit 2) (eX s (zE [10] (yE [62] (zE [63] GOOD)))) BAD))
def mX : DT SV := .eq (.var 60) (.lit 1) (.eq (.var 61) (.lit 1) GOOD (.eq (.var 62) (.lit 1) GOOD BAD)) (.eq (.var 62) (.lit 1) GOOD BAD)
def planRT (s nil : Bool) : DT SV := .eq (.var 1) (.lit 1)
  (.eq (.var 1) (.lit 2) (zE [63] (e0 nil mX mX)) (zE [11, 12, 13] (zE [63] (e0 nil (yE [60, 61] GOOD) (yE [60, 61] GOOD)))))
  (eX s (zE [10] (.eq (.var 1) (.lit 2) (zE [63] (e0 nil (yE [62] GOOD) (yE [62] GOOD))) (zE [11, 12, 13] (zE [63] (e0 nil BAD BAD))))))
theorem plP00s_is : plP00s = planPT false false := rfl
theorem plP00n_is : plP00n = planPT false true := rfl
theorem plP01s_is : plP01s = planPT true false := rfl
theorem plP01n_is : plP01n = planPT true true := rfl
theorem plP10s_is : plP10s = planPT true false := rfl
theorem plP10n_is : plP10n = planPT true true := rfl
theorem plP11s_is : plP11s = planPT true false := rfl
theorem plP11n_is : plP11n = planPT true true := rfl
theorem plR00s_is : plR00s = planRT false false := rfl
theorem plR00n_is : plR00n = planRT false true := rfl
theorem plR01s_is : plR01s = planRT true false := rfl
theorem plR01n_is : plR01n = planRT true true := rfl
theorem plR10s_is : plR10s = planRT true false := rfl
theorem plR10n_is : plR10n = planRT true true := rfl
theorem plR11s_is : plR11s = planRT true false := rfl
theorem plR11n_is : plR11n = planRT true true := rfl

section
variable {σ : Sig}
theorem zE_eval {T : DT SV} : ∀ (l : List Nat), (zE l T).eval σ = pickV (∀ i ∈ l, σ.var i = 0) (T.eval σ) ruleV
  | [] => by rw [pick_yes fun i h => by cases h]; rfl
  | i :: l => by
    show (DT.eq (.var i) (.lit 0) (zE l T) BAD).eval σ = _
    rw [eval_eq, zE_eval l]
    show pickV (σ.var i = 0) (pickV _ _ ruleV) ruleV = _
    rw [pick_and]
    exact pick_iff ⟨fun h x hx => by rcases List.mem_cons.1 hx with rfl | hx; exact h.1; exact h.2 x hx, fun h => ⟨h i (by simp), fun x hx => h x (List.mem_cons_of_mem _ hx)⟩⟩
theorem yE_eval {T : DT SV} : ∀ (l : List Nat), (yE l T).eval σ = pickV (∀ i ∈ l, σ.var i = 1) (T.eval σ) ruleV
  | [] => by rw [pick_yes fun i h => by cases h]; rfl
  | i :: l => by
    show (DT.eq (.var i) (.lit 1) (yE l T) BAD).eval σ = _
    rw [eval_eq, yE_eval l]
    show pickV (σ.var i = 1) (pickV _ _ ruleV) ruleV = _
    rw [pick_and]
    exact pick_iff ⟨fun h x hx => by rcases List.mem_cons.1 hx with rfl | hx; exact h.1; exact h.2 x hx, fun h => ⟨h i (by simp), fun x hx => h x (List.mem_cons_of_mem _ hx)⟩⟩
theorem mem6 {P : Nat → Prop} {a b c d e f : Nat} : (∀ x ∈ [a, b, c, d, e, f], P x) ↔ P a ∧ P b ∧ P c ∧ P d ∧ P e ∧ P f := by simp
theorem mem2 {P : Nat → Prop} {a b : Nat} : (∀ x ∈ [a, b], P x) ↔ P a ∧ P b := by simp
theorem eX_eval {s : Bool} {T : DT SV} : (eX s T).eval σ = pickV ((σ.var 2 = 0 ∧ σ.var 3 = 0 ∧ σ.var 4 = 0 ∧ σ.var 5 = 0 ∧ σ.var 6 = 0 ∧ σ.var 7 = 0) ∧ s = false) (T.eval σ) ruleV := by
  unfold eX
  rw [zE_eval, pick_iff mem6]
  cases s with
  | true =>
    have n1 : ¬ ((σ.var 2 = 0 ∧ σ.var 3 = 0 ∧ σ.var 4 = 0 ∧ σ.var 5 = 0 ∧ σ.var 6 = 0 ∧ σ.var 7 = 0) ∧ true = false) := fun h => by cases h.2
    rw [pick_no n1]
    show pickV _ ruleV ruleV = _
    by_cases c : σ.var 2 = 0 ∧ σ.var 3 = 0 ∧ σ.var 4 = 0 ∧ σ.var 5 = 0 ∧ σ.var 6 = 0 ∧ σ.var 7 = 0
    · rw [pick_yes c]
    · rw [pick_no c]
  | false => exact pick_iff ⟨fun h => ⟨h, rfl⟩, fun h => h.1⟩
theorem lQ_eval {nil : Bool} {T : DT SV} {n : Int} (hn : n = match nil with | true => 0 | false => (IE.len 51).val σ) : (lQ nil T).eval σ = pickV (n = 0) (T.eval σ) ruleV := by
  cases nil with
  | true => rw [pick_yes hn]; rfl
  | false =>
    show (DT.eq (.len 51) (.lit 0) T BAD).eval σ = _
    rw [eval_eq, hn]; rfl
theorem planPT_eval {s nil : Bool} {n : Int} (hn : n = match nil with | true => 0 | false => (IE.len 51).val σ) : (planPT s nil).eval σ = pickV (planN σ.var s n) okV ruleV := by
  unfold planPT
  rw [eval_eq, eval_eq, eval_eq, lQ_eval hn, zE_eval, eX_eval, zE_eval, zE_eval, zE_eval, yE_eval, zE_eval, eX_eval, zE_eval, yE_eval, zE_eval, pick_iff mem3, pick_iff mem1, pick_iff mem1, pick_iff mem2, pick_iff mem1]
  show pickV (σ.var 1 = 0) (pickV (n = 0) (pickV _ (pickV _ (pickV _ (pickV _ okV ruleV) ruleV) ruleV) ruleV) ruleV) (pickV (σ.var 1 = 1) (pickV _ (pickV _ (pickV _ okV ruleV) ruleV) ruleV) (pickV (σ.var 1 = 2) (pickV _ (pickV _ (pickV _ (pickV _ okV ruleV) ruleV) ruleV) ruleV) ruleV)) = _
  rw [pick_and, pick_and, pick_and, pick_and, pick_and, pick_and, pick_and, pick_and, pick_and, pick_and]
  unfold planN
  by_cases c0 : σ.var 1 = 0
  · rw [pick_yes c0]
    refine pick_iff ⟨fun h => .inl ⟨c0, ?_⟩, fun h => ?_⟩
    · simpa [and_assoc] using h
    · rcases h with h | h | h
      · simpa [and_assoc] using h.2
      · have := h.1; omega
      · have := h.1; omega
  rw [pick_no c0]
  by_cases c1 : σ.var 1 = 1
  · rw [pick_yes c1]
    refine pick_iff ⟨fun h => .inr (.inl ⟨c1, ?_⟩), fun h => ?_⟩
    · simpa [and_assoc] using h
    · rcases h with h | h | h
      · exact absurd h.1 c0
      · simpa [and_assoc] using h.2
      · have := h.1; omega
  rw [pick_no c1]
  refine pick_iff ⟨fun h => .inr (.inr ?_), fun h => ?_⟩
  · simpa [and_assoc] using h
  · rcases h with h | h | h
    · exact absurd h.1 c0
    · exact absurd h.1 c1
    · simpa [and_assoc] using h
theorem planRT_eval {s nil : Bool} {n : Int} (hn : n = match nil with | true => 0 | false => (IE.len 51).val σ) : (planRT s nil).eval σ = pickV (planN σ.var s n) okV ruleV := by
  have he0 : ∀ {y z : DT SV}, σ.var 1 ≠ 0 → (e0 nil y z).eval σ = z.eval σ := fun {y z} h => by
    unfold e0
    rw [eval_eq, pick_no (p := (IE.var 1).val σ = (IE.lit 0).val σ) h]
  unfold planRT
  by_cases c1 : σ.var 1 = 1
  · have c0 : σ.var 1 ≠ 0 := by omega
    have c2 : ¬ σ.var 1 = 2 := by omega
    rw [eval_eq, pick_yes (p := (IE.var 1).val σ = (IE.lit 1).val σ) c1, eval_eq, pick_no (p := (IE.var 1).val σ = (IE.lit 2).val σ) c2, zE_eval, zE_eval, he0 c0, yE_eval, pick_iff mem3, pick_iff mem1, pick_iff mem2]
    show pickV _ (pickV _ (pickV _ okV ruleV) ruleV) ruleV = _
    rw [pick_and, pick_and]
    unfold planN
    refine pick_iff ⟨fun h => .inr (.inl ⟨c1, h.1.1, h.2, h.1.2⟩), fun h => ?_⟩
    rcases h with h | h | h
    · exact absurd h.1 c0
    · exact ⟨⟨h.2.1, h.2.2.2⟩, h.2.2.1⟩
    · exact absurd h.1 c2
  rw [eval_eq, pick_no (p := (IE.var 1).val σ = (IE.lit 1).val σ) c1, eX_eval, zE_eval, pick_iff mem1, eval_eq]
  by_cases c2 : σ.var 1 = 2
  · have c0 : σ.var 1 ≠ 0 := by omega
    rw [pick_yes (p := (IE.var 1).val σ = (IE.lit 2).val σ) c2, zE_eval, he0 c0, yE_eval, pick_iff mem1, pick_iff mem1]
    show pickV _ (pickV _ (pickV _ (pickV _ okV ruleV) ruleV) ruleV) ruleV = _
    rw [pick_and, pick_and, pick_and]
    unfold planN
    refine pick_iff ⟨fun h => .inr (.inr ⟨c2, h.1.1.1, h.1.1.2, h.2, h.1.2⟩), fun h => ?_⟩
    rcases h with h | h | h
    · exact absurd h.1 c0
    · exact absurd h.1 c1
    · exact ⟨⟨⟨h.2.1, h.2.2.1⟩, h.2.2.2.2⟩, h.2.2.2.1⟩
  rw [pick_no (p := (IE.var 1).val σ = (IE.lit 2).val σ) c2, zE_eval, zE_eval, pick_iff mem3, pick_iff mem1]
  have he : (e0 nil BAD BAD).eval σ = pickV (σ.var 1 = 0 ∧ n = 0) okV ruleV := by
    unfold e0
    rw [eval_eq]
    cases nil with
    | true =>
      show pickV (σ.var 1 = 0) okV ruleV = _
      exact pick_iff ⟨fun h => ⟨h, hn⟩, fun h => h.1⟩
    | false =>
      show pickV (σ.var 1 = 0) ((DT.eq (.len 51) (.lit 0) GOOD BAD).eval σ) ruleV = _
      rw [eval_eq]
      show pickV (σ.var 1 = 0) (pickV ((IE.len 51).val σ = 0) okV ruleV) ruleV = _
      rw [pick_and, hn]
  rw [he, pick_and, pick_and, pick_and, pick_and]
  unfold planN
  refine pick_iff ⟨fun h => .inl ⟨h.2.1, h.2.2, h.1.1.2, h.1.1.1.1, h.1.1.1.2, h.1.2⟩, fun h => ?_⟩
  rcases h with h | h | h
  · exact ⟨⟨⟨⟨h.2.2.2.1, h.2.2.2.2.1⟩, h.2.2.1⟩, h.2.2.2.2.2⟩, h.1, h.2.1⟩
  · exact absurd h.1 c1
  · exact absurd h.1 c2
end
end Go.Proofs.YtmcmagheiijnhaaGreatDoor
