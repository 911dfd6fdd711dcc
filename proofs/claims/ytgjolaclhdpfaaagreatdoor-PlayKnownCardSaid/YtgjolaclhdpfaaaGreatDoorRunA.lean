/- A closed run in parts: each part from a state that is written out to the next one. -/
import Derived.Test.YtgjolaclhdpfaaaGreatDoorEnv
set_option linter.all false
set_option maxRecDepth 100000
namespace Go.Proofs.YtgjolaclhdpfaaaGreatDoor
open Go.RX
noncomputable def wkBody : Code := match Tryz.f5.body with | some c => c | none => .skip
theorem wk_body : Tryz.f5.body = some wkBody := by kernel_rfl
def wkSl : List Nat := [8, 7, 6, 5, 4, 3, 2, 1, 0]
noncomputable def wkC (σ : Sig) : Sym.Callee := semK (env σ) (know σ) 60
def wkF1 : List SV := [.unknown, .unknown, .unknown, .unknown, .unknown, .unknown, .unknown, .unknown, .bool false]
def wkO1 : List (Nat × SObj) := []
theorem wk_seq0 : isSeq wkBody = true := by kernel_rfl
theorem wk_part0 (σ : Sig) : cutOk wkF1 wkO1 0 (partRun (env σ) (wkC σ) Tryz.f5.ntmps wkSl (partA wkBody) (⟨Sym.frameOf [] wkSl, [], ⟨.nil, 0, 0⟩⟩ : St)) = true := by kernel_rfl
def wkF2 : List SV := [.unknown, .unknown, .unknown, .unknown, .unknown, .unknown, .unknown, .slice 0 0 3 (.exact 3), .bool false]
def wkO2 : List (Nat × SObj) := [(0, .cells [.int .i64 1, .int .i64 1, .int .i64 0, .int .i64 0, .bool false, .string ⟨#[]⟩, .int .i64 3, .int .i64 0, .int .i64 0, .int .i64 1, .bool true, .string ⟨#[]⟩, .int .i64 3, .int .i64 0, .int .i64 0, .int .i64 2, .bool true, .string ⟨#[]⟩] 81)]
theorem wk_seq1 : isSeq (partB wkBody) = true := by kernel_rfl
theorem wk_part1 (σ : Sig) : cutOk wkF2 wkO2 1 (partRun (env σ) (wkC σ) Tryz.f5.ntmps wkSl (partA (partB wkBody)) (cutSt wkF1 wkO1 0)) = true := by kernel_rfl
def wkF3 : List SV := [.unknown, .unknown, .unknown, .unknown, .unknown, .int .i64 0, .string ⟨#[49, 48, 32, 108, 97, 117, 110, 99, 104, 32, 97, 32, 49, 48, 32, 49, 32, 49, 10, 49, 48, 32, 100, 111, 110, 101, 32, 97, 32, 49, 48, 32, 49, 32, 49, 10, 49, 48, 32, 108, 97, 117, 110, 99, 104, 32, 98, 32, 49, 48, 32, 49, 32, 50, 10, 49, 48, 32, 100, 111, 110, 101, 32, 98, 32, 49, 48, 32, 49, 32, 50, 10]⟩, .slice 0 0 3 (.exact 3), .bool false]
def wkO3 : List (Nat × SObj) := [(0, .cells [.int .i64 1, .int .i64 1, .int .i64 0, .int .i64 0, .bool false, .string ⟨#[]⟩, .int .i64 3, .int .i64 0, .int .i64 0, .int .i64 1, .bool true, .string ⟨#[]⟩, .int .i64 3, .int .i64 0, .int .i64 0, .int .i64 2, .bool true, .string ⟨#[]⟩] 81)]
theorem wk_seq2 : isSeq (partB (partB wkBody)) = true := by kernel_rfl
theorem wk_part2 (σ : Sig) : cutOk wkF3 wkO3 575 (partRun (env σ) (wkC σ) Tryz.f5.ntmps wkSl (partA (partB (partB wkBody))) (cutSt wkF2 wkO2 1)) = true := by kernel_rfl
def wkF4 : List SV := [.unknown, .unknown, .unknown, .int .i64 0, .slice 1067 0 3 (.toEnd 1 3), .int .i64 0, .string ⟨#[49, 48, 32, 108, 97, 117, 110, 99, 104, 32, 97, 32, 49, 48, 32, 49, 32, 49, 10, 49, 48, 32, 100, 111, 110, 101, 32, 97, 32, 49, 48, 32, 49, 32, 49, 10, 49, 48, 32, 108, 97, 117, 110, 99, 104, 32, 98, 32, 49, 48, 32, 49, 32, 50, 10, 49, 48, 32, 100, 111, 110, 101, 32, 98, 32, 49, 48, 32, 49, 32, 50, 10]⟩, .unknown, .bool false]
def wkO4 : List (Nat × SObj) := [(1067, .cells [.int .i64 0, .int .i64 1, .int .i64 3] 9)]
theorem wk_seq3 : isSeq (partB (partB (partB wkBody))) = true := by kernel_rfl
theorem wk_part3 (σ : Sig) : cutOk wkF4 wkO4 1068 (partRun (env σ) (wkC σ) Tryz.f5.ntmps wkSl (partA (partB (partB (partB wkBody)))) (cutSt wkF3 wkO3 575)) = true := by kernel_rfl
theorem wk_end (σ : Sig) : endOk (env σ) (wkC σ) Tryz.f5.ntmps wkSl Tryz.f5.results.toList (partB (partB (partB (partB wkBody)))) (cutSt wkF4 wkO4 1068) (.bool true) = true := by kernel_rfl
theorem wk_leads (σ : Sig) (hC : CalleeSound (env σ) (wkC σ)) (hM : CalleeMono (wkC σ)) : Leads (env σ) Tryz.f5.ntmps wkSl wkBody (⟨Sym.frameOf [] wkSl, [], ⟨.nil, 0, 0⟩⟩ : St) (partB (partB (partB (partB wkBody)))) (cutSt wkF4 wkO4 1068) :=
  (((leads_next hC hM wk_seq0 (wk_part0 σ)).trans (leads_next hC hM wk_seq1 (wk_part1 σ))).trans (leads_next hC hM wk_seq2 (wk_part2 σ))).trans (leads_next hC hM wk_seq3 (wk_part3 σ))
end Go.Proofs.YtgjolaclhdpfaaaGreatDoor
