/- play.Split: its pieces, each run by the evaluator. -/
import Derived.Test.YtofcbcpbglnogaaGreatDoorChk
set_option linter.all false
set_option maxRecDepth 100000
namespace Go.Proofs.YtofcbcpbglnogaaGreatDoor
open Go.RX
open Go.RX.Sym

def frOf : List Nat → List (Nat × SV) → List SV
  | [], _ => []
  | t :: sl, l => fslot t l :: frOf sl l
where fslot (t : Nat) : List (Nat × SV) → SV
  | [] => .unknown
  | p :: l => match Nat.beq p.1 t with | true => p.2 | false => fslot t l
noncomputable def inOf : Code → Code
  | .block _ a => a
  | .loop a => a
  | c => c

def opArgs : SV := .agg [.sint .i64 (.sel 0 (.var 0) 0), .sint .i64 (.sel 0 (.var 0) 1), .sint .i64 (.sel 0 (.var 0) 2), .sint .i64 (.sel 0 (.var 0) 3), .cellv 0 (.var 0) 4, .cellv 0 (.var 0) 5]
/-- Both checks, of the operation at hand, if its kind is a tick's. -/
noncomputable def knowP (tick : Bool) (f : Nat) (args : List SV) (S : SW) : Option (SV × SW) := match tick with
  | false => none
  | true => match svsEq args [opArgs] with
    | false => none
    | true => match Nat.beq f 12 with
      | true => some (.sint .i64 (.fn 0 [.var 0]), S)
      | false => match Nat.beq f 13 with
        | true => some (.sint .i64 (.fn 0 [.var 0]), S)
        | false => none
theorem knowP_some {tick : Bool} {f : Nat} {args : List SV} {S S' : SW} {y : SV} (h : knowP tick f args S = some (y, S')) : tick = true ∧ args = [opArgs] ∧ (f = 12 ∨ f = 13) ∧ y = .sint .i64 (.fn 0 [.var 0]) ∧ S' = S := by
  unfold knowP at h
  split at h
  · cases h
  · split at h
    · cases h
    · rename_i h2
      have h2 := svsEq_sound _ _ h2
      split at h
      · rename_i h3
        simp only [Option.some.injEq, Prod.mk.injEq] at h
        exact ⟨rfl, h2, .inl (Nat.eq_of_beq_eq_true h3), h.1.symm, h.2.symm⟩
      · split at h
        · rename_i h3
          simp only [Option.some.injEq, Prod.mk.injEq] at h
          exact ⟨rfl, h2, .inr (Nat.eq_of_beq_eq_true h3), h.1.symm, h.2.symm⟩
        · cases h

noncomputable def spBody : Code := match Tryz.f5.body with | some c => c | none => .skip
theorem sp_body : Tryz.f5.body = some spBody := by kernel_rfl
theorem sp_n : Tryz.f5.ntmps = 43 := by kernel_rfl
def spSl : List Nat := [35, 34, 33, 32, 24, 14, 13, 12, 11, 10, 7, 6, 4, 3, 2, 0]
noncomputable def spA : Code := partA (rest 3 spBody)
noncomputable def spB : Code := partB (rest 3 spBody)
theorem sp_rest : rest 3 spBody = .seq spA spB := by kernel_rfl
noncomputable def spL : Code := inOf (inOf (rest 1 spA))
theorem sp_blk : rest 1 spA = .block 0 (.loop spL) := by kernel_rfl
noncomputable def spB1 : Code := inOf (partA (rest 2 spL))
noncomputable def spR16 : Code := partB (rest 2 spL)
theorem sp_l : rest 2 spL = .seq (.block 1 spB1) spR16 := by kernel_rfl
noncomputable def spIN : Code := inOf (inOf (rest 5 spB1))
theorem sp_b1 : rest 5 spB1 = .block 2 (.loop spIN) := by kernel_rfl

noncomputable abbrev kn : Nat → List SV → SW → Option (SV × SW) := fun _ _ _ => none
def hd (o : SV) : List (Nat × SV) := [(0, .row 0), (4, o), (11, .row 0), (12, .sint .i64 (.len 0)), (13, .sint .i64 (.var 0))]
def frH (o : SV) : List SV := frOf spSl (hd o)
def oN : SV := .nilslice
def oO : SV := .oslice 0 1 0 6
def objO : List (Nat × SObj) := [(0, .own 1 [])]
def frErr : List SV := frOf spSl [(2, .nilslice), (3, .int .i64 12)]
/-- The operation's own copy. -/
def opcN : List SV := [.sint .i64 (.sel 0 (.var 0) 0), .sint .i64 (.sel 0 (.var 0) 1), .sint .i64 (.sel 0 (.var 0) 2), .sint .i64 (.sel 0 (.var 0) 3), .cellv 0 (.var 0) 4, .cellv 0 (.var 0) 5]
def opcG : List SV := [.sint .i64 (.sel 0 (.var 0) 0), .int .i64 1, .sint .i64 (.sel 0 (.var 0) 2), .sint .i64 (.sel 0 (.var 0) 3), .cellv 0 (.var 0) 4, .cellv 0 (.var 0) 5]
def opcI : List SV := [.sint .i64 (.sel 2 (.lit 0) 0), .sint .i64 (.sel 2 (.lit 0) 1), .sint .i64 (.sel 2 (.lit 0) 2), .sint .i64 (.sel 2 (.lit 0) 3), .cellv 2 (.lit 0) 4, .cellv 2 (.lit 0) 5]
def frP (o : SV) (p : Nat) (t : SV) : List SV := frOf spSl (hd o ++ [(6, .ptr p 0), (33, t), (34, .int .i64 0)])
def frI (o k : SV) : List SV := frOf spSl (hd o ++ [(6, .ptr 1 0), (33, .sint .i64 (.var 2)), (34, k)])
abbrev fLen (y : Bool) : Fact := ⟨true, .lit 10000, .len 0, y⟩
abbrev fIn (y : Bool) : Fact := ⟨true, .var 0, .len 0, y⟩
abbrev fNeg : Fact := ⟨true, .var 0, .lit 0, false⟩
abbrev fKind (y : Bool) : Fact := ⟨false, .sel 0 (.var 0) 0, .lit 1, y⟩
abbrev fOk (y : Bool) : Fact := ⟨false, .fn 0 [.var 0], .lit 0, y⟩
abbrev fBig (y : Bool) : Fact := ⟨true, .lit 10000, .sel 0 (.var 0) 1, y⟩
abbrev fFull (y : Bool) : Fact := ⟨true, .bin .sub .i64 (.lit 10000) (.len 1), .lit 1, y⟩
abbrev fRoom (y : Bool) : Fact := ⟨true, .bin .sub .i64 (.lit 10000) (.len 1), .sel 0 (.var 0) 1, y⟩
abbrev fGo (y : Bool) : Fact := ⟨true, .var 1, .var 2, y⟩

theorem q_begin (σ : Sig) : cutOkH 0 (frOf spSl [(0, .row 0), (4, .nilslice)]) [] 0 (runChain (envP σ [fLen false]) kn 5 43 spSl (heads 3 spBody) (cutSt (frameOf [.row 0] spSl) [] 0)) = true := by kernel_rfl
theorem q_long (σ : Sig) : cutOkH 1 frErr [] 0 (runChain (envP σ [fLen true]) kn 5 43 spSl (heads 2 spBody) (cutSt (frameOf [.row 0] spSl) [] 0)) = true := by kernel_rfl
theorem q_r4 (σ : Sig) : cutOkH 0 (frOf spSl [(0, .row 0), (4, .nilslice), (11, .row 0), (12, .sint .i64 (.len 0)), (13, .int .i64 0)]) [] 0 (runChain (envP σ []) kn 5 43 spSl (heads 1 spA) (cutSt (frOf spSl [(0, .row 0), (4, .nilslice)]) [] 0)) = true := by kernel_rfl
theorem q_hN (σ : Sig) : cutOkH 0 (frH oN) [] 0 (runChain (envP σ [fIn true]) kn 5 43 spSl (heads 2 spL) (cutSt (frH oN) [] 0)) = true := by kernel_rfl
theorem q_hO (σ : Sig) : cutOkH 0 (frH oO) objO 1 (runChain (envP σ [fIn true]) kn 5 43 spSl (heads 2 spL) (cutSt (frH oO) objO 1)) = true := by kernel_rfl
theorem q_eN (σ : Sig) : cutOkH 2 (frH oN) [] 0 (runChain (envP σ [fIn false]) kn 5 43 spSl (heads 2 spL) (cutSt (frH oN) [] 0)) = true := by kernel_rfl
theorem q_eO (σ : Sig) : cutOkH 2 (frH oO) objO 1 (runChain (envP σ [fIn false]) kn 5 43 spSl (heads 2 spL) (cutSt (frH oO) objO 1)) = true := by kernel_rfl
-- the operation: not a tick; a tick that is not allowed; one that is
theorem q_nN (σ : Sig) : cutOkH 0 (frP oN 0 (.int .i64 1)) [(0, .cells opcN 62)] 1 (runChain (envP σ [fIn true, fNeg, fKind false]) kn 5 43 spSl (heads 5 spB1) (cutSt (frH oN) [] 0)) = true := by kernel_rfl
theorem q_nB (σ : Sig) : cutOkH 0 (frP oN 0 (.int .i64 1)) [(0, .cells opcN 62)] 1 (runChain (envP σ [fIn true, fNeg, fKind true, fOk false]) (knowP true) 5 43 spSl (heads 5 spB1) (cutSt (frH oN) [] 0)) = true := by kernel_rfl
theorem q_nG (σ : Sig) : cutOkH 0 (frP oN 0 (.sint .i64 (.sel 0 (.var 0) 1))) [(0, .cells opcG 62)] 1 (runChain (envP σ [fIn true, fNeg, fKind true, fOk true, fBig false]) (knowP true) 5 43 spSl (heads 5 spB1) (cutSt (frH oN) [] 0)) = true := by kernel_rfl
theorem q_nX (σ : Sig) : cutOkH 1 frErr [] 1 (runChain (envP σ [fIn true, fNeg, fKind true, fOk true, fBig true]) (knowP true) 5 43 spSl (heads 5 spB1) (cutSt (frH oN) [] 0)) = true := by kernel_rfl
theorem q_oN (σ : Sig) : cutOkH 0 (frP oO 1 (.int .i64 1)) (objO ++ [(1, .cells opcN 62)]) 2 (runChain (envP σ [fIn true, fNeg, fKind false, fFull false]) kn 5 43 spSl (heads 5 spB1) (cutSt (frH oO) objO 1)) = true := by kernel_rfl
theorem q_oNX (σ : Sig) : cutOkH 1 frErr [] 2 (runChain (envP σ [fIn true, fNeg, fKind false, fFull true]) kn 5 43 spSl (heads 5 spB1) (cutSt (frH oO) objO 1)) = true := by kernel_rfl
theorem q_oB (σ : Sig) : cutOkH 0 (frP oO 1 (.int .i64 1)) (objO ++ [(1, .cells opcN 62)]) 2 (runChain (envP σ [fIn true, fNeg, fKind true, fOk false, fFull false]) (knowP true) 5 43 spSl (heads 5 spB1) (cutSt (frH oO) objO 1)) = true := by kernel_rfl
theorem q_oBX (σ : Sig) : cutOkH 1 frErr [] 2 (runChain (envP σ [fIn true, fNeg, fKind true, fOk false, fFull true]) (knowP true) 5 43 spSl (heads 5 spB1) (cutSt (frH oO) objO 1)) = true := by kernel_rfl
theorem q_oG (σ : Sig) : cutOkH 0 (frP oO 1 (.sint .i64 (.sel 0 (.var 0) 1))) (objO ++ [(1, .cells opcG 62)]) 2 (runChain (envP σ [fIn true, fNeg, fKind true, fOk true, fRoom false]) (knowP true) 5 43 spSl (heads 5 spB1) (cutSt (frH oO) objO 1)) = true := by kernel_rfl
theorem q_oGX (σ : Sig) : cutOkH 1 frErr [] 2 (runChain (envP σ [fIn true, fNeg, fKind true, fOk true, fRoom true]) (knowP true) 5 43 spSl (heads 5 spB1) (cutSt (frH oO) objO 1)) = true := by kernel_rfl
-- the inner loop
def objI : List (Nat × SObj) := objO ++ [(1, .cells opcI 62)]
def kI : SV := .sint .i64 (.var 1)
def kS : SV := .sint .i64 (.bin .add .i64 (.var 1) (.lit 1))
theorem q_iO (σ : Sig) : cutOkH 0 (frI (.oslice 3 1 1 6) kS) [(3, .own 1 opcI), (1, .cells opcI 62)] 4 (runCode (envP σ [fGo true]) kn 5 43 spSl spIN (cutSt (frI oO kI) objI 2)) = true := by kernel_rfl
theorem q_iX (σ : Sig) : cutOkH 4 (frI oO kI) objI 2 (runCode (envP σ [fGo false]) kn 5 43 spSl spIN (cutSt (frI oO kI) objI 2)) = true := by kernel_rfl
theorem q_iN (σ : Sig) : cutOkH 0 (frI (.slice 3 0 1 (.toEnd 6 1)) kS) [(3, .cells opcI 63), (1, .cells opcI 62)] 4 (runCode (envP σ [fGo true]) kn 5 43 spSl spIN (cutSt (frI oN kI) [(1, .cells opcI 62)] 2)) = true := by kernel_rfl
def hdS (o : SV) : List (Nat × SV) := [(0, .row 0), (4, o), (11, .row 0), (12, .sint .i64 (.len 0)), (13, .sint .i64 (.bin .add .i64 (.var 0) (.lit 1)))]
theorem q_16 (σ : Sig) : cutOkH 0 (frOf spSl (hdS oO)) objO 2 (runCode (envP σ []) kn 5 43 spSl spR16 (cutSt (frI oO kI) objI 2)) = true := by kernel_rfl
-- the end
theorem q_zO (σ : Sig) : cutOkH 1 (frOf spSl [(2, .oslice 0 1 0 6), (3, .int .i64 0)]) objO 1 (runCode (envP σ []) kn 5 43 spSl spB (cutSt (frH oO) objO 1)) = true := by kernel_rfl
theorem q_zN (σ : Sig) : cutOkH 1 (frOf spSl [(2, .nilslice), (3, .int .i64 0)]) [] 0 (runCode (envP σ []) kn 5 43 spSl spB (cutSt (frH oN) [] 0)) = true := by kernel_rfl
theorem l_O (σ : Sig) : leftOk (.tuple [.oslice 0 1 0 6, .int .i64 0]) objO 1 (envP σ []) spSl Tryz.f5.results.toList (cutSt (frOf spSl [(2, .oslice 0 1 0 6), (3, .int .i64 0)]) objO 1) = true := by kernel_rfl
theorem l_N (σ : Sig) : leftOk (.tuple [.nilslice, .int .i64 0]) [] 0 (envP σ []) spSl Tryz.f5.results.toList (cutSt (frOf spSl [(2, .nilslice), (3, .int .i64 0)]) [] 0) = true := by kernel_rfl
theorem l_E (σ : Sig) (n : Nat) : leftOk (.tuple [.nilslice, .int .i64 12]) [] n (envP σ []) spSl Tryz.f5.results.toList (cutSt frErr [] n) = true := by kernel_rfl
end Go.Proofs.YtofcbcpbglnogaaGreatDoor
