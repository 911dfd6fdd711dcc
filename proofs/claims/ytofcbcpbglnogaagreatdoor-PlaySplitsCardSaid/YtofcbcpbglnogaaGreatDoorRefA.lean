/- The reference's Split: its pieces, each run by the evaluator. -/
import Derived.Test.YtofcbcpbglnogaaGreatDoorSplB
set_option linter.all false
set_option maxRecDepth 100000
namespace Go.Proofs.YtofcbcpbglnogaaGreatDoor
open Go.RX
open Go.RX.Sym

noncomputable def rfBody : Code := match Tryz.f6.body with | some c => c | none => .skip
theorem rf_body : Tryz.f6.body = some rfBody := by kernel_rfl
theorem rf_n : Tryz.f6.ntmps = 73 := by kernel_rfl
def rfSl : List Nat := [71, 62, 50, 29, 13, 9, 6, 5, 4, 3, 2, 0]
noncomputable def rfA : Code := partA (rest 3 rfBody)
noncomputable def rfB : Code := partB (rest 3 rfBody)
theorem rf_rest : rest 3 rfBody = .seq rfA rfB := by kernel_rfl
noncomputable def rfL : Code := inOf (inOf (rest 1 rfA))
theorem rf_blk : rest 1 rfA = .block 0 (.loop rfL) := by kernel_rfl
noncomputable def rfR : Code := inOf (partA (rest 1 rfL))
noncomputable def rfR6 : Code := partB (rest 1 rfL)
theorem rf_l : rest 1 rfL = .seq (.block 1 rfR) rfR6 := by kernel_rfl
noncomputable def thenOf : Code → Code
  | .cond _ a _ => a
  | c => c
noncomputable def rfT : Code := thenOf (rest 2 rfR)
theorem rf_r : rest 1 (rest 1 rfR) = .cond (.tmp 50) rfT .skip := by kernel_rfl
noncomputable def rfIN : Code := inOf (inOf (rest 1 rfT))
theorem rf_t : rest 1 rfT = .block 2 (.loop rfIN) := by kernel_rfl

def rd (o : SV) : List (Nat × SV) := [(0, .row 0), (4, o), (5, .sint .i64 (.var 0))]
def frR (o : SV) : List SV := frOf rfSl (rd o)
def rdI (o k : SV) : List (Nat × SV) := rd o ++ [(6, k)]
def frRI (o k : SV) : List SV := frOf rfSl (rdI o k)
def tickC : List SV := [.int .i64 1, .int .i64 1, .int .i64 0, .int .i64 0, .bool false, .string ⟨#[]⟩]
def rErr : List SV := frOf rfSl [(2, .nilslice), (3, .int .i64 12)]
abbrev fD (y : Bool) : Fact := ⟨true, .var 1, .sel 0 (.var 0) 1, y⟩
abbrev fMany (y : Bool) : Fact := ⟨true, .lit 10000, .len 1, y⟩

theorem r_begin (σ : Sig) : cutOkH 0 (frOf rfSl [(0, .row 0), (4, .nilslice)]) [] 0 (runChain (envP σ [fLen false]) kn 5 73 rfSl (heads 3 rfBody) (cutSt (frameOf [.row 0] rfSl) [] 0)) = true := by kernel_rfl
theorem r_long (σ : Sig) : cutOkH 1 rErr [] 0 (runChain (envP σ [fLen true]) kn 5 73 rfSl (heads 2 rfBody) (cutSt (frameOf [.row 0] rfSl) [] 0)) = true := by kernel_rfl
theorem r_r4 (σ : Sig) : cutOkH 0 (frOf rfSl [(0, .row 0), (4, .nilslice), (5, .int .i64 0)]) [] 0 (runChain (envP σ []) kn 5 73 rfSl (heads 1 rfA) (cutSt (frOf rfSl [(0, .row 0), (4, .nilslice)]) [] 0)) = true := by kernel_rfl
theorem r_hN (σ : Sig) : cutOkH 0 (frR oN) [] 0 (runChain (envP σ [fIn true]) kn 5 73 rfSl (heads 1 rfL) (cutSt (frR oN) [] 0)) = true := by kernel_rfl
theorem r_hO (σ : Sig) : cutOkH 0 (frR oO) objO 1 (runChain (envP σ [fIn true]) kn 5 73 rfSl (heads 1 rfL) (cutSt (frR oO) objO 1)) = true := by kernel_rfl
theorem r_eN (σ : Sig) : cutOkH 2 (frR oN) [] 0 (runChain (envP σ [fIn false]) kn 5 73 rfSl (heads 1 rfL) (cutSt (frR oN) [] 0)) = true := by kernel_rfl
theorem r_eO (σ : Sig) : cutOkH 2 (frR oO) objO 1 (runChain (envP σ [fIn false]) kn 5 73 rfSl (heads 1 rfL) (cutSt (frR oO) objO 1)) = true := by kernel_rfl
-- not an allowed tick: appended
theorem r_aN (σ : Sig) : cutOkH 0 (frR (.slice 1 0 1 (.toEnd 6 1))) [(1, .cells opcN 63)] 2 (runChain (envP σ [fIn true, fNeg, fKind false]) kn 5 73 rfSl (heads 1 rfR) (cutSt (frR oN) [] 0)) = true := by kernel_rfl
theorem r_bN (σ : Sig) : cutOkH 0 (frR (.slice 1 0 1 (.toEnd 6 1))) [(1, .cells opcN 63)] 2 (runChain (envP σ [fIn true, fNeg, fKind true, fOk false]) (knowP true) 5 73 rfSl (heads 1 rfR) (cutSt (frR oN) [] 0)) = true := by kernel_rfl
theorem r_aO (σ : Sig) : cutOkH 0 (frR (.oslice 2 1 1 6)) [(2, .own 1 opcN)] 3 (runChain (envP σ [fIn true, fNeg, fKind false]) kn 5 73 rfSl (heads 1 rfR) (cutSt (frR oO) objO 1)) = true := by kernel_rfl
theorem r_bO (σ : Sig) : cutOkH 0 (frR (.oslice 2 1 1 6)) [(2, .own 1 opcN)] 3 (runChain (envP σ [fIn true, fNeg, fKind true, fOk false]) (knowP true) 5 73 rfSl (heads 1 rfR) (cutSt (frR oO) objO 1)) = true := by kernel_rfl
theorem r_skipA (σ : Sig) : cutOkH 0 (frR oO) objO 1 (runCode (envP σ [fIn true, fNeg, fKind false]) kn 5 73 rfSl (rest 1 rfR) (cutSt (frR oO) objO 1)) = true := by kernel_rfl
theorem r_skipB (σ : Sig) : cutOkH 0 (frR oO) objO 1 (runCode (envP σ [fIn true, fNeg, fKind true, fOk false]) (knowP true) 5 73 rfSl (rest 1 rfR) (cutSt (frR oO) objO 1)) = true := by kernel_rfl
-- an allowed tick
theorem r_gN (σ : Sig) : cutOkH 0 (frR oN) [] 0 (runChain (envP σ [fIn true, fNeg, fKind true, fOk true]) (knowP true) 5 73 rfSl (heads 1 rfR) (cutSt (frR oN) [] 0)) = true := by kernel_rfl
theorem r_gO (σ : Sig) : cutOkH 0 (frR oO) objO 1 (runChain (envP σ [fIn true, fNeg, fKind true, fOk true]) (knowP true) 5 73 rfSl (heads 1 rfR) (cutSt (frR oO) objO 1)) = true := by kernel_rfl
def rdT (o : SV) : List (Nat × SV) := rd o ++ [(50, .bool true)]
theorem r_tN (σ : Sig) : cutOkH 0 (frOf rfSl (rdT oN)) [] 0 (runChain (envP σ [fIn true, fNeg, fKind true, fOk true]) (knowP true) 5 73 rfSl (heads 1 (rest 1 rfR)) (cutSt (frR oN) [] 0)) = true := by kernel_rfl
theorem r_tO (σ : Sig) : cutOkH 0 (frOf rfSl (rdT oO)) objO 1 (runChain (envP σ [fIn true, fNeg, fKind true, fOk true]) (knowP true) 5 73 rfSl (heads 1 (rest 1 rfR)) (cutSt (frR oO) objO 1)) = true := by kernel_rfl
theorem r_10N (σ : Sig) : cutOkH 0 (frRI oN (.int .i64 0)) [] 0 (runChain (envP σ []) kn 5 73 rfSl (heads 1 rfT) (cutSt (frOf rfSl (rdT oN)) [] 0)) = true := by kernel_rfl
theorem r_10O (σ : Sig) : cutOkH 0 (frRI oO (.int .i64 0)) objO 1 (runChain (envP σ []) kn 5 73 rfSl (heads 1 rfT) (cutSt (frOf rfSl (rdT oO)) objO 1)) = true := by kernel_rfl
-- the inner loop
theorem r_iO (σ : Sig) : cutOkH 0 (frRI (.oslice 2 1 1 6) kS) [(2, .own 1 tickC)] 3 (runCode (envP σ [fIn true, fNeg, fD true, fMany false]) kn 5 73 rfSl rfIN (cutSt (frRI oO kI) objO 1)) = true := by kernel_rfl
theorem r_iN (σ : Sig) : cutOkH 0 (frRI (.slice 1 0 1 (.toEnd 6 1)) kS) [(1, .cells tickC 63)] 2 (runCode (envP σ [fIn true, fNeg, fD true]) kn 5 73 rfSl rfIN (cutSt (frRI oN kI) [] 0)) = true := by kernel_rfl
theorem r_xD (σ : Sig) : cutOkH 4 (frR oO) objO 1 (runCode (envP σ [fIn true, fNeg, fD false]) kn 5 73 rfSl rfIN (cutSt (frRI oO kI) objO 1)) = true := by kernel_rfl
theorem r_xM (σ : Sig) : cutOkH 4 (frR oO) objO 1 (runCode (envP σ [fIn true, fNeg, fD true, fMany true]) kn 5 73 rfSl rfIN (cutSt (frRI oO kI) objO 1)) = true := by kernel_rfl
def rdS (o : SV) : List (Nat × SV) := [(0, .row 0), (4, o), (5, .sint .i64 (.bin .add .i64 (.var 0) (.lit 1)))]
theorem r_6 (σ : Sig) : cutOkH 0 (frOf rfSl (rdS oO)) objO 1 (runCode (envP σ []) kn 5 73 rfSl rfR6 (cutSt (frR oO) objO 1)) = true := by kernel_rfl
-- the end
theorem r_zO (σ : Sig) : cutOkH 1 (frOf rfSl [(2, .oslice 0 1 0 6), (3, .int .i64 0)]) objO 1 (runCode (envP σ [fMany false]) kn 5 73 rfSl rfB (cutSt (frR oO) objO 1)) = true := by kernel_rfl
theorem r_zX (σ : Sig) : cutOkH 1 rErr [] 1 (runCode (envP σ [fMany true]) kn 5 73 rfSl rfB (cutSt (frR oO) objO 1)) = true := by kernel_rfl
theorem r_zN (σ : Sig) : cutOkH 1 (frOf rfSl [(2, .nilslice), (3, .int .i64 0)]) [] 0 (runCode (envP σ []) kn 5 73 rfSl rfB (cutSt (frR oN) [] 0)) = true := by kernel_rfl
theorem k_O (σ : Sig) : leftOk (.tuple [.oslice 0 1 0 6, .int .i64 0]) objO 1 (envP σ []) rfSl Tryz.f6.results.toList (cutSt (frOf rfSl [(2, .oslice 0 1 0 6), (3, .int .i64 0)]) objO 1) = true := by kernel_rfl
theorem k_N (σ : Sig) : leftOk (.tuple [.nilslice, .int .i64 0]) [] 0 (envP σ []) rfSl Tryz.f6.results.toList (cutSt (frOf rfSl [(2, .nilslice), (3, .int .i64 0)]) [] 0) = true := by kernel_rfl
theorem k_E (σ : Sig) (n : Nat) : leftOk (.tuple [.nilslice, .int .i64 12]) [] n (envP σ []) rfSl Tryz.f6.results.toList (cutSt rErr [] n) = true := by kernel_rfl
end Go.Proofs.YtofcbcpbglnogaaGreatDoor
