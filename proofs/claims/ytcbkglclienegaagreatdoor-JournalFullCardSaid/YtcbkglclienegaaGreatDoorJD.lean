/- Reading a journal: the pieces, run. -/
import Derived.Test.YtcbkglclienegaaGreatDoorJC
set_option linter.all false
set_option maxRecDepth 100000
namespace Go.Proofs.YtcbkglclienegaaGreatDoor
open Go.RX Go.RX.Sym

section
variable {E : Env} {K : Nat → List SV → SW → Option (SV × SW)}
theorem rangeFH (hn : NumOk E) {n m how : Nat} {sl : List Nat} {x : Operand} {ps : Array Tmp} {assign body : Code} {g : List SV → List SV → SV} (hx : opd ⟨[], sl⟩ x = some ⟨g⟩) {fr fr1 : List SV} {objs objs3 plain kept : List (Nat × SObj)} {n0 N3 next N f : Nat} {fi cap : List SV} {xr : SV} (hg : g [] fr = .func f fi cap)
    (hcall : CallsT E f (fi ++ (.yield (n0 + 1) :: cap)) ((n0 + 1, .loop (loop0 fr n sl ps assign body n0)) :: (n0, .deferred true) :: objs) (n0 + 2) xr ⟨heapOf objs3, N3, 0⟩)
    (hk : keptLt next kept = true) (hN : next ≤ N)
    (h : cutFK how [n0] fr1 plain (kept.map (·.1)) next (endRange fr [n0] (n0 + 1) ⟨heapOf objs3, N3, 0⟩) = (true, kept.map fun p => some p.2))
    {ρ0 : Ren} {S0 : SW} {W0 w : World} {a : Act} (hA : AtF E.sig ρ0 S0 N n sl fr [] objs n0 W0 a w) (hL : Lies E W0) (hAp : ApartF E ρ0 S0) {Q : Exit → Act → World → Prop}
    (hQ : ∀ a' w', AtF E.sig ρ0 S0 N n sl fr1 [n0] (plain ++ kept) next W0 a' w' → Q (howOf how) a' w') : (Code.rangeFunc x ps assign body).wpIn Fence.wide m E.P Q a w := by
  obtain ⟨out, ho, hhow, hdef, hle, hnext, hobjs⟩ := cutF_some h hk
  have hA' := hA
  obtain ⟨-, -, -, -, -, -, hframe, hs, ρ, hσ, hd, hf, hw, hkeep, hown, hfree, ht⟩ := hA'
  have hst := okF hn hL hAp hframe hs hσ hd hf hw hown ht
  have hmk : Sym.mark none (cutStD fr [] objs n0) = some (n0, ⟨heapOf ((n0, .deferred true) :: objs), n0 + 1, 0⟩, [n0]) := by
    unfold Sym.mark
    show (match new (SW.mk (heapOf objs) n0 0) (.deferred true) with | some (d, w) => some (d, w, [d]) | none => none) = _
    rw [new_heap]
  have m4 := (endRange_mono ho).next
  have hQ' : ∀ ρ' a' w', Ext ρ (cutStD fr [] objs n0).w w ρ' out.st.w w' → StOk E n sl none none [] ρ' out.st a' w' → Q out.how a' w' := fun ρ' a' w' hext hst' => by
    rw [hhow]
    exact hQ a' w' (hdef ▸ atF_of hA hσ hkeep hown hfree hext hst' hle hnext hN hobjs)
  have := range_sound1 (m := m) (ps := ps) (assign := assign) (body := body) hx hst hg hmk (new_heap _) hcall.name hcall.call ho hcall.le (hfree.left (Nat.le_trans hnext hN)) m4 hQ'
  exact this
end

noncomputable def rgA : Code → Code | .rangeFunc _ _ a _ => a | c => c
noncomputable def rgB : Code → Code | .rangeFunc _ _ _ b => b | c => c
noncomputable def bd20 : Code := match Tryz.f20.body with | some c => c | none => .skip
theorem bd20_is : Tryz.f20.body = some bd20 := by kernel_rfl
theorem nt20 : Tryz.f20.ntmps = 51 := by kernel_rfl
def sl20 : List Nat := [47, 40, 25, 18, 16, 15, 14, 12, 9, 8, 7, 6, 5, 4, 3, 2, 0]
noncomputable def rg20 : Code := inC [4] bd20
theorem lp20 : (flatC bd20).drop 4 = .block 0 rg20 :: (flatC bd20).drop 5 := by kernel_rfl
theorem rg20_is : rg20 = .rangeFunc (.tmp 14) #[15, 16] (rgA rg20) (rgB rg20) := by kernel_rfl
noncomputable def bd110 : Code := match Tryz.f110.body with | some c => c | none => .skip
theorem bd110_is : Tryz.f110.body = some bd110 := by kernel_rfl
theorem nt110 : Tryz.f110.ntmps = 39 := by kernel_rfl
def sl110 : List Nat := [37, 9, 5, 4, 3, 1, 0]
theorem lp110 : (flatC bd110).drop 1 = .block 0 (.loop (inC [1] bd110)) :: [] := by kernel_rfl
/-- So many records: ten thousand, or one more. -/
def Mof : Bool → Nat | false => 10000 | true => 10001
def rd (m : Bool) (b x at_ ops : Nat) (v1 : Int) : Rd := { M := Mof m, b := b, x := x, at_ := at_, ops := ops, v1 := v1, v3 := total 10000 }
def fr20 : List SV := frN sl20 [(14, .func 110 [] [.ptr 4 0]), (5, .ptr 3 0), (4, .ptr 2 0), (3, .ptr 1 0), (2, .ptr 0 0), (0, .row 0)]
noncomputable def lpR : SLoop := loop0 fr20 51 sl20 #[15, 16] (rgA rg20) (rgB rg20) 5
noncomputable def kR : List (Nat × SObj) := [(6, .loop lpR), (5, .deferred true)]
def pl0 : List (Nat × SObj) := [(4, .cells [.row 0] 84), (3, .cells [.int .i64 0] 48), (2, .cells [.int .i64 0] 8), (1, .cells [.nilslice] 92), (0, .cells [.nilptr] 100)]
/-- The dispatcher. -/
def core : List (Nat × SObj) := [(266, (.cells [(.int .i64 1), (.int .i64 5), (.int .i64 5), (.int .i64 60), (.int .u64 0), (.int .i64 0), (.int .i64 0), (.slice 256 0 2 (.toEnd 30 2)), (.int .i64 9), (.slice 435 0 2 (.toEnd 1 2)), (.slice 318 0 2 (.toEnd 1 2)), (.ptr 268 0), (.ptr 263 0), (.ptr 272 0), (.ptr 388 0), .nilslice, (.int .i64 0), (.int .i64 0), (.map 264), (.map 265), .nilslice] 192)), (256, (.cells [(.string ⟨#[97]⟩), (.int .i64 2), (.int .u64 0), (.int .u64 0), (.int .u64 0), (.int .u64 0), (.int .u64 0), (.int .u64 0), (.bool false), (.bool false), (.int .i64 0), (.int .i64 10), (.int .i64 10), (.int .i64 0), .nilslice, (.int .i64 1), (.int .i64 50), (.int .i64 0), (.int .i64 100), (.int .i64 0), (.int .i64 0), (.int .i64 0), (.int .i64 0), (.int .i64 0), (.int .i64 0), (.int .i64 0), (.int .i64 0), (.int .i64 0), (.int .i64 0), (.int .i64 0), (.string ⟨#[98]⟩), (.int .i64 2), (.int .u64 0), (.int .u64 0), (.int .u64 0), (.int .u64 0), (.int .u64 0), (.int .u64 0), (.bool false), (.bool false), (.int .i64 0), (.int .i64 10), (.int .i64 10), (.int .i64 0), .nilslice, (.int .i64 1), (.int .i64 60), (.int .i64 0), (.int .i64 100), (.int .i64 0), (.int .i64 0), (.int .i64 0), (.int .i64 0), (.int .i64 0), (.int .i64 0), (.int .i64 0), (.int .i64 0), (.int .i64 0), (.int .i64 0), (.int .i64 0)] 149)), (435, (.cells [(.bool false), (.bool false)] 11)), (318, (.cells [(.int .i64 0), (.int .i64 0)] 7)), (268, (.cells [.nilslice, (.map 267), (.int .i64 5), (.int .i64 60), (.int .i64 0)] 320)), (267, (.map [] 0)), (263, (.cells [(.map 262), .nilslice, (.int .i64 0)] 312)), (262, (.map [] 0)), (272, (.cells [(.int .i64 9), (.int .i64 10), (.int .i64 0), (.ptr 270 0), (.map 271), .nilslice, .nilslice, .nilslice, .nilslice, .nilslice, .nilslice, .nilslice, .nilslice, .nilslice, .nilslice, .nilslice, .nilslice, .nilslice, .nilslice, .nilslice, .nilslice, .nilslice, .nilslice, .nilslice, .nilslice, .nilslice, .nilslice, .nilslice, .nilslice, .nilslice, .nilslice, .nilslice, .nilslice, .nilslice, .nilslice, .nilslice, .nilslice, .nilslice, .nilslice, .nilslice, .nilslice, .nilslice, .nilslice, .nilslice, .nilslice, .nilslice, .nilslice, .nilslice, .nilslice, .nilslice, .nilslice, .nilslice, .nilslice, .nilslice, .nilslice, .nilslice, .nilslice, .nilslice, .nilslice, .nilslice, .nilslice, .nilslice, .nilslice, .nilslice, .nilslice, .nilslice, .nilslice, .nilslice, .nilslice, .nilslice, .nilslice, .nilslice, .nilslice, .nilslice, .nilslice, .nilslice, .nilslice, .nilslice, .nilslice, .nilslice, .nilslice, .nilslice, .nilslice, .nilslice, .nilslice, .nilslice, .nilslice, .nilslice, .nilslice, .nilslice, .nilslice, .nilslice, .nilslice, .nilslice, .nilslice, .nilslice, .nilslice, .nilslice, .nilslice, .nilslice, .nilslice, .nilslice, .nilslice, .nilslice, .nilslice, .nilslice, .nilslice, .nilslice, .nilslice, .nilslice, .nilslice, .nilslice, .nilslice, .nilslice, .nilslice, .nilslice, .nilslice, .nilslice, .nilslice, .nilslice, .nilslice, .nilslice, .nilslice, .nilslice, .nilslice, .nilslice, .nilslice, .nilslice, .nilslice, .nilslice, .nilslice, .nilslice, .nilslice, .nilslice, .nilslice, .nilslice, .nilslice, .nilslice, .nilslice, .nilslice, .nilslice, .nilslice, .nilslice, .nilslice, .nilslice, .nilslice, .nilslice, .nilslice, .nilslice, .nilslice, .nilslice, .nilslice, .nilslice, .nilslice, .nilslice, .nilslice, .nilslice, .nilslice, .nilslice, .nilslice, .nilslice, .nilslice, .nilslice, .nilslice, .nilslice, .nilslice, .nilslice, .nilslice, .nilslice, .nilslice, .nilslice, .nilslice, .nilslice, .nilslice, .nilslice, .nilslice, .nilslice, .nilslice, .nilslice, .nilslice, .nilslice, .nilslice, .nilslice, .nilslice, .nilslice, .nilslice, .nilslice, .nilslice, .nilslice, .nilslice, .nilslice, .nilslice, .nilslice, .nilslice, .nilslice, .nilslice, .nilslice, .nilslice, .nilslice, .nilslice, .nilslice, .nilslice, .nilslice, .nilslice, .nilslice, .nilslice, .nilslice, .nilslice, .nilslice, .nilslice, .nilslice, .nilslice, .nilslice, .nilslice, .nilslice, .nilslice, .nilslice, .nilslice, .nilslice, .nilslice, .nilslice, .nilslice, .nilslice, .nilslice, .nilslice, .nilslice, .nilslice, .nilslice, .nilslice, .nilslice, .nilslice, .nilslice, .nilslice, .nilslice, .nilslice, .nilslice, .nilslice, .nilslice, .nilslice, .nilslice, .nilslice, .nilslice, .nilslice, .nilslice, .nilslice, .nilslice, .nilslice, .nilslice, .nilslice, .nilslice, .nilslice, .nilslice, .nilslice, .nilslice, .nilslice, .nilslice, .nilslice, .nilslice, .nilslice, .nilslice, .nilslice, (.int .u64 0), (.int .u64 0), (.int .u64 0), (.int .u64 0), .nilslice] 340)), (270, (.cells [(.bool true), (.slice 269 0 5 (.exact 5)), (.int .i64 (-1)), (.int .i64 0), (.int .i64 0), (.int .i64 0)] 554)), (269, (.cells [(.int .i64 0), (.int .i64 0), (.bool false), (.int .i64 0), (.int .i64 0), (.int .i64 0), (.bool false), (.int .i64 0), (.int .i64 0), (.int .i64 0), (.bool false), (.int .i64 0), (.int .i64 0), (.int .i64 0), (.bool false), (.int .i64 0), (.int .i64 0), (.int .i64 0), (.bool false), (.int .i64 0)] 1037)), (271, (.map [] 0)), (388, (.cells [(.ptr 389 0), (.int .i64 1), (.ptr 414 0), (.slice 410 0 2 (.toEnd 2 2)), (.slice 387 0 2 (.toEnd 1 2)), (.int .i64 9)] 284)), (389, (.cells [(.bool true), (.int .i64 1), (.int .i64 2), (.int .i64 1), (.int .i64 1), (.int .i64 0), (.int .i64 0), (.int .i64 0), (.int .i64 0), (.int .i64 0), (.int .i64 0), (.int .i64 0), (.int .i64 0), (.int .i64 0), (.int .i64 0), (.int .i64 0), (.int .i64 0), (.int .i64 0), (.int .i64 0), (.int .i64 0), (.int .i64 0), (.int .i64 0), (.int .i64 0), (.int .i64 0), (.int .i64 0), (.int .i64 0), (.int .i64 0), (.int .i64 0), (.int .i64 0), (.int .i64 0), (.int .i64 0), (.int .i64 0), (.int .i64 0), (.int .i64 0), (.int .i64 0), (.int .i64 0), (.int .i64 0), (.int .i64 0), (.int .i64 0), (.int .i64 0), (.int .i64 0), (.int .i64 0), (.int .i64 0), (.int .i64 0), (.int .i64 0), (.int .i64 0), (.int .i64 0), (.int .i64 0), (.int .i64 0), (.int .i64 0), (.int .i64 0), (.int .i64 0), (.int .i64 0), (.int .i64 0), (.int .i64 0), (.int .i64 0), (.int .i64 0), (.int .i64 0), (.int .i64 0), (.int .i64 0), (.int .i64 0), (.int .i64 0), (.int .i64 0), (.int .i64 0), (.int .i64 0), (.int .i64 0), (.int .i64 0), (.int .i64 0), (.int .i64 0), (.int .i64 0), (.int .i64 0), (.int .i64 0), (.int .i64 0), (.int .i64 0), (.int .i64 0), (.int .i64 0), (.int .i64 0), (.int .i64 0), (.int .i64 0), (.int .i64 0), (.int .i64 0), (.int .i64 0), (.int .i64 0), (.int .i64 0), (.int .i64 0), (.int .i64 0), (.int .i64 0), (.int .i64 0), (.int .i64 0), (.int .i64 0), (.int .i64 0), (.int .i64 0), (.int .i64 0), (.int .i64 0), (.int .i64 0), (.int .i64 0), (.int .i64 0), (.int .i64 0), (.int .i64 0), (.int .i64 0), (.int .i64 0), (.int .i64 0), (.int .i64 0), (.int .i64 0), (.int .i64 0), (.int .i64 0), (.int .i64 0), (.int .i64 0), (.int .i64 0), (.int .i64 0), (.int .i64 0), (.int .i64 0), (.int .i64 0), (.int .i64 0), (.int .i64 0), (.int .i64 0), (.int .i64 0), (.int .i64 0), (.int .i64 0), (.int .i64 0), (.int .i64 0), (.int .i64 0), (.int .i64 0), (.int .i64 0), (.int .i64 0), (.int .i64 0), (.int .i64 0), (.int .i64 0), (.int .i64 0), (.int .i64 0), (.int .i64 0), (.int .i64 0)] 526)), (414, (.cells [(.bool false), (.int .i64 0), (.int .i64 0), (.int .i64 0), (.int .i64 0), (.bool true)] 536)), (410, (.cells [(.ptr 419 0), (.ptr 399 0), (.ptr 428 0), (.ptr 408 0)] 299)), (419, (.cells [(.bool false), (.int .i64 0), (.int .i64 0), (.int .i64 0), (.int .i64 0), (.bool true)] 536)), (399, (.cells [(.int .i64 0), (.int .i64 0), (.int .i64 0), (.bool false), (.int .i64 0), (.int .i64 0), (.int .i64 0), (.int .i64 0), (.int .i64 0), (.bool true)] 542)), (428, (.cells [(.bool false), (.int .i64 0), (.int .i64 0), (.int .i64 0), (.int .i64 0), (.bool true)] 536)), (408, (.cells [(.int .i64 0), (.int .i64 0), (.int .i64 0), (.bool false), (.int .i64 0), (.int .i64 0), (.int .i64 0), (.int .i64 0), (.int .i64 0), (.bool true)] 542)), (387, (.cells [(.int .i64 1), (.int .i64 1)] 9)), (264, (.map [] 0)), (265, (.map [] 0))]
def plG (n l : SV) (ex : List (Nat × SObj)) : List (Nat × SObj) := [(4, .cells [.row 0] 84), (3, .cells [.int .i64 0] 48), (2, .cells [n] 8), (1, .cells [l] 92), (0, .cells [.ptr 266 0] 100)] ++ (core ++ ex)
def hdR (i : SV) : List SV := frN sl110 [(3, i), (1, .ptr 4 0), (0, .yield 6)]
def iv1 : SV := .sint .i64 (.var 1)
def nx : SV := .sint .i64 at15
def opCs : List SV := [.int .i64 6, .int .i64 0, .int .i64 0, .int .i64 0, .bool false, .string ⟨#[120]⟩]
noncomputable def chk (how : Nat) (fr : List SV) (o : List (Nat × SObj)) (next : Nat) (r : Option Out) : Bool × List (Option SObj) := cutFK how [] fr o (kR.map (·.1)) next r
noncomputable def run110 (g : Nat) (r : Rd) (F : List Fact) (fr : List SV) (o : List (Nat × SObj)) (n0 : Nat) : Option Out := runCode (envB g r F) (knowB g r F) 40 39 sl110 (inC [1] bd110) (cutStD fr [] (o ++ kR) n0)
section
variable (b x at_ ops : Nat) (v1 : Int)
theorem r_a : (m : Bool) → cutFK 0 [] fr20 pl0 [] 5 (runChain (envB 0 (rd m b x at_ ops v1) []) (knowB 0 (rd m b x at_ ops v1) []) 40 51 sl20 ((flatC bd20).take 4) (cutStD (frameOf [.row 0] sl20) [] [] 0)) = (true, [])
  | true => by kernel_rfl
  | false => by kernel_rfl
theorem q_a : (m : Bool) → chk 0 (hdR (.int .i64 0)) pl0 7 (runChain (envB 0 (rd m b x at_ ops v1) []) (knowB 0 (rd m b x at_ ops v1) []) 40 39 sl110 ((flatC bd110).take 1) (cutStD (frameOf [.yield 6, .ptr 4 0] sl110) [] (kR ++ pl0) 7)) = (true, kR.map fun p => some p.2)
  | true => by kernel_rfl
  | false => by kernel_rfl
theorem q_h : (m : Bool) → chk 0 (hdR (.int .i64 86)) (plG (.int .i64 86) .nilslice []) 436 (run110 0 (rd m b x at_ ops v1) [] (hdR (.int .i64 0)) pl0 7) = (true, kR.map fun p => some p.2)
  | true => by kernel_rfl
  | false => by kernel_rfl
def f1 : List Fact := [⟨true, .len 1, .lit 8, false⟩, ⟨true, .bin .sub .i64 (.len 1) (.lit 8), .lit 7, false⟩]
theorem q_1 : (m : Bool) → chk 0 (hdR nx) (plG nx (.slice 452 0 1 (.toEnd 6 1)) [(452, .cells opCs 75)]) 453 (run110 2 (rd m b x at_ ops v1) f1 (hdR iv1) (plG iv1 .nilslice []) 436) = (true, kR.map fun p => some p.2)
  | true => by kernel_rfl
  | false => by kernel_rfl
def own (id : Nat) (cs : List SV) : List (Nat × SObj) := [(id, .own 200 cs)]
def f2 : List Fact := ⟨false, .len 200, .lit 10000, false⟩ :: f1
theorem q_2 : (m : Bool) → chk 0 (hdR nx) (plG nx (.oslice 469 200 1 6) (own 469 opCs)) 470 (run110 2 (rd m b x at_ ops v1) f2 (hdR iv1) (plG iv1 (.oslice 452 200 0 6) (own 452 [])) 453) = (true, kR.map fun p => some p.2)
  | true => by kernel_rfl
  | false => by kernel_rfl
theorem q_x : (m : Bool) → chk 2 (hdR iv1) (plG iv1 (.oslice 452 200 0 6) (own 452 [])) 453 (run110 1 (rd m b x at_ ops v1) [⟨true, .len 1, .lit 8, true⟩] (hdR iv1) (plG iv1 (.oslice 452 200 0 6) (own 452 [])) 453) = (true, kR.map fun p => some p.2)
  | true => by kernel_rfl
  | false => by kernel_rfl
noncomputable def lpY : SLoop := { lpR with state := .done, pending := some (.exit 0) }
noncomputable def kY : List (Nat × SObj) := [(6, .loop lpY), (5, .deferred true)]
def fy : List Fact := ⟨false, .len 200, .lit 10000, true⟩ :: f1
theorem q_y : (m : Bool) → chk 1 (frN sl110 []) (plG iv1 (.oslice 452 200 0 6) (own 452 [])) 468 (run110 2 (rd m b x at_ ops v1) fy (hdR iv1) (plG iv1 (.oslice 452 200 0 6) (own 452 [])) 453) = (true, kY.map fun p => some p.2)
  | true => by kernel_rfl
  | false => by kernel_rfl
/-- What is left. -/
def iv3 : SV := .sint .i64 (.var 3)
def plE : List (Nat × SObj) := plG iv3 (.oslice 452 200 0 6) (own 452 [])
theorem q_lx : (m : Bool) → leftFK (.tuple []) plE (kR.map (·.1)) 600 (envB 0 (rd m b x at_ ops v1) []) sl110 Tryz.f110.results.toList (cutStD (frN sl110 []) [] (plE ++ kR) 468) = (true, kR.map fun p => some p.2)
  | true => by kernel_rfl
  | false => by kernel_rfl
theorem q_ly : (m : Bool) → leftFK (.tuple []) plE (kY.map (·.1)) 600 (envB 0 (rd m b x at_ ops v1) []) sl110 Tryz.f110.results.toList (cutStD (frN sl110 []) [] (plE ++ kY) 468) = (true, kY.map fun p => some p.2)
  | true => by kernel_rfl
  | false => by kernel_rfl
end
/-- Seen again. -/
def s86 : Sa := { rs := [0], θ := [(1, .lit 86)] }
theorem s_h : saFr s86 436 (hdR iv1) (hdR (.int .i64 86)) = true ∧ ∀ l, saObjs s86 436 (plG (.int .i64 86) .nilslice [] ++ [(6, .loop l), (5, .deferred true)]) (plG iv1 .nilslice []) = true := ⟨by kernel_rfl, fun l => by kernel_rfl⟩
def s1 : Sa := { rs := [0], θ := [(1, at15)], κ := [{ to := 200, frm := none, cs := opCs, z := 6 }] }
theorem s_1 : saFr s1 453 (hdR iv1) (hdR nx) = true ∧ ∀ l, saObjs s1 453 (plG nx (.slice 452 0 1 (.toEnd 6 1)) [(452, .cells opCs 75)] ++ [(6, .loop l), (5, .deferred true)]) (plG iv1 (.oslice 452 200 0 6) (own 452 [])) = true := ⟨by kernel_rfl, fun l => by kernel_rfl⟩
def piR : List (Nat × Nat) := [(266, 266), (256, 256), (435, 435), (318, 318), (268, 268), (267, 267), (263, 263), (262, 262), (272, 272), (270, 270), (269, 269), (271, 271), (388, 388), (389, 389), (414, 414), (410, 410), (419, 419), (399, 399), (428, 428), (408, 408), (387, 387), (264, 264), (265, 265), (452, 469)]
theorem s_r : ∀ l, rnAllF 7 600 piR 453 (hdR nx) (hdR nx) (plG nx (.oslice 452 200 1 6) (own 452 opCs)) (plG nx (.oslice 469 200 1 6) (own 469 opCs) ++ [(6, .loop l), (5, .deferred true)]) = true := fun l => by kernel_rfl
def s2 : Sa := { rs := [0], θ := [(1, at15)], κ := [{ to := 200, frm := some 200, cs := opCs, z := 6 }] }
theorem s_2 : saFr s2 453 (hdR iv1) (hdR nx) = true ∧ ∀ l, saObjs s2 453 (plG nx (.oslice 452 200 1 6) (own 452 opCs) ++ [(6, .loop l), (5, .deferred true)]) (plG iv1 (.oslice 452 200 0 6) (own 452 [])) = true := ⟨by kernel_rfl, fun l => by kernel_rfl⟩
def sE : Sa := { rs := [0, 200], θ := [(1, .lit 0), (3, .var 1)] }
theorem s_e : ∀ l, saObjs sE 468 (plG iv1 (.oslice 452 200 0 6) (own 452 []) ++ [(6, .loop l), (5, .deferred true)]) plE = true := fun l => by kernel_rfl
end Go.Proofs.YtcbkglclienegaaGreatDoor
