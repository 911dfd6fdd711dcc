/- The pieces of dues$1, run with load's own objects beside it. -/
import Derived.Test.YtoafolgibimgjaaGreatDoorP1
set_option linter.all false
set_option maxRecDepth 100000
namespace Go.Proofs.YtoafolgibimgjaaGreatDoor
open Go.RX

noncomputable def inOf : Code → Code
  | .block _ a => a
  | .loop a => a
  | c => c
noncomputable def bodyOf : Code → Code
  | .rangeFunc _ _ _ b => b
  | c => c
noncomputable def asgOf : Code → Code
  | .rangeFunc _ _ a _ => a
  | c => c
/-! ### load's code -/
noncomputable def ldBody : Code := match Tryz.f15.body with | some c => c | none => .skip
theorem ld_body : Tryz.f15.body = some ldBody := by kernel_rfl
theorem ld_n : Tryz.f15.ntmps = 55 := by kernel_rfl
def ldSl : List Nat := [47, 38, 25, 24, 23, 22, 21, 20, 16, 15, 14, 13, 12, 11, 10, 9, 8, 5, 4, 3, 2, 1, 0]
noncomputable def ldX : Code := partA (rest 3 ldBody)
noncomputable def ldY : Code := partB (rest 3 ldBody)
theorem ld_rest : rest 3 ldBody = .seq ldX ldY := by kernel_rfl
noncomputable def ldRange : Code := inOf (rest 1 ldX)
theorem ld_blk : rest 1 ldX = .block 0 ldRange := by kernel_rfl
noncomputable def ldAsg : Code := asgOf ldRange
noncomputable def ldRound : Code := bodyOf ldRange
theorem ld_range : ldRange = .rangeFunc (.tmp 20) #[21, 22] ldAsg ldRound := by kernel_rfl
/-! ### dues$1's -/
noncomputable def duBody : Code := match Tryz.f42.body with | some c => c | none => .skip
theorem du_body : Tryz.f42.body = some duBody := by kernel_rfl
theorem du_n : Tryz.f42.ntmps = 71 := by kernel_rfl
def duSl : List Nat := [69, 47, 34, 30, 18, 17, 16, 15, 10, 9, 7, 6, 5, 3, 2, 1, 0]
noncomputable def duB : Code := inOf (inOf (inOf (rest 1 duBody)))
theorem du_blk : rest 1 duBody = .block 0 (.loop (.block 1 duB)) := by kernel_rfl
noncomputable def duJs : Code := partA (rest 1 duB)
noncomputable def duZ : Code := partB (rest 1 duB)
theorem du_b : rest 1 duB = .seq duJs duZ := by kernel_rfl
noncomputable def duJ : Code := inOf (inOf (rest 1 duJs))
theorem du_js : rest 1 duJs = .block 2 (.loop duJ) := by kernel_rfl

/-! ### What lies beside -/
def cfg7 : List SV := [.sint .i64 (.var 20), .sint .i64 (.var 21), .sint .i64 (.var 22), .sint .i64 (.var 23), .sint .u64 (.var 24), .sint .i64 (.var 25), .sint .i64 (.var 26)]
/-- load's own objects while it loops: the window; the times; the best and where; the first; the configuration; the end. -/
def objL (tm b a f : SV) : List (Nat × SObj) := [(1, .cells [.sint .i64 (.var 6)] 6), (2, .cells [tm] 122), (3, .cells [b] 8), (4, .cells [a] 6), (5, .cells [f] 8), (6, .cells (cfg7 ++ [.row 0]) 72), (8, .cells [.sint .i64 (.var 5)] 6)]
def objA : List (Nat × SObj) := objL .nilslice (.int .i64 0) (.int .i64 0) (.int .i64 0)
def objB : List (Nat × SObj) := objL (.oslice 11 1 0 1) (.sint .i64 (.var 7)) (.sint .i64 (.var 8)) (.sint .i64 (.var 9)) ++ [(11, .own 1 [])]
noncomputable def ldLoop : SLoop := loop0 (frN ldSl [(5, .ptr 1 0), (10, .ptr 2 0), (11, .ptr 3 0), (12, .ptr 4 0), (13, .ptr 5 0)]) 55 ldSl #[21, 22] ldAsg ldRound 9
noncomputable def keptL : List (Nat × SObj) := [(9, .deferred true), (10, .loop ldLoop)]
/-- dues$1's frame: where it stands; among the jobs. -/
def hdT (t : SV) : List (Nat × SV) := [(0, .yield 10), (2, .ptr 6 0), (3, .ptr 8 0), (5, t)]
def hdJ (nx mn ix : SV) : List (Nat × SV) := hdT (.sint .i64 (.var 0)) ++ [(6, nx), (7, mn), (15, .row 0), (16, .sint .i64 (.len 0)), (17, ix)]
def n1 : SV := .sint .i64 (.var 1)
def n2 : SV := .sint .i64 (.var 2)
def n3 : SV := .sint .i64 (.var 3)
def n3S : SV := .sint .i64 (.bin .add .i64 (.var 3) (.lit 1))
/-- What plan.List is asked. -/
def planJ : SV := .agg [.sint .i64 (.sel 0 (.var 3) 1), .sint .u64 (.sel 0 (.var 3) 2), .sint .u64 (.sel 0 (.var 3) 3), .sint .u64 (.sel 0 (.var 3) 4), .sint .u64 (.sel 0 (.var 3) 5), .sint .u64 (.sel 0 (.var 3) 6), .sint .u64 (.sel 0 (.var 3) 7), .cellv 0 (.var 3) 8, .cellv 0 (.var 3) 9, .sint .i64 (.sel 0 (.var 3) 10), .sint .i64 (.sel 0 (.var 3) 11), .sint .i64 (.sel 0 (.var 3) 12), .sint .i64 (.sel 0 (.var 3) 13), .cellv 0 (.var 3) 14]
def argJ : List SV := [planJ, .sint .i64 (.bin .add .i64 (.var 0) (.lit 1)), .sint .i64 (.var 5), .int .i64 1]
def resN : SV := .tuple [.nilslice, .int .i64 0]
def resO : SV := .tuple [.slice 0 0 1 (.toEnd 1 1), .int .i64 0]
def objO : List (Nat × SObj) := [(0, .cells [.sint .i64 (.var 10)] 7)]
noncomputable def kN : Nat → List SV → SW → Option (SV × SW) := memoCall 19 argJ [] 0 resN [] 0 noC
noncomputable def kO : Nat → List SV → SW → Option (SV × SW) := memoCall 19 argJ [] 0 resO [(0, some (.cells [.sint .i64 (.var 10)] 7))] 1 noC
abbrev gIn (y : Bool) : Fact := fl (.var 3) (.len 0) y
abbrev gNeg : Fact := fl (.var 3) (.lit 0) false
abbrev gNone (y : Bool) : Fact := fe (.var 2) (.lit 0) y
abbrev gLess (y : Bool) : Fact := fl (.var 10) (.var 1) y
abbrev gSame (y : Bool) : Fact := fe (.var 10) (.var 1) y

/-! ### Among the jobs -/
noncomputable def jobRun (σ : Sig) (F : List Fact) (K : Nat → List SV → SW → Option (SV × SW)) (objs : List (Nat × SObj)) : Option Out := runCode (envJ σ F) K 5 71 duSl duJ (cutStD (frN duSl (hdJ n1 n2 n3)) [] (objs ++ keptL) 12)
noncomputable def jobChk (how : Nat) (nx mn ix : SV) (objs : List (Nat × SObj)) (o : Option Out) : Bool × List (Option SObj) := cutFK how [] (frN duSl (hdJ nx mn ix)) objs (keptL.map (·.1)) 20 o
theorem j_end (σ : Sig) : jobChk 4 n1 n2 n3 objA (jobRun σ [gIn false] noC objA) = (true, keptL.map fun p => some p.2) := by kernel_rfl
theorem j_none (σ : Sig) : jobChk 0 n1 n2 n3S objA (jobRun σ [gIn true, gNeg] kN objA) = (true, keptL.map fun p => some p.2) := by kernel_rfl
theorem j_first (σ : Sig) : jobChk 0 (.sint .i64 (.var 10)) (.int .i64 1) n3S objA (jobRun σ [gIn true, gNeg, gNone true] kO objA) = (true, keptL.map fun p => some p.2) := by kernel_rfl
theorem j_less (σ : Sig) : jobChk 0 (.sint .i64 (.var 10)) (.int .i64 1) n3S objA (jobRun σ [gIn true, gNeg, gNone false, gLess true] kO objA) = (true, keptL.map fun p => some p.2) := by kernel_rfl
theorem j_same (σ : Sig) : jobChk 0 n1 (.sint .i64 (.bin .add .i64 (.var 2) (.lit 1))) n3S objA (jobRun σ [gIn true, gNeg, gNone false, gLess false, gSame true] kO objA) = (true, keptL.map fun p => some p.2) := by kernel_rfl
theorem j_more (σ : Sig) : jobChk 0 n1 n2 n3S objA (jobRun σ [gIn true, gNeg, gNone false, gLess false, gSame false] kO objA) = (true, keptL.map fun p => some p.2) := by kernel_rfl
theorem k_end (σ : Sig) : jobChk 4 n1 n2 n3 objB (jobRun σ [gIn false] noC objB) = (true, keptL.map fun p => some p.2) := by kernel_rfl
theorem k_none (σ : Sig) : jobChk 0 n1 n2 n3S objB (jobRun σ [gIn true, gNeg] kN objB) = (true, keptL.map fun p => some p.2) := by kernel_rfl
theorem k_first (σ : Sig) : jobChk 0 (.sint .i64 (.var 10)) (.int .i64 1) n3S objB (jobRun σ [gIn true, gNeg, gNone true] kO objB) = (true, keptL.map fun p => some p.2) := by kernel_rfl
theorem k_less (σ : Sig) : jobChk 0 (.sint .i64 (.var 10)) (.int .i64 1) n3S objB (jobRun σ [gIn true, gNeg, gNone false, gLess true] kO objB) = (true, keptL.map fun p => some p.2) := by kernel_rfl
theorem k_same (σ : Sig) : jobChk 0 n1 (.sint .i64 (.bin .add .i64 (.var 2) (.lit 1))) n3S objB (jobRun σ [gIn true, gNeg, gNone false, gLess false, gSame true] kO objB) = (true, keptL.map fun p => some p.2) := by kernel_rfl
theorem k_more (σ : Sig) : jobChk 0 n1 n2 n3S objB (jobRun σ [gIn true, gNeg, gNone false, gLess false, gSame false] kO objB) = (true, keptL.map fun p => some p.2) := by kernel_rfl
end Go.Proofs.YtoafolgibimgjaaGreatDoor

/- The round of load's loop, behind the jobs. -/
set_option linter.all false
set_option maxRecDepth 100000
namespace Go.Proofs.YtoafolgibimgjaaGreatDoor
open Go.RX

/-- Due times so far are numbers. -/
def cellsZ (a : Nat) (i : IE) (c : Nat) : Option SV := match a with | 1 => some (.sint .i64 (.sel 1 i c)) | _ => none
noncomputable def envZ (σ : Sig) (F : List Fact) : Env := { P := Tryz.prog, G := fun _ => none, rows := rowsJ, lt := factLt F, eq := factEq F, cells := cellsZ, sig := σ }
/-- The number of the first, after so many steps. -/
def stepE : Nat → IE
  | 0 => .var 9
  | j + 1 => .bin .add .i64 (stepE j) (.lit 1)
def lensE (m : Nat) : IE := .bin .add .i64 (.len 1) (.lit (.ofNat m))
def manyF : Nat → List Fact
  | 0 => []
  | m + 1 => fl (.lit (.ofNat m)) (.var 2) true :: manyF m
def backE : IE := .bin .sub .i64 (.var 1) (.var 6)
/-- Before step j: these are out of the window. -/
def oldF : Nat → List Fact
  | 0 => []
  | j + 1 => fl (stepE j) (.lit 0) false :: fl (stepE j) (.len 1) true :: fl backE (.sel 1 (stepE j) 0) false :: oldF j
structure Cs where
  m : Nat
  j : Nat
  all : Bool
  better : Bool
  last : Bool
def Cs.cntE (c : Cs) : IE := .bin .sub .i64 (lensE c.m) (stepE c.j)
def Cs.facts (c : Cs) : List Fact := fe (.var 2) (.lit 0) false :: fl (.lit (.ofNat c.m)) (.var 2) false :: fl (.var 7) c.cntE c.better :: fe (.var 1) (.var 5) c.last :: manyF c.m ++ oldF c.j ++
  (match c.all with
   | true => [fl (stepE c.j) (.lit 0) false, fl (stepE c.j) (.len 1) false, fe (stepE c.j) (.len 1) true, fl backE (.var 1) true]
   | false => [fl (stepE c.j) (.lit 0) false, fl (stepE c.j) (.len 1) true, fl backE (.sel 1 (stepE c.j) 0) true])
def Cs.atV (c : Cs) : SV := match c.all with | true => n1 | false => .sint .i64 (.sel 1 (stepE c.j) 0)
def copiesOf (x : SV) : Nat → List SV
  | 0 => []
  | m + 1 => x :: copiesOf x m
def Cs.plain (c : Cs) (id : Nat) : List (Nat × SObj) := [(1, .cells [.sint .i64 (.var 6)] 6), (2, .cells [.oslice id 1 c.m 1] 122), (3, .cells [match c.better with | true => .sint .i64 c.cntE | false => .sint .i64 (.var 7)] 8), (4, .cells [match c.better with | true => c.atV | false => .sint .i64 (.var 8)] 6), (5, .cells [.sint .i64 (stepE c.j)] 8), (6, .cells (cfg7 ++ [.row 0]) 72), (8, .cells [.sint .i64 (.var 5)] 6), (id, .own 1 (copiesOf n1 c.m))]
noncomputable def zRun (σ : Sig) (F : List Fact) (objs : List (Nat × SObj)) : Option Out := runCode (envZ σ F) noC 5 71 duSl duZ (cutStD (frN duSl (hdT (.sint .i64 (.var 0)) ++ [(6, n1), (7, n2)])) [] (objs ++ keptL) 12)
noncomputable def Cs.chk (c : Cs) (id : Nat) (o : Option Out) : Bool × List (Option SObj) := match c.last with
  | true => cutFK 1 [] (frN duSl []) (c.plain id) (keptL.map (·.1)) 40 o
  | false => cutFK 0 [] (frN duSl (hdT n1)) (c.plain id) (keptL.map (·.1)) 40 o
def bools : List Bool := [false, true]
def combos (m : Nat) (js : List Nat) : List Cs := js.flatMap fun j => bools.flatMap fun a => bools.flatMap fun b => bools.map fun l => ⟨m, j, a, b, l⟩
noncomputable def zAll (σ : Sig) (l : List Cs) : List (Bool × List (Option SObj)) := l.map fun c => c.chk (11 + 2 * c.m) (zRun σ c.facts objB)
noncomputable def zYes (l : List Cs) : List (Bool × List (Option SObj)) := l.map fun _ => (true, keptL.map fun p => some p.2)
def jsA : List Nat := [0, 1, 2, 3, 4, 5, 6, 7]
def jsB : List Nat := [8, 9, 10, 11, 12, 13]
def jsC : List Nat := [14, 15, 16, 17]
/-- The first due time: nothing lies in the row yet. -/
def firstF (m : Nat) (last : Bool) : List Fact := fe (.var 2) (.lit 0) false :: fl (.lit (.ofNat m)) (.var 2) false :: fl backE (.var 1) true :: fe (.var 1) (.var 5) last :: manyF m
def firstPlain (m id least : Nat) : List (Nat × SObj) := [(1, .cells [.sint .i64 (.var 6)] 6), (2, .cells [.slice id 0 m (.toEnd 1 least)] 122), (3, .cells [.int .i64 (.ofNat m)] 8), (4, .cells [n1] 6), (5, .cells [.int .i64 0] 8), (6, .cells (cfg7 ++ [.row 0]) 72), (8, .cells [.sint .i64 (.var 5)] 6), (id, .cells (copiesOf n1 m) 7)]
noncomputable def firstChk (m : Nat) (last : Bool) (o : Option Out) : Bool × List (Option SObj) := match last with
  | true => cutFK 1 [] (frN duSl []) (firstPlain m (11 + 2 * m) m) (keptL.map (·.1)) 40 o
  | false => cutFK 0 [] (frN duSl (hdT n1)) (firstPlain m (11 + 2 * m) m) (keptL.map (·.1)) 40 o
noncomputable def firstAll (σ : Sig) : List (Bool × List (Option SObj)) := [1, 2, 3, 4, 5, 6].flatMap fun m => bools.map fun l => firstChk m l (zRun σ (firstF m l) objA)
noncomputable def firstYes : List (Bool × List (Option SObj)) := [1, 2, 3, 4, 5, 6].flatMap fun m => bools.map fun l => (true, keptL.map fun p => some p.2)
theorem z_first (σ : Sig) : firstAll σ = firstYes := by kernel_rfl
/-- No due time more. -/
theorem z_noneA (σ : Sig) : cutFK 1 [] (frN duSl []) objA (keptL.map (·.1)) 40 (zRun σ [fe (.var 2) (.lit 0) true] objA) = (true, keptL.map fun p => some p.2) := by kernel_rfl
theorem z_noneB (σ : Sig) : cutFK 1 [] (frN duSl []) objB (keptL.map (·.1)) 40 (zRun σ [fe (.var 2) (.lit 0) true] objB) = (true, keptL.map fun p => some p.2) := by kernel_rfl
/-! ### Where it begins -/
def obj0 : List (Nat × SObj) := [(0, .cells (cfg7 ++ [.row 0]) 72), (1, .cells [.sint .i64 (.var 6)] 6), (2, .cells [.nilslice] 122), (3, .cells [.int .i64 0] 8), (4, .cells [.int .i64 0] 6), (5, .cells [.int .i64 0] 8), (6, .cells (cfg7 ++ [.row 0]) 72), (7, .cells [.sint .i64 (.var 4)] 6), (8, .cells [.sint .i64 (.var 5)] 6)]
def fr15 : List SV := frN ldSl [(20, .func 42 [] [.ptr 7 0, .ptr 6 0, .ptr 8 0]), (13, .ptr 5 0), (12, .ptr 4 0), (11, .ptr 3 0), (10, .ptr 2 0), (9, .int .i64 0), (8, .int .i64 0), (5, .ptr 1 0)]
noncomputable def keptR : List (Nat × SObj) := [(9, .deferred true), (10, .loop (loop0 fr15 55 ldSl #[21, 22] ldAsg ldRound 9))]
def argsLd : List SV := [.agg (cfg7 ++ [.row 0]), .sint .i64 (.var 6), .sint .i64 (.var 4), .sint .i64 (.var 5)]
/-- load, up to its loop. -/
theorem b_load (σ : Sig) : cutFK 0 [] fr15 obj0 [] 9 (runChain (envZ σ []) noC 5 55 ldSl (heads 3 ldBody ++ heads 1 ldX) (cutStD (Sym.frameOf argsLd ldSl) [] [] 0)) = (true, []) := by kernel_rfl
def argsDu : List SV := [.yield 10, .ptr 7 0, .ptr 6 0, .ptr 8 0]
/-- dues$1, up to its loop. -/
theorem b_dues (σ : Sig) : cutFK 0 [] (frN duSl (hdT (.sint .i64 (.bin .sub .i64 (.var 4) (.lit 1))))) objA (keptR.map (·.1)) 11 (runChain (envZ σ []) noC 5 71 duSl (heads 1 duBody) (cutStD (Sym.frameOf argsDu duSl) [] (keptR.reverse ++ obj0) 11)) = (true, keptR.map fun p => some p.2) := by kernel_rfl
/-- Up to the jobs. -/
theorem b_jobsA (σ : Sig) : cutFK 0 [] (frN duSl (hdJ (.int .i64 0) (.int .i64 0) (.int .i64 0))) objA (keptL.map (·.1)) 12 (runChain (envZ σ []) noC 5 71 duSl (heads 1 duB ++ heads 1 duJs) (cutStD (frN duSl (hdT (.sint .i64 (.var 0)))) [] (objA ++ keptL) 12)) = (true, keptL.map fun p => some p.2) := by kernel_rfl
theorem b_jobsB (σ : Sig) : cutFK 0 [] (frN duSl (hdJ (.int .i64 0) (.int .i64 0) (.int .i64 0))) objB (keptL.map (·.1)) 12 (runChain (envZ σ []) noC 5 71 duSl (heads 1 duB ++ heads 1 duJs) (cutStD (frN duSl (hdT (.sint .i64 (.var 0)))) [] (objB ++ keptL) 12)) = (true, keptL.map fun p => some p.2) := by kernel_rfl
end Go.Proofs.YtoafolgibimgjaaGreatDoor

/- Where dues$1 and load end. -/
set_option linter.all false
set_option maxRecDepth 100000
namespace Go.Proofs.YtoafolgibimgjaaGreatDoor
open Go.RX
def objE : List (Nat × SObj) := [(3, .cells [.sint .i64 (.var 7)] 8), (4, .cells [.sint .i64 (.var 8)] 6)]
def keptM : List (Nat × SObj) := [(9, .deferred true)]
theorem e_dues (σ : Sig) : leftFK (.tuple []) objE (keptL.map (·.1)) 40 (envZ σ []) duSl Tryz.f42.results.toList (cutStD (frN duSl []) [] (objE ++ keptL) 12) = (true, keptL.map fun p => some p.2) := by kernel_rfl
theorem e_range : cutFK 0 [9] fr15 objE (keptM.map (·.1)) 40 (Sym.endRange fr15 [9] 10 ⟨heapOf (objE ++ keptL), 40, 0⟩) = (true, keptM.map fun p => some p.2) := by kernel_rfl
def frE : List SV := frN ldSl [(8, .sint .i64 (.var 7)), (9, .sint .i64 (.var 8))]
theorem e_load (σ : Sig) : cutFK 1 [9] frE [] (keptM.map (·.1)) 40 (runCode (envZ σ []) noC 5 55 ldSl ldY (cutStD fr15 [9] (objE ++ keptM) 40)) = (true, keptM.map fun p => some p.2) := by kernel_rfl
theorem l_load (σ : Sig) : leftFK (.tuple [.sint .i64 (.var 7), .sint .i64 (.var 8)]) [] [] 60 (envZ σ []) ldSl Tryz.f15.results.toList (cutStD frE [9] ([] ++ keptM) 40) = (true, []) := by kernel_rfl
end Go.Proofs.YtoafolgibimgjaaGreatDoor

/- plan.List, of the job at hand, as a contract. -/
set_option linter.all false
set_option maxRecDepth 100000
namespace Go.Proofs.YtoafolgibimgjaaGreatDoor
open Go.RX Go.RX.Sym

theorem name_list (vals : Array Value) (w : World) : (callFunc 19 vals).run Tryz.prog w = .ok (.enter 19 vals) w := by kernel_rfl
section
variable {v : Jb} {l L : List Int} {i : Nat} {t b : Int}

theorem numZ {F : List Fact} (hF : ∀ f ∈ F, f.holds (sigJ v l L)) : NumOk (envZ (sigJ v l L) F) where
  lt a b r h := (numJ hF).lt a b r h
  eq a b r h := (numJ hF).eq a b r h
  rows a ks h := (numJ hF).rows a ks h
  pre _ _ _ h := by cases h
  overs _ h := by cases h
  idxs _ h := by cases h
  sames _ h := by cases h
  mkzs _ _ h := by cases h
  cells a i c x h _ _ := by
    have h : cellsZ a i c = some x := h
    unfold cellsZ at h
    split at h
    · simp only [Option.some.injEq] at h
      subst h
      exact VRel.sint (ρ := .nil (sigJ v l L)) .i64 (.sel 1 i c)
    · cases h
  str _ _ _ _ _ _ h := by cases h
  bool _ _ _ _ _ _ h := by cases h
theorem liesZ {W : World} (hv : v.Lies W) (F : List Fact) : RX.Lies (envZ (sigJ v l L) F) W := ⟨fun g cs hg => (by cases hg), fun a ks ha => (liesJ hv l L F).rows a ks ha⟩

theorem sel_val {ρ : Ren} (hσ : ρ.sig = sigJ v l L) (h3 : l.getD 3 0 = (i : Int)) {k : IntKind} {c : Nat} {z : Int} (hz : v.cell i c = .int k z) {u : Value} (hu : VRel ρ (.sint k (.sel 0 (.var 3) c)) u) : u = .int k z := by
  have := hu.sint_inv
  rw [this, hσ]
  have e : IE.val (sigJ v l L) (.sel 0 (.var 3) c) = z := by
    show (match v.cell (l.getD 3 0).toNat c with | .int _ n => n | _ => 0) = z
    rw [h3, Int.toNat_natCast, hz]
  rw [e]
theorem cellv_val {ρ : Ren} (hσ : ρ.sig = sigJ v l L) (h3 : l.getD 3 0 = (i : Int)) {c : Nat} {u : Value} (hu : VRel ρ (.cellv 0 (.var 3) c) u) : u = v.cell i c := by
  cases hu with
  | cellv h _ =>
    rw [hσ] at h
    rw [h]
    show v.cell (l.getD 3 0).toNat c = _
    rw [h3, Int.toNat_natCast]
theorem argJ_val {ρ : Ren} (hσ : ρ.sig = sigJ v l L) (h0 : l.getD 0 0 = t) (h3 : l.getD 3 0 = (i : Int)) (h5 : l.getD 5 0 = b) (hj : v.Job i) (ht : Fits (t + 1)) {vals : List Value} (h : VRels ρ argJ vals) : vals = args1 (v.st i) (v.pe i) (t + 1) b := by
  cases h with
  | cons h hs =>
    cases h with
    | agg h =>
      cases h with
      | cons c1 h => cases h with
        | cons c2 h => cases h with
          | cons c3 h => cases h with
            | cons c4 h => cases h with
              | cons c5 h => cases h with
                | cons c6 h => cases h with
                  | cons c7 h => cases h with
                    | cons c8 h => cases h with
                      | cons c9 h => cases h with
                        | cons c10 h => cases h with
                          | cons c11 h => cases h with
                            | cons c12 h => cases h with
                              | cons c13 h => cases h with
                                | cons c14 h =>
                                  cases h
                                  cases hs with
                                  | cons a1 hs => cases hs with
                                    | cons a2 hs => cases hs with
                                      | cons a3 hs =>
                                        cases hs
                                        have c1 := sel_val hσ h3 hj.kind c1
                                        have c2 := sel_val hσ h3 (hj.expr 2 (by omega) (by omega)) c2
                                        have c3 := sel_val hσ h3 (hj.expr 3 (by omega) (by omega)) c3
                                        have c4 := sel_val hσ h3 (hj.expr 4 (by omega) (by omega)) c4
                                        have c5 := sel_val hσ h3 (hj.expr 5 (by omega) (by omega)) c5
                                        have c6 := sel_val hσ h3 (hj.expr 6 (by omega) (by omega)) c6
                                        have c7 := sel_val hσ h3 (hj.expr 7 (by omega) (by omega)) c7
                                        have c8 := cellv_val hσ h3 c8
                                        have c9 := cellv_val hσ h3 c9
                                        have c10 := sel_val hσ h3 hj.zone c10
                                        have c11 := sel_val hσ h3 hj.start c11
                                        have c12 := sel_val hσ h3 hj.period c12
                                        have c13 := sel_val hσ h3 hj.count c13
                                        have c14 := cellv_val hσ h3 c14
                                        rw [hj.any 8 (by omega) (by omega)] at c8
                                        rw [hj.any 9 (by omega) (by omega)] at c9
                                        rw [hj.skip] at c14
                                        have a1 := a1.sint_inv
                                        have a2 := a2.sint_inv
                                        have a3 := a3.int_inv
                                        rw [hσ] at a1 a2
                                        have e1 : IE.val (sigJ v l L) (.bin .add .i64 (.var 0) (.lit 1)) = t + 1 := by
                                          show opVal .add .i64 (l.getD 0 0) 1 = _
                                          rw [h0, add_op ht]
                                        have e2 : IE.val (sigJ v l L) (.var 5) = b := h5
                                        rw [e1] at a1
                                        rw [e2] at a2
                                        subst c1 c2 c3 c4 c5 c6 c7 c8 c9 c10 c11 c12 c13 c14 a1 a2 a3
                                        rfl

/-- What plan.List is asked, of this job. -/
structure Ask (v : Jb) (l : List Int) (i : Nat) (t b d : Int) : Prop where
  h0 : l.getD 0 0 = t
  h3 : l.getD 3 0 = (i : Int)
  h5 : l.getD 5 0 = b
  h10 : l.getD 10 0 = d
  job : v.Job i
  ev : Ev (v.st i) (v.pe i) (t + 1) b
  due : due (v.st i) (v.pe i) (t + 1) = d
theorem Ask.fits {d : Int} (h : Ask v l i t b d) : Fits (t + 1) := by
  have h1 := h.ev.a0
  have h2 := h.ev.ab
  have h3 := h.ev.bm
  exact ⟨by omega, by omega⟩

theorem callsT_one {F : List Fact} {d : Int} (h : Ask v l i t b d) (hd : d ≤ b) : CallsT (envJ (sigJ v l L) F) 19 argJ [] 0 resO ⟨heapOf objO, 1, 0⟩ :=
  callsT_of_left (E := envJ (sigJ v l L) F) name_list fun ρ vals w hok hv => by
    have e := argJ_val hok.num.sig h.h0 h.h3 h.h5 h.job h.fits hv
    rw [e]
    refine (list_one h.ev w).mono fun ed w' ⟨u, hu, hh⟩ => ⟨u, hu, ?_⟩
    rw [h.due] at hh
    rcases hh with ⟨-, hh⟩ | ⟨hh, -⟩
    · exact hh (sigJ v l L) (.var 10) h.h10
    · omega
theorem callsT_none {F : List Fact} {d : Int} (h : Ask v l i t b d) (hd : b < d) : CallsT (envJ (sigJ v l L) F) 19 argJ [] 0 resN ⟨heapOf [], 0, 0⟩ :=
  callsT_of_left (E := envJ (sigJ v l L) F) name_list fun ρ vals w hok hv => by
    have e := argJ_val hok.num.sig h.h0 h.h3 h.h5 h.job h.fits hv
    rw [e]
    refine (list_one h.ev w).mono fun ed w' ⟨u, hu, hh⟩ => ⟨u, hu, ?_⟩
    rw [h.due] at hh
    rcases hh with ⟨hh, -⟩ | ⟨-, on, rfl⟩
    · omega
    · refine ⟨on, .nil _, rfl, .tuple (.cons .nilslice (.cons (.int _ _) .nil)), ⟨fun i x p _ hp => (by cases hp), fun i j p q _ _ hp => (by cases hp)⟩, fun i p _ hp => (by cases hp), fun i _ => rfl, fun i _ => by simp [SW.at, Sym.hget, heapOf, Tr.get_nil]⟩
theorem upd1_ok : updOk ⟨heapOf objO, 1, 0⟩ [(0, some (.cells [.sint .i64 (.var 10)] 7))] = true := by kernel_rfl
theorem kept1_ok : keptOk ⟨heapOf objO, 1, 0⟩ [(0, some (.cells [.sint .i64 (.var 10)] 7))] [] = true := by kernel_rfl
theorem known_one {F : List Fact} {d : Int} (h : Ask v l i t b d) (hd : d ≤ b) : Known (envJ (sigJ v l L) F) kO := known_memo (T' := ⟨heapOf objO, 1, 0⟩) (callsT_one h hd) upd1_ok kept1_ok (known_nothing _)
theorem known_no {F : List Fact} {d : Int} (h : Ask v l i t b d) (hd : b < d) : Known (envJ (sigJ v l L) F) kN := known_memo (T' := ⟨heapOf [], 0, 0⟩) (callsT_none h hd) rfl rfl (known_nothing _)
end
end Go.Proofs.YtoafolgibimgjaaGreatDoor

/- Among the jobs: the first due time behind t, and how many jobs have it. In plain numbers. -/
set_option linter.all false
namespace Go.Proofs.YtoafolgibimgjaaGreatDoor

/-- The first due time of job i behind t. -/
def Jb.nx (v : Jb) (t : Int) (i : Nat) : Int := due (v.st i) (v.pe i) (t + 1)
/-- What dues$1 has found after so many jobs: the first time, and how many have it. -/
def scan (v : Jb) (t b : Int) : Nat → Int × Int
  | 0 => (0, 0)
  | i + 1 => if b < v.nx t i then scan v t b i else if (scan v t b i).2 = 0 then (v.nx t i, 1) else if v.nx t i < (scan v t b i).1 then (v.nx t i, 1) else if v.nx t i = (scan v t b i).1 then ((scan v t b i).1, (scan v t b i).2 + 1) else scan v t b i
/-- How many of the first jobs have this time next. -/
def Jb.have (v : Jb) (t x : Int) : Nat → Int
  | 0 => 0
  | i + 1 => v.have t x i + if v.nx t i = x then 1 else 0
theorem Jb.have_range (v : Jb) (t x : Int) : ∀ k, 0 ≤ v.have t x k ∧ v.have t x k ≤ k
  | 0 => ⟨Int.le_refl _, Int.le_refl _⟩
  | k + 1 => by
    have := v.have_range t x k
    simp only [Jb.have]
    split <;> omega
theorem Jb.have_none (v : Jb) (t x : Int) : ∀ k, (∀ i, i < k → v.nx t i ≠ x) → v.have t x k = 0
  | 0, _ => rfl
  | k + 1, h => by
    simp only [Jb.have]
    rw [v.have_none t x k fun i hi => h i (by omega), if_neg (h k (by omega))]
    rfl

structure Scanned (v : Jb) (t b : Int) (k : Nat) (p : Int × Int) : Prop where
  pos : 0 ≤ p.2
  le : p.2 ≤ k
  none : p.2 = 0 → ∀ i, i < k → b < v.nx t i
  many : p.2 ≠ 0 → p.2 = v.have t p.1 k ∧ p.1 ≤ b ∧ (∃ i, i < k ∧ v.nx t i = p.1) ∧ ∀ i, i < k → p.1 ≤ v.nx t i
theorem scan_is (v : Jb) (t b : Int) : ∀ k, Scanned v t b k (scan v t b k)
  | 0 => ⟨Int.le_refl _, Int.le_refl _, fun _ i hi => by omega, fun h => absurd rfl h⟩
  | k + 1 => by
    obtain ⟨h1, h2, h3, h4⟩ := scan_is v t b k
    have hk := v.have_range t (v.nx t k) k
    simp only [scan]
    split
    · rename_i hb
      refine ⟨h1, by omega, fun h i hi => ?_, fun h => ?_⟩
      · by_cases e : i = k
        · subst e; exact hb
        · exact h3 h i (by omega)
      · obtain ⟨g1, g2, ⟨i, g3, g4⟩, g5⟩ := h4 h
        refine ⟨?_, g2, ⟨i, by omega, g4⟩, fun i hi => ?_⟩
        · simp only [Jb.have]
          rw [if_neg (by omega)]
          omega
        · by_cases e : i = k
          · subst e; omega
          · exact g5 i (by omega)
    · rename_i hb
      split
      · rename_i h0
        refine ⟨by simp, by simp; omega, fun h => by simp at h, fun _ => ⟨?_, by simp; omega, ⟨k, by omega, rfl⟩, fun i hi => ?_⟩⟩
        · simp only [Jb.have]
          rw [v.have_none t _ k fun i hi e => by have := h3 h0 i hi; omega]
          simp
        · by_cases e : i = k
          · subst e; exact Int.le_refl _
          · have := h3 h0 i (by omega)
            show v.nx t k ≤ _
            omega
      · rename_i h0
        obtain ⟨g1, g2, ⟨i0, g3, g4⟩, g5⟩ := h4 h0
        split
        · rename_i hl
          refine ⟨by simp, by simp; omega, fun h => by simp at h, fun _ => ⟨?_, by simp; omega, ⟨k, by omega, rfl⟩, fun i hi => ?_⟩⟩
          · simp only [Jb.have]
            rw [v.have_none t _ k fun i hi e => by have := g5 i hi; omega]
            simp
          · by_cases e : i = k
            · subst e; exact Int.le_refl _
            · have := g5 i (by omega)
              show v.nx t k ≤ _
              omega
        · rename_i hl
          split
          · rename_i he
            refine ⟨by show 0 ≤ _ + 1; omega, by show _ + 1 ≤ _; omega, fun h => by have : (scan v t b k).2 + 1 = 0 := h; omega, fun _ => ⟨?_, g2, ⟨i0, by omega, g4⟩, fun i hi => ?_⟩⟩
            · show (scan v t b k).2 + 1 = v.have t (scan v t b k).1 k + if v.nx t k = (scan v t b k).1 then 1 else 0
              rw [if_pos he]
              omega
            · by_cases e : i = k
              · subst e; show (scan v t b i).1 ≤ _; omega
              · exact g5 i (by omega)
          · rename_i he
            refine ⟨h1, by omega, fun h => absurd h h0, fun _ => ⟨?_, g2, ⟨i0, by omega, g4⟩, fun i hi => ?_⟩⟩
            · simp only [Jb.have]
              rw [if_neg he]
              omega
            · by_cases e : i = k
              · subst e; omega
              · exact g5 i (by omega)
end Go.Proofs.YtoafolgibimgjaaGreatDoor

/- The loop over the jobs, in dues$1. -/
set_option linter.all false
set_option maxRecDepth 100000
namespace Go.Proofs.YtoafolgibimgjaaGreatDoor
open Go.RX Go.RX.Sym

structure Pieces (objs : List (Nat × SObj)) : Prop where
  fin : ∀ σ, jobChk 4 n1 n2 n3 objs (jobRun σ [gIn false] noC objs) = (true, keptL.map fun p => some p.2)
  none : ∀ σ, jobChk 0 n1 n2 n3S objs (jobRun σ [gIn true, gNeg] kN objs) = (true, keptL.map fun p => some p.2)
  first : ∀ σ, jobChk 0 (.sint .i64 (.var 10)) (.int .i64 1) n3S objs (jobRun σ [gIn true, gNeg, gNone true] kO objs) = (true, keptL.map fun p => some p.2)
  less : ∀ σ, jobChk 0 (.sint .i64 (.var 10)) (.int .i64 1) n3S objs (jobRun σ [gIn true, gNeg, gNone false, gLess true] kO objs) = (true, keptL.map fun p => some p.2)
  same : ∀ σ, jobChk 0 n1 (.sint .i64 (.bin .add .i64 (.var 2) (.lit 1))) n3S objs (jobRun σ [gIn true, gNeg, gNone false, gLess false, gSame true] kO objs) = (true, keptL.map fun p => some p.2)
  more : ∀ σ, jobChk 0 n1 n2 n3S objs (jobRun σ [gIn true, gNeg, gNone false, gLess false, gSame false] kO objs) = (true, keptL.map fun p => some p.2)
theorem piecesA : Pieces objA := ⟨j_end, j_none, j_first, j_less, j_same, j_more⟩
theorem piecesB : Pieces objB := ⟨k_end, k_none, k_first, k_less, k_same, k_more⟩
theorem kept20 : keptLt 20 keptL = true := by kernel_rfl

theorem num_low {S0 : SW} {N : Nat} {π : List (Nat × Nat)} (h : S0.next = 11) {i : Nat} (hi : i < 11) : RX.numF S0 N π i = some i := by
  unfold RX.numF
  rw [if_pos (.inl (by omega))]
theorem num_11 {S0 : SW} {N : Nat} (h : S0.next = 11) (hN : 12 ≤ N) : RX.numF S0 N [(11, 11)] 11 = some 11 := by
  unfold RX.numF
  rw [if_neg (by omega)]
  rfl

/-- Objects that stay as they are when the numbers of the jobs' loop change. -/
def Stays (objs : List (Nat × SObj)) : Prop := ∀ (v : Jb) (l l' L : List Int) (S0 : SW) (N : Nat), S0.next = 11 → 12 ≤ N → L.length ≤ 100000 → (∀ i, 4 ≤ i → i ≠ 10 → l'.getD i 0 = l.getD i 0) →
  ∀ p ∈ objs ++ keptL, p.1 < 12 ∧ ∃ j y, RX.numF S0 N [(11, 11)] p.1 = some j ∧ (SW.mk (heapOf (objs ++ keptL)) 20 0).at j = some y ∧ OVT (sigJ v l L) (sigJ v l' L) (fun i j => RX.numF S0 N [(11, 11)] i = some j) p.2 y
theorem at_of {objs : List (Nat × SObj)} {i : Nat} {y : SObj} (h : hget ⟨heapOf (objs ++ keptL), 20, 0⟩ i = some y) : (SW.mk (heapOf (objs ++ keptL)) 20 0).at i = some y := h
theorem staysA : Stays objA := fun v l l' L S0 N h0 hN hL hl => by
  have num : ∀ i, 4 ≤ i → i ≠ 10 → IE.val (sigJ v l' L) (.var i) = IE.val (sigJ v l L) (.var i) := hl
  have R : ∀ i, i < 11 → RX.numF S0 N [(11, 11)] i = some i := fun i hi => num_low h0 hi
  refine acons ⟨by decide, 1, _, R 1 (by decide), at_of (by kernel_rfl), .cells (.cons (.num (num 6 (by decide) (by decide))) .nil)⟩ ?_
  refine acons ⟨by decide, 2, _, R 2 (by decide), at_of (by kernel_rfl), .cells (.cons (.lit rfl) .nil)⟩ ?_
  refine acons ⟨by decide, 3, _, R 3 (by decide), at_of (by kernel_rfl), .cells (.cons (.lit rfl) .nil)⟩ ?_
  refine acons ⟨by decide, 4, _, R 4 (by decide), at_of (by kernel_rfl), .cells (.cons (.lit rfl) .nil)⟩ ?_
  refine acons ⟨by decide, 5, _, R 5 (by decide), at_of (by kernel_rfl), .cells (.cons (.lit rfl) .nil)⟩ ?_
  refine acons ⟨by decide, 6, _, R 6 (by decide), at_of (by kernel_rfl), .cells (.cons (.num (num 20 (by decide) (by decide))) (.cons (.num (num 21 (by decide) (by decide))) (.cons (.num (num 22 (by decide) (by decide))) (.cons (.num (num 23 (by decide) (by decide))) (.cons (.num (num 24 (by decide) (by decide))) (.cons (.num (num 25 (by decide) (by decide))) (.cons (.num (num 26 (by decide) (by decide))) (.cons (.row rfl) .nil))))))))⟩ ?_
  refine acons ⟨by decide, 8, _, R 8 (by decide), at_of (by kernel_rfl), .cells (.cons (.num (num 5 (by decide) (by decide))) .nil)⟩ ?_
  refine acons ⟨by decide, 9, _, R 9 (by decide), at_of (by kernel_rfl), .mark⟩ ?_
  refine acons ⟨by decide, 10, .loop ldLoop, R 10 (by decide), at_of (by kernel_rfl), .loop rfl rfl rfl rfl rfl rfl rfl (R 9 (by decide)) (frN_of ?_ ldSl)⟩ anil
  exact acons (.ptr (R 1 (by decide))) (acons (.ptr (R 2 (by decide))) (acons (.ptr (R 3 (by decide))) (acons (.ptr (R 4 (by decide))) (acons (.ptr (R 5 (by decide))) anil))))
theorem staysB : Stays objB := fun v l l' L S0 N h0 hN hL hl => by
  have num : ∀ i, 4 ≤ i → i ≠ 10 → IE.val (sigJ v l' L) (.var i) = IE.val (sigJ v l L) (.var i) := hl
  have R : ∀ i, i < 11 → RX.numF S0 N [(11, 11)] i = some i := fun i hi => num_low h0 hi
  refine acons ⟨by decide, 1, _, R 1 (by decide), at_of (by kernel_rfl), .cells (.cons (.num (num 6 (by decide) (by decide))) .nil)⟩ ?_
  refine acons ⟨by decide, 2, _, R 2 (by decide), at_of (by kernel_rfl), .cells (.cons (.own (a := 1) (a' := 1) (z := 1) (num_11 h0 hN) (b := 0) (x := 0) (n := L.length) (k := 0) (b' := 0) (x' := 0) rfl rfl (by omega)) .nil)⟩ ?_
  refine acons ⟨by decide, 3, _, R 3 (by decide), at_of (by kernel_rfl), .cells (.cons (.num (num 7 (by decide) (by decide))) .nil)⟩ ?_
  refine acons ⟨by decide, 4, _, R 4 (by decide), at_of (by kernel_rfl), .cells (.cons (.num (num 8 (by decide) (by decide))) .nil)⟩ ?_
  refine acons ⟨by decide, 5, _, R 5 (by decide), at_of (by kernel_rfl), .cells (.cons (.num (num 9 (by decide) (by decide))) .nil)⟩ ?_
  refine acons ⟨by decide, 6, _, R 6 (by decide), at_of (by kernel_rfl), .cells (.cons (.num (num 20 (by decide) (by decide))) (.cons (.num (num 21 (by decide) (by decide))) (.cons (.num (num 22 (by decide) (by decide))) (.cons (.num (num 23 (by decide) (by decide))) (.cons (.num (num 24 (by decide) (by decide))) (.cons (.num (num 25 (by decide) (by decide))) (.cons (.num (num 26 (by decide) (by decide))) (.cons (.row rfl) .nil))))))))⟩ ?_
  refine acons ⟨by decide, 8, _, R 8 (by decide), at_of (by kernel_rfl), .cells (.cons (.num (num 5 (by decide) (by decide))) .nil)⟩ ?_
  refine acons ⟨by decide, 11, _, num_11 h0 hN, at_of (by kernel_rfl), .own (cs := []) (a := 1) (a' := 1) (b := 0) (x := 0) (z := 1) (n := L.length) (k := 0) (b' := 0) (x' := 0) rfl rfl rfl (fun _ _ _ _ => rfl) (fun i c hi => by omega)⟩ ?_
  refine acons ⟨by decide, 9, _, R 9 (by decide), at_of (by kernel_rfl), .mark⟩ ?_
  refine acons ⟨by decide, 10, .loop ldLoop, R 10 (by decide), at_of (by kernel_rfl), .loop rfl rfl rfl rfl rfl rfl rfl (R 9 (by decide)) (frN_of ?_ ldSl)⟩ anil
  exact acons (.ptr (R 1 (by decide))) (acons (.ptr (R 2 (by decide))) (acons (.ptr (R 3 (by decide))) (acons (.ptr (R 4 (by decide))) (acons (.ptr (R 5 (by decide))) anil))))
/-- The jobs' loop, seen with other numbers. -/
theorem see_jobs {objs : List (Nat × SObj)} (hS : Stays objs) {n0 : Nat} {v : Jb} {l l' L : List Int} {ρ0 : Ren} {S0 : SW} {N : Nat} {W0 w : World} {a : Act} {nx mn ix : SV} (h : AtF (sigJ v l L) ρ0 S0 N 71 duSl (frN duSl (hdJ nx mn ix)) [] (objs ++ keptL) n0 W0 a w) (h0 : S0.next = 11) (hN : 12 ≤ N) (hL : L.length ≤ 100000)
    (hl : ∀ i, 4 ≤ i → i ≠ 10 → l'.getD i 0 = l.getD i 0) (e0 : l'.getD 0 0 = l.getD 0 0) (h1 : ∀ R, SVT (sigJ v l L) (sigJ v l' L) R n1 nx) (h2 : ∀ R, SVT (sigJ v l L) (sigJ v l' L) R n2 mn) (h3 : ∀ R, SVT (sigJ v l L) (sigJ v l' L) R n3 ix) :
    AtF (sigJ v l' L) ρ0 S0 N 71 duSl (frN duSl (hdJ n1 n2 n3)) [] (objs ++ keptL) 12 W0 a w := by
  refine seeF h [(11, 11)] (by simp) (fun p hp => ?_) (by omega) hN (fun d hd => by cases hd) ?_ (hS v l l' L S0 N h0 hN hL hl)
  · simp only [List.mem_cons, List.mem_nil_iff, or_false] at hp
    subst hp
    exact ⟨by show 11 < 12; omega, by show S0.next ≤ 11; omega, by show 11 < N; omega⟩
  · exact acons (.yield (num_low h0 (by decide))) (acons (.ptr (num_low h0 (by decide))) (acons (.ptr (num_low h0 (by decide))) (acons (.num e0) (acons (h1 _) (acons (h2 _) (acons (.row rfl) (acons (.num rfl) (acons (h3 _) anil))))))))
/-- The named numbers. -/
def lvF (t nx mn i d : Int) (c : Nat → Int) (k : Nat) : Int := match k with | 0 => t | 1 => nx | 2 => mn | 3 => i | 10 => d | k => c k
def lv (t nx mn i d : Int) (c : Nat → Int) : List Int := (List.range 27).map (lvF t nx mn i d c)
theorem lv_get {t nx mn i d : Int} {c : Nat → Int} {k : Nat} : (lv t nx mn i d c).getD k 0 = if k < 27 then lvF t nx mn i d c k else 0 := by
  unfold lv
  by_cases h : k < 27
  · rw [if_pos h]
    simp [List.getD, h]
  · rw [if_neg h]
    simp [List.getD, h]
theorem lv_same {t nx mn i d nx' mn' i' d' : Int} {c : Nat → Int} {k : Nat} (h4 : 4 ≤ k) (h10 : k ≠ 10) : (lv t nx' mn' i' d' c).getD k 0 = (lv t nx mn i d c).getD k 0 := by
  rw [lv_get, lv_get]
  split
  · unfold lvF
    split <;> first | omega | rfl
  · rfl
end Go.Proofs.YtoafolgibimgjaaGreatDoor

/- The loop over the jobs, whole: the first due time behind t, and how many jobs have it. -/
set_option linter.all false
set_option maxRecDepth 100000
namespace Go.Proofs.YtoafolgibimgjaaGreatDoor
open Go.RX Go.RX.Sym

section
variable {v : Jb} {t b : Int} {c : Nat → Int} {L : List Int} {ρ0 : Ren} {S0 : SW} {N : Nat} {W0 : World} {objs : List (Nat × SObj)}

theorem vj {v : Jb} {l L : List Int} {k : Nat} : IE.val (sigJ v l L) (.var k) = l.getD k 0 := rfl
theorem g0 {nx mn i d : Int} : (lv t nx mn i d c).getD 0 0 = t := by rw [lv_get]; rfl
theorem g1 {nx mn i d : Int} : (lv t nx mn i d c).getD 1 0 = nx := by rw [lv_get]; rfl
theorem g2 {nx mn i d : Int} : (lv t nx mn i d c).getD 2 0 = mn := by rw [lv_get]; rfl
theorem g3 {nx mn i d : Int} : (lv t nx mn i d c).getD 3 0 = i := by rw [lv_get]; rfl
theorem g5 {nx mn i d : Int} : (lv t nx mn i d c).getD 5 0 = c 5 := by rw [lv_get]; rfl
theorem g10 {nx mn i d : Int} : (lv t nx mn i d c).getD 10 0 = d := by rw [lv_get]; rfl

/-- Where the loop stands. -/
abbrev JAt (v : Jb) (t : Int) (c : Nat → Int) (L : List Int) (objs : List (Nat × SObj)) (ρ0 : Ren) (S0 : SW) (N : Nat) (W0 : World) (nx mn i d : Int) (n0 : Nat) (a : Act) (w : World) : Prop :=
  AtF (sigJ v (lv t nx mn i d c) L) ρ0 S0 N 71 duSl (frN duSl (hdJ n1 n2 n3)) [] (objs ++ keptL) n0 W0 a w

theorem jobs_loop (hp : Pieces objs) (hS : Stays objs) (h0 : S0.next = 11) (hN : 20 ≤ N) (hL : L.length ≤ 100000) (hv : v.Lies W0) (hAp : ∀ l F, ApartF (envJ (sigJ v l L) F) ρ0 S0) (hb : c 5 = b) (hev : ∀ i, i < v.n → Ev (v.st i) (v.pe i) (t + 1) b)
    {m : Nat} {Q : Exit → Act → World → Prop} {a : Act} {w : World} {d0 : Int} (hA : JAt v t c L objs ρ0 S0 N W0 0 0 0 d0 12 a w)
    (hQ : ∀ a w d, JAt v t c L objs ρ0 S0 N W0 (scan v t b v.n).1 (scan v t b v.n).2 v.n d 20 a w → Q .normal a w) : (Code.block 2 (.loop duJ)).wpIn Fence.wide m Tryz.prog Q a w := by
  refine wpIn_block (wpIn_loop_n (J := fun m a w => ∃ (i : Nat) (d : Int), i + m = v.n ∧ JAt v t c L objs ρ0 S0 N W0 (scan v t b i).1 (scan v t b i).2 i d 12 a w) (N := v.n) ⟨0, d0, by omega, hA⟩ ?_)
  rintro k a1 w1 ⟨i, d, hi, h1⟩
  have hin : ∀ {y : Bool} {d : Int}, (i < v.n ↔ y = true) → (gIn y).holds (sigJ v (lv t (scan v t b i).1 (scan v t b i).2 i d c) L) := fun {y d} h => holds_lt (by
    show (lv t (scan v t b i).1 (scan v t b i).2 i d c).getD 3 0 < ((v.n : Nat) : Int) ↔ _
    rw [g3, ← h]; omega)
  cases k with
  | zero =>
    have e : i = v.n := by omega
    refine stepF (E := envJ (sigJ v (lv t (scan v t b i).1 (scan v t b i).2 i d c) L) [gIn false]) (known_nothing _) (numJ (hcons (hin (by simp; omega)) hnil)) kept20 hN (hp.fin _) h1 (liesJ hv _ _ _) (hAp _ _) fun a2 w2 h2 => ?_
    subst e
    exact hQ a2 w2 d h2
  | succ k =>
    have hlt : i < v.n := by omega
    have hneg : gNeg.holds (sigJ v (lv t (scan v t b i).1 (scan v t b i).2 i (v.nx t i) c) L) := holds_lt (no (by
      show ¬ (lv t (scan v t b i).1 (scan v t b i).2 i (v.nx t i) c).getD 3 0 < 0
      rw [g3]; omega))
    have h1' : JAt v t c L objs ρ0 S0 N W0 (scan v t b i).1 (scan v t b i).2 i (v.nx t i) 12 a1 w1 :=
      see_jobs hS h1 h0 (by omega) hL (fun k h4 h10 => lv_same h4 h10) (by rw [g0, g0]) (fun R => .num (by rw [vj, vj, g1, g1])) (fun R => .num (by rw [vj, vj, g2, g2])) (fun R => .num (by rw [vj, vj, g3, g3]))
    have ask : Ask v (lv t (scan v t b i).1 (scan v t b i).2 i (v.nx t i) c) i t b (v.nx t i) := ⟨g0, g3, by rw [g5]; exact hb, g10, hv.jobs i hlt, hev i hlt, rfl⟩
    have hi3 : (((i + 1 : Nat)) : Int) = (i : Int) + 1 := by simp
    have fit : Fits ((i : Int) + 1) := by
      have := hv.few
      exact ⟨by omega, by omega⟩
    have s3 : ∀ {d' : Int} {nx' mn' : Int} R, SVT (sigJ v (lv t (scan v t b i).1 (scan v t b i).2 i (v.nx t i) c) L) (sigJ v (lv t nx' mn' ((i + 1 : Nat) : Int) d' c) L) R n3 n3S := fun {d' nx' mn'} R => .num (by
      show (lv t nx' mn' ((i + 1 : Nat) : Int) d' c).getD 3 0 = opVal .add .i64 ((lv t (scan v t b i).1 (scan v t b i).2 i (v.nx t i) c).getD 3 0) 1
      rw [g3, g3, add_op fit, hi3])
    have hs : scan v t b (i + 1) = if b < v.nx t i then scan v t b i else if (scan v t b i).2 = 0 then (v.nx t i, 1) else if v.nx t i < (scan v t b i).1 then (v.nx t i, 1) else if v.nx t i = (scan v t b i).1 then ((scan v t b i).1, (scan v t b i).2 + 1) else scan v t b i := rfl
    by_cases c1 : b < v.nx t i
    · rw [if_pos c1] at hs
      refine stepF (E := envJ (sigJ v (lv t (scan v t b i).1 (scan v t b i).2 i (v.nx t i) c) L) [gIn true, gNeg]) (known_no ask c1) (numJ (hcons (hin (by simp; omega)) (hcons hneg hnil))) kept20 hN (hp.none _) h1' (liesJ hv _ _ _) (hAp _ _) fun a2 w2 h2 => ?_
      refine ⟨k, by omega, i + 1, v.nx t i, by omega, ?_⟩
      rw [hs]
      exact see_jobs hS h2 h0 (by omega) hL (fun k h4 h10 => lv_same h4 h10) (by rw [g0, g0]) (fun R => .num (by rw [vj, vj, g1, g1])) (fun R => .num (by rw [vj, vj, g2, g2])) s3
    · rw [if_neg c1] at hs
      have hsc := scan_is v t b i
      have fit2 : Fits ((scan v t b i).2 + 1) := by
        have := hsc.pos; have := hsc.le; have := hv.few
        exact ⟨by omega, by omega⟩
      have f2 : ∀ {y : Bool}, ((scan v t b i).2 = 0 ↔ y = true) → (gNone y).holds (sigJ v (lv t (scan v t b i).1 (scan v t b i).2 i (v.nx t i) c) L) := fun {y} h => holds_eq (by rw [vj, g2]; exact h)
      have fl1 : ∀ {y : Bool}, (v.nx t i < (scan v t b i).1 ↔ y = true) → (gLess y).holds (sigJ v (lv t (scan v t b i).1 (scan v t b i).2 i (v.nx t i) c) L) := fun {y} h => holds_lt (by rw [vj, vj, g10, g1]; exact h)
      have fs1 : ∀ {y : Bool}, (v.nx t i = (scan v t b i).1 ↔ y = true) → (gSame y).holds (sigJ v (lv t (scan v t b i).1 (scan v t b i).2 i (v.nx t i) c) L) := fun {y} h => holds_eq (by rw [vj, vj, g10, g1]; exact h)
      by_cases c2 : (scan v t b i).2 = 0
      · rw [if_pos c2] at hs
        refine stepF (E := envJ (sigJ v (lv t (scan v t b i).1 (scan v t b i).2 i (v.nx t i) c) L) [gIn true, gNeg, gNone true]) (known_one ask (by omega)) (numJ (hcons (hin (by simp; omega)) (hcons hneg (hcons (f2 (yes c2)) hnil)))) kept20 hN (hp.first _) h1' (liesJ hv _ _ _) (hAp _ _) fun a2 w2 h2 => ?_
        refine ⟨k, by omega, i + 1, v.nx t i, by omega, ?_⟩
        rw [hs]
        exact see_jobs hS h2 h0 (by omega) hL (fun k h4 h10 => lv_same h4 h10) (by rw [g0, g0]) (fun R => .num (by rw [vj, vj, g1, g10])) (fun R => .int (by rw [vj, g2])) s3
      · rw [if_neg c2] at hs
        by_cases c3 : v.nx t i < (scan v t b i).1
        · rw [if_pos c3] at hs
          refine stepF (E := envJ (sigJ v (lv t (scan v t b i).1 (scan v t b i).2 i (v.nx t i) c) L) [gIn true, gNeg, gNone false, gLess true]) (known_one ask (by omega)) (numJ (hcons (hin (by simp; omega)) (hcons hneg (hcons (f2 (no c2)) (hcons (fl1 (yes c3)) hnil))))) kept20 hN (hp.less _) h1' (liesJ hv _ _ _) (hAp _ _) fun a2 w2 h2 => ?_
          refine ⟨k, by omega, i + 1, v.nx t i, by omega, ?_⟩
          rw [hs]
          exact see_jobs hS h2 h0 (by omega) hL (fun k h4 h10 => lv_same h4 h10) (by rw [g0, g0]) (fun R => .num (by rw [vj, vj, g1, g10])) (fun R => .int (by rw [vj, g2])) s3
        · rw [if_neg c3] at hs
          by_cases c4 : v.nx t i = (scan v t b i).1
          · rw [if_pos c4] at hs
            refine stepF (E := envJ (sigJ v (lv t (scan v t b i).1 (scan v t b i).2 i (v.nx t i) c) L) [gIn true, gNeg, gNone false, gLess false, gSame true]) (known_one ask (by omega)) (numJ (hcons (hin (by simp; omega)) (hcons hneg (hcons (f2 (no c2)) (hcons (fl1 (no c3)) (hcons (fs1 (yes c4)) hnil)))))) kept20 hN (hp.same _) h1' (liesJ hv _ _ _) (hAp _ _) fun a2 w2 h2 => ?_
            refine ⟨k, by omega, i + 1, v.nx t i, by omega, ?_⟩
            rw [hs]
            exact see_jobs hS h2 h0 (by omega) hL (fun k h4 h10 => lv_same h4 h10) (by rw [g0, g0]) (fun R => .num (by rw [vj, vj, g1, g1])) (fun R => .num (by rw [vj, g2]; show _ = opVal .add .i64 ((lv t (scan v t b i).1 (scan v t b i).2 i (v.nx t i) c).getD 2 0) 1; rw [g2, add_op fit2])) s3
          · rw [if_neg c4] at hs
            refine stepF (E := envJ (sigJ v (lv t (scan v t b i).1 (scan v t b i).2 i (v.nx t i) c) L) [gIn true, gNeg, gNone false, gLess false, gSame false]) (known_one ask (by omega)) (numJ (hcons (hin (by simp; omega)) (hcons hneg (hcons (f2 (no c2)) (hcons (fl1 (no c3)) (hcons (fs1 (no c4)) hnil)))))) kept20 hN (hp.more _) h1' (liesJ hv _ _ _) (hAp _ _) fun a2 w2 h2 => ?_
            refine ⟨k, by omega, i + 1, v.nx t i, by omega, ?_⟩
            rw [hs]
            exact see_jobs hS h2 h0 (by omega) hL (fun k h4 h10 => lv_same h4 h10) (by rw [g0, g0]) (fun R => .num (by rw [vj, vj, g1, g1])) (fun R => .num (by rw [vj, vj, g2, g2])) s3
end
end Go.Proofs.YtoafolgibimgjaaGreatDoor

/- What load finds, in plain numbers. -/
set_option linter.all false
namespace Go.Proofs.YtoafolgibimgjaaGreatDoor

/-- A due time. -/
def IsDue (s P x : Int) : Prop := s ≤ x ∧ (x - s) % P = 0
instance (s P x : Int) : Decidable (IsDue s P x) := inferInstanceAs (Decidable (_ ∧ _))
theorem due_is {s P a : Int} (hP : 1 ≤ P) : IsDue s P (due s P a) := by
  by_cases h : a ≤ s
  · rw [due_fore h]
    exact ⟨Int.le_refl _, by simp⟩
  · rw [due_back (by omega)]
    have h0 := div_nonneg (x := a - s - 1) (P := P) (by omega) hP
    have h1 : 0 ≤ ((a - s - 1) / P + 1) * P := Int.mul_nonneg (by omega) (by omega)
    exact ⟨by omega, by
      rw [show s + ((a - s - 1) / P + 1) * P - s = ((a - s - 1) / P + 1) * P by omega]
      exact Int.mul_emod_left _ _⟩
theorem isDue_eq {s P x : Int} (h : IsDue s P x) : x = s + (x - s) / P * P := by
  have h1 := Int.mul_ediv_add_emod (x - s) P
  rw [h.2] at h1
  rw [Int.mul_comm P] at h1
  omega
theorem due_min {s P a x : Int} (hP : 1 ≤ P) (hx : IsDue s P x) (ha : a ≤ x) : due s P a ≤ x := by
  by_cases h : a ≤ s
  · rw [due_fore h]; exact hx.1
  · rw [due_back (by omega)]
    have e := isDue_eq hx
    generalize hq : (x - s) / P = q at e
    have h1 := div_le (x := a - s - 1) hP
    by_cases hlt : (a - s - 1) / P + 1 ≤ q
    · have := Int.mul_le_mul_of_nonneg_right hlt (show 0 ≤ P by omega)
      omega
    · have h2 := div_le (x := a - s - 1) hP
      have := Int.mul_le_mul_of_nonneg_right (show q ≤ (a - s - 1) / P by omega) (show 0 ≤ P by omega)
      omega

/-- How many due times are not later than t. -/
def rank (s P t : Int) : Nat := if t < s then 0 else ((t - s) / P).toNat + 1
theorem rank_mono {s P t u : Int} (hP : 1 ≤ P) (h : t ≤ u) : rank s P t ≤ rank s P u := by
  unfold rank
  split
  · omega
  · rename_i h1
    rw [if_neg (by omega)]
    have := Int.ediv_le_ediv (show 0 < P by omega) (show t - s ≤ u - s by omega)
    omega
theorem rank_due {s P t : Int} (hP : 1 ≤ P) : rank s P t + 1 ≤ rank s P (due s P (t + 1)) := by
  by_cases h : t + 1 ≤ s
  · rw [due_fore h]
    unfold rank
    rw [if_pos (by omega), if_neg (by omega)]
    simp
  · rw [due_back (by omega)]
    have h0 := div_nonneg (x := t - s) (P := P) (by omega) hP
    rw [show t + 1 - s - 1 = t - s by omega]
    have h1 : 0 ≤ ((t - s) / P + 1) * P := Int.mul_nonneg (by omega) (by omega)
    unfold rank
    rw [if_neg (by omega), if_neg (by omega), show s + ((t - s) / P + 1) * P - s = ((t - s) / P + 1) * P by omega, Int.mul_ediv_cancel _ (by omega)]
    omega

/-- How many of the first jobs have this due time; how many due times up to t they have. -/
def Jb.onN (v : Jb) (x : Int) : Nat → Nat
  | 0 => 0
  | k + 1 => v.onN x k + if IsDue (v.st k) (v.pe k) x then 1 else 0
def Jb.ranks (v : Jb) (t : Int) : Nat → Nat
  | 0 => 0
  | k + 1 => v.ranks t k + rank (v.st k) (v.pe k) t
section
variable {v : Jb}
theorem nx_gt {t : Int} {i : Nat} (hP : 1 ≤ v.pe i) : t < v.nx t i := by
  have := due_ge (s := v.st i) (P := v.pe i) (a := t + 1) hP
  show t < due _ _ _
  omega
theorem nx_iff {t x : Int} {i : Nat} (hP : 1 ≤ v.pe i) (ht : t < x) (hx : x ≤ v.nx t i) : v.nx t i = x ↔ IsDue (v.st i) (v.pe i) x :=
  ⟨fun h => h ▸ due_is hP, fun h => Int.le_antisymm (due_min hP h (by omega)) hx⟩
theorem have_on {t x : Int} (hP : ∀ i, i < v.n → 1 ≤ v.pe i) (ht : t < x) : ∀ k, k ≤ v.n → (∀ i, i < k → x ≤ v.nx t i) → v.have t x k = (v.onN x k : Int)
  | 0, _, _ => rfl
  | k + 1, hk, h => by
    have h1 := nx_iff (hP k (by omega)) ht (h k (by omega))
    simp only [Jb.have, Jb.onN, have_on hP ht k (by omega) fun i hi => h i (by omega)]
    by_cases e : v.nx t k = x
    · rw [if_pos e, if_pos (h1.1 e)]; simp
    · rw [if_neg e, if_neg fun g => e (h1.2 g)]; simp
theorem on_none {t x : Int} (hP : ∀ i, i < v.n → 1 ≤ v.pe i) (ht : t < x) : ∀ k, k ≤ v.n → (∀ i, i < k → x < v.nx t i) → v.onN x k = 0
  | 0, _, _ => rfl
  | k + 1, hk, h => by
    have h0 := h k (by omega)
    have h1 := nx_iff (hP k (by omega)) ht (Int.le_of_lt h0)
    simp only [Jb.onN, on_none hP ht k (by omega) fun i hi => h i (by omega)]
    rw [if_neg fun g => by have := h1.2 g; omega]
theorem ranks_mono {t u : Int} (hP : ∀ i, i < v.n → 1 ≤ v.pe i) (h : t ≤ u) : ∀ k, k ≤ v.n → v.ranks t k ≤ v.ranks u k
  | 0, _ => Nat.le_refl _
  | k + 1, hk => Nat.add_le_add (ranks_mono hP h k (by omega)) (rank_mono (hP k (by omega)) h)
theorem ranks_have {t x : Int} (hP : ∀ i, i < v.n → 1 ≤ v.pe i) (ht : t < x) : ∀ k, k ≤ v.n → (v.ranks t k : Int) + v.have t x k ≤ v.ranks x k
  | 0, _ => by simp [Jb.ranks, Jb.have]
  | k + 1, hk => by
    have h1 := ranks_have hP ht k (by omega)
    simp only [Jb.ranks, Jb.have]
    by_cases e : v.nx t k = x
    · rw [if_pos e]
      have := rank_due (s := v.st k) (P := v.pe k) (t := t) (hP k (by omega))
      have e : due (v.st k) (v.pe k) (t + 1) = x := e
      rw [e] at this
      omega
    · rw [if_neg e]
      have := rank_mono (s := v.st k) (P := v.pe k) (hP k (by omega)) (Int.le_of_lt ht)
      omega
end

/-- How many at the front are not later than x. -/
def adv (x : Int) : List Int → Nat
  | [] => 0
  | y :: l => if y ≤ x then adv x l + 1 else 0
theorem adv_le (x : Int) : ∀ l, adv x l ≤ l.length
  | [] => Nat.le_refl _
  | y :: l => by
    have := adv_le x l
    simp only [adv, List.length_cons]
    split <;> omega
theorem adv_old (x : Int) : ∀ l i, i < adv x l → l.getD i 0 ≤ x
  | [], i, h => by simp [adv] at h
  | y :: l, i, h => by
    simp only [adv] at h
    split at h
    · rename_i hy
      match i with
      | 0 => simpa using hy
      | i + 1 => simpa using adv_old x l i (by omega)
    · omega
theorem adv_new (x : Int) : ∀ l, adv x l < l.length → x < l.getD (adv x l) 0
  | [], h => by simp [adv] at h
  | y :: l, h => by
    simp only [adv, List.length_cons] at h ⊢
    split
    · rename_i hy
      rw [if_pos hy] at h
      simpa using adv_new x l (by omega)
    · rename_i hy
      simpa using by omega

/-- load's state. -/
structure LS where
  t : Int
  L : List Int
  first : Nat
  best : Int
  pos : Int
def LS.row (s : LS) (nx : Int) (mn : Nat) : List Int := s.L ++ List.replicate mn nx
def LS.fst' (s : LS) (w nx : Int) (mn : Nat) : Nat := s.first + adv (nx - w) ((s.row nx mn).drop s.first)
def LS.cnt (s : LS) (w nx : Int) (mn : Nat) : Int := ((s.row nx mn).length : Int) - s.fst' w nx mn
def LS.go (s : LS) (w nx : Int) (mn : Nat) : LS := if s.best < s.cnt w nx mn then ⟨nx, s.row nx mn, s.fst' w nx mn, s.cnt w nx mn, (s.row nx mn).getD (s.fst' w nx mn) 0⟩ else ⟨nx, s.row nx mn, s.fst' w nx mn, s.best, s.pos⟩
theorem LS.go_t {s : LS} {w nx : Int} {mn : Nat} : (s.go w nx mn).t = nx := by unfold LS.go; split <;> rfl
theorem LS.go_L {s : LS} {w nx : Int} {mn : Nat} : (s.go w nx mn).L = s.row nx mn := by unfold LS.go; split <;> rfl
theorem LS.go_first {s : LS} {w nx : Int} {mn : Nat} : (s.go w nx mn).first = s.fst' w nx mn := by unfold LS.go; split <;> rfl
/-- Where it ends. -/
inductive Goes (v : Jb) (w b : Int) : LS → LS → Prop
  | none {s : LS} (h : (scan v s.t b v.n).2 = 0) : Goes v w b s s
  | last {s : LS} (h : (scan v s.t b v.n).2 ≠ 0) (hl : (scan v s.t b v.n).1 = b) : Goes v w b s (s.go w (scan v s.t b v.n).1 (scan v s.t b v.n).2.toNat)
  | step {s r : LS} (h : (scan v s.t b v.n).2 ≠ 0) (hl : (scan v s.t b v.n).1 ≠ b) (hr : Goes v w b (s.go w (scan v s.t b v.n).1 (scan v s.t b v.n).2.toNat) r) : Goes v w b s r

/-- How many are in the window that ends with t. -/
def inW (L : List Int) (w t : Int) : Nat := L.countP fun x => decide (t - w < x ∧ x ≤ t)
structure Best (L : List Int) (w best pos : Int) : Prop where
  nil : L = [] → best = 0 ∧ pos = 0
  le : ∀ t ∈ L, (inW L w t : Int) ≤ best
  is : L ≠ [] → ∃ t ∈ L, (inW L w t : Int) = best ∧ pos ∈ L ∧ t - w < pos ∧ pos ≤ t ∧ (∀ x ∈ L, t - w < x → pos ≤ x) ∧ ∀ u ∈ L, u < t → (inW L w u : Int) < best
structure LInv (v : Jb) (from' w : Int) (s : LS) : Prop where
  lo : from' - 1 ≤ s.t
  sorted : s.L.Pairwise (· ≤ ·)
  count : ∀ x, s.L.count x = if from' ≤ x ∧ x ≤ s.t then v.onN x v.n else 0
  len : s.L.length ≤ v.ranks s.t v.n
  fst : s.L ≠ [] → s.first < s.L.length
  fst0 : s.L = [] → s.first = 0
  old : ∀ i, i < s.first → s.L.getD i 0 ≤ s.t - w
  best : Best s.L w s.best s.pos

theorem LInv.le {v : Jb} {from' w : Int} {s : LS} (h : LInv v from' w s) {x : Int} (hx : x ∈ s.L) : from' ≤ x ∧ x ≤ s.t := by
  have h1 := List.count_pos_iff.2 hx
  rw [h.count x] at h1
  by_cases e : from' ≤ x ∧ x ≤ s.t
  · exact e
  · rw [if_neg e] at h1; omega

theorem mem_row {s : LS} {nx : Int} {mn : Nat} {x : Int} : x ∈ s.row nx mn ↔ x ∈ s.L ∨ (mn ≠ 0 ∧ x = nx) := by
  unfold LS.row
  rw [List.mem_append, List.mem_replicate]
theorem inW_row {s : LS} {w nx : Int} {mn : Nat} {t : Int} (ht : t < nx) : inW (s.row nx mn) w t = inW s.L w t := by
  unfold inW LS.row
  rw [List.countP_append, List.countP_eq_zero (l := List.replicate mn nx) |>.2 fun x hx => ?_]
  · rfl
  · have := (List.mem_replicate.1 hx).2
    subst this
    simp only [decide_eq_true_eq]
    omega
theorem getD_drop {L : List Int} {a i : Nat} : (L.drop a).getD i 0 = L.getD (a + i) 0 := by
  simp [List.getD]
theorem getD_at {L : List Int} {i : Nat} (h : i < L.length) : L.getD i 0 = L[i] := by
  rw [List.getD_eq_getElem?_getD, List.getElem?_eq_getElem h]; rfl
theorem getD_front {L M : List Int} {i : Nat} (h : i < L.length) : (L ++ M).getD i 0 = L.getD i 0 := by
  rw [List.getD_eq_getElem?_getD, List.getD_eq_getElem?_getD, List.getElem?_append_left h]
theorem getD_rep {L : List Int} {m i : Nat} {x : Int} (h : L.length ≤ i) (h2 : i < L.length + m) : (L ++ List.replicate m x).getD i 0 = x := by
  rw [List.getD_eq_getElem?_getD, List.getElem?_append_right h, List.getElem?_replicate, if_pos (by omega)]; rfl
theorem getD_mem {L : List Int} {i : Nat} (h : i < L.length) : L.getD i 0 ∈ L := by
  rw [getD_at h]
  exact List.getElem_mem h
theorem mem_getD {L : List Int} {x : Int} (h : x ∈ L) : ∃ i, i < L.length ∧ L.getD i 0 = x := by
  obtain ⟨i, hi, e⟩ := List.getElem_of_mem h
  exact ⟨i, hi, by rw [getD_at hi]; exact e⟩
theorem sorted_get {L : List Int} (h : L.Pairwise (· ≤ ·)) {i j : Nat} (hij : i ≤ j) (hj : j < L.length) : L.getD i 0 ≤ L.getD j 0 := by
  by_cases e : i = j
  · subst e; exact Int.le_refl _
  · rw [getD_at (by omega : i < L.length), getD_at hj]
    exact List.pairwise_iff_getElem.1 h i j (by omega) hj (by omega)
/-- Of a row in order, the ones behind a place. -/
theorem count_cut {L : List Int} (hs : L.Pairwise (· ≤ ·)) {f : Nat} (hf : f < L.length) {x : Int} (h1 : ∀ i, i < f → L.getD i 0 ≤ x) (h2 : x < L.getD f 0) : (L.countP fun y => decide (x < y)) = L.length - f := by
  have e := List.take_append_drop f L
  have e2 : (L.countP fun y => decide (x < y)) = (L.take f).countP (fun y => decide (x < y)) + (L.drop f).countP (fun y => decide (x < y)) := by
    rw [← List.countP_append, e]
  rw [e2]
  rw [List.countP_eq_zero.2 fun y hy => ?_, List.countP_eq_length.2 fun y hy => ?_]
  · simp
  · obtain ⟨i, hi, rfl⟩ := mem_getD hy
    simp only [List.length_drop] at hi
    rw [getD_drop]
    have := sorted_get hs (show f ≤ f + i by omega) (by omega)
    simp only [decide_eq_true_eq]
    omega
  · obtain ⟨i, hi, rfl⟩ := mem_getD hy
    simp only [List.length_take] at hi
    have e3 : (L.take f).getD i 0 = L.getD i 0 := by
      simp only [List.getD]
      rw [List.getElem?_take_of_lt (by omega)]
    rw [e3]
    have := h1 i (by omega)
    simp only [decide_eq_true_eq]
    omega

section
variable {v : Jb} {from' w b : Int} {s : LS}
/-- What a round finds. -/
structure Found (v : Jb) (from' w b : Int) (s : LS) (nx : Int) (mn : Nat) : Prop where
  gt : s.t < nx
  le : nx ≤ b
  pos : 1 ≤ mn
  few : mn ≤ v.n
  many : mn = v.onN nx v.n
  free : ∀ y, s.t < y → y < nx → v.onN y v.n = 0
  ranks : v.ranks s.t v.n + mn ≤ v.ranks nx v.n
theorem found (hP : ∀ i, i < v.n → 1 ≤ v.pe i) (h : (scan v s.t b v.n).2 ≠ 0) : Found v from' w b s (scan v s.t b v.n).1 (scan v s.t b v.n).2.toNat := by
  obtain ⟨h1, h2, -, h3⟩ := scan_is v s.t b v.n
  obtain ⟨e, hb, ⟨i, hi, g⟩, hm⟩ := h3 h
  have hgt : s.t < (scan v s.t b v.n).1 := by
    rw [← g]; exact nx_gt (hP i hi)
  have hh := have_on hP hgt v.n (Nat.le_refl _) hm
  have hr := ranks_have hP hgt v.n (Nat.le_refl _)
  exact ⟨hgt, hb, by omega, by omega, by omega, fun y hy1 hy2 => on_none hP hy1 v.n (Nat.le_refl _) fun i hi => by have := hm i hi; omega, by omega⟩
theorem free_none (hP : ∀ i, i < v.n → 1 ≤ v.pe i) (h : (scan v s.t b v.n).2 = 0) : ∀ y, s.t < y → y ≤ b → v.onN y v.n = 0 := fun y h1 h2 =>
  on_none hP h1 v.n (Nat.le_refl _) fun i hi => by
    have := (scan_is v s.t b v.n).none h i hi
    omega

theorem LInv.row_sorted (h : LInv v from' w s) {nx : Int} {mn : Nat} (f : Found v from' w b s nx mn) : (s.row nx mn).Pairwise (· ≤ ·) := by
  unfold LS.row
  refine List.pairwise_append.2 ⟨h.sorted, ?_, fun x hx y hy => ?_⟩
  · exact List.pairwise_replicate.2 (.inr (Int.le_refl _))
  · have := (h.le hx).2
    have e := (List.mem_replicate.1 hy).2
    have := f.gt
    omega
theorem LInv.cut (h : LInv v from' w s) (hw : 1 ≤ w) {nx : Int} {mn : Nat} (f : Found v from' w b s nx mn) : s.fst' w nx mn < (s.row nx mn).length ∧ (∀ i, i < s.fst' w nx mn → (s.row nx mn).getD i 0 ≤ nx - w) ∧ nx - w < (s.row nx mn).getD (s.fst' w nx mn) 0 := by
  have hlen : (s.row nx mn).length = s.L.length + mn := by unfold LS.row; simp
  have hsorted := h.row_sorted f
  have hfirst : s.first ≤ s.L.length := by
    by_cases e : s.L = []
    · rw [h.fst0 e]; exact Nat.zero_le _
    · exact Nat.le_of_lt (h.fst e)
  have hadv := adv_le (nx - w) ((s.row nx mn).drop s.first)
  have hdl : ((s.row nx mn).drop s.first).length = (s.row nx mn).length - s.first := by simp
  have hold : ∀ i, i < s.fst' w nx mn → (s.row nx mn).getD i 0 ≤ nx - w := fun i hi => by
    by_cases hlt : i < s.first
    · have h1 := h.old i hlt
      have e : (s.row nx mn).getD i 0 = s.L.getD i 0 := by
        unfold LS.row
        rw [getD_front (by omega)]
      rw [e]
      have := f.gt
      omega
    · have hi2 : i - s.first < adv (nx - w) ((s.row nx mn).drop s.first) := by unfold LS.fst' at hi; omega
      have := adv_old (nx - w) _ _ hi2
      rw [getD_drop, show s.first + (i - s.first) = i by omega] at this
      exact this
  have hlast : (s.row nx mn).getD (s.L.length + mn - 1) 0 = nx := by
    unfold LS.row
    have := f.pos
    exact getD_rep (by omega) (by omega)
  have hlt : s.fst' w nx mn < (s.row nx mn).length := by
    by_cases e : s.fst' w nx mn < (s.row nx mn).length
    · exact e
    · have := hold (s.L.length + mn - 1) (by have := f.pos; omega)
      rw [hlast] at this
      omega
  refine ⟨hlt, hold, ?_⟩
  have := adv_new (nx - w) ((s.row nx mn).drop s.first) (by unfold LS.fst' at hlt; omega)
  rw [getD_drop] at this
  exact this
theorem LInv.cnt_is (h : LInv v from' w s) (hw : 1 ≤ w) {nx : Int} {mn : Nat} (f : Found v from' w b s nx mn) : s.cnt w nx mn = inW (s.row nx mn) w nx := by
  obtain ⟨h1, h2, h3⟩ := h.cut hw f
  have := count_cut (h.row_sorted f) h1 h2 h3
  unfold LS.cnt inW
  rw [List.countP_congr (q := fun y => decide (nx - w < y)) fun y hy => ?_, this]
  · omega
  · have hy : y ≤ nx := by
      rcases mem_row.1 hy with g | ⟨-, g⟩
      · have := (h.le g).2; have := f.gt; omega
      · omega
    simp only [decide_eq_true_eq]
    omega
theorem LInv.go (h : LInv v from' w s) (hw : 1 ≤ w) {nx : Int} {mn : Nat} (f : Found v from' w b s nx mn) : LInv v from' w (s.go w nx mn) := by
  have hc := h.cnt_is hw f
  have hsorted := h.row_sorted f
  obtain ⟨h1, h2, h3⟩ := h.cut hw f
  have hlen : (s.row nx mn).length = s.L.length + mn := by unfold LS.row; simp
  have hgt := f.gt
  have hlo := h.lo
  have hne : s.row nx mn ≠ [] := fun e => by rw [e] at h1; simp at h1
  have hmem : nx ∈ s.row nx mn := mem_row.2 (.inr ⟨by have := f.pos; omega, rfl⟩)
  have hposc : 0 < s.cnt w nx mn := by unfold LS.cnt; omega
  refine ⟨by rw [LS.go_t]; omega, by rw [LS.go_L]; exact hsorted, fun x => ?_, by rw [LS.go_L, LS.go_t, hlen]; have := f.ranks; have := h.len; omega, fun _ => by rw [LS.go_L, LS.go_first]; exact h1, fun e => by rw [LS.go_L] at e; exact absurd e hne, fun i hi => ?_, ?_⟩
  · rw [LS.go_L, LS.go_t]
    unfold LS.row
    rw [List.count_append, List.count_replicate, h.count x]
    have := f.many
    by_cases e : nx = x
    · subst e
      simp only [beq_self_eq_true, if_true]
      rw [if_neg (by omega), if_pos (by omega)]
      omega
    · have e' : (nx == x) = false := by simpa using e
      rw [e']
      simp only [Bool.false_eq_true, if_false, Nat.add_zero]
      by_cases c1 : from' ≤ x ∧ x ≤ s.t
      · rw [if_pos c1, if_pos (by omega)]
      · rw [if_neg c1]
        by_cases c2 : from' ≤ x ∧ x ≤ nx
        · rw [if_pos c2, f.free x (by omega) (by omega)]
        · rw [if_neg c2]
  · rw [LS.go_L, LS.go_t]
    rw [LS.go_first] at hi
    exact h2 i hi
  · have hb := h.best
    unfold LS.go
    by_cases c : s.best < s.cnt w nx mn
    · rw [if_pos c]
      refine ⟨fun e => absurd e hne, fun t ht => ?_, fun _ => ⟨nx, hmem, hc.symm, getD_mem h1, h3, ?_, fun x hx hx2 => ?_, fun u hu hlt => ?_⟩⟩
      · show (inW (s.row nx mn) w t : Int) ≤ s.cnt w nx mn
        rcases mem_row.1 ht with g | ⟨-, g⟩
        · rw [inW_row (by have := (h.le g).2; omega)]
          have := hb.le t g
          omega
        · rw [g, hc]; exact Int.le_refl _
      · rcases mem_row.1 (getD_mem h1) with g | ⟨-, g⟩
        · have := (h.le g).2
          show (s.row nx mn).getD (s.fst' w nx mn) 0 ≤ nx
          omega
        · show (s.row nx mn).getD (s.fst' w nx mn) 0 ≤ nx
          omega
      · obtain ⟨i, hi, rfl⟩ := mem_getD (show x ∈ s.row nx mn from hx)
        have hx2 : nx - w < (s.row nx mn).getD i 0 := hx2
        by_cases hlt : i < s.fst' w nx mn
        · have := h2 i hlt; omega
        · exact sorted_get hsorted (by omega) hi
      · rcases mem_row.1 hu with g | ⟨-, g⟩
        · show (inW (s.row nx mn) w u : Int) < s.cnt w nx mn
          rw [inW_row (by have := (h.le g).2; omega)]
          have := hb.le u g
          omega
        · omega
    · rw [if_neg c]
      have hL : s.L ≠ [] := fun e => by have := (hb.nil e).1; omega
      obtain ⟨t, ht, g1, g2, g3, g4, g5, g6⟩ := hb.is hL
      have htt := (h.le ht).2
      refine ⟨fun e => absurd e hne, fun u hu => ?_, fun _ => ⟨t, mem_row.2 (.inl ht), ?_, mem_row.2 (.inl g2), g3, g4, fun x hx hx2 => ?_, fun u hu hlt => ?_⟩⟩
      · show (inW (s.row nx mn) w u : Int) ≤ s.best
        rcases mem_row.1 hu with g | ⟨-, g⟩
        · rw [inW_row (by have := (h.le g).2; omega)]
          exact hb.le u g
        · rw [g, ← hc]; omega
      · show (inW (s.row nx mn) w t : Int) = s.best
        rw [inW_row (by omega)]; exact g1
      · rcases mem_row.1 hx with g | ⟨-, g⟩
        · exact g5 x g hx2
        · show s.pos ≤ x; omega
      · show (inW (s.row nx mn) w u : Int) < s.best
        rw [inW_row (by omega)]
        rcases mem_row.1 hu with g | ⟨-, g⟩
        · exact g6 u g hlt
        · omega

/-- All of it. -/
structure LAll (v : Jb) (from' w b : Int) (L : List Int) (best pos : Int) : Prop where
  sorted : L.Pairwise (· ≤ ·)
  count : ∀ x, L.count x = if from' ≤ x ∧ x ≤ b then v.onN x v.n else 0
  best : Best L w best pos
theorem goes_all (hP : ∀ i, i < v.n → 1 ≤ v.pe i) (hw : 1 ≤ w) {r : LS} (hg : Goes v w b s r) (h : LInv v from' w s) (hb : s.t ≤ b) : LAll v from' w b r.L r.best r.pos := by
  induction hg with
  | none h0 =>
    rename_i s
    refine ⟨h.sorted, fun x => ?_, h.best⟩
    rw [h.count x]
    by_cases c1 : from' ≤ x ∧ x ≤ s.t
    · rw [if_pos c1, if_pos (by omega)]
    · rw [if_neg c1]
      by_cases c2 : from' ≤ x ∧ x ≤ b
      · rw [if_pos c2, free_none hP h0 x (by omega) c2.2]
      · rw [if_neg c2]
  | last h0 hl =>
    rename_i s
    have f := found (from' := from') (w := w) hP h0
    have hi := h.go hw f
    refine ⟨hi.sorted, fun x => ?_, hi.best⟩
    rw [hi.count x, LS.go_t, hl]
  | step h0 hl hr ih =>
    rename_i s r
    have f := found (from' := from') (w := w) hP h0
    exact ih (h.go hw f) (by rw [LS.go_t]; exact f.le)
theorem goes_ex (hP : ∀ i, i < v.n → 1 ≤ v.pe i) (w : Int) : ∀ (k : Nat) (s : LS), (b - s.t).toNat ≤ k → ∃ r, Goes v w b s r
  | k, s, hk => by
    by_cases h0 : (scan v s.t b v.n).2 = 0
    · exact ⟨s, .none h0⟩
    · have f := found (from' := 0) (w := w) (s := s) hP h0
      by_cases hl : (scan v s.t b v.n).1 = b
      · exact ⟨_, .last h0 hl⟩
      · match k with
        | 0 => have := f.gt; have := f.le; omega
        | k + 1 =>
          obtain ⟨r, hr⟩ := goes_ex hP w k (s.go w (scan v s.t b v.n).1 (scan v s.t b v.n).2.toNat) (by rw [LS.go_t]; have := f.gt; have := f.le; omega)
          exact ⟨r, .step h0 hl hr⟩
end
end Go.Proofs.YtoafolgibimgjaaGreatDoor
