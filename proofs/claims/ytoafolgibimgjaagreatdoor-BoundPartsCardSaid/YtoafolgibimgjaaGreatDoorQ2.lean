/- BoundParts: what its cases change; what is known of calls; its facts. -/
import Derived.Test.YtoafolgibimgjaaGreatDoorP7
import Derived.Test.YtoafolgibimgjaaGreatDoorQ1
set_option linter.all false
set_option maxRecDepth 100000
namespace Go.Proofs.YtoafolgibimgjaaGreatDoor
open Go.RX Go.RX.Sym

/-! ### The numbers -/
def sumX (k : Nat) : IE := foldE .max (.lit 0) (fun i => .var (60 + i)) k
def boundX (k : Nat) : IE := plus (sumX k) (.bin .mul .i64 (plus (.lit (.ofNat k)) (.var 28)) (.max (.var 27) (.var 25)))
def highX : Nat → IE
  | 0 => .lit 0
  | k + 1 => (match k with | 0 => .var 50 | j + 1 => .max (highX (j + 1)) (.var (50 + (j + 1))))
def lowX : Nat → IE
  | 0 => .lit 0
  | k + 1 => (match k with | 0 => .var 50 | j + 1 => .min (lowX (j + 1)) (.var (50 + (j + 1))))
def winY (h l s : IE) : IE := plus (plus (.bin .mul .i64 (.bin .sub .i64 h l) (.var 23)) s) (.lit 1)
/-- The window's length, with one job more in case 1. -/
def winX (k m : Nat) : IE := match m with | 1 => winY (.max (highX k) (.var 50)) (.min (lowX k) (.var 50)) (.max (sumX k) (.var 60)) | _ => winY (highX k) (lowX k) (sumX k)
def endX : IE := plus (.lit 1000) (.bin .mul .i64 (.lit 3) (.var 30))
def fromE (m : Nat) : SV := match m with | 0 => .sint .i64 (plus (.lit 1000) (.bin .rem .i64 (.conv .i64 (.var 7)) (.bin .mul .i64 (.lit 2) (.var 30)))) | _ => .int .i64 1000
def toE (m : Nat) : IE := match m with | 0 => .bin .sub .i64 endX (.bin .rem .i64 (.bin .quo .i64 (.conv .i64 (.var 7)) (.lit 7)) (.var 30)) | _ => endX
def dlX : IE := .bin .sub .i64 (.var 31) (.lit 1)
/-! ### The jobs, and the configuration, as a case leaves them -/
def jobSV2 (name : ByteArray) (i : Nat) (dl t u : SV) : List SV := .string name :: .int .i64 2 :: zs .u64 6 ++ [.bool false, .bool false, .int .i64 0, .sint .i64 (.var (40 + i)), .sint .i64 (.var 30), .int .i64 0, .nilslice, .int .i64 1, .sint .i64 (.var (50 + i)), .sint .i64 (.var (60 + i)), dl, .int .i64 0, .int .i64 0, t, u] ++ zs .i64 7
def vi (i : Nat) : SV := .sint .i64 (.var i)
def nameB (i : Nat) : ByteArray := ⟨#[UInt8.ofNat (97 + i)]⟩
def moreB : ByteArray := ⟨#[109, 111, 114, 101]⟩
def jobP (k m i : Nat) : List SV := match m with
  | 2 => (match i with | 0 => jobSV2 (nameB 0) 0 (vi 70) (vi 30) (.int .i64 0) | i => jobSV2 (nameB i) i (vi (70 + i)) (vi (80 + i)) (vi (90 + i)))
  | 5 => (match Nat.beq (i + 1) k with | true => jobSV2 (nameB i) i (.sint .i64 dlX) (vi (80 + i)) (vi (90 + i)) | false => jobSV2 (nameB i) i (vi (70 + i)) (vi (80 + i)) (vi (90 + i)))
  | _ => jobSV2 (nameB i) i (vi (70 + i)) (vi (80 + i)) (vi (90 + i))
def jobsP (k m : Nat) : Nat → List SV
  | 0 => []
  | i + 1 => jobsP k m i ++ jobP k m i
def cellsP (k m : Nat) : List SV := match m with | 1 => jobsP k m k ++ jobSV2 moreB 0 (vi 70) (vi 80) (vi 90) | _ => jobsP k m k
def countP (k m : Nat) : Nat := match m with | 1 => k + 1 | _ => k
def cfgP (k m : Nat) : List SV := match m with
  | 3 => [vi 20, .int .i64 (.ofNat (max (k - 1) 1)), vi 22, vi 23, .sint .u64 (.var 24), vi 25, vi 26]
  | 4 => [vi 20, vi 21, .int .i64 (.ofNat (k - 1)), vi 23, .sint .u64 (.var 24), vi 25, vi 26]
  | _ => [vi 20, vi 21, vi 22, vi 23, .sint .u64 (.var 24), vi 25, vi 26]
/-! ### What is known -/
def planQ (i : Nat) : SV := .agg (.int .i64 2 :: zs .u64 6 ++ [.bool false, .bool false, .int .i64 0, vi (40 + i), vi 30, .int .i64 0, .nilslice])
abbrev KT := Nat → List SV → SW → Option (SV × SW)
noncomputable def pLim : Nat → KT → KT
  | 0, K => memoCall 52 [.agg [vi 25, vi 26]] [] 0 (.int .i64 0) [] 0 K
  | i + 1, K => memoCall 52 [.agg [vi (80 + i), vi (90 + i)]] [] 0 (.int .i64 0) [] 0 (pLim i K)
noncomputable def pCnt (m : Nat) : Nat → KT → KT
  | 0, K => K
  | i + 1, K => memoCall 29 [planQ i, fromE m, .sint .i64 (toE m)] [] 0 (.tuple [vi (120 + i), .int .i64 0]) [] 0 (pCnt m i K)
def objI (k m : Nat) : List (Nat × SObj) := [(0, .cells [fromE m] 6), (1, .cells [.sint .i64 (toE m)] 6), (2, .cells [.sint .i64 (boundX k)] 6), (3, .cells [vi 27, vi 28] 76)]
def argI (k m i : Nat) : List SV := [.agg (jobP k m i), .ptr 0 0, .ptr 1 0, .ptr 2 0, .ptr 3 0]
def ansI (m i : Nat) : Bool := match m with | 2 => (match i with | 0 => false | _ => true) | _ => true
noncomputable def pIn (k m : Nat) : Nat → KT → KT
  | 0, K => K
  | i + 1, K => memoCall 18 (argI k m i) (objI k m) 4 (.bool (ansI m i)) [] 4 (pIn k m i K)
def objP (k m : Nat) : List (Nat × SObj) := [(0, .cells (cellsP k m) 111)]
def argLp (k m : Nat) : List SV := [cfgSV 0 (countP k m) (countP k m) (cfgP k m), .sint .i64 (winX k m), fromE m, .sint .i64 (toE m)]
noncomputable def pLd (k m : Nat) (K : KT) : KT := memoCall 15 (argLp k m) (objP k m) 1 (.tuple [nv2 110, nv2 111]) [] 1 K
where nv2 (i : Nat) : SV := .sint .i64 (.var i)
noncomputable def pWorks (K : KT) : KT := memoCall 7 [] [] 0 (.bool true) [] 0 K
noncomputable def pMade (k : Nat) (K : KT) : KT := memoCall 5 argM [] 0 (nameX k) [(0, some (.cells (nameJobs k) 111))] 1 K
noncomputable def kP (k m : Nat) : KT := pMade k (pLd k m (pCnt m k (pLim k (match m with | 1 => pWorks noC | _ => pIn k m k (pWorks noC)))))
/-! ### The facts -/
def whichE : IE := .bin .rem .u8 (.var 6) (.lit 6)
def whichF (m : Nat) : List Fact := [fe whichE (.lit 1) (Nat.beq m 1), fe whichE (.lit 2) (Nat.beq m 2), fe whichE (.lit 3) (Nat.beq m 3), fe whichE (.lit 4) (Nat.beq m 4), fe whichE (.lit 5) (Nat.beq m 5)]
def dlF (k : Nat) : Nat → List Fact
  | 0 => []
  | i + 1 => fl (.var (70 + i)) (boundX k) false :: dlF k i
def loadF (m : Nat) : Fact := match m with | 1 => fl (.lit 0) (.var 110) true | _ => fl (.var 28) (.var 110) false
def factsP (k m : Nat) : List Fact := whichF m ++ loadF m :: fl (.lit 253402300799) (toE 0) false :: fl (toE 0) (.lit 0) false :: fl (toE 0) (ieOf (fromE 0)) false :: fl dlX (.lit 0) false :: fl dlX (boundX k) true :: dlF k k
def boundsP (lo hi : Int) (k : Nat) (e : IE) : Option (Int × Int) := match e with
  | .var i => if i < 20 then (match i with | 5 => some (0, 18446744073709551615) | 7 => some (0, 65535) | _ => some (0, 255)) else if i < 100 then boundsN k i else if i < 120 then none else if i < 125 then some (0, 3) else none
  | .len a => (match a with | 0 => some (lo, hi) | _ => none)
  | _ => none
noncomputable def envP (R : Nat → Option (List (Option IntKind))) (σ : Sig) (lo hi : Int) (k m : Nat) : Env := { P := Tryz.prog, G := fun _ => none, rows := R, lt := ordLt (boundsP lo hi k) (factsP k m), eq := ordEq (boundsP lo hi k) (factsP k m), sig := σ }
def argsP : List SV := [.agg (.row 0 :: tail), .sint .u8 (.var 6), .sint .u16 (.var 7)]
noncomputable def paRun (σ : Sig) (hi : Int) (k m : Nat) : Bool := isBool true ((semK (envP rowsT σ (.ofNat k) hi k m) (kP k m) 40).call 3 argsP ⟨.nil, 0, 0⟩)
/-! ### No task: one of zeros is made -/
def zeroX : SV := .tuple [.agg [.sint .i64 (.var 20), .sint .i64 (.var 21), .sint .i64 (.var 22), .sint .i64 (.var 23), .sint .u64 (.var 24), .sint .i64 (.var 25), .sint .i64 (.var 26), .slice 1 0 1 (.toEnd 30 1)], .agg [.sint .i64 (.var 27), .sint .i64 (.var 28)], .sint .i64 (.var 30), .sint .i64 (.var 31)]
def argZ : List SV := [.agg (.slice 0 0 1 (.exact 1) :: tail)]
def objZ : List (Nat × SObj) := [(0, .cells (zs .u8 6) 59)]
noncomputable def zMade (K : KT) : KT := memoCall 5 argZ objZ 1 zeroX [(1, some (.cells (nameJobs 1) 111))] 2 K
noncomputable def kZ (m : Nat) : KT := zMade (pLd 1 m (pCnt m 1 (pLim 1 (match m with | 1 => pWorks noC | _ => pIn 1 m 1 (pWorks noC)))))
noncomputable def zRunP (R : Nat → Option (List (Option IntKind))) (σ : Sig) (l : SV) (m : Nat) : Bool := isBool true ((semK (envP R σ 0 0 1 m) (kZ m) 40).call 3 [.agg (l :: tail), .sint .u8 (.var 6), .sint .u16 (.var 7)] ⟨.nil, 0, 0⟩)
end Go.Proofs.YtoafolgibimgjaaGreatDoor

/- A contract beside the caller's own objects; Holds' inner check by contract. -/
set_option linter.all false
set_option maxRecDepth 100000
namespace Go.Proofs.YtoafolgibimgjaaGreatDoor
open Go.RX Go.RX.Sym

theorem callsT_of_left2 {E : Env} {f0 : Nat} {args0 : List SV} {objs0 objs1 : List (Nat × SObj)} {n0 N : Nat} {x : SV} (hname : ∀ (vals : Array Value) w, (callFunc f0 vals).run E.P w = .ok (.enter f0 vals) w) (hn : n0 ≤ N)
    (hx : SVT E.sig E.sig (fun i j => j = i ∧ n0 ≤ i) x x) (ho : ∀ p ∈ objs1, n0 ≤ p.1 ∧ p.1 < N ∧ OVT E.sig E.sig (fun i j => j = i ∧ n0 ≤ i) p.2 p.2) (h0 : ∀ p ∈ objs0, p.1 < n0) (hnd1 : (objs1.map (·.1)).Nodup) (hnd0 : (objs0.map (·.1)).Nodup)
    (h : ∀ ρ vals w, Ok E ρ ⟨heapOf objs0, n0, 0⟩ w → VRels ρ args0 vals → Calls E.P f0 vals.toArray w fun e w' => ∃ u, e = .returned u ∧ LeftT E.sig w u x objs1 N w') : CallsT E f0 args0 objs0 n0 x ⟨heapOf (objs1 ++ objs0), N, 0⟩ where
  name := hname
  le := hn
  call ρ vals w hok hfr hv := by
    refine callsIn_wide.1 (CallsIn.mono (callsIn_wide.2 (h ρ vals w hok hv)) (n := 0) ?_)
    rintro e w' ⟨u, rfl, on, ρ1, hσ, hux, hw, hy, hfree, ht⟩
    have hsig : ρ.sig = E.sig := hok.num.sig
    let ρ' : Ren := ⟨fun i => if n0 ≤ i ∧ i < N then ρ1 i else ρ i, ρ.sig⟩
    have h1 : ∀ i, n0 ≤ i → i < N → ρ' i = ρ1 i := fun i a b => if_pos ⟨a, b⟩
    have h2 : ∀ i, ¬ (n0 ≤ i ∧ i < N) → ρ' i = ρ i := fun i hi => if_neg hi
    have o : OverT (fun i j => j = i ∧ n0 ≤ i) ρ1 ρ' := ⟨fun i j p hr hp => by
      obtain ⟨rfl, hi⟩ := hr
      have : j < N := by
        rcases Nat.lt_or_ge j N with g | g
        · exact g
        · rw [hfree j g] at hp; cases hp
      rw [h1 j hi this]; exact hp⟩
    have sx : SVT ρ1.sig ρ'.sig (fun i j => j = i ∧ n0 ≤ i) x x := by
      show SVT ρ1.sig ρ.sig _ x x
      rw [hσ, hsig]; exact hx
    have in1 : ∀ i y, (i, y) ∈ objs1 → (SW.mk (heapOf objs1) N 0).at i = some y := fun i y hm => Go.RX.heapOf_of hnd1 hm
    have in0 : ∀ i y, (i, y) ∈ objs0 → (SW.mk (heapOf objs0) n0 0).at i = some y := fun i y hm => Go.RX.heapOf_of hnd0 hm
    have old : ∀ i y p, (i, y) ∈ objs0 → ρ i = some p → ∃ ob, w.heap[p.1]? = some ob ∧ ORel ρ y p ob ∧ p.1 < w.heap.size := fun i y p hm hp => by
      obtain ⟨ob, g1, g2⟩ := hok.wrel.obj i y p (in0 i y hm) hp
      exact ⟨ob, g1, g2, (Array.getElem?_eq_some_iff.1 g1).1⟩
    have hle : ρ.le ρ' := ⟨fun i p hp => by
      by_cases hi : n0 ≤ i ∧ i < N
      · rw [hfr i hi.1 hi.2] at hp; cases hp
      · rw [h2 i hi]; exact hp, rfl⟩
    have side : ∀ i y p, (i, y) ∈ objs1 ++ objs0 → ρ' i = some p → ((i, y) ∈ objs1 ∧ ρ1 i = some p ∧ w.heap.size ≤ p.1) ∨ ((i, y) ∈ objs0 ∧ ρ i = some p) := fun i y p hm hp => by
      rcases List.mem_append.1 hm with hm | hm
      · obtain ⟨a, b, -⟩ := ho _ hm
        rw [h1 i a b] at hp
        exact .inl ⟨hm, hp, hy i p (by rw [in1 i y hm]; simp) hp⟩
      · have := h0 _ hm
        have this : i < n0 := this
        rw [h2 i (by omega)] at hp
        exact .inr ⟨hm, hp⟩
    refine ⟨u, ρ', rfl, ⟨hle, fun i p hp => ?_, hn, fun i hi => ?_, Nat.zero_le _, fun i _ hi => absurd hi (Nat.not_lt_zero i), on.size, on.os, on.tape, on.output, fun b hb _ => on.old b hb, fun i p hi hp => ?_, ⟨fun i y p hy1 hp => ?_, fun i j p q hi hj hp hq e => ?_⟩⟩, SVT.over o sx hux⟩
    · by_cases hi : n0 ≤ i ∧ i < N
      · exact .inr hi
      · rw [h2 i hi] at hp; exact .inl hp
    · cases hz : (SW.mk (heapOf (objs1 ++ objs0)) N 0).at i with
      | none => rfl
      | some y =>
        have hi : N ≤ i := hi
        rcases List.mem_append.1 (heapOf_at hz) with hm | hm
        · have a : i < N := (ho _ hm).2.1
          omega
        · have a : i < n0 := h0 _ hm
          omega
    · cases hz : (SW.mk (heapOf (objs1 ++ objs0)) N 0).at i with
      | none => exact absurd hz hi
      | some y =>
        rcases side i y p (heapOf_at hz) hp with ⟨-, -, g⟩ | ⟨hm, g⟩
        · exact .inr g
        · exact .inl ⟨i, p, by rw [in0 i y hm]; simp, g, rfl⟩
    · rcases side i y p (heapOf_at hy1) hp with ⟨hm, g, -⟩ | ⟨hm, g⟩
      · obtain ⟨ob, g1, g2⟩ := hw.obj i y p (in1 i y hm) g
        refine ⟨ob, g1, OVT.over o ?_ g2⟩
        show OVT ρ1.sig ρ.sig _ y y
        rw [hσ, hsig]
        exact (ho _ hm).2.2
      · obtain ⟨ob, g1, g2, g3⟩ := old i y p hm g
        exact ⟨ob, by rw [on.old p.1 g3]; exact g1, g2.mono hle⟩
    · cases hz : (SW.mk (heapOf (objs1 ++ objs0)) N 0).at i with
      | none => exact absurd hz hi
      | some y =>
        cases hz' : (SW.mk (heapOf (objs1 ++ objs0)) N 0).at j with
        | none => exact absurd hz' hj
        | some y' =>
          rcases side i y p (heapOf_at hz) hp with ⟨hm, g, k⟩ | ⟨hm, g⟩
          · rcases side j y' q (heapOf_at hz') hq with ⟨hm', g', k'⟩ | ⟨hm', g'⟩
            · exact hw.inj i j p q (by rw [in1 i y hm]; simp) (by rw [in1 j y' hm']; simp) g g' e
            · obtain ⟨-, -, -, k'⟩ := old j y' q hm' g'
              omega
          · rcases side j y' q (heapOf_at hz') hq with ⟨hm', g', k'⟩ | ⟨hm', g'⟩
            · obtain ⟨-, -, -, k⟩ := old i y p hm g
              omega
            · exact hok.wrel.inj i j p q (by rw [in0 i y hm]; simp) (by rw [in0 j y' hm']; simp) g g' e

/-! ### The inner check -/
/-- What the texts of the inner check stand for: the numbers; the four blocks that it reads. -/
def sigI (s P T : Int) (p1 p2 p3 p4 : Nat × Nat) (a b bb rn : Int) : Sig where
  var i := match i with | 0 => s | 1 => P | 6 => T | _ => 0
  fn _ _ := 0
  row a := match a with | 1 => (p1.1, p1.2, 1, 1) | 2 => (p2.1, p2.2, 1, 1) | 3 => (p3.1, p3.2, 1, 1) | 4 => (p4.1, p4.2, 1, 1) | _ => (0, 0, 0, 0)
  cell r _ _ := match r with | 1 => .int .i64 a | 2 => .int .i64 b | 3 => .int .i64 bb | 4 => .int .i64 rn | _ => .bool false
/-- A number lies there. -/
def NumAt (W : World) (p : Nat × Nat) (z : Int) : Prop := ∃ (arr : Array Value) (el : TypeId) (fz : Nat × Nat), W.heap[p.1]? = some (.cells arr el fz) ∧ arr[p.2]? = some (.int .i64 z)
section
variable {s P T : Int} {p1 p2 p3 p4 : Nat × Nat} {a b bb rn : Int}
theorem numK {F : List Fact} (hF : ∀ f ∈ F, f.holds (sigI s P T p1 p2 p3 p4 a b bb rn)) : NumOk (envK (sigI s P T p1 p2 p3 p4 a b bb rn) F) := fact_num rfl rfl hF fun r ks h => by
  have h : rowsC r = some ks := h
  unfold rowsC at h
  split at h <;> first | (simp only [Option.some.injEq] at h; subst h; rfl) | cases h
theorem liesK {W : World} (n1 : NumAt W p1 a) (n2 : NumAt W p2 b) (n3 : NumAt W p3 bb) (n4 : NumAt W p4 rn) (F : List Fact) : RX.Lies (envK (sigI s P T p1 p2 p3 p4 a b bb rn) F) W where
  cells g cs hg := by cases hg
  rows r ks hr := by
    have hr : rowsC r = some ks := hr
    have one : ∀ (p : Nat × Nat) (z : Int) (c : Value), NumAt W p z → c = .int .i64 z → ∃ (b x n : Nat) (arr : Array Value) (el : TypeId) (fz : Nat × Nat), ((p.1, p.2, 1, 1) : Nat × Nat × Nat × Nat) = (b, x, 1, n) ∧ W.heap[b]? = some (.cells arr el fz) ∧
        ∀ (i j : Nat) (k : Option IntKind), i < n → [some IntKind.i64][j]? = some k → arr[x + i * 1 + j]? = some c ∧ (match k with | some k => ∃ z, c = .int k z | none => c.oneCell' = true) := fun p z c ⟨arr, el, fz, h1, h2⟩ hc => by
      refine ⟨p.1, p.2, 1, arr, el, fz, rfl, h1, fun i j k hi hj => ?_⟩
      have hj0 : j = 0 := by
        by_cases g : j = 0
        · exact g
        · rw [List.getElem?_eq_none (by simp; omega)] at hj; cases hj
      subst hj0
      have hi0 : i = 0 := by omega
      subst hi0
      simp at hj
      subst hj
      subst hc
      exact ⟨h2, z, rfl⟩
    unfold rowsC at hr
    split at hr
    · simp only [Option.some.injEq] at hr; subst hr; exact one p1 a _ n1 rfl
    · simp only [Option.some.injEq] at hr; subst hr; exact one p2 b _ n2 rfl
    · simp only [Option.some.injEq] at hr; subst hr; exact one p3 bb _ n3 rfl
    · simp only [Option.some.injEq] at hr; subst hr; exact one p4 rn _ n4 rfl
    · cases hr
theorem insig : InSig (sigI s P T p1 p2 p3 p4 a b bb rn) s P a b bb rn T := ⟨rfl, rfl, rfl, rfl, rfl, rfl, rfl⟩
/-- A job's value, of which only these numbers matter. -/
def jobV (c0 : Value) (l1 l2 : List Value) (s P T : Int) : Value := .agg (c0 :: .int .i64 2 :: .int .u64 0 :: .int .u64 0 :: .int .u64 0 :: .int .u64 0 :: .int .u64 0 :: .int .u64 0 :: .bool false :: .bool false :: .int .i64 0 :: .int .i64 s :: .int .i64 P :: .int .i64 0 :: .slice none 0 0 :: (l1 ++ .int .i64 T :: l2)).toArray
def addrV (p : Nat × Nat) : Value := .pointer (some ⟨p.1, p.2, none⟩)
theorem inner_run {F : List Fact} {r : Bool} (hF : ∀ f ∈ F, f.holds (sigI s P T p1 p2 p3 p4 a b bb rn)) (hr : runK (sigI s P T p1 p2 p3 p4 a b bb rn) F r = true) {W : World} (n1 : NumAt W p1 a) (n2 : NumAt W p2 b) (n3 : NumAt W p3 bb) (n4 : NumAt W p4 rn)
    {c0 : Value} {l1 l2 : List Value} (h0 : c0.oneCell' = true) (e1 : l1.length = 6) (e2 : l2.length = 8) (h1 : ∀ v ∈ l1, v.oneCell' = true) (h2 : ∀ v ∈ l2, v.oneCell' = true) :
    Calls Tryz.prog 18 #[jobV c0 l1 l2 s P T, addrV p1, addrV p2, addrV p3, addrV p4] W fun e w' => e = .returned (.bool r) ∧ On W w' := by
  unfold runK at hr
  obtain ⟨S', hr⟩ := isBool_some hr
  have bl : ∀ {l : List Value} {n : Nat}, l.length = n → (∀ v ∈ l, v.oneCell' = true) → VRels (.nil (sigI s P T p1 p2 p3 p4 a b bb rn)) (List.replicate n SV.blur) l := fun {l n} hl hv => by
    subst hl
    induction l with
    | nil => exact .nil
    | cons v l ih => exact .cons (.blur v (hv v (by simp))) (ih fun x hx => hv x (List.mem_cons_of_mem _ hx))
  have app : ∀ {x y : List SV} {u w : List Value}, VRels (.nil (sigI s P T p1 p2 p3 p4 a b bb rn)) x u → VRels (.nil (sigI s P T p1 p2 p3 p4 a b bb rn)) y w → VRels (.nil (sigI s P T p1 p2 p3 p4 a b bb rn)) (x ++ y) (u ++ w) := fun {x y u w} h k => h.append k
  have hp : ∀ (r : Nat) (p : Nat × Nat), (sigI s P T p1 p2 p3 p4 a b bb rn).row r = (p.1, p.2, 1, 1) → VRel (.nil (sigI s P T p1 p2 p3 p4 a b bb rn)) (ptrC r) (addrV p) := fun r p h => by
    have := VRel.rptr (ρ := .nil (sigI s P T p1 p2 p3 p4 a b bb rn)) (i := .lit 0) (off := 0) h (Int.le_refl _) (by show (0 : Int) < 1; decide)
    exact this
  have hargs : VRels (.nil (sigI s P T p1 p2 p3 p4 a b bb rn)) argK [jobV c0 l1 l2 s P T, addrV p1, addrV p2, addrV p3, addrV p4] := by
    refine .cons (.agg ?_) (.cons (hp 1 p1 rfl) (.cons (hp 2 p2 rfl) (.cons (hp 3 p3 rfl) (.cons (hp 4 p4 rfl) .nil))))
    refine .cons (.blur _ h0) (.cons (.int _ _) (.cons (.int _ _) (.cons (.int _ _) (.cons (.int _ _) (.cons (.int _ _) (.cons (.int _ _) (.cons (.int _ _) (.cons (.bool _) (.cons (.bool _) (.cons (.int _ _) (.cons (.sint .i64 (.var 0)) (.cons (.sint .i64 (.var 1)) (.cons (.int _ _) (.cons .nilslice ?_))))))))))))))
    exact app (x := List.replicate 6 .blur) (y := .sint .i64 (.var 6) :: List.replicate 8 .blur) (bl e1 h1) (.cons (.sint .i64 (.var 6)) (bl e2 h2))
  exact run_bool (E := envK (sigI s P T p1 p2 p3 p4 a b bb rn) F) (K := noC) (d := 40) (f := 18) (args := argK) (known_nothing _) hr hargs (numK hF) (liesK n1 n2 n3 n4 F)

variable {W : World} {c0 : Value} {l1 l2 : List Value}
theorem inner_true (hk : InAsk s P a b) (f0 : 0 ≤ bb ∧ bb ≤ 1000000) (f1 : 0 ≤ rn ∧ rn ≤ 1000000) (f2 : 0 ≤ T ∧ T ≤ 1000000) (hl : bb + (if rn < T then T else rn) ≤ P) (h3 : b < due s P a + 3 * P) (n1 : NumAt W p1 a) (n2 : NumAt W p2 b) (n3 : NumAt W p3 bb) (n4 : NumAt W p4 rn) (h0 : c0.oneCell' = true) (e1 : l1.length = 6) (e2 : l2.length = 8) (h1 : ∀ v ∈ l1, v.oneCell' = true) (h2 : ∀ v ∈ l2, v.oneCell' = true) :
    Calls Tryz.prog 18 #[jobV c0 l1 l2 s P T, addrV p1, addrV p2, addrV p3, addrV p4] W fun e w' => e = .returned (.bool true) ∧ On W w' := by
  have hσ : InSig (sigI s P T p1 p2 p3 p4 a b bb rn) s P a b bb rn T := insig
  have hno : P < bb + (if rn < T then T else rn) ↔ false = true := no (by omega)
  have p2' := hk.p2
  -- of a kind, with so many times
  have go : ∀ {q : Kd} {x : Int}, Begins (sigI s P T p1 p2 p3 p4 a b bb rn) q s P a b x → b < x + 3 * P → (b < x → runK (sigI s P T p1 p2 p3 p4 a b bb rn) (q.all false 0) true = true) → (∀ c, c < 3 → runK (sigI s P T p1 p2 p3 p4 a b bb rn) (q.all false (c + 1)) true = true) →
      Calls Tryz.prog 18 #[jobV c0 l1 l2 s P T, addrV p1, addrV p2, addrV p3, addrV p4] W fun e w' => e = .returned (.bool true) ∧ On W w' := fun {q x} hb h3 r0 rs => by
    by_cases c0' : b < x
    · exact inner_run (all_none hσ hk hb c0') (r0 c0') n1 n2 n3 n4 h0 e1 e2 h1 h2
    · have : ∃ c : Nat, c < 3 ∧ x + c * P ≤ b ∧ b < x + c * P + P := by
        by_cases g1 : b < x + P
        · exact ⟨0, by decide, by omega, by omega⟩
        · by_cases g2 : b < x + 2 * P
          · exact ⟨1, by decide, by omega, by omega⟩
          · exact ⟨2, by decide, by omega, by omega⟩
      obtain ⟨c, hc, g1, g2⟩ := this
      exact inner_run (all_some hσ hk hb f0 f1 f2 hno c g1 g2) (rs c hc) n1 n2 n3 n4 h0 e1 e2 h1 h2
  have three : ∀ {p : Nat → Prop}, p 0 → p 1 → p 2 → ∀ c, c < 3 → p c := fun {p} a b c n hn => by
    have : n = 0 ∨ n = 1 ∨ n = 2 := by omega
    rcases this with e | e | e <;> subst e <;> assumption
  by_cases c1 : a < s
  · rw [due_fore (by omega)] at h3
    exact go (begins_fore hσ hk c1) h3 (fun _ => k_fore0 _) (three (k_fore1 _) (k_fore2 _) (k_fore3 _))
  · by_cases c2 : a = s
    · rw [due_fore (by omega)] at h3
      exact go (begins_start hσ hk c2) h3 (fun g => by have := hk.ab; omega) (three (k_start1 _) (k_start2 _) (k_start3 _))
    · have c3 : s < a := by omega
      by_cases c4 : due s P a = a
      · rw [c4] at h3
        exact go (begins_on hσ hk c3 c4) h3 (fun g => by have := hk.ab; omega) (three (k_on1 _) (k_on2 _) (k_on3 _))
      · exact go (begins_off hσ hk c3 c4) h3 (fun _ => k_off0 _) (three (k_off1 _) (k_off2 _) (k_off3 _))
theorem inner_false (hk : InAsk s P a b) (f0 : 0 ≤ bb ∧ bb ≤ 1000000) (f1 : 0 ≤ rn ∧ rn ≤ 1000000) (f2 : 0 ≤ T ∧ T ≤ 1000000) (hl : P < bb + (if rn < T then T else rn)) (ha : a < s) (hb1 : s + 2 * P ≤ b) (hb2 : b < s + 3 * P) (n1 : NumAt W p1 a) (n2 : NumAt W p2 b) (n3 : NumAt W p3 bb) (n4 : NumAt W p4 rn) (h0 : c0.oneCell' = true) (e1 : l1.length = 6) (e2 : l2.length = 8) (h1 : ∀ v ∈ l1, v.oneCell' = true) (h2 : ∀ v ∈ l2, v.oneCell' = true) :
    Calls Tryz.prog 18 #[jobV c0 l1 l2 s P T, addrV p1, addrV p2, addrV p3, addrV p4] W fun e w' => e = .returned (.bool false) ∧ On W w' :=
  inner_run (all_some insig hk (begins_fore insig hk ha) f0 f1 f2 (yes hl) 2 (by omega) (by omega)) (k_gap _) n1 n2 n3 n4 h0 e1 e2 h1 h2
end
end Go.Proofs.YtoafolgibimgjaaGreatDoor

/- BoundParts: its numbers. -/
set_option linter.all false
set_option maxRecDepth 100000
namespace Go.Proofs.YtoafolgibimgjaaGreatDoor
open Go.RX Go.RX.Sym

def sigW (u v : Setup) (nmv : Nat → Int) (ex : Nat → Int) : Sig := ⟨fun i => if i < 20 then v.var i else if i < 100 then nmv i else ex i, fnG, (sigG u).row, (sigG u).cell⟩
structure Mp (v : Setup) (k : Nat) : Prop where
  small : v.Small
  six : 0 ≤ v.var 6 ∧ v.var 6 ≤ 255
  k1 : 1 ≤ k
  k5 : k ≤ 5
  is : min v.n 5 = k
def hiOf (k : Nat) : Int := if k = 5 then 9223372036854775807 else (k : Int)
theorem low_1 : rngIn (bounds 1 1 1) (bE 1) (some (2, 200)) = true := by kernel_rfl
theorem low_2 : rngIn (bounds 2 2 2) (bE 2) (some (2, 200)) = true := by kernel_rfl
theorem low_3 : rngIn (bounds 3 3 3) (bE 3) (some (2, 200)) = true := by kernel_rfl
theorem low_4 : rngIn (bounds 4 4 4) (bE 4) (some (2, 200)) = true := by kernel_rfl
theorem low_5 : rngIn (bounds 5 9223372036854775807 5) (bE 5) (some (2, 200)) = true := by kernel_rfl
section
variable {u v : Setup} {k : Nat}
theorem Mp.lohi (h : Mp v k) : (k : Int) ≤ v.n ∧ (v.n : Int) ≤ hiOf k := by
  have h1 := h.is
  have h2 := h.k5
  have h3 := h.small.few
  unfold hiOf
  split <;> omega
theorem names_of (h1 : 1 ≤ k) (h5 : k ≤ 5) : namesOk k (hiOf k) k (upTo 100) = true ∧ rngIn (bounds k (hiOf k) k) (bE k) (some (2, 200)) = true := by
  have : k = 1 ∨ k = 2 ∨ k = 3 ∨ k = 4 ∨ k = 5 := by omega
  rcases this with e | e | e | e | e <;> subst e
  · exact ⟨names_1, low_1⟩
  · exact ⟨names_2, low_2⟩
  · exact ⟨names_3, low_3⟩
  · exact ⟨names_4, low_4⟩
  · exact ⟨names_5, low_5⟩
theorem Mp.range (h : Mp v k) {i : Nat} {t : Int × Int} (hb : boundsN k i = some t) : t.1 ≤ nm v k i ∧ nm v k i ≤ t.2 :=
  nm_range h.small h.k5 h.lohi.1 h.lohi.2 h.is (names_of h.k1 h.k5).1 hb
theorem Mp.named (h : Mp v k) (ex : Nat → Int) : Named v k (sigW u v (nm v k) ex) := fun i h1 h2 => by
  show (if i < 20 then v.var i else if i < 100 then nm v k i else ex i) = _
  rw [if_neg (by omega), if_pos h2]
theorem bN40 {i : Nat} (hi : i < k) (hk : k ≤ 5) : boundsN k (40 + i) = some (1001, 1300) := by
  unfold boundsN
  rw [if_neg (by omega), if_neg (by omega), if_pos (by omega)]
theorem bN50 {i : Nat} (hi : i < k) (hk : k ≤ 5) : boundsN k (50 + i) = some (0, 7) := by
  unfold boundsN
  rw [if_neg (by omega), if_neg (by omega), if_neg (by omega), if_neg (by omega), if_pos (by omega)]
theorem bN60 {i : Nat} (hi : i < k) (hk : k ≤ 5) : boundsN k (60 + i) = some (0, 7) := by
  unfold boundsN
  rw [if_neg (by omega), if_neg (by omega), if_neg (by omega), if_neg (by omega), if_neg (by omega), if_neg (by omega), if_pos (by omega)]
theorem bN80 {i : Nat} (hi : i < k) (hk : k ≤ 5) : boundsN k (80 + i) = some (0, 5) := by
  unfold boundsN
  rw [if_neg (by omega), if_neg (by omega), if_neg (by omega), if_neg (by omega), if_neg (by omega), if_neg (by omega), if_neg (by omega), if_neg (by omega), if_neg (by omega), if_neg (by omega), if_pos (by omega)]
theorem bN90 {i : Nat} (hi : i < k) (hk : k ≤ 5) : boundsN k (90 + i) = some (0, 11) := by
  unfold boundsN
  rw [if_neg (by omega), if_neg (by omega), if_neg (by omega), if_neg (by omega), if_neg (by omega), if_neg (by omega), if_neg (by omega), if_neg (by omega), if_neg (by omega), if_neg (by omega), if_neg (by omega), if_neg (by omega), if_pos (by omega)]

/-- The period; when the jobs begin; the bound. -/
noncomputable def per (v : Setup) (k : Nat) : Int := nm v k 30
noncomputable def sta (v : Setup) (k i : Nat) : Int := nm v k (40 + i)
noncomputable def bnd (v : Setup) (k : Nat) : Int := nm v k 31
theorem Mp.perR (h : Mp v k) : 1 ≤ per v k ∧ per v k ≤ 200 := h.range (i := 30) rfl
theorem Mp.bndR (h : Mp v k) : 2 ≤ bnd v k ∧ bnd v k ≤ 200 := by
  have h3' : ((min v.n 5 : Nat) : Int) = ((k : Nat) : Int) := by rw [h.is]
  exact rngIn_some (names_of h.k1 h.k5).2 (based_G h.small h.lohi.1 h.lohi.2 h3')
theorem rem_op {x y : Int} (hx : 0 ≤ x) (hy : 1 ≤ y) (hm : y ≤ 1000000) : opVal .rem .i64 x y = x % y := by
  have h1 : Int.tmod x y = x % y := Int.tmod_eq_emod_of_nonneg hx
  have h2 : 0 ≤ x % y := Int.emod_nonneg _ (by omega)
  have h3 : x % y < y := Int.emod_lt_of_pos _ (by omega)
  have hz : eqb y (.ofNat 0) = false := by
    rw [eqb_eq]
    exact decide_eq_false (by show ¬ (y = 0); omega)
  exact opVal_int (op := .rem) (k := .i64) (x := x) (y := y) (n := x % y) (by simp) (by simp) (by simp only [intOp, hz]; rw [int_eq, h1])
theorem rem_u8 {x y : Int} (hx : 0 ≤ x) (hy : 1 ≤ y) : opVal .rem .u8 x y = x % y := by
  have h1 : Int.tmod x y = x % y := Int.tmod_eq_emod_of_nonneg hx
  have hz : eqb y (.ofNat 0) = false := by
    rw [eqb_eq]
    exact decide_eq_false (by show ¬ (y = 0); omega)
  exact opVal_int (op := .rem) (k := .u8) (x := x) (y := y) (n := x % y) (by simp) (by simp) (by simp only [intOp, hz]; rw [int_eq, h1])
theorem cv8_val {σ : Sig} {e : IE} {x m : Int} (h : e.val σ = x) (h0 : 0 ≤ x) (hm : 1 ≤ m) (hm2 : m ≤ 255) : (cv8 e m).val σ = x % m := by
  have h2 : 0 ≤ x % m := Int.emod_nonneg _ (by omega)
  have h3 : x % m < m := Int.emod_lt_of_pos _ (by omega)
  show IntKind.i64.wrap (opVal .rem .u8 (e.val σ) m) = _
  rw [h, rem_u8 h0 hm, Fits.wrap ⟨by omega, by omega⟩]
theorem Mp.staR (h : Mp v k) {i : Nat} (hi : i < k) : 1001 ≤ sta v k i ∧ sta v k i ≤ 1000 + per v k := by
  have hp := h.perR
  have e : sta v k i = (stE k i).val (sigG v) := by
    have := h.k5
    unfold sta nm nameE
    rw [if_neg (by omega), if_pos (by omega), show 40 + i - 40 = i by omega]
  have e2 : (pE k).val (sigG v) = per v k := rfl
  have hc := h.small.cell (Int.toNat i) 0
  have hw : IntKind.i64.wrap (v.cell (Int.toNat i) 0) = v.cell (Int.toNat i) 0 := Fits.wrap ⟨by omega, by omega⟩
  have h2 : 0 ≤ v.cell (Int.toNat i) 0 % per v k := Int.emod_nonneg _ (by omega)
  have h3 : v.cell (Int.toNat i) 0 % per v k < per v k := Int.emod_lt_of_pos _ (by omega)
  have e3 : (stE k i).val (sigG v) = 1001 + v.cell (Int.toNat i) 0 % per v k := by
    show opVal .add .i64 1001 (opVal .rem .i64 (IntKind.i64.wrap (v.cell (Int.toNat i) 0)) ((pE k).val (sigG v))) = _
    rw [hw, e2, rem_op hc.1 hp.1 (by omega), add_op ⟨by omega, by omega⟩]
  rw [e, e3]
  omega
theorem Mp.zero (h : Mp v k) {i : Nat} (hi : i < k) : nm v k (80 + i) = 0 → nm v k (90 + i) = 0 := by
  have := h.k5
  have e1 : nm v k (80 + i) = fnG 1 (IE.vals (sigG v) [selT i 3, selT i 4]) := by
    unfold nm nameE
    rw [if_neg (by omega), if_neg (by omega), if_neg (by omega), if_neg (by omega), if_neg (by omega), if_pos (by omega), show 80 + i - 80 = i by omega]
    rfl
  have e2 : nm v k (90 + i) = fnG 2 (IE.vals (sigG v) [selT i 3, selT i 4]) := by
    unfold nm nameE
    rw [if_neg (by omega), if_neg (by omega), if_neg (by omega), if_neg (by omega), if_neg (by omega), if_neg (by omega), if_pos (by omega), show 90 + i - 90 = i by omega]
    rfl
  rw [e1, e2]
  exact fn_zero _
theorem Mp.zeroG (h : Mp v k) : nm v k 25 = 0 → nm v k 26 = 0 := fun e => fn_zero (IE.vals (sigG v) [.var 3, .var 4]) e
/-- Deadlines are not below the bound. -/
theorem Mp.dl (h : Mp v k) {i : Nat} (hi : i < k) : bnd v k ≤ nm v k (70 + i) := by
  have hb := h.bndR
  have := h.k5
  have e : nm v k (70 + i) = (dlE k i).val (sigG v) := by
    unfold nm nameE
    rw [if_neg (by omega), if_neg (by omega), if_neg (by omega), if_neg (by omega), if_pos (by omega), show 70 + i - 70 = i by omega]
  have hc := h.small.cell (Int.toNat i) 5
  have hr := cv8_val (σ := sigG v) (e := selT i 5) (x := v.cell (Int.toNat i) 5) (m := 4) rfl hc.1 (by decide) (by decide)
  have h2 : 0 ≤ v.cell (Int.toNat i) 5 % 4 := Int.emod_nonneg _ (by decide)
  have h3 : v.cell (Int.toNat i) 5 % 4 < 4 := Int.emod_lt_of_pos _ (by decide)
  have e3 : (dlE k i).val (sigG v) = bnd v k + v.cell (Int.toNat i) 5 % 4 := by
    show opVal .add .i64 ((bE k).val (sigG v)) ((cv8 (selT i 5) 4).val (sigG v)) = _
    rw [hr, show (bE k).val (sigG v) = bnd v k from rfl, add_op ⟨by omega, by omega⟩]
  rw [e, e3]
  omega
theorem fold_max {σ : Sig} {z : IE} {f : Nat → IE} : ∀ j, z.val σ ≤ (foldE .max z f j).val σ ∧ ∀ i, i < j → (f i).val σ ≤ (foldE .max z f j).val σ
  | 0 => ⟨Int.le_refl _, fun i hi => by omega⟩
  | j + 1 => by
    obtain ⟨h1, h2⟩ := fold_max (σ := σ) (z := z) (f := f) j
    have e : (foldE .max z f (j + 1)).val σ = if (foldE .max z f j).val σ < (f j).val σ then (f j).val σ else (foldE .max z f j).val σ := rfl
    rw [e]
    refine ⟨by split <;> omega, fun i hi => ?_⟩
    by_cases c : i = j
    · subst c; split <;> omega
    · have := h2 i (by omega)
      split <;> omega
/-- The period leaves room for the bound and a run. -/
theorem Mp.room (h : Mp v k) {i : Nat} (hi : i < k) : bnd v k + (if nm v k 27 < nm v k (80 + i) then nm v k (80 + i) else nm v k 27) ≤ per v k ∧ bnd v k + nm v k 27 ≤ per v k := by
  have hb := h.bndR
  have h5 := h.k5
  obtain ⟨f1, f2⟩ := fold_max (σ := sigG v) (z := runE) (f := tE) k
  have f2 := f2 i hi
  have e1 : nm v k 27 = runE.val (sigG v) := rfl
  have e2 : nm v k (80 + i) = (tE i).val (sigG v) := by
    unfold nm nameE
    rw [if_neg (by omega), if_neg (by omega), if_neg (by omega), if_neg (by omega), if_neg (by omega), if_pos (by omega), show 80 + i - 80 = i by omega]
  have r1 := h.range (i := 27) rfl
  have r2 := h.range (bN80 hi h5)
  have up : (limE k).val (sigG v) ≤ 5 := by
    have : ∀ j, j ≤ k → (foldE .max runE tE j).val (sigG v) ≤ 5 := by
      intro j
      induction j with
      | zero => intro _; show runE.val (sigG v) ≤ 5; rw [← e1]; have : nm v k 27 ≤ 4 := r1.2; omega
      | succ j ih =>
        intro hj
        have e : (foldE .max runE tE (j + 1)).val (sigG v) = if (foldE .max runE tE j).val (sigG v) < (tE j).val (sigG v) then (tE j).val (sigG v) else (foldE .max runE tE j).val (sigG v) := rfl
        have r := h.range (bN80 (i := j) (by omega) h5)
        have e3 : nm v k (80 + j) = (tE j).val (sigG v) := by
          unfold nm nameE
          rw [if_neg (by omega), if_neg (by omega), if_neg (by omega), if_neg (by omega), if_neg (by omega), if_pos (by omega), show 80 + j - 80 = j by omega]
        rw [e3] at r
        have r2 : (tE j).val (sigG v) ≤ 5 := r.2
        have := ih (by omega)
        rw [e]; split <;> omega
    exact this k (Nat.le_refl _)
  have f1 : runE.val (sigG v) ≤ (limE k).val (sigG v) := f1
  have f2 : (tE i).val (sigG v) ≤ (limE k).val (sigG v) := f2
  have r1a : 1 ≤ nm v k 27 := r1.1
  have hP : bnd v k + (limE k).val (sigG v) ≤ per v k := by
    have e : per v k = if opVal .add .i64 ((bE k).val (sigG v)) ((limE k).val (sigG v)) < (winE k).val (sigG v) then (winE k).val (sigG v) else opVal .add .i64 ((bE k).val (sigG v)) ((limE k).val (sigG v)) := rfl
    rw [show (bE k).val (sigG v) = bnd v k from rfl, add_op ⟨by omega, by omega⟩] at e
    rw [e]; split <;> omega
  rw [e1, e2]
  constructor
  · split <;> omega
  · omega

variable {ex : Nat → Int}
theorem w_low {i : Nat} (h : i < 20) : IE.val (sigW u v (nm v k) ex) (.var i) = v.var i := by
  show (if i < 20 then v.var i else _) = _
  rw [if_pos h]
theorem w_nm {i : Nat} (h : 20 ≤ i) (h2 : i < 100) : IE.val (sigW u v (nm v k) ex) (.var i) = nm v k i := by
  show (if i < 20 then v.var i else if i < 100 then nm v k i else ex i) = _
  rw [if_neg (by omega), if_pos h2]
theorem w_ex {i : Nat} (h : 100 ≤ i) : IE.val (sigW u v (nm v k) ex) (.var i) = ex i := by
  show (if i < 20 then v.var i else if i < 100 then nm v k i else ex i) = _
  rw [if_neg (by omega), if_neg (by omega)]
theorem nm_sp {i : Nat} (hi : i < 5) : nm v k (60 + i) = (spE i).val (sigG v) := by
  unfold nm nameE
  rw [if_neg (by omega), if_neg (by omega), if_neg (by omega), if_pos (by omega), show 60 + i - 60 = i by omega]
theorem nm_pr {i : Nat} (hi : i < 5) : nm v k (50 + i) = (prE i).val (sigG v) := by
  unfold nm nameE
  rw [if_neg (by omega), if_neg (by omega), if_pos (by omega), show 50 + i - 50 = i by omega]
theorem sum_val : ∀ j, j ≤ 5 → (sumX j).val (sigW u v (nm v k) ex) = (sumE j).val (sigG v)
  | 0, _ => rfl
  | j + 1, hj => by
    show (if (sumX j).val _ < IE.val _ (.var (60 + j)) then IE.val _ (.var (60 + j)) else (sumX j).val _) = (if (sumE j).val (sigG v) < (spE j).val (sigG v) then (spE j).val (sigG v) else (sumE j).val (sigG v))
    rw [sum_val j (by omega), w_nm (by omega) (by omega), nm_sp (by omega)]
theorem bound_val (h : Mp v k) : (boundX k).val (sigW u v (nm v k) ex) = bnd v k := by
  have e1 : IE.val (sigG v) (.len 1) = (k : Int) := by
    show ((min v.n 5 : Nat) : Int) = _
    rw [h.is]
  show opVal .add .i64 ((sumX k).val _) (opVal .mul .i64 (opVal .add .i64 (k : Int) (IE.val _ (.var 28))) (if IE.val _ (.var 27) < IE.val _ (.var 25) then IE.val _ (.var 25) else IE.val _ (.var 27))) = opVal .add .i64 ((sumE k).val (sigG v)) (opVal .mul .i64 (opVal .add .i64 (IE.val (sigG v) (.len 1)) (IE.val (sigG v) (.len 1))) (if runE.val (sigG v) < gtE.val (sigG v) then gtE.val (sigG v) else runE.val (sigG v)))
  rw [sum_val k h.k5, w_nm (by decide) (by decide), w_nm (by decide) (by decide), w_nm (by decide) (by decide), e1, show nm v k 28 = IE.val (sigG v) (.len 1) from rfl, e1]
  rfl
/-- Greatest and smallest priority. -/
theorem high_val (h : Mp v k) : ∀ j, 1 ≤ j → j ≤ k → (highX j).val (sigW u v (nm v k) ex) = (highE j).val (sigG v) ∧ 0 ≤ (highX j).val (sigW u v (nm v k) ex) ∧ (highX j).val (sigW u v (nm v k) ex) ≤ 7 ∧ nm v k 50 ≤ (highX j).val (sigW u v (nm v k) ex)
  | 1, _, hj => by
    have r := h.range (bN50 (i := 0) (by omega) h.k5)
    have r1 : 0 ≤ nm v k 50 := r.1
    have r2 : nm v k 50 ≤ 7 := r.2
    have e : (highX 1).val (sigW u v (nm v k) ex) = nm v k 50 := w_nm (by decide) (by decide)
    have e2 : (highE 1).val (sigG v) = if (0 : Int) < (prE 0).val (sigG v) then (prE 0).val (sigG v) else 0 := rfl
    have e3 : nm v k 50 = (prE 0).val (sigG v) := nm_pr (i := 0) (by decide)
    rw [e, e2, ← e3]
    refine ⟨by split <;> omega, r1, r2, Int.le_refl _⟩
  | j + 2, _, hj => by
    obtain ⟨h1, h2, h3, h4⟩ := high_val h (j + 1) (by omega) (by omega)
    have hk := h.k5
    have r := h.range (bN50 (i := j + 1) (by omega) hk)
    have r1 : 0 ≤ nm v k (50 + (j + 1)) := r.1
    have r2 : nm v k (50 + (j + 1)) ≤ 7 := r.2
    have e : (highX (j + 2)).val (sigW u v (nm v k) ex) = if (highX (j + 1)).val (sigW u v (nm v k) ex) < IE.val (sigW u v (nm v k) ex) (.var (50 + (j + 1))) then IE.val (sigW u v (nm v k) ex) (.var (50 + (j + 1))) else (highX (j + 1)).val (sigW u v (nm v k) ex) := rfl
    have e2 : (highE (j + 2)).val (sigG v) = if (highE (j + 1)).val (sigG v) < (prE (j + 1)).val (sigG v) then (prE (j + 1)).val (sigG v) else (highE (j + 1)).val (sigG v) := rfl
    rw [w_nm (by omega) (by omega)] at e
    rw [e, e2, ← nm_pr (k := k) (by omega), ← h1]
    refine ⟨rfl, by split <;> omega, by split <;> omega, by split <;> omega⟩
theorem low_val (h : Mp v k) : ∀ j, 1 ≤ j → j ≤ k → (lowX j).val (sigW u v (nm v k) ex) = (lowE j).val (sigG v) ∧ 0 ≤ (lowX j).val (sigW u v (nm v k) ex) ∧ (lowX j).val (sigW u v (nm v k) ex) ≤ nm v k 50
  | 1, _, hj => by
    have r := h.range (bN50 (i := 0) (by omega) h.k5)
    have r1 : 0 ≤ nm v k 50 := r.1
    have r2 : nm v k 50 ≤ 7 := r.2
    have e : (lowX 1).val (sigW u v (nm v k) ex) = nm v k 50 := w_nm (by decide) (by decide)
    have e2 : (lowE 1).val (sigG v) = if (prE 0).val (sigG v) < (100 : Int) then (prE 0).val (sigG v) else 100 := rfl
    have e3 : nm v k 50 = (prE 0).val (sigG v) := nm_pr (i := 0) (by decide)
    rw [e, e2, ← e3]
    refine ⟨by split <;> omega, r1, Int.le_refl _⟩
  | j + 2, _, hj => by
    obtain ⟨h1, h2, h3⟩ := low_val h (j + 1) (by omega) (by omega)
    have hk := h.k5
    have r := h.range (bN50 (i := j + 1) (by omega) hk)
    have r1 : 0 ≤ nm v k (50 + (j + 1)) := r.1
    have e : (lowX (j + 2)).val (sigW u v (nm v k) ex) = if IE.val (sigW u v (nm v k) ex) (.var (50 + (j + 1))) < (lowX (j + 1)).val (sigW u v (nm v k) ex) then IE.val (sigW u v (nm v k) ex) (.var (50 + (j + 1))) else (lowX (j + 1)).val (sigW u v (nm v k) ex) := rfl
    have e2 : (lowE (j + 2)).val (sigG v) = if (prE (j + 1)).val (sigG v) < (lowE (j + 1)).val (sigG v) then (prE (j + 1)).val (sigG v) else (lowE (j + 1)).val (sigG v) := rfl
    rw [w_nm (by omega) (by omega)] at e
    rw [e, e2, ← nm_pr (k := k) (by omega), ← h1]
    refine ⟨rfl, by split <;> omega, by split <;> omega⟩
theorem sum_range (h : Mp v k) : ∀ j, j ≤ k → 0 ≤ (sumX j).val (sigW u v (nm v k) ex) ∧ (sumX j).val (sigW u v (nm v k) ex) ≤ 7
  | 0, _ => ⟨Int.le_refl _, by show (0 : Int) ≤ 7; decide⟩
  | j + 1, hj => by
    have := sum_range h j (by omega)
    have hk := h.k5
    have r := h.range (bN60 (i := j) (by omega) hk)
    have r1 : 0 ≤ nm v k (60 + j) := r.1
    have r2 : nm v k (60 + j) ≤ 7 := r.2
    have e : (sumX (j + 1)).val (sigW u v (nm v k) ex) = if (sumX j).val (sigW u v (nm v k) ex) < IE.val (sigW u v (nm v k) ex) (.var (60 + j)) then IE.val (sigW u v (nm v k) ex) (.var (60 + j)) else (sumX j).val (sigW u v (nm v k) ex) := rfl
    rw [w_nm (by omega) (by omega)] at e
    rw [e]
    constructor <;> split <;> omega
theorem prod_le {x y : Int} (h0 : 0 ≤ x) (h1 : x ≤ 7) (h2 : 1 ≤ y) (h3 : y ≤ 4) : 0 ≤ x * y ∧ x * y ≤ 28 := by
  have : y = 1 ∨ y = 2 ∨ y = 3 ∨ y = 4 := by omega
  rcases this with e | e | e | e <;> subst e <;> omega
theorem winY_val {hE lE sE : IE} {σ : Sig} {H L S A : Int} (e1 : hE.val σ = H) (e2 : lE.val σ = L) (e3 : sE.val σ = S) (e4 : IE.val σ (.var 23) = A) (h0 : 0 ≤ H - L) (h1 : H - L ≤ 7) (h2 : 0 ≤ S) (h3 : S ≤ 7) (h4 : 1 ≤ A) (h5 : A ≤ 4) (h6 : 0 ≤ L) (h7 : H ≤ 7) : (winY hE lE sE).val σ = (H - L) * A + S + 1 := by
  have := prod_le h0 h1 h4 h5
  show opVal .add .i64 (opVal .add .i64 (opVal .mul .i64 (opVal .sub .i64 (hE.val σ) (lE.val σ)) (IE.val σ (.var 23))) (sE.val σ)) 1 = _
  rw [e1, e2, e3, e4, sub_op ⟨by omega, by omega⟩, mul_op ⟨by omega, by omega⟩, add_op (x := (H - L) * A) (y := S) ⟨by omega, by omega⟩, add_op ⟨by omega, by omega⟩]
theorem win_val (h : Mp v k) {m : Nat} : ∃ w, (winX k m).val (sigW u v (nm v k) ex) = w ∧ 1 ≤ w ∧ w ≤ per v k ∧ w ≤ 36 := by
  obtain ⟨a1, a2, a3, a4⟩ := high_val (u := u) (ex := ex) h k h.k1 (Nat.le_refl _)
  obtain ⟨b1, b2, b3⟩ := low_val (u := u) (ex := ex) h k h.k1 (Nat.le_refl _)
  obtain ⟨c1, c2⟩ := sum_range (u := u) (ex := ex) h k (Nat.le_refl _)
  have r := h.range (i := 23) rfl
  have r1 : 1 ≤ nm v k 23 := r.1
  have r2 : nm v k 23 ≤ 4 := r.2
  have hA : IE.val (sigW u v (nm v k) ex) (.var 23) = nm v k 23 := w_nm (by decide) (by decide)
  have hb := h.bndR
  have hsv := sum_val (u := u) (v := v) (k := k) (ex := ex) k h.k5
  generalize hH : (highX k).val (sigW u v (nm v k) ex) = H at *
  generalize hL : (lowX k).val (sigW u v (nm v k) ex) = L at *
  generalize hS : (sumX k).val (sigW u v (nm v k) ex) = S at *
  have hp := prod_le (x := H - L) (y := nm v k 23) (by omega) (by omega) r1 r2
  have hw : (winE k).val (sigG v) = (H - L) * nm v k 23 + S + 1 := by
    show opVal .add .i64 (opVal .add .i64 (opVal .mul .i64 (if opVal .sub .i64 ((highE k).val (sigG v)) ((lowE k).val (sigG v)) < 0 then 0 else opVal .sub .i64 ((highE k).val (sigG v)) ((lowE k).val (sigG v))) (agE.val (sigG v))) ((sumE k).val (sigG v))) 1 = _
    rw [← a1, ← b1, ← hsv, show agE.val (sigG v) = nm v k 23 from rfl, sub_op ⟨by omega, by omega⟩, if_neg (by omega), mul_op ⟨by omega, by omega⟩, add_op (x := (H - L) * nm v k 23) (y := S) ⟨by omega, by omega⟩, add_op ⟨by omega, by omega⟩]
  have hP : (winE k).val (sigG v) ≤ per v k := by
    have e : per v k = if opVal .add .i64 ((bE k).val (sigG v)) ((limE k).val (sigG v)) < (winE k).val (sigG v) then (winE k).val (sigG v) else opVal .add .i64 ((bE k).val (sigG v)) ((limE k).val (sigG v)) := rfl
    rw [e]; split <;> omega
  refine ⟨(H - L) * nm v k 23 + S + 1, ?_, by omega, by omega, by omega⟩
  by_cases c : m = 1
  · subst c
    have e50 : IE.val (sigW u v (nm v k) ex) (.var 50) = nm v k 50 := w_nm (by decide) (by decide)
    have e60 : IE.val (sigW u v (nm v k) ex) (.var 60) = nm v k 60 := w_nm (by decide) (by decide)
    have h1 : (IE.max (highX k) (.var 50)).val (sigW u v (nm v k) ex) = H := by
      show (if (highX k).val _ < IE.val _ (.var 50) then IE.val _ (.var 50) else (highX k).val _) = _
      rw [hH, e50, if_neg (by omega)]
    have h2 : (IE.min (lowX k) (.var 50)).val (sigW u v (nm v k) ex) = L := by
      show (if IE.val _ (.var 50) < (lowX k).val _ then IE.val _ (.var 50) else (lowX k).val _) = _
      rw [hL, e50, if_neg (by omega)]
    have h3 : (IE.max (sumX k) (.var 60)).val (sigW u v (nm v k) ex) = S := by
      show (if (sumX k).val _ < IE.val _ (.var 60) then IE.val _ (.var 60) else (sumX k).val _) = _
      have hk1 := h.k1
      obtain ⟨-, g⟩ := fold_max (σ := sigW u v (nm v k) ex) (z := .lit 0) (f := fun i => .var (60 + i)) k
      have g : IE.val (sigW u v (nm v k) ex) (.var 60) ≤ (sumX k).val (sigW u v (nm v k) ex) := g 0 (by omega)
      rw [hS] at g
      rw [hS, if_neg (by omega)]
    exact winY_val h1 h2 h3 hA (by omega) (by omega) (by omega) (by omega) r1 r2 b2 (by omega)
  · have e : winX k m = winY (highX k) (lowX k) (sumX k) := by
      unfold winX
      split
      · exact absurd rfl c
      · rfl
    rw [e]
    exact winY_val hH hL hS hA (by omega) (by omega) (by omega) (by omega) r1 r2 b2 (by omega)
end
end Go.Proofs.YtoafolgibimgjaaGreatDoor

/- BoundParts: what load finds in its cases; its facts; what is known of its calls. -/
set_option linter.all false
set_option maxRecDepth 100000
namespace Go.Proofs.YtoafolgibimgjaaGreatDoor
open Go.RX Go.RX.Sym

/-! ### At most one due time of a job is in a window -/
def timesL (st : Nat → Int) (P : Int) : Nat → List Int
  | 0 => []
  | i + 1 => timesL st P i ++ [st i, st i + P, st i + P + P]
theorem three_count {s P x : Int} (hP : 1 ≤ P) (h1 : 1001 ≤ s) (h2 : s ≤ 1000 + P) (hx : 1000 ≤ x ∧ x ≤ 1000 + 3 * P) : [s, s + P, s + P + P].count x = if IsDue s P x then 1 else 0 := by
  simp only [List.count_cons, List.count_nil]
  have due : IsDue s P x ↔ x = s ∨ x = s + P ∨ x = s + P + P := by
    constructor
    · intro hd
      have e := isDue_eq hd
      generalize hq : (x - s) / P = q at e
      have hq0 : 0 ≤ q := by rw [← hq]; exact div_nonneg (by have := hd.1; omega) hP
      have hq3 : q < 3 := by
        by_cases c : q < 3
        · exact c
        · have := Int.mul_le_mul_of_nonneg_right (show 3 ≤ q by omega) (show 0 ≤ P by omega)
          omega
      have : q = 0 ∨ q = 1 ∨ q = 2 := by omega
      rcases this with e1 | e1 | e1 <;> subst e1 <;> omega
    · rintro (e | e | e) <;> subst e
      · exact ⟨Int.le_refl _, by simp⟩
      · exact ⟨by omega, by rw [show s + P - s = P by omega]; exact Int.emod_self⟩
      · exact ⟨by omega, by rw [show s + P + P - s = P * 2 by omega]; exact Int.mul_emod_right _ _⟩
  by_cases d : IsDue s P x
  · rw [if_pos d]
    rcases due.1 d with e | e | e
    · have a1 : (s == x) = true := by simp; omega
      have a2 : (s + P == x) = false := by simp; omega
      have a3 : (s + P + P == x) = false := by simp; omega
      rw [a1, a2, a3]; rfl
    · have a1 : (s == x) = false := by simp; omega
      have a2 : (s + P == x) = true := by simp; omega
      have a3 : (s + P + P == x) = false := by simp; omega
      rw [a1, a2, a3]; rfl
    · have a1 : (s == x) = false := by simp; omega
      have a2 : (s + P == x) = false := by simp; omega
      have a3 : (s + P + P == x) = true := by simp; omega
      rw [a1, a2, a3]; rfl
  · rw [if_neg d]
    have n := fun h => d (due.2 h)
    have a1 : (s == x) = false := by simp; exact fun e => n (.inl e.symm)
    have a2 : (s + P == x) = false := by simp; exact fun e => n (.inr (.inl e.symm))
    have a3 : (s + P + P == x) = false := by simp; exact fun e => n (.inr (.inr e.symm))
    rw [a1, a2, a3]; rfl
theorem times_count {st : Nat → Int} {P : Int} (hP : 1 ≤ P) {n : Nat} (h : ∀ i, i < n → 1001 ≤ st i ∧ st i ≤ 1000 + P) {x : Int} (hx : 1000 ≤ x ∧ x ≤ 1000 + 3 * P) : ∀ k, k ≤ n → (timesL st P k).count x = (bare n st (fun _ => P)).onN x k
  | 0, _ => by simp [timesL, Jb.onN]
  | k + 1, hk => by
    have hh := h k (by omega)
    rw [timesL, List.count_append, times_count hP h hx k (by omega), three_count hP hh.1 hh.2 hx]
    rfl
theorem times_win {st : Nat → Int} {P w t : Int} (hw : w ≤ P) (hw1 : 1 ≤ w) : ∀ k, (timesL st P k).countP (fun x => decide (t - w < x ∧ x ≤ t)) ≤ k
  | 0 => Nat.le_refl _
  | k + 1 => by
    have := times_win (st := st) (t := t) hw hw1 k
    rw [timesL, List.countP_append]
    have : [st k, st k + P, st k + P + P].countP (fun x => decide (t - w < x ∧ x ≤ t)) ≤ 1 := by
      simp only [List.countP_cons, List.countP_nil]
      by_cases a : t - w < st k ∧ st k ≤ t <;> by_cases b : t - w < st k + P ∧ st k + P ≤ t <;> by_cases c : t - w < st k + P + P ∧ st k + P + P ≤ t <;> simp [a, b, c] <;> omega
    omega
theorem best_few {st : Nat → Int} {P w fr b best pos : Int} {k : Nat} {L : List Int} (hP : 1 ≤ P) (h : ∀ i, i < k → 1001 ≤ st i ∧ st i ≤ 1000 + P) (hf : 1000 ≤ fr) (hb : b ≤ 1000 + 3 * P) (hw1 : 1 ≤ w) (hw : w ≤ P) (hA : LAll (bare k st (fun _ => P)) fr w b L best pos) : best ≤ k := by
  have hperm : L.Perm ((timesL st P k).filter fun x => decide (fr ≤ x ∧ x ≤ b)) := List.perm_iff_count.2 fun x => by
    rw [hA.count x]
    by_cases c : fr ≤ x ∧ x ≤ b
    · rw [if_pos c, List.count_filter (by simpa using c)]
      exact (times_count (n := k) hP h (by omega) k (Nat.le_refl _)).symm
    · rw [if_neg c]
      symm
      rw [List.count_eq_zero]
      intro hm
      have := (List.mem_filter.1 hm).2
      simp only [decide_eq_true_eq] at this
      exact c this
  by_cases hL : L = []
  · rw [(hA.best.nil hL).1]; omega
  · obtain ⟨t, -, g, -⟩ := hA.best.is hL
    rw [← g]
    have e : inW L w t ≤ k := by
      unfold inW
      rw [hperm.countP_eq, List.countP_filter]
      refine Nat.le_trans (List.countP_mono_left fun x _ hp => ?_) (times_win (st := st) (P := P) (t := t) hw hw1 k)
      simp only [Bool.and_eq_true] at hp
      exact hp.1
    omega
theorem best_some {st : Nat → Int} {P w fr b best pos : Int} {k : Nat} {L : List Int} (hk : 1 ≤ k) (hf : fr ≤ st 0) (hb : st 0 ≤ b) (hw1 : 1 ≤ w) (hA : LAll (bare k st (fun _ => P)) fr w b L best pos) : 0 < best := by
  have hon : ∀ j, 1 ≤ j → 1 ≤ (bare k st (fun _ => P)).onN (st 0) j := by
    intro j
    induction j with
    | zero => intro h; omega
    | succ j ih =>
      intro _
      simp only [Jb.onN]
      by_cases c : j = 0
      · subst c
        have : IsDue ((bare k st fun _ => P).st 0) ((bare k st fun _ => P).pe 0) (st 0) := ⟨Int.le_refl _, by show (st 0 - st 0) % P = 0; simp⟩
        rw [if_pos this]; omega
      · have := ih (by omega); omega
  have hm : st 0 ∈ L := by
    refine List.count_pos_iff.1 ?_
    rw [hA.count, if_pos ⟨hf, hb⟩]
    exact hon k hk
  have h1 := hA.best.le _ hm
  have h2 : 0 < inW L w (st 0) := List.countP_pos_iff.2 ⟨st 0, hm, by simp; omega⟩
  omega

/-! ### The span -/
noncomputable def frm (v : Setup) (k m : Nat) : Int := match m with | 0 => 1000 + v.var 7 % (2 * per v k) | _ => 1000
noncomputable def til (v : Setup) (k m : Nat) : Int := match m with | 0 => 1000 + 3 * per v k - v.var 7 / 7 % per v k | _ => 1000 + 3 * per v k
section
variable {u v : Setup} {k m : Nat} {ex : Nat → Int}
noncomputable abbrev sW (u v : Setup) (k : Nat) (ex : Nat → Int) : Sig := sigW u v (nm v k) ex
theorem quo_op7 {x : Int} (h0 : 0 ≤ x) (h1 : x ≤ 65535) : opVal .quo .i64 x 7 = x / 7 := quo_op h0 (by decide) ⟨by omega, by omega⟩
theorem span_range (h : Mp v k) : 1000 ≤ frm v k m ∧ frm v k m < til v k m ∧ til v k m ≤ 1000 + 3 * per v k := by
  have hp := h.perR
  have h7 := h.small.seven
  cases m with
  | zero =>
    have a1 : 0 ≤ v.var 7 % (2 * per v k) := Int.emod_nonneg _ (by omega)
    have a2 : v.var 7 % (2 * per v k) < 2 * per v k := Int.emod_lt_of_pos _ (by omega)
    have b1 : 0 ≤ v.var 7 / 7 % per v k := Int.emod_nonneg _ (by omega)
    have b2 : v.var 7 / 7 % per v k < per v k := Int.emod_lt_of_pos _ (by omega)
    show 1000 ≤ 1000 + v.var 7 % (2 * per v k) ∧ 1000 + v.var 7 % (2 * per v k) < 1000 + 3 * per v k - v.var 7 / 7 % per v k ∧ _ ≤ _
    refine ⟨by omega, by omega, ?_⟩
    show 1000 + 3 * per v k - v.var 7 / 7 % per v k ≤ _
    omega
  | succ j =>
    show (1000 : Int) ≤ 1000 ∧ 1000 < 1000 + 3 * per v k ∧ 1000 + 3 * per v k ≤ 1000 + 3 * per v k
    omega
theorem endX_val (h : Mp v k) : endX.val (sW u v k ex) = 1000 + 3 * per v k := by
  have hp := h.perR
  show opVal .add .i64 1000 (opVal .mul .i64 3 (IE.val (sW u v k ex) (.var 30))) = _
  rw [w_nm (by decide) (by decide)]
  show opVal .add .i64 1000 (opVal .mul .i64 3 (per v k)) = _
  rw [mul_op ⟨by omega, by omega⟩, add_op ⟨by omega, by omega⟩]
theorem from_val (h : Mp v k) : (ieOf (fromE m)).val (sW u v k ex) = frm v k m := by
  have hp := h.perR
  have h7 := h.small.seven
  cases m with
  | zero =>
    have a1 : 0 ≤ v.var 7 % (2 * per v k) := Int.emod_nonneg _ (by omega)
    have a2 : v.var 7 % (2 * per v k) < 2 * per v k := Int.emod_lt_of_pos _ (by omega)
    show opVal .add .i64 1000 (opVal .rem .i64 (IntKind.i64.wrap (IE.val (sW u v k ex) (.var 7))) (opVal .mul .i64 2 (IE.val (sW u v k ex) (.var 30)))) = 1000 + v.var 7 % (2 * per v k)
    rw [w_low (i := 7) (by decide), w_nm (i := 30) (by decide) (by decide), Fits.wrap ⟨by omega, by omega⟩]
    show opVal .add .i64 1000 (opVal .rem .i64 (v.var 7) (opVal .mul .i64 2 (per v k))) = _
    rw [mul_op ⟨by omega, by omega⟩, rem_op h7.1 (by omega) (by omega), add_op ⟨by omega, by omega⟩]
  | succ j => rfl
theorem to_val (h : Mp v k) : (toE m).val (sW u v k ex) = til v k m := by
  have hp := h.perR
  have h7 := h.small.seven
  cases m with
  | zero =>
    have b0 : 0 ≤ v.var 7 / 7 := Int.ediv_nonneg h7.1 (by decide)
    have b1 : 0 ≤ v.var 7 / 7 % per v k := Int.emod_nonneg _ (by omega)
    have b2 : v.var 7 / 7 % per v k < per v k := Int.emod_lt_of_pos _ (by omega)
    show opVal .sub .i64 (endX.val (sW u v k ex)) (opVal .rem .i64 (opVal .quo .i64 (IntKind.i64.wrap (IE.val (sW u v k ex) (.var 7))) 7) (IE.val (sW u v k ex) (.var 30))) = 1000 + 3 * per v k - v.var 7 / 7 % per v k
    rw [endX_val h, w_low (i := 7) (by decide), w_nm (i := 30) (by decide) (by decide), Fits.wrap ⟨by omega, by omega⟩, quo_op7 h7.1 h7.2]
    show opVal .sub .i64 (1000 + 3 * per v k) (opVal .rem .i64 (v.var 7 / 7) (per v k)) = _
    rw [rem_op b0 hp.1 (by omega), sub_op ⟨by omega, by omega⟩]
  | succ j => exact endX_val h

/-- What the names above 100 stand for. -/
structure ExOk (v : Setup) (k m : Nat) (ex : Nat → Int) : Prop where
  cnt : ∀ i, i < k → ex (120 + i) = (rank (sta v k i) (per v k) (til v k m) : Int) - rank (sta v k i) (per v k) (frm v k m - 1)
  rest : ∀ i, 120 ≤ i → i < 125 → 0 ≤ ex i ∧ ex i ≤ 3
  load : match m with | 1 => 0 < ex 110 | _ => ex 110 ≤ k
theorem rank_le3 (h : Mp v k) {i : Nat} (hi : i < k) {t : Int} (ht : t ≤ 1000 + 3 * per v k) : rank (sta v k i) (per v k) t ≤ 3 := by
  have hp := h.perR
  have hs := h.staR hi
  have e : (1000 + 3 * per v k - sta v k i) / per v k = 2 := div_uniq hp.1 (by omega) (by omega)
  have h1 := rank_mono (s := sta v k i) hp.1 ht
  have h2 : rank (sta v k i) (per v k) (1000 + 3 * per v k) = 3 := by
    unfold rank
    rw [if_neg (by omega), e]
    rfl
  omega
theorem p_based (h : Mp v k) (hx : ExOk v k m ex) {lo hi : Int} (hn : lo ≤ u.n ∧ (u.n : Int) ≤ hi) : Based (sW u v k ex) (boundsP lo hi k) := fun e r hr => by
  unfold boundsP at hr
  split at hr
  · rename_i i
    split at hr
    · rename_i h20
      rw [w_low h20]
      split at hr
      · simp only [Option.some.injEq] at hr; subst hr; exact h.small.five
      · simp only [Option.some.injEq] at hr; subst hr; exact h.small.seven
      · rename_i a5 a7
        simp only [Option.some.injEq] at hr; subst hr
        by_cases c : i = 6
        · subst c; exact h.six
        · exact h.small.other i a5 c a7
    · split at hr
      · have := boundsN_lt h.k5 hr
        rw [w_nm this.1 this.2]
        exact h.range hr
      · split at hr
        · cases hr
        · split at hr
          · simp only [Option.some.injEq] at hr; subst hr
            rw [w_ex (by omega)]
            exact hx.rest i (by omega) (by omega)
          · cases hr
  · split at hr
    · simp only [Option.some.injEq] at hr; subst hr; exact hn
    · cases hr
  · cases hr
theorem which_holds (h : Mp v k) (hm : v.var 6 % 6 = m) (hm5 : m ≤ 5) : ∀ f ∈ whichF m, f.holds (sW u v k ex) := by
  have e : whichE.val (sW u v k ex) = (m : Int) := by
    show opVal .rem .u8 (IE.val (sW u v k ex) (.var 6)) 6 = _
    rw [w_low (by decide), rem_u8 h.six.1 (by decide), hm]
  have one : ∀ j : Nat, whichE.val (sW u v k ex) = (j : Int) ↔ Nat.beq m j = true := fun j => by
    rw [e]
    constructor
    · intro g
      have : m = j := by omega
      subst this
      exact Nat.beq_refl m
    · intro g
      rw [Nat.eq_of_beq_eq_true g]
  exact hcons (holds_eq (one 1)) (hcons (holds_eq (one 2)) (hcons (holds_eq (one 3)) (hcons (holds_eq (one 4)) (hcons (holds_eq (one 5)) hnil))))
theorem p_facts (h : Mp v k) (hm : v.var 6 % 6 = m) (hm5 : m ≤ 5) (hx : ExOk v k m ex) : ∀ f ∈ factsP k m, f.holds (sW u v k ex) := by
  have hb := h.bndR
  have hbv := bound_val (u := u) (ex := ex) h
  have ht0 := to_val (u := u) (ex := ex) (m := 0) h
  have hf0 := from_val (u := u) (ex := ex) (m := 0) h
  have hs := span_range (m := 0) h
  have hp := h.perR
  have l : ∀ n, IE.val (sW u v k ex) (.lit n) = n := fun n => rfl
  have hd : dlX.val (sW u v k ex) = bnd v k - 1 := by
    show opVal .sub .i64 (IE.val (sW u v k ex) (.var 31)) 1 = _
    rw [w_nm (by decide) (by decide)]
    show opVal .sub .i64 (bnd v k) 1 = _
    rw [sub_op ⟨by omega, by omega⟩]
  have dls : ∀ j, j ≤ k → ∀ f ∈ dlF k j, f.holds (sW u v k ex) := by
    intro j
    induction j with
    | zero => intro _; exact hnil
    | succ j ih =>
      intro hj
      have hk := h.k5
      have := h.dl (i := j) (by omega)
      refine hcons (holds_lt (no ?_)) (ih (by omega))
      rw [w_nm (by omega) (by omega), hbv]
      omega
  have hload : (loadF m).holds (sW u v k ex) := by
    have hl := hx.load
    have e28 : nm v k 28 = (k : Int) := by
      show ((min v.n 5 : Nat) : Int) = _
      rw [h.is]
    unfold loadF
    split
    · refine holds_lt (yes ?_)
      rw [w_ex (by decide), l]
      exact hl
    · rename_i hne
      refine holds_lt (no ?_)
      rw [w_nm (by decide) (by decide), w_ex (by decide), e28]
      have hl : ex 110 ≤ k := by
        split at hl
        · exact absurd rfl hne
        · exact hl
      omega
  intro f hf
  rcases List.mem_append.1 hf with hf | hf
  · exact which_holds h hm hm5 f hf
  · refine hcons hload (hcons (holds_lt (no ?_)) (hcons (holds_lt (no ?_)) (hcons (holds_lt (no ?_)) (hcons (holds_lt (no ?_)) (hcons (holds_lt (yes ?_)) (dls k (Nat.le_refl _))))))) f hf
    · rw [ht0, l]; omega
    · rw [ht0, l]; omega
    · rw [ht0, hf0]; omega
    · rw [hd, l]; omega
    · rw [hd, hbv]; omega
end
end Go.Proofs.YtoafolgibimgjaaGreatDoor

/- BoundParts: what is known of its calls. -/
set_option linter.all false
set_option maxRecDepth 100000
namespace Go.Proofs.YtoafolgibimgjaaGreatDoor
open Go.RX Go.RX.Sym

theorem nameMade : named 5 = true := by kernel_rfl
theorem nameCount : named 29 = true := by kernel_rfl
theorem nameInner : named 18 = true := by kernel_rfl
theorem made_ok {k : Nat} (h1 : 1 ≤ k) (h5 : k ≤ 5) (σ : Sig) : madeOk k (5 * k + 4) k (madeRun σ k (hiOf k) k) = true := by
  have : k = 1 ∨ k = 2 ∨ k = 3 ∨ k = 4 ∨ k = 5 := by omega
  rcases this with e | e | e | e | e <;> subst e
  · exact made_1 σ
  · exact made_2 σ
  · exact made_3 σ
  · exact made_4 σ
  · exact made_5 σ
theorem app2 : ∀ (ps qs : List (SV → Bool)) (xs ys : List SV), all2 ps xs = true → all2 qs ys = true → all2 (ps ++ qs) (xs ++ ys) = true
  | [], qs, [], ys, _, h2 => h2
  | [], qs, x :: xs, ys, h1, _ => by simp [all2] at h1
  | p :: ps, qs, [], ys, h1, _ => by simp [all2] at h1
  | p :: ps, qs, x :: xs, ys, h1, h2 => by
    simp only [all2, List.cons_append] at h1 ⊢
    split at h1
    · rename_i hp
      have := app2 ps qs xs ys h1 h2
      first | exact this | (rw [hp]; exact this)
    · cases h1
/-- Each job's form. -/
theorem jobP_is (k m i : Nat) : ∃ dl t u, jobP k m i = jobSV2 (nameB i) i dl t u ∧ isI64 dl = true ∧ isI64 t = true ∧ isI64 u = true ∧ ieOf t = (if m = 2 ∧ i = 0 then .var 30 else .var (80 + i)) := by
  by_cases c2 : m = 2
  · subst c2
    cases i with
    | zero => exact ⟨_, _, _, rfl, rfl, rfl, rfl, rfl⟩
    | succ i => exact ⟨_, _, _, rfl, rfl, rfl, rfl, by rw [if_neg (by omega)]; rfl⟩
  · by_cases c5 : m = 5
    · subst c5
      cases hb : Nat.beq (i + 1) k with
      | true => exact ⟨.sint .i64 dlX, vi (80 + i), vi (90 + i), by unfold jobP; simp only [hb], rfl, rfl, rfl, by rw [if_neg (by omega)]; rfl⟩
      | false => exact ⟨vi (70 + i), vi (80 + i), vi (90 + i), by unfold jobP; simp only [hb], rfl, rfl, rfl, by rw [if_neg (by omega)]; rfl⟩
    · refine ⟨vi (70 + i), vi (80 + i), vi (90 + i), ?_, rfl, rfl, rfl, by rw [if_neg (by omega)]; rfl⟩
      unfold jobP
      split
      · exact absurd rfl c2
      · exact absurd rfl c5
      · rfl
theorem one_like {x : SV} (h : isI64 x = true) : all2 [isI64] [x] = true := by
  show (match isI64 x with | true => all2 [] [] | false => false) = true
  rw [h]
  rfl
theorem job2_like {name : ByteArray} {i : Nat} {dl t u : SV} (h1 : isI64 dl = true) (h2 : isI64 t = true) (h3 : isI64 u = true) : all2 likes (jobSV2 name i dl t u) = true :=
  app2 [isStr, isTwo, isZu, isZu, isZu, isZu, isZu, isZu, isFalse, isFalse, isZ64, isI64, isI64, isZ64, isNil, isI64, isI64, isI64] _ [.string name, .int .i64 2, .int .u64 0, .int .u64 0, .int .u64 0, .int .u64 0, .int .u64 0, .int .u64 0, .bool false, .bool false, .int .i64 0, vi (40 + i), vi 30, .int .i64 0, .nilslice, .int .i64 1, vi (50 + i), vi (60 + i)] _ rfl
    (app2 [isI64] _ [dl] _ (one_like h1) (app2 [isI64, isI64] _ [.int .i64 0, .int .i64 0] _ rfl (app2 [isI64] _ [t] _ (one_like h2) (app2 [isI64] [isI64, isI64, isI64, isI64, isI64, isI64, isI64] [u] (zs .i64 7) (one_like h3) rfl))))
theorem job_like (k m i : Nat) : all2 likes (jobP k m i) = true := by
  obtain ⟨dl, t, u, e, h1, h2, h3, -⟩ := jobP_is k m i
  rw [e]
  exact job2_like h1 h2 h3
theorem jobs_like (k m : Nat) : ∀ j, all2 (likesN j) (jobsP k m j) = true
  | 0 => rfl
  | j + 1 => app2 _ _ _ _ (jobs_like k m j) (job_like k m j)
theorem cells_like (k m : Nat) : all2 (likesN (countP k m)) (cellsP k m) = true := by
  by_cases c : m = 1
  · subst c
    exact app2 _ _ _ _ (jobs_like k 1 k) (job2_like (dl := vi 70) (t := vi 80) (u := vi 90) rfl rfl rfl)
  · have e1 : countP k m = k := by unfold countP; split; exact absurd rfl c; rfl
    have e2 : cellsP k m = jobsP k m k := by unfold cellsP; split; exact absurd rfl c; rfl
    rw [e1, e2]
    exact jobs_like k m k
theorem job2_len {name : ByteArray} {i : Nat} {dl t u : SV} : (jobSV2 name i dl t u).length = 30 := rfl
theorem jobP_len (k m i : Nat) : (jobP k m i).length = 30 := by
  obtain ⟨dl, t, u, e, -⟩ := jobP_is k m i
  rw [e]; rfl
theorem jobsP_len (k m : Nat) : ∀ j, (jobsP k m j).length = j * 30
  | 0 => rfl
  | j + 1 => by
    show (jobsP k m j ++ jobP k m j).length = _
    rw [List.length_append, jobsP_len k m j, jobP_len]
    omega
theorem jobsP_at (k m : Nat) : ∀ j i c, i < j → c < 30 → (jobsP k m j).getD (i * 30 + c) .unknown = (jobP k m i).getD c .unknown
  | j + 1, i, c, hi, hc => by
    show (jobsP k m j ++ jobP k m j).getD (i * 30 + c) .unknown = _
    rw [List.getD_eq_getElem?_getD]
    by_cases e : i = j
    · subst e
      rw [List.getElem?_append_right (by rw [jobsP_len]; omega), jobsP_len, show i * 30 + c - i * 30 = c by omega, List.getD_eq_getElem?_getD]
    · rw [List.getElem?_append_left (by rw [jobsP_len]; omega), ← List.getD_eq_getElem?_getD]
      exact jobsP_at k m j i c (by omega) hc
theorem job2_11 {name : ByteArray} {i : Nat} {dl t u : SV} : (jobSV2 name i dl t u).getD 11 .unknown = vi (40 + i) ∧ (jobSV2 name i dl t u).getD 12 .unknown = vi 30 := ⟨rfl, rfl⟩
/-- Where each job begins, one more in case 1. -/
noncomputable def stP (v : Setup) (k m i : Nat) : Int := if m = 1 ∧ i = k then sta v k 0 else sta v k i

section
variable {R : Nat → Option (List (Option IntKind))} {u v : Setup} {k m : Nat} {lo hi : Int} {ex : Nat → Int}
theorem limitP (h : Mp v k) {a b : Nat} (ha : boundsN k a = some (0, 5)) (hb : boundsN k b = some (0, 11)) (hz : nm v k a = 0 → nm v k b = 0) : CallsT (envP R (sW u v k ex) lo hi k m) 52 [.agg [vi a, vi b]] [] 0 (.int .i64 0) ⟨heapOf [], 0, 0⟩ :=
  callsT_plain (nameF nameL) fun ρ vals w hok hv => by
    have hσ : ρ.sig = sW u v k ex := hok.num.sig
    have la := boundsN_lt h.k5 ha
    have lb := boundsN_lt h.k5 hb
    have ra := h.range ha
    have rb := h.range hb
    cases hv with
    | cons hv hv2 =>
      cases hv2
      cases hv with
      | agg hv =>
        cases hv with
        | cons a0 hv => cases hv with
          | cons a1 hv =>
            cases hv
            have a0 := a0.sint_inv
            have a1 := a1.sint_inv
            rw [hσ, w_nm la.1 la.2] at a0
            rw [hσ, w_nm lb.1 lb.2] at a1
            subst a0 a1
            exact (limit_calls ra.1 ra.2 rb.1 rb.2 hz w).mono fun e w' ⟨he, ho⟩ => ⟨_, he, .int .i64 0, ho⟩
theorem from_is (m : Nat) : isI64 (fromE m) = true := by
  cases m <;> rfl
theorem from_rel (h : Mp v k) {ρ : Ren} (hσ : ρ.sig = sW u v k ex) {x : Value} (hx : VRel ρ (fromE m) x) : x = .int .i64 (frm v k m) := by
  have := i64_val (from_is m) hx
  rw [hσ, from_val h] at this
  exact this
theorem to_rel (h : Mp v k) {ρ : Ren} (hσ : ρ.sig = sW u v k ex) {x : Value} (hx : VRel ρ (.sint .i64 (toE m)) x) : x = .int .i64 (til v k m) := by
  have := hx.sint_inv
  rw [hσ, to_val h] at this
  exact this
theorem countP_T (h : Mp v k) (hx : ExOk v k m ex) {i : Nat} (hik : i < k) : CallsT (envP R (sW u v k ex) lo hi k m) 29 [planQ i, fromE m, .sint .i64 (toE m)] [] 0 (.tuple [vi (120 + i), .int .i64 0]) ⟨heapOf [], 0, 0⟩ :=
  callsT_plain (nameF nameCount) fun ρ vals w hok hv => by
    have hσ : ρ.sig = sW u v k ex := hok.num.sig
    have hs := h.staR hik
    have hp := h.perR
    have h5 := h.k5
    have hsp := span_range (m := m) h
    have e : vals = args2 (sta v k i) (per v k) (frm v k m) (til v k m) := by
      cases hv with
      | cons hp hv => cases hv with
        | cons ha hv => cases hv with
          | cons hb hv =>
            cases hv
            have ha := from_rel h hσ ha
            have hb := to_rel h hσ hb
            subst ha hb
            cases hp with
            | agg g =>
              cases g with | cons c1 g => cases g with | cons c2 g => cases g with | cons c3 g => cases g with | cons c4 g => cases g with | cons c5 g => cases g with | cons c6 g => cases g with | cons c7 g => cases g with | cons c8 g => cases g with | cons c9 g => cases g with | cons c10 g => cases g with | cons c11 g => cases g with | cons c12 g => cases g with | cons c13 g => cases g with | cons c14 g =>
                cases g
                cases c1; cases c2; cases c3; cases c4; cases c5; cases c6; cases c7; cases c8; cases c9; cases c10; cases c13; cases c14
                have c11 := c11.sint_inv
                have c12 := c12.sint_inv
                rw [hσ, w_nm (by omega) (by omega)] at c11
                rw [hσ, w_nm (by decide) (by decide)] at c12
                subst c11 c12
                rfl
    subst e
    have hev : Ev2 (sta v k i) (per v k) (frm v k m) (til v k m) := ⟨by omega, by omega, by omega, by omega, by omega, by omega, by omega⟩
    refine (count_calls hev w).mono fun ed w' ⟨he, ho⟩ => ⟨_, he, ?_, ho⟩
    rw [← hx.cnt i hik]
    have e2 : IE.val ρ.sig (.var (120 + i)) = ex (120 + i) := by rw [hσ, w_ex (by omega)]
    rw [← e2]
    exact .tuple (.cons (.sint .i64 (.var (120 + i))) (.cons (.int .i64 0) .nil))
theorem worksP : CallsT (envP R (sW u v k ex) lo hi k m) 7 [] [] 0 (.bool true) ⟨heapOf [], 0, 0⟩ :=
  callsT_plain (nameF nameW) fun ρ vals w hok hv => by
    cases hv
    exact (works_calls w).mono fun e w' ⟨he, ho⟩ => ⟨_, he, .bool true, ho⟩

/-- The configuration's first seven numbers, as a case leaves them. -/
noncomputable def zP (v : Setup) (k m i : Nat) : Int := if m = 3 ∧ i = 21 then ((max (k - 1) 1 : Nat) : Int) else if m = 4 ∧ i = 22 then ((k - 1 : Nat) : Int) else nm v k i
theorem sevenP {ρ : Ren} (hσ : ρ.sig = sW u v k ex) : Seven ρ (cfgP k m) (zP v k m) := ⟨fun vals hv => by
  have n : ∀ i, 20 ≤ i → i < 100 → IE.val ρ.sig (.var i) = nm v k i := fun i a b => by rw [hσ]; exact w_nm a b
  by_cases c3 : m = 3
  · subst c3
    have hv : VRels ρ [vi 20, .int .i64 (.ofNat (max (k - 1) 1)), vi 22, vi 23, .sint .u64 (.var 24), vi 25, vi 26] vals := hv
    cases hv with | cons c1 g => cases g with | cons c2 g => cases g with | cons c3 g => cases g with | cons c4 g => cases g with | cons c5 g => cases g with | cons c6 g => cases g with | cons c7 g =>
      cases g
      have c1 := c1.sint_inv
      have c2 := c2.int_inv
      have c3 := c3.sint_inv
      have c4 := c4.sint_inv
      have c5 := c5.sint_inv
      have c6 := c6.sint_inv
      have c7 := c7.sint_inv
      rw [n _ (by decide) (by decide)] at c1 c3 c4 c5 c6 c7
      subst c1 c2 c3 c4 c5 c6 c7
      rfl
  · by_cases c4 : m = 4
    · subst c4
      have hv : VRels ρ [vi 20, vi 21, .int .i64 (.ofNat (k - 1)), vi 23, .sint .u64 (.var 24), vi 25, vi 26] vals := hv
      cases hv with | cons c1 g => cases g with | cons c2 g => cases g with | cons c3 g => cases g with | cons c4 g => cases g with | cons c5 g => cases g with | cons c6 g => cases g with | cons c7 g =>
        cases g
        have c1 := c1.sint_inv
        have c2 := c2.sint_inv
        have c3 := c3.int_inv
        have c4 := c4.sint_inv
        have c5 := c5.sint_inv
        have c6 := c6.sint_inv
        have c7 := c7.sint_inv
        rw [n _ (by decide) (by decide)] at c1 c2 c4 c5 c6 c7
        subst c1 c2 c3 c4 c5 c6 c7
        rfl
    · have e : cfgP k m = [vi 20, vi 21, vi 22, vi 23, .sint .u64 (.var 24), vi 25, vi 26] := by
        unfold cfgP
        split
        · exact absurd rfl c3
        · exact absurd rfl c4
        · rfl
      rw [e] at hv
      have z : ∀ i, zP v k m i = nm v k i := fun i => by
        unfold zP
        rw [if_neg (by omega), if_neg (by omega)]
      rw [z, z, z, z, z, z, z]
      cases hv with | cons c1 g => cases g with | cons c2 g => cases g with | cons c3 g => cases g with | cons c4 g => cases g with | cons c5 g => cases g with | cons c6 g => cases g with | cons c7 g =>
        cases g
        have c1 := c1.sint_inv
        have c2 := c2.sint_inv
        have c3 := c3.sint_inv
        have c4 := c4.sint_inv
        have c5 := c5.sint_inv
        have c6 := c6.sint_inv
        have c7 := c7.sint_inv
        rw [n _ (by decide) (by decide)] at c1 c2 c3 c4 c5 c6 c7
        subst c1 c2 c3 c4 c5 c6 c7
        rfl⟩
theorem countP_eq : countP k m = if m = 1 then k + 1 else k := by
  by_cases c : m = 1
  · subst c; rfl
  · rw [if_neg c]
    unfold countP
    split
    · exact absurd rfl c
    · rfl
theorem stOf_P (h : Mp v k) {i : Nat} (hi : i < countP k m) : (stOf (cellsP k m) i).val (sW u v k ex) = stP v k m i ∧ (peOf (cellsP k m) i).val (sW u v k ex) = per v k := by
  have h5 := h.k5
  have h1 := h.k1
  rw [countP_eq] at hi
  have at_ : ∀ c, c < 30 → i < k → (cellsP k m).getD (i * 30 + c) .unknown = (jobP k m i).getD c .unknown := fun c hc hik => by
    by_cases c1 : m = 1
    · subst c1
      show (jobsP k 1 k ++ _).getD (i * 30 + c) .unknown = _
      rw [List.getD_eq_getElem?_getD, List.getElem?_append_left (by rw [jobsP_len]; omega), ← List.getD_eq_getElem?_getD]
      exact jobsP_at k 1 k i c hik hc
    · have e2 : cellsP k m = jobsP k m k := by unfold cellsP; split; exact absurd rfl c1; rfl
      rw [e2]
      exact jobsP_at k m k i c hik hc
  by_cases hik : i < k
  · obtain ⟨dl, t, u', e, -⟩ := jobP_is k m i
    unfold stOf peOf stP
    rw [at_ 11 (by decide) hik, at_ 12 (by decide) hik, e, job2_11.1, job2_11.2, if_neg (by omega)]
    exact ⟨w_nm (u := u) (ex := ex) (by omega) (by omega), w_nm (u := u) (ex := ex) (by decide) (by decide)⟩
  · have hm : m = 1 := by
      by_cases c : m = 1
      · exact c
      · rw [if_neg c] at hi; omega
    subst hm
    rw [if_pos rfl] at hi
    have hik : i = k := by omega
    subst hik
    have e : ∀ c, c < 30 → (cellsP i 1).getD (i * 30 + c) .unknown = (jobSV2 moreB 0 (vi 70) (vi 80) (vi 90)).getD c .unknown := fun c hc => by
      show (jobsP i 1 i ++ _).getD (i * 30 + c) .unknown = _
      rw [List.getD_eq_getElem?_getD, List.getElem?_append_right (by rw [jobsP_len]; omega), jobsP_len, show i * 30 + c - i * 30 = c by omega, ← List.getD_eq_getElem?_getD]
    unfold stOf peOf stP
    rw [e 11 (by decide), e 12 (by decide), job2_11.1, job2_11.2, if_pos ⟨rfl, rfl⟩]
    exact ⟨w_nm (u := u) (ex := ex) (by omega) (by omega), w_nm (u := u) (ex := ex) (by decide) (by decide)⟩
theorem stP_range (h : Mp v k) {i : Nat} (hi : i < countP k m) : 1001 ≤ stP v k m i ∧ stP v k m i ≤ 1000 + per v k := by
  have h1 := h.k1
  rw [countP_eq] at hi
  unfold stP
  by_cases c : m = 1 ∧ i = k
  · rw [if_pos c]; exact h.staR (by omega)
  · rw [if_neg c]
    refine h.staR ?_
    by_cases c1 : m = 1
    · rw [if_pos c1] at hi; omega
    · rw [if_neg c1] at hi; omega
theorem rank_st {s P t : Int} (hP : 1 ≤ P) (h1 : 1001 ≤ s) (h2 : s ≤ 1000 + P) (ht : t ≤ 1000 + 3 * P) : rank s P t ≤ 3 := by
  have e : (1000 + 3 * P - s) / P = 2 := div_uniq hP (by omega) (by omega)
  have h1 := rank_mono (s := s) hP ht
  have h2 : rank s P (1000 + 3 * P) = 3 := by
    unfold rank
    rw [if_neg (by omega), e]
    rfl
  omega
theorem loadP (h : Mp v k) {w : Int} (hw : (winX k m).val (sW u v k ex) = w) (hw1 : 1 ≤ w) (hwm : w ≤ 1000000) {Rs : LS} (hR : Goes (bare (countP k m) (stP v k m) (fun _ => per v k)) w (til v k m) (ls0 (frm v k m)) Rs) (hxr : ex 110 = Rs.best) (hyr : ex 111 = Rs.pos) :
    CallsT (envP R (sW u v k ex) lo hi k m) 15 (argLp k m) (objP k m) 1 (.tuple [vi 110, vi 111]) ⟨heapOf (objP k m), 1, 0⟩ := by
  have hp := h.perR
  have h5 := h.k5
  have hs := span_range (m := m) h
  have hc6 : countP k m ≤ 6 := by rw [countP_eq]; split <;> omega
  have hc1 : 1 ≤ countP k m := by rw [countP_eq]; have := h.k1; split <;> omega
  refine load_callsT2 (E := envP R (sW u v k ex) lo hi k m) (k := countP k m) (mk := 111) (c := cfgP k m) (cs := cellsP k m) (we := .sint .i64 (winX k m)) (fe := fromE m) (te := .sint .i64 (toE m)) (xa := vi 110) (xb := vi 111) (st := stP v k m) (pe := fun _ => per v k) (w := w) (fr := frm v k m) (b := til v k m) (least := countP k m) rfl ⟨hc6, fun i hi => ?_, fun i hi => ?_, hw1, hwm, by omega, by omega, by omega⟩ hc1 (cells_like k m) (fun i hi => stOf_P h hi) (z := zP v k m) (fun ρ hρ => sevenP hρ) (fun ρ x hρ hx => ?_) (fun ρ x hρ hx => from_rel h hρ hx) (fun ρ x hρ hx => to_rel h hρ hx) hR (fun ρ hρ => ?_) (fun ρ hρ => ?_)
  · have := stP_range h hi
    exact ⟨hp.1, by omega, by omega, by omega, by omega⟩
  · have := stP_range h hi
    exact rank_st hp.1 this.1 this.2 hs.2.2
  · have := hx.sint_inv
    have hρ : ρ.sig = sW u v k ex := hρ
    rw [hρ, hw] at this
    exact this
  · have e1 : ρ.sig = sW u v k ex := hρ
    have e2 : IE.val ρ.sig (.var 110) = Rs.best := by rw [e1, w_ex (by decide), hxr]
    rw [← e2]
    exact .sint .i64 (.var 110)
  · have e1 : ρ.sig = sW u v k ex := hρ
    have e2 : IE.val ρ.sig (.var 111) = Rs.pos := by rw [e1, w_ex (by decide), hyr]
    rw [← e2]
    exact .sint .i64 (.var 111)

/-! ### The inner check -/
theorem job_vals {ρ : Ren} {name : ByteArray} {i : Nat} {dl t x : SV} (h1 : isI64 dl = true) (h2 : isI64 t = true) (h3 : isI64 x = true) {vals : List Value} (hv : VRels ρ (jobSV2 name i dl t x) vals) :
    ∃ l1 l2 : List Value, Value.agg vals.toArray = jobV (.string name) l1 l2 (IE.val ρ.sig (.var (40 + i))) (IE.val ρ.sig (.var 30)) ((ieOf t).val ρ.sig) ∧ l1.length = 6 ∧ l2.length = 8 ∧ (∀ y ∈ l1, y.oneCell' = true) ∧ (∀ y ∈ l2, y.oneCell' = true) := by
  have hv : VRels ρ [.string name, .int .i64 2, .int .u64 0, .int .u64 0, .int .u64 0, .int .u64 0, .int .u64 0, .int .u64 0, .bool false, .bool false, .int .i64 0, vi (40 + i), vi 30, .int .i64 0, .nilslice, .int .i64 1, vi (50 + i), vi (60 + i), dl, .int .i64 0, .int .i64 0, t, x, .int .i64 0, .int .i64 0, .int .i64 0, .int .i64 0, .int .i64 0, .int .i64 0, .int .i64 0] vals := hv
  cases hv with | cons c0 g => cases g with | cons c1 g => cases g with | cons c2 g => cases g with | cons c3 g => cases g with | cons c4 g => cases g with | cons c5 g => cases g with | cons c6 g => cases g with | cons c7 g => cases g with | cons c8 g => cases g with | cons c9 g => cases g with | cons c10 g => cases g with | cons c11 g => cases g with | cons c12 g => cases g with | cons c13 g => cases g with | cons c14 g => cases g with | cons c15 g => cases g with | cons c16 g => cases g with | cons c17 g => cases g with | cons c18 g => cases g with | cons c19 g => cases g with | cons c20 g => cases g with | cons c21 g => cases g with | cons c22 g => cases g with | cons c23 g => cases g with | cons c24 g => cases g with | cons c25 g => cases g with | cons c26 g => cases g with | cons c27 g => cases g with | cons c28 g => cases g with | cons c29 g =>
    cases g
    cases c0
    cases c8
    cases c9
    cases c14
    have c1 := c1.int_inv
    have c2 := c2.int_inv
    have c3 := c3.int_inv
    have c4 := c4.int_inv
    have c5 := c5.int_inv
    have c6 := c6.int_inv
    have c7 := c7.int_inv
    have c10 := c10.int_inv
    have c11 := c11.sint_inv
    have c12 := c12.sint_inv
    have c13 := c13.int_inv
    have c15 := c15.int_inv
    have c16 := c16.sint_inv
    have c17 := c17.sint_inv
    have c18 := i64_val h1 c18
    have c19 := c19.int_inv
    have c20 := c20.int_inv
    have c21 := i64_val h2 c21
    have c22 := i64_val h3 c22
    have c23 := c23.int_inv
    have c24 := c24.int_inv
    have c25 := c25.int_inv
    have c26 := c26.int_inv
    have c27 := c27.int_inv
    have c28 := c28.int_inv
    have c29 := c29.int_inv
    subst c1 c2 c3 c4 c5 c6 c7 c10 c11 c12 c13 c15 c16 c17 c18 c19 c20 c21 c22 c23 c24 c25 c26 c27 c28 c29
    refine ⟨[.int .i64 1, .int .i64 (IE.val ρ.sig (.var (50 + i))), .int .i64 (IE.val ρ.sig (.var (60 + i))), .int .i64 ((ieOf dl).val ρ.sig), .int .i64 0, .int .i64 0], [.int .i64 ((ieOf x).val ρ.sig), .int .i64 0, .int .i64 0, .int .i64 0, .int .i64 0, .int .i64 0, .int .i64 0, .int .i64 0], rfl, rfl, rfl, ?_, ?_⟩
    · intro y hy
      simp only [List.mem_cons, List.not_mem_nil, or_false] at hy
      rcases hy with rfl | rfl | rfl | rfl | rfl | rfl <;> rfl
    · intro y hy
      simp only [List.mem_cons, List.not_mem_nil, or_false] at hy
      rcases hy with rfl | rfl | rfl | rfl | rfl | rfl | rfl | rfl <;> rfl
theorem num_at {E : Env} {ρ : Ren} {S : SW} {w : World} (hok : Ok E ρ S w) {id mk : Nat} {x : SV} {xs : List SV} (hobj : S.at id = some (.cells (x :: xs) mk)) {b o t : Nat} (hρ : ρ id = some (b, o, t)) {z : Int} (hz : ∀ y, VRel ρ x y → y = .int .i64 z) : NumAt w (b, o) z := by
  obtain ⟨ob, hheap, hrel⟩ := hok.wrel.obj id _ _ hobj hρ
  cases hrel with
  | cells arr el fz ht hlen hfz hmk hwh hc =>
    obtain ⟨y, h1, h2⟩ := hc 0 x rfl
    rw [hz y h2] at h1
    exact ⟨arr, el, fz, hheap, h1⟩
theorem ptr_rel {ρ : Ren} {i : Nat} {y : Value} (h : VRel ρ (.ptr i 0) y) : ∃ b o t, ρ i = some (b, o, t) ∧ y = addrV (b, o) := by
  cases h with
  | ptr hp => exact ⟨_, _, _, hp, rfl⟩
theorem innerP (h : Mp v k) {i : Nat} (hik : i < k) (hm1 : m ≠ 1) : CallsT (envP R (sW u v k ex) lo hi k m) 18 (argI k m i) (objI k m) 4 (.bool (ansI m i)) ⟨heapOf (objI k m), 4, 0⟩ :=
  callsT_plain (nameF nameInner) fun ρ vals w hok hv => by
    have hσ : ρ.sig = sW u v k ex := hok.num.sig
    have hs := h.staR hik
    have hp := h.perR
    have hb := h.bndR
    have h5 := h.k5
    have hsp := span_range (m := m) h
    have hroom := h.room hik
    have r27 := h.range (i := 27) rfl
    have r80 := h.range (bN80 hik h5)
    have r27a : 1 ≤ nm v k 27 := r27.1
    have r27b : nm v k 27 ≤ 4 := r27.2
    have r80a : 0 ≤ nm v k (80 + i) := r80.1
    have r80b : nm v k (80 + i) ≤ 5 := r80.2
    obtain ⟨dl, t, x, e, i1, i2, i3, i4⟩ := jobP_is k m i
    unfold argI at hv
    rw [e] at hv
    cases hv with
    | cons g0 hv => cases hv with
      | cons g1 hv => cases hv with
        | cons g2 hv => cases hv with
          | cons g3 hv => cases hv with
            | cons g4 hv =>
              cases hv
              obtain ⟨b1, o1, t1, q1, rfl⟩ := ptr_rel g1
              obtain ⟨b2, o2, t2, q2, rfl⟩ := ptr_rel g2
              obtain ⟨b3, o3, t3, q3, rfl⟩ := ptr_rel g3
              obtain ⟨b4, o4, t4, q4, rfl⟩ := ptr_rel g4
              have n1 : NumAt w (b1, o1) (frm v k m) := num_at hok (id := 0) (mk := 6) (x := fromE m) (xs := []) (Go.RX.heapOf_of (l := objI k m) (by show [0, 1, 2, 3].Nodup; decide) (nth_mem 0 rfl)) q1 fun y hy => from_rel h hσ hy
              have n2 : NumAt w (b2, o2) (til v k m) := num_at hok (id := 1) (mk := 6) (x := .sint .i64 (toE m)) (xs := []) (Go.RX.heapOf_of (l := objI k m) (by show [0, 1, 2, 3].Nodup; decide) (nth_mem 1 rfl)) q2 fun y hy => to_rel h hσ hy
              have n3 : NumAt w (b3, o3) (bnd v k) := num_at hok (id := 2) (mk := 6) (x := .sint .i64 (boundX k)) (xs := []) (Go.RX.heapOf_of (l := objI k m) (by show [0, 1, 2, 3].Nodup; decide) (nth_mem 2 rfl)) q3 fun y hy => by
                have := hy.sint_inv
                rw [hσ, bound_val h] at this
                exact this
              have n4 : NumAt w (b4, o4) (nm v k 27) := num_at hok (id := 3) (mk := 76) (x := vi 27) (xs := [vi 28]) (Go.RX.heapOf_of (l := objI k m) (by show [0, 1, 2, 3].Nodup; decide) (nth_mem 3 rfl)) q4 fun y hy => by
                have := hy.sint_inv
                rw [hσ, w_nm (by decide) (by decide)] at this
                exact this
              cases g0 with
              | agg g0 =>
                obtain ⟨l1, l2, ev, k1, k2, k3, k4⟩ := job_vals i1 i2 i3 g0
                rw [ev, i4, hσ, w_nm (by omega) (by omega), w_nm (i := 30) (by decide) (by decide)]
                have hk : InAsk (sta v k i) (per v k) (frm v k m) (til v k m) := ⟨by omega, by omega, by omega, by omega, by omega, by omega, by omega⟩
                by_cases c : m = 2 ∧ i = 0
                · obtain ⟨rfl, rfl⟩ := c
                  rw [if_pos ⟨rfl, rfl⟩, w_nm (i := 30) (by decide) (by decide)]
                  have e1 : frm v k 2 = 1000 := rfl
                  have e2 : til v k 2 = 1000 + 3 * per v k := rfl
                  have key := inner_false (c0 := .string (nameB 0)) (l1 := l1) (l2 := l2) (T := per v k) hk (by omega : 0 ≤ bnd v k ∧ bnd v k ≤ 1000000) (by omega : 0 ≤ nm v k 27 ∧ nm v k 27 ≤ 1000000) (by omega) (by split <;> omega) (by omega) (by omega) (by omega) n1 n2 n3 n4 rfl k1 k2 k3 k4
                  exact key.mono fun e w' ⟨he, ho⟩ => ⟨_, he, .bool false, ho⟩
                · rw [if_neg c, w_nm (by omega) (by omega)]
                  have hans : ansI m i = true := by
                    unfold ansI
                    split
                    · split
                      · exact absurd ⟨rfl, rfl⟩ c
                      · rfl
                    · rfl
                  rw [hans]
                  have hd := (due_is (s := sta v k i) (P := per v k) (a := frm v k m) hp.1).1
                  have key := inner_true (c0 := .string (nameB i)) (l1 := l1) (l2 := l2) (T := nm v k (80 + i)) hk (by omega : 0 ≤ bnd v k ∧ bnd v k ≤ 1000000) (by omega : 0 ≤ nm v k 27 ∧ nm v k 27 ≤ 1000000) (by omega) hroom.1 (by omega) n1 n2 n3 n4 rfl k1 k2 k3 k4
                  exact key.mono fun e w' ⟨he, ho⟩ => ⟨_, he, .bool true, ho⟩

theorem known_pLim (h : Mp v k) {K : KT} (hK : Known (envP R (sW u v k ex) lo hi k m) K) : ∀ i, i ≤ k → Known (envP R (sW u v k ex) lo hi k m) (pLim i K)
  | 0, _ => known_memo (T' := ⟨heapOf [], 0, 0⟩) (limitP h rfl rfl h.zeroG) rfl rfl hK
  | i + 1, hj => known_memo (T' := ⟨heapOf [], 0, 0⟩) (limitP h (bN80 (i := i) (by omega) h.k5) (bN90 (i := i) (by omega) h.k5) (h.zero (i := i) (by omega))) rfl rfl (known_pLim h hK i (by omega))
theorem known_pCnt (h : Mp v k) (hx : ExOk v k m ex) {K : KT} (hK : Known (envP R (sW u v k ex) lo hi k m) K) : ∀ i, i ≤ k → Known (envP R (sW u v k ex) lo hi k m) (pCnt m i K)
  | 0, _ => hK
  | i + 1, hj => known_memo (T' := ⟨heapOf [], 0, 0⟩) (countP_T h hx (i := i) (by omega)) rfl rfl (known_pCnt h hx hK i (by omega))
end
end Go.Proofs.YtoafolgibimgjaaGreatDoor
