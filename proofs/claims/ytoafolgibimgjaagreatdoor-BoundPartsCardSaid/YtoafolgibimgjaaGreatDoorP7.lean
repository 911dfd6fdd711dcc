/- Setup.Made, run with one to five tasks: the configuration's numbers as they come. -/
import Derived.Test.YtoafolgibimgjaaGreatDoorP6
import Derived.Test.YtoafolgibimgjaaGreatDoorP5
import Derived.Test.YtoafolgibimgjaaGreatDoorRxI
set_option linter.all false
set_option maxRecDepth 100000
namespace Go.Proofs.YtoafolgibimgjaaGreatDoor
open Go.RX Go.RX.Sym

/-! ### The numbers, as Made reckons them -/
def selT (i c : Nat) : IE := .sel 1 (.lit (.ofNat i)) c
def cv8 (e : IE) (m : Int) : IE := .conv .i64 (.bin .rem .u8 e (.lit m))
def plus (a b : IE) : IE := .bin .add .i64 a b
def capE : IE := plus (.lit 1) (cv8 (.var 1) 3)
def agE : IE := plus (.lit 1) (cv8 (.var 2) 4)
def runE : IE := plus (.lit 1) (cv8 (.var 0) 4)
def spE (i : Nat) : IE := cv8 (selT i 1) 8
def prE (i : Nat) : IE := cv8 (selT i 2) 8
def tE (i : Nat) : IE := .fn 1 [selT i 3, selT i 4]
def uE (i : Nat) : IE := .fn 2 [selT i 3, selT i 4]
def gtE : IE := .fn 1 [.var 3, .var 4]
def guE : IE := .fn 2 [.var 3, .var 4]
def foldE (op : IE → IE → IE) (z : IE) (f : Nat → IE) : Nat → IE
  | 0 => z
  | k + 1 => op (foldE op z f k) (f k)
def sumE (k : Nat) : IE := foldE .max (.lit 0) spE k
def lowE (k : Nat) : IE := foldE .min (.lit 100) prE k
def highE (k : Nat) : IE := foldE .max (.lit 0) prE k
def limE (k : Nat) : IE := foldE .max runE tE k
def bE (k : Nat) : IE := plus (sumE k) (.bin .mul .i64 (plus (.len 1) (.len 1)) (.max runE gtE))
def winE (k : Nat) : IE := plus (plus (.bin .mul .i64 (.max (.bin .sub .i64 (highE k) (lowE k)) (.lit 0)) agE) (sumE k)) (.lit 1)
def pE (k : Nat) : IE := .max (plus (bE k) (limE k)) (winE k)
def stE (k i : Nat) : IE := plus (.lit 1001) (.bin .rem .i64 (.conv .i64 (selT i 0)) (pE k))
def dlE (k i : Nat) : IE := plus (bE k) (cv8 (selT i 5) 4)
def zs (k : IntKind) : Nat → List SV
  | 0 => []
  | n + 1 => .int k 0 :: zs k n
def jobSV (name : Nat) (st pe pr sp dl t u : IE) : List SV := .string ⟨#[UInt8.ofNat (97 + name)]⟩ :: .int .i64 2 :: zs .u64 6 ++ [.bool false, .bool false, .int .i64 0, .sint .i64 st, .sint .i64 pe, .int .i64 0, .nilslice, .int .i64 1, .sint .i64 pr, .sint .i64 sp, .sint .i64 dl, .int .i64 0, .int .i64 0, .sint .i64 t, .sint .i64 u] ++ zs .i64 7
def rawJob (k i : Nat) : List SV := jobSV i (stE k i) (pE k) (prE i) (spE i) (dlE k i) (tE i) (uE i)
def rawJobs (k : Nat) : Nat → List SV
  | 0 => []
  | i + 1 => rawJobs k i ++ rawJob k i
def rawCfg (k id least : Nat) : SV := .agg [.sint .i64 capE, .sint .i64 (.max (.len 1) (.lit 1)), .sint .i64 (.len 1), .sint .i64 agE, .sint .u64 (.var 5), .sint .i64 gtE, .sint .i64 guE, .slice id 0 k (.toEnd 30 least)]
def rawX (k id least : Nat) : SV := .tuple [rawCfg k id least, .agg [.sint .i64 runE, .sint .i64 (.len 1)], .sint .i64 (pE k), .sint .i64 (bE k)]
def argM : List SV := [.agg (.row 0 :: tail)]
noncomputable def madeRun (σ : Sig) (lo hi : Int) (k : Nat) : Option (SV × SW) := (semK (envG σ lo hi (.ofNat k)) (knowG0 (bounds lo hi (.ofNat k))) 40).call 5 argM ⟨.nil, 0, 0⟩
noncomputable def madeOk (k id least : Nat) (r : Option (SV × SW)) : Bool := match r with
  | some (x, S) => (match svEq x (rawX k id least), Nat.ble S.next 100, objsIn S 100 [(id, .cells (rawJobs k k) 111)] with | true, true, true => true | _, _, _ => false)
  | none => false
theorem made_1 (σ : Sig) : madeOk 1 9 1 (madeRun σ 1 1 1) = true := by kernel_rfl
theorem made_2 (σ : Sig) : madeOk 2 14 2 (madeRun σ 2 2 2) = true := by kernel_rfl
theorem made_3 (σ : Sig) : madeOk 3 19 3 (madeRun σ 3 3 3) = true := by kernel_rfl
theorem made_4 (σ : Sig) : madeOk 4 24 4 (madeRun σ 4 4 4) = true := by kernel_rfl
theorem made_5 (σ : Sig) : madeOk 5 29 5 (madeRun σ 5 9223372036854775807 5) = true := by kernel_rfl
end Go.Proofs.YtoafolgibimgjaaGreatDoor

/- Setup.Made by contract: the configuration with named numbers. -/
set_option linter.all false
set_option maxRecDepth 100000
namespace Go.Proofs.YtoafolgibimgjaaGreatDoor
open Go.RX Go.RX.Sym

/-- What the names stand for. -/
def nameE (k i : Nat) : IE :=
  if i < 40 then (match i with | 20 => capE | 21 => .max (.len 1) (.lit 1) | 22 => .len 1 | 23 => agE | 24 => .var 5 | 25 => gtE | 26 => guE | 27 => runE | 28 => .len 1 | 30 => pE k | 31 => bE k | _ => .lit 0)
  else if i < 50 then stE k (i - 40) else if i < 60 then prE (i - 50) else if i < 70 then spE (i - 60) else if i < 80 then dlE k (i - 70) else if i < 90 then tE (i - 80) else if i < 100 then uE (i - 90) else .lit 0
noncomputable def nm (v : Setup) (k i : Nat) : Int := (nameE k i).val (sigG v)
def nameJob (i : Nat) : List SV := jobSV i (.var (40 + i)) (.var 30) (.var (50 + i)) (.var (60 + i)) (.var (70 + i)) (.var (80 + i)) (.var (90 + i))
def nameJobs : Nat → List SV
  | 0 => []
  | i + 1 => nameJobs i ++ nameJob i
def nameCfg (k : Nat) : SV := .agg [.sint .i64 (.var 20), .sint .i64 (.var 21), .sint .i64 (.var 22), .sint .i64 (.var 23), .sint .u64 (.var 24), .sint .i64 (.var 25), .sint .i64 (.var 26), .slice 0 0 k (.toEnd 30 k)]
def nameX (k : Nat) : SV := .tuple [nameCfg k, .agg [.sint .i64 (.var 27), .sint .i64 (.var 28)], .sint .i64 (.var 30), .sint .i64 (.var 31)]

theorem SVTs.app {σ σ' : Sig} {R : Nat → Nat → Prop} : ∀ {x y x2 y2 : List SV}, SVTs σ σ' R x y → SVTs σ σ' R x2 y2 → SVTs σ σ' R (x ++ x2) (y ++ y2)
  | _, _, _, _, .nil, h => h
  | _, _, _, _, .cons a b, h => .cons a (SVTs.app b h)
theorem zs_svts {σ σ' : Sig} {R : Nat → Nat → Prop} (k : IntKind) : ∀ n, SVTs σ σ' R (zs k n) (zs k n)
  | 0 => .nil
  | n + 1 => .cons (.lit rfl) (zs_svts k n)
theorem job_svts {σ σ' : Sig} {R : Nat → Nat → Prop} {i : Nat} {a a' b b' c c' d d' e e' f f' g g' : IE} (h1 : a'.val σ' = a.val σ) (h2 : b'.val σ' = b.val σ) (h3 : c'.val σ' = c.val σ) (h4 : d'.val σ' = d.val σ) (h5 : e'.val σ' = e.val σ) (h6 : f'.val σ' = f.val σ) (h7 : g'.val σ' = g.val σ) :
    SVTs σ σ' R (jobSV i a' b' c' d' e' f' g') (jobSV i a b c d e f g) := by
  unfold jobSV
  refine .cons (.lit rfl) (.cons (.lit rfl) ?_)
  refine SVTs.app (SVTs.app (zs_svts _ _) ?_) (zs_svts _ _)
  exact .cons (.lit rfl) (.cons (.lit rfl) (.cons (.lit rfl) (.cons (.num h1) (.cons (.num h2) (.cons (.lit rfl) (.cons (.lit rfl) (.cons (.lit rfl) (.cons (.num h3) (.cons (.num h4) (.cons (.num h5) (.cons (.lit rfl) (.cons (.lit rfl) (.cons (.num h6) (.cons (.num h7) .nil))))))))))))))
section
variable {v : Setup} {k : Nat} {σ' : Sig}
/-- These names, in a description of numbers. -/
def Named (v : Setup) (k : Nat) (σ' : Sig) : Prop := ∀ i, 20 ≤ i → i < 100 → σ'.var i = nm v k i
theorem Named.st (h : Named v k σ') {i : Nat} (hi : i < 5) : σ'.var (40 + i) = (stE k i).val (sigG v) := by
  rw [h (40 + i) (by omega) (by omega)]
  unfold nm nameE
  rw [if_neg (by omega), if_pos (by omega), show 40 + i - 40 = i by omega]
theorem Named.pr (h : Named v k σ') {i : Nat} (hi : i < 5) : σ'.var (50 + i) = (prE i).val (sigG v) := by
  rw [h (50 + i) (by omega) (by omega)]
  unfold nm nameE
  rw [if_neg (by omega), if_neg (by omega), if_pos (by omega), show 50 + i - 50 = i by omega]
theorem Named.sp (h : Named v k σ') {i : Nat} (hi : i < 5) : σ'.var (60 + i) = (spE i).val (sigG v) := by
  rw [h (60 + i) (by omega) (by omega)]
  unfold nm nameE
  rw [if_neg (by omega), if_neg (by omega), if_neg (by omega), if_pos (by omega), show 60 + i - 60 = i by omega]
theorem Named.dl (h : Named v k σ') {i : Nat} (hi : i < 5) : σ'.var (70 + i) = (dlE k i).val (sigG v) := by
  rw [h (70 + i) (by omega) (by omega)]
  unfold nm nameE
  rw [if_neg (by omega), if_neg (by omega), if_neg (by omega), if_neg (by omega), if_pos (by omega), show 70 + i - 70 = i by omega]
theorem Named.t (h : Named v k σ') {i : Nat} (hi : i < 5) : σ'.var (80 + i) = (tE i).val (sigG v) := by
  rw [h (80 + i) (by omega) (by omega)]
  unfold nm nameE
  rw [if_neg (by omega), if_neg (by omega), if_neg (by omega), if_neg (by omega), if_neg (by omega), if_pos (by omega), show 80 + i - 80 = i by omega]
theorem Named.u (h : Named v k σ') {i : Nat} (hi : i < 5) : σ'.var (90 + i) = (uE i).val (sigG v) := by
  rw [h (90 + i) (by omega) (by omega)]
  unfold nm nameE
  rw [if_neg (by omega), if_neg (by omega), if_neg (by omega), if_neg (by omega), if_neg (by omega), if_neg (by omega), if_pos (by omega), show 90 + i - 90 = i by omega]
theorem Named.low (h : Named v k σ') {i : Nat} (h1 : 20 ≤ i) (h2 : i < 40) : IE.val σ' (.var i) = (nameE k i).val (sigG v) := h i h1 (by omega)
theorem jobs_svts {R : Nat → Nat → Prop} (h : Named v k σ') : ∀ j, j ≤ 5 → SVTs (sigG v) σ' R (nameJobs j) (rawJobs k j)
  | 0, _ => .nil
  | j + 1, hj => SVTs.app (jobs_svts h j (by omega)) (job_svts (h.st (by omega)) (h.low (i := 30) (by decide) (by decide)) (h.pr (by omega)) (h.sp (by omega)) (h.dl (by omega)) (h.t (by omega)) (h.u (by omega)))

theorem madeOk_some {id least : Nat} {r : Option (SV × SW)} (h : madeOk k id least r = true) : ∃ S, r = some (rawX k id least, S) ∧ S.next ≤ 100 ∧ objsIn S 100 [(id, .cells (rawJobs k k) 111)] = true := by
  unfold madeOk at h
  split at h
  · rename_i x S
    split at h
    · rename_i h1 h2 h3
      have h1 := svEq_sound _ _ h1
      subst h1
      exact ⟨S, rfl, Nat.le_of_ble_eq_true h2, h3⟩
    · cases h
  · cases h

theorem made_calls (hv : v.Small) {W : World} (hl : v.Lie W) {cap : Nat} (hc : v.n ≤ cap) {lo hi : Int} (h1 : lo ≤ v.n) (h2 : (v.n : Int) ≤ hi) (h3 : min v.n 5 = k) (hk : k ≤ 5) {id : Nat} (hid : id < 100) (hr : madeOk k id k (madeRun (sigG v) lo hi k) = true) (h : Named v k σ') :
    Calls Tryz.prog 5 #[.agg #[.slice (some ⟨v.b, v.x, none⟩) v.n cap, .int .u8 (v.var 0), .int .u8 (v.var 1), .int .u8 (v.var 2), .int .u8 (v.var 3), .int .u8 (v.var 4), .int .u64 (v.var 5)]] W fun e w' => ∃ u, e = .returned u ∧ LeftT σ' W u (nameX k) [(0, .cells (nameJobs k) 111)] 1 w' := by
  obtain ⟨S, hrun, hN, hobj⟩ := madeOk_some hr
  clear hr
  unfold madeRun at hrun
  have h3' : ((min v.n 5 : Nat) : Int) = ((k : Nat) : Int) := by rw [h3]
  have hB : Based (sigG v) (bounds lo hi k) := based_G hv h1 h2 h3'
  have hargs : VRels (.nil (sigG v)) argM [.agg #[.slice (some ⟨v.b, v.x, none⟩) v.n cap, .int .u8 (v.var 0), .int .u8 (v.var 1), .int .u8 (v.var 2), .int .u8 (v.var 3), .int .u8 (v.var 4), .int .u64 (v.var 5)]] :=
    .cons (.agg (.cons (.row (sz := 6) rfl hc) (.cons (.sint .u8 (.var 0)) (.cons (.sint .u8 (.var 1)) (.cons (.sint .u8 (.var 2)) (.cons (.sint .u8 (.var 3)) (.cons (.sint .u8 (.var 4)) (.cons (.sint .u64 (.var 5)) .nil)))))))) .nil
  have hc := left_of_call (E := envG (sigG v) lo hi k) (K := knowG0 (bounds lo hi k)) (d := 40) (f := 5) (args := argM) (known_G0 (E := envG (sigG v) lo hi k) rfl hB rfl) hrun (N := 100) hN hobj hargs (num_G hv h1 h2 h3') (lies_G hl lo hi k)
  clear hrun hobj
  refine callsIn_wide.1 (CallsIn.mono (callsIn_wide.2 hc) (n := 0) ?_)
  rintro e w' ⟨u, rfl, hleft⟩
  refine ⟨u, rfl, hleft.see [(0, id)] ?_ (fun i x hx => ?_) (fun i i' j g1 g2 => ?_) (fun i j g => ?_)⟩
  · have n := fun {i : Nat} (a : 20 ≤ i) (b : i < 40) => h.low (k := k) a b
    refine .tuple (.cons (.agg (.cons (.num (n (i := 20) (by decide) (by decide))) (.cons (.num (n (i := 21) (by decide) (by decide))) (.cons (.num (n (i := 22) (by decide) (by decide))) (.cons (.num (n (i := 23) (by decide) (by decide))) (.cons (.num (n (i := 24) (by decide) (by decide))) (.cons (.num (n (i := 25) (by decide) (by decide))) (.cons (.num (n (i := 26) (by decide) (by decide))) (.cons (.slice rfl) .nil))))))))) (.cons (.agg (.cons (.num (n (i := 27) (by decide) (by decide))) (.cons (.num (n (i := 28) (by decide) (by decide))) .nil))) (.cons (.num (n (i := 30) (by decide) (by decide))) (.cons (.num (n (i := 31) (by decide) (by decide))) .nil))))
  · have hx := heapOf_at hx
    simp only [List.mem_cons, List.mem_nil_iff, or_false, Prod.mk.injEq] at hx
    obtain ⟨rfl, rfl⟩ := hx
    exact ⟨by decide, id, _, rfl, Go.RX.heapOf_of (by simp) (by simp), .cells (jobs_svts h k hk)⟩
  · have g1 := lookN_mem g1
    have g2 := lookN_mem g2
    simp only [List.mem_cons, List.mem_nil_iff, or_false, Prod.mk.injEq] at g1 g2
    omega
  · have g := lookN_mem g
    simp only [List.mem_cons, List.mem_nil_iff, or_false, Prod.mk.injEq] at g
    omega
end

/-! ### The names' bounds -/
def boundsN (k i : Nat) : Option (Int × Int) :=
  if i < 20 then none else if i < 40 then (match i with | 20 => some (1, 3) | 21 => some (.ofNat (max k 1), .ofNat (max k 1)) | 22 => some (.ofNat k, .ofNat k) | 23 => some (1, 4) | 24 => some (0, 18446744073709551615) | 25 => some (0, 5) | 26 => some (0, 11) | 27 => some (1, 4) | 28 => some (.ofNat k, .ofNat k) | 30 => some (1, 200) | 31 => some (0, 200) | _ => none)
  else if i < 40 + k then some (1001, 1300) else if i < 50 then none else if i < 50 + k then some (0, 7) else if i < 60 then none else if i < 60 + k then some (0, 7) else if i < 70 then none else if i < 70 + k then some (0, 203) else if i < 80 then none else if i < 80 + k then some (0, 5) else if i < 90 then none else if i < 90 + k then some (0, 11) else none
noncomputable def rngIn (B : IE → Option (Int × Int)) (e : IE) (o : Option (Int × Int)) : Bool := match o with
  | none => true
  | some t => (match rng B e with | some r => (match leb t.1 r.1, leb r.2 t.2 with | true, true => true | _, _ => false) | none => false)
noncomputable def namesOk (lo hi : Int) (k : Nat) : List Nat → Bool
  | [] => true
  | i :: l => match rngIn (bounds lo hi (.ofNat k)) (nameE k i) (boundsN k i) with | true => namesOk lo hi k l | false => false
def upTo : Nat → List Nat
  | 0 => []
  | n + 1 => n :: upTo n
theorem mem_upTo : ∀ {n i : Nat}, i < n → i ∈ upTo n
  | n + 1, i, h => by
    simp only [upTo, List.mem_cons]
    by_cases e : i = n
    · exact .inl e
    · exact .inr (mem_upTo (by omega))
theorem names_1 : namesOk 1 1 1 (upTo 100) = true := by kernel_rfl
theorem names_2 : namesOk 2 2 2 (upTo 100) = true := by kernel_rfl
theorem names_3 : namesOk 3 3 3 (upTo 100) = true := by kernel_rfl
theorem names_4 : namesOk 4 4 4 (upTo 100) = true := by kernel_rfl
theorem names_5 : namesOk 5 9223372036854775807 5 (upTo 100) = true := by kernel_rfl
theorem namesOk_mem {lo hi : Int} {k : Nat} : ∀ {l : List Nat}, namesOk lo hi k l = true → ∀ i ∈ l, rngIn (bounds lo hi (.ofNat k)) (nameE k i) (boundsN k i) = true
  | [], _, i, hi => by cases hi
  | j :: l, h, i, hi => by
    simp only [namesOk] at h
    split at h
    · rename_i h1
      rcases List.mem_cons.1 hi with rfl | hi
      · exact h1
      · exact namesOk_mem h i hi
    · cases h
theorem rngIn_some {B : IE → Option (Int × Int)} {e : IE} {t : Int × Int} (h : rngIn B e (some t) = true) {σ : Sig} (hB : Based σ B) : t.1 ≤ e.val σ ∧ e.val σ ≤ t.2 := by
  unfold rngIn at h
  simp only at h
  split at h
  · rename_i r hr
    split at h
    · rename_i h1 h2
      have := rng_some hB hr
      have := leb_le h1
      have := leb_le h2
      omega
    · cases h
  · cases h
theorem boundsN_hi {k i : Nat} (hk : k ≤ 5) (h : 100 ≤ i) : boundsN k i = none := by
  unfold boundsN
  rw [if_neg (by omega), if_neg (by omega), if_neg (by omega), if_neg (by omega), if_neg (by omega), if_neg (by omega), if_neg (by omega), if_neg (by omega), if_neg (by omega), if_neg (by omega), if_neg (by omega), if_neg (by omega), if_neg (by omega)]
theorem boundsN_lo {k i : Nat} (h : i < 20) : boundsN k i = none := if_pos h
theorem boundsN_lt {k i : Nat} {t : Int × Int} (hk : k ≤ 5) (h : boundsN k i = some t) : 20 ≤ i ∧ i < 100 := by
  refine ⟨Nat.le_of_not_lt fun g => ?_, Nat.lt_of_not_le fun g => ?_⟩
  · rw [boundsN_lo g] at h; cases h
  · rw [boundsN_hi hk g] at h; cases h
theorem nm_range {v : Setup} (hv : v.Small) {lo hi : Int} {k : Nat} (hk : k ≤ 5) (h1 : lo ≤ v.n) (h2 : (v.n : Int) ≤ hi) (h3 : min v.n 5 = k) (hn : namesOk lo hi k (upTo 100) = true) {i : Nat} {t : Int × Int} (h : boundsN k i = some t) : t.1 ≤ nm v k i ∧ nm v k i ≤ t.2 := by
  have h3' : ((min v.n 5 : Nat) : Int) = ((k : Nat) : Int) := by rw [h3]
  have := namesOk_mem hn i (mem_upTo (boundsN_lt hk h).2)
  rw [h] at this
  exact rngIn_some this (based_G hv h1 h2 h3')
end Go.Proofs.YtoafolgibimgjaaGreatDoor

/- load by contract, of jobs that the run itself has made. -/
set_option linter.all false
set_option maxRecDepth 100000
namespace Go.Proofs.YtoafolgibimgjaaGreatDoor
open Go.RX Go.RX.Sym

/-- A call that changes nothing, off what it hands back. -/
theorem callsT_plain {E : Env} {f0 : Nat} {args0 : List SV} {objs0 : List (Nat × SObj)} {n0 : Nat} {x : SV} (hname : ∀ (vals : Array Value) w, (callFunc f0 vals).run E.P w = .ok (.enter f0 vals) w)
    (h : ∀ ρ vals w, Ok E ρ ⟨heapOf objs0, n0, 0⟩ w → VRels ρ args0 vals → Calls E.P f0 vals.toArray w fun e w' => ∃ u, e = .returned u ∧ VRel ρ x u ∧ On w w') : CallsT E f0 args0 objs0 n0 x ⟨heapOf objs0, n0, 0⟩ where
  name := hname
  le := Nat.le_refl _
  call ρ vals w hok hfr hv := by
    refine callsIn_wide.1 (CallsIn.mono (callsIn_wide.2 (h ρ vals w hok hv)) (n := 0) ?_)
    rintro e w' ⟨u, rfl, hx, o⟩
    exact ⟨u, ρ, rfl, ext_on hok.wrel hok.tidy o, hx⟩

/-! ### What a job's cells look like -/
def isStr : SV → Bool | .string _ => true | _ => false
def isFalse : SV → Bool | .bool false => true | _ => false
def isNil : SV → Bool | .nilslice => true | _ => false
def isTwo : SV → Bool | .int .i64 (.ofNat 2) => true | _ => false
def isZ64 : SV → Bool | .int .i64 (.ofNat 0) => true | _ => false
def isZu : SV → Bool | .int .u64 (.ofNat 0) => true | _ => false
def isI64 : SV → Bool | .int .i64 _ => true | .sint .i64 _ => true | _ => false
def likes : List (SV → Bool) := [isStr, isTwo, isZu, isZu, isZu, isZu, isZu, isZu, isFalse, isFalse, isZ64, isI64, isI64, isZ64, isNil, isI64, isI64, isI64, isI64, isI64, isI64, isI64, isI64, isI64, isI64, isI64, isI64, isI64, isI64, isI64]
def likesN : Nat → List (SV → Bool)
  | 0 => []
  | k + 1 => likesN k ++ likes
def all2 : List (SV → Bool) → List SV → Bool
  | [], [] => true
  | p :: ps, x :: xs => match p x with | true => all2 ps xs | false => false
  | _, _ => false
theorem all2_get : ∀ {ps : List (SV → Bool)} {xs : List SV}, all2 ps xs = true → ∀ (i : Nat) (p : SV → Bool), ps[i]? = some p → ∃ x, xs[i]? = some x ∧ p x = true
  | [], [], _, i, p, h => by simp at h
  | [], _ :: _, h, _, _, _ => by simp [all2] at h
  | _ :: _, [], h, _, _, _ => by simp [all2] at h
  | q :: ps, x :: xs, h, i, p, hp => by
    simp only [all2] at h
    split at h
    · rename_i hq
      match i with
      | 0 => simp at hp; subst hp; exact ⟨x, rfl, hq⟩
      | i + 1 => simpa using all2_get h i p (by simpa using hp)
    · cases h
theorem likes_len : ∀ k, (likesN k).length = k * 30
  | 0 => rfl
  | k + 1 => by
    show (likesN k ++ likes).length = _
    rw [List.length_append, likes_len k]
    show k * 30 + 30 = _
    omega
theorem likes_get : ∀ k i c, i < k → c < 30 → (likesN k)[i * 30 + c]? = likes[c]?
  | k + 1, i, c, hi, hc => by
    show (likesN k ++ likes)[i * 30 + c]? = _
    by_cases h : i = k
    · subst h
      rw [List.getElem?_append_right (by rw [likes_len]; omega), likes_len]
      congr 1
      omega
    · rw [List.getElem?_append_left (by rw [likes_len]; omega)]
      exact likes_get k i c (by omega) hc
/-- The number that such a cell holds. -/
def ieOf : SV → IE
  | .sint _ e => e
  | .int _ n => .lit n
  | _ => .lit 0
def stOf (cs : List SV) (i : Nat) : IE := ieOf (cs.getD (i * 30 + 11) .unknown)
def peOf (cs : List SV) (i : Nat) : IE := ieOf (cs.getD (i * 30 + 12) .unknown)
theorem i64_val {ρ : Ren} {x : SV} {u : Value} (h : isI64 x = true) (hx : VRel ρ x u) : u = .int .i64 ((ieOf x).val ρ.sig) := by
  unfold isI64 at h
  split at h
  · have := hx.int_inv
    subst this
    rfl
  · exact hx.sint_inv
  · cases h

theorem jb_of {E : Env} {ρ : Ren} {S : SW} {w : World} (hok : Ok E ρ S w) {k id mk : Nat} {cs : List SV} (hobj : S.at id = some (.cells cs mk)) (hl : all2 (likesN k) cs = true) {b o t : Nat} (hρ : ρ id = some (b, o, t)) (hk : k ≤ 1000000) :
    ∃ v : Jb, v.b = b ∧ v.x = o ∧ v.n = k ∧ (∀ i, i < k → v.st i = (stOf cs i).val ρ.sig ∧ v.pe i = (peOf cs i).val ρ.sig) ∧ v.Lies w := by
  obtain ⟨ob, hheap, hrel⟩ := hok.wrel.obj id _ _ hobj hρ
  cases hrel with
  | cells arr el fz ht hlen hfz hmk hwh hc =>
    have hcell : ∀ i c, i < k → c < 30 → ∃ p x u, likes[c]? = some p ∧ cs[i * 30 + c]? = some x ∧ p x = true ∧ arr[o + i * 30 + c]? = some u ∧ VRel ρ x u := fun i c hi hcc => by
      have h1 := likes_get k i c hi hcc
      have h2 : likes[c]? = some (likes[c]'(by show c < 30; exact hcc)) := List.getElem?_eq_getElem _
      rw [h2] at h1
      obtain ⟨x, h3, h4⟩ := all2_get hl _ _ h1
      obtain ⟨u, h5, h6⟩ := hc _ x h3
      exact ⟨_, x, u, h2, h3, h4, by rw [Nat.add_assoc]; exact h5, h6⟩
    have hat : ∀ i c, i < k → c < 30 → arr[o + i * 30 + c]? = some (match arr[o + i * 30 + c]? with | some u => u | none => .bool false) := fun i c hi hcc => by
      obtain ⟨p, x, u, -, -, -, h, -⟩ := hcell i c hi hcc
      rw [h]
    have num : ∀ i c, i < k → c < 30 → likes[c]? = some isI64 → (match arr[o + i * 30 + c]? with | some u => u | none => .bool false) = .int .i64 ((ieOf (cs.getD (i * 30 + c) .unknown)).val ρ.sig) := fun i c hi hcc hlk => by
      obtain ⟨p, x, u, h1, h2, h3, h4, h5⟩ := hcell i c hi hcc
      rw [hlk] at h1
      simp only [Option.some.injEq] at h1
      subst h1
      rw [h4, List.getD_eq_getElem?_getD, h2]
      exact i64_val h3 h5
    have fixed : ∀ i c (q : SV → Bool) (y : Value), i < k → c < 30 → likes[c]? = some q → (∀ x u, q x = true → VRel ρ x u → u = y) → (match arr[o + i * 30 + c]? with | some u => u | none => .bool false) = y := fun i c q y hi hcc hlk hq => by
      obtain ⟨p, x, u, h1, h2, h3, h4, h5⟩ := hcell i c hi hcc
      rw [hlk] at h1
      simp only [Option.some.injEq] at h1
      subst h1
      rw [h4]
      exact hq x u h3 h5
    have qTwo : ∀ x u, isTwo x = true → VRel ρ x u → u = .int .i64 2 := fun x u h hx => by
      unfold isTwo at h; split at h
      · exact hx.int_inv
      · cases h
    have qZ : ∀ x u, isZ64 x = true → VRel ρ x u → u = .int .i64 0 := fun x u h hx => by
      unfold isZ64 at h; split at h
      · exact hx.int_inv
      · cases h
    have qZu : ∀ x u, isZu x = true → VRel ρ x u → u = .int .u64 0 := fun x u h hx => by
      unfold isZu at h; split at h
      · exact hx.int_inv
      · cases h
    have qF : ∀ x u, isFalse x = true → VRel ρ x u → u = .bool false := fun x u h hx => by
      unfold isFalse at h; split at h
      · cases hx; rfl
      · cases h
    have qN : ∀ x u, isNil x = true → VRel ρ x u → u = .slice none 0 0 := fun x u h hx => by
      unfold isNil at h; split at h
      · cases hx; rfl
      · cases h
    refine ⟨⟨b, o, k, fun i c => (match arr[o + i * 30 + c]? with | some u => u | none => .bool false), fun i => (stOf cs i).val ρ.sig, fun i => (peOf cs i).val ρ.sig⟩, rfl, rfl, rfl, fun i hi => ⟨rfl, rfl⟩, hk, fun i hi => ?_, arr, el, fz, hheap, fun i c hi hcc => hat i c hi hcc⟩
    have hi : i < k := hi
    refine ⟨?_, fixed i 1 isTwo _ hi (by decide) rfl qTwo, fun c h1 h2 => ?_, fun c h1 h2 => ?_, fixed i 10 isZ64 _ hi (by decide) rfl qZ, num i 11 hi (by decide) rfl, num i 12 hi (by decide) rfl, fixed i 13 isZ64 _ hi (by decide) rfl qZ, fixed i 14 isNil _ hi (by decide) rfl qN, fun c h1 h2 => ?_⟩
    · obtain ⟨p, x, u, h1, h2, h3, h4, h5⟩ := hcell i 0 hi (by decide)
      simp only [likes, List.getElem?_cons_zero, Option.some.injEq] at h1
      subst h1
      refine (?_ : ∃ s, (match arr[o + i * 30 + 0]? with | some u => u | none => .bool false) = Value.string s)
      rw [h4]
      unfold isStr at h3; split at h3
      · cases h5; exact ⟨_, rfl⟩
      · cases h3
    · have : c = 2 ∨ c = 3 ∨ c = 4 ∨ c = 5 ∨ c = 6 ∨ c = 7 := by omega
      rcases this with h | h | h | h | h | h <;> subst h <;> exact fixed i _ isZu _ hi (by decide) rfl qZu
    · have : c = 8 ∨ c = 9 := by omega
      rcases this with h | h <;> subst h <;> exact fixed i _ isFalse _ hi (by decide) rfl qF
    · have : c = 15 ∨ c = 16 ∨ c = 17 ∨ c = 18 ∨ c = 19 ∨ c = 20 ∨ c = 21 ∨ c = 22 ∨ c = 23 ∨ c = 24 ∨ c = 25 ∨ c = 26 ∨ c = 27 ∨ c = 28 ∨ c = 29 := by omega
      rcases this with h | h | h | h | h | h | h | h | h | h | h | h | h | h | h <;> subst h <;> exact ⟨_, num i _ hi (by decide) rfl⟩

/-! ### The contract -/
/-- load's result is a function of these numbers. -/
structure Asked (k : Nat) (st pe : Nat → Int) (w fr b : Int) : Prop where
  k6 : k ≤ 6
  pos : ∀ i, i < k → 1 ≤ pe i ∧ pe i ≤ 68719476736 ∧ 0 ≤ st i ∧ st i ≤ 253402300799 ∧ b + pe i ≤ 253402300799
  three : ∀ i, i < k → rank (st i) (pe i) b ≤ 3
  w1 : 1 ≤ w
  wm : w ≤ 1000000
  f0 : 0 ≤ fr
  fb : fr ≤ b
  bm : b ≤ 253402300799
/-- Jobs of which only the times matter. -/
def bare (k : Nat) (st pe : Nat → Int) : Jb := ⟨0, 0, k, fun _ _ => .bool false, st, pe⟩
theorem scan_bare {v : Jb} {t b : Int} : ∀ k, k ≤ v.n → ∀ {st pe : Nat → Int}, (∀ i, i < v.n → v.st i = st i ∧ v.pe i = pe i) → scan v t b k = scan (bare v.n st pe) t b k
  | 0, _, _, _, _ => rfl
  | k + 1, hk, st, pe, h => by
    have e := h k (by omega)
    have e2 : v.nx t k = (bare v.n st pe).nx t k := by
      show due (v.st k) (v.pe k) (t + 1) = due (st k) (pe k) (t + 1)
      rw [e.1, e.2]
    simp only [scan, scan_bare k (by omega) h, e2]
theorem goes_bare {v : Jb} {w b : Int} {st pe : Nat → Int} (h : ∀ i, i < v.n → v.st i = st i ∧ v.pe i = pe i) {s r : LS} (hg : Goes (bare v.n st pe) w b s r) : Goes v w b s r := by
  induction hg with
  | none h0 =>
    refine .none ?_
    rw [scan_bare v.n (Nat.le_refl _) h]; exact h0
  | last h0 hl =>
    rename_i s
    have e := scan_bare (v := v) (t := s.t) (b := b) v.n (Nat.le_refl _) h
    have := Goes.last (v := v) (w := w) (b := b) (s := s) (by rw [e]; exact h0) (by rw [e]; exact hl)
    rw [e] at this
    exact this
  | step h0 hl hr ih =>
    rename_i s r
    have e := scan_bare (v := v) (t := s.t) (b := b) v.n (Nat.le_refl _) h
    have ih := ih
    refine Goes.step (by rw [e]; exact h0) (by rw [e]; exact hl) ?_
    rw [e]
    exact ih
theorem ranks_bare {v : Jb} {st pe : Nat → Int} {t : Int} (h : ∀ i, i < v.n → v.st i = st i ∧ v.pe i = pe i) (h3 : ∀ i, i < v.n → rank (st i) (pe i) t ≤ 3) : ∀ k, k ≤ v.n → v.ranks t k ≤ 3 * k
  | 0, _ => Nat.le_refl _
  | k + 1, hk => by
    have h1 := ranks_bare h h3 k (by omega)
    have h2 := h3 k (by omega)
    have e := h k (by omega)
    simp only [Jb.ranks]
    rw [e.1, e.2]
    omega

def cfgSV (id k least : Nat) (c : List SV) : SV := .agg (c ++ [.slice id 0 k (.toEnd 30 least)])
/-- The configuration's first seven cells. -/
structure Seven (ρ : Ren) (c : List SV) (z : Nat → Int) : Prop where
  is : ∀ vals, VRels ρ c vals → vals = [.int .i64 (z 20), .int .i64 (z 21), .int .i64 (z 22), .int .i64 (z 23), .int .u64 (z 24), .int .i64 (z 25), .int .i64 (z 26)]

theorem vrels_app {ρ : Ren} : ∀ {a b : List SV} {vals : List Value}, VRels ρ (a ++ b) vals → ∃ u w, vals = u ++ w ∧ VRels ρ a u ∧ VRels ρ b w
  | [], b, vals, h => ⟨[], vals, rfl, .nil, h⟩
  | x :: a, b, vals, h => by
    cases h with
    | cons h1 h2 =>
      obtain ⟨u, w, rfl, g1, g2⟩ := vrels_app h2
      exact ⟨_ :: u, w, rfl, .cons h1 g1, g2⟩

theorem load_callsT2 {E : Env} (hP : E.P = Tryz.prog) {k mk : Nat} {c cs : List SV} {we fe te xa xb : SV} {st pe : Nat → Int} {w fr b : Int} (ha : Asked k st pe w fr b) (h1 : 1 ≤ k) (hl : all2 (likesN k) cs = true) (hst : ∀ i, i < k → (stOf cs i).val E.sig = st i ∧ (peOf cs i).val E.sig = pe i)
    {z : Nat → Int} (hc : ∀ ρ : Ren, ρ.sig = E.sig → Seven ρ c z) (hw : ∀ (ρ : Ren) u, ρ.sig = E.sig → VRel ρ we u → u = .int .i64 w) (hf : ∀ (ρ : Ren) u, ρ.sig = E.sig → VRel ρ fe u → u = .int .i64 fr) (ht : ∀ (ρ : Ren) u, ρ.sig = E.sig → VRel ρ te u → u = .int .i64 b)
    {R : LS} (hR : Goes (bare k st pe) w b (ls0 fr) R) (hxa : ∀ ρ : Ren, ρ.sig = E.sig → VRel ρ xa (.int .i64 R.best)) (hxb : ∀ ρ : Ren, ρ.sig = E.sig → VRel ρ xb (.int .i64 R.pos)) {least : Nat} :
    CallsT E 15 [cfgSV 0 k least c, we, fe, te] [(0, .cells cs mk)] 1 (.tuple [xa, xb]) ⟨heapOf [(0, .cells cs mk)], 1, 0⟩ := by
  refine callsT_plain (by rw [hP]; exact name_load) fun ρ vals W hok hv => ?_
  have hσ : ρ.sig = E.sig := hok.num.sig
  cases hv with
  | cons v1 hv => cases hv with
    | cons v2 hv => cases hv with
      | cons v3 hv => cases hv with
        | cons v4 hv =>
          cases hv
          have v2 := hw ρ _ hσ v2
          have v3 := hf ρ _ hσ v3
          have v4 := ht ρ _ hσ v4
          subst v2 v3 v4
          cases v1 with
          | agg v1 =>
            obtain ⟨u, u2, rfl, g1, g2⟩ := vrels_app v1
            have g1 := (hc ρ hσ).is u g1
            subst g1
            cases g2 with
            | cons g2 g3 =>
              cases g3
              cases g2 with
              | sliceT hρ ht2 hlc hkc hx =>
                rename_i bb o t x cap
                have hxo : x = o := by rcases hx with e | e <;> omega
                subst hxo
                obtain ⟨v, e1, e2, e3, e4, hv⟩ := jb_of (k := k) (id := 0) (mk := mk) (cs := cs) hok (Go.RX.heapOf_of (l := [(0, .cells cs mk)]) (by simp) (by simp)) hl hρ (by have := ha.k6; omega)
                subst e1 e2 e3
                have hs : ∀ i, i < v.n → v.st i = st i ∧ v.pe i = pe i := fun i hi => by
                  rw [(e4 i hi).1, (e4 i hi).2, hσ]
                  exact hst i hi
                have hh : Here v (fun i => match i with | 4 => fr | 5 => b | 6 => w | i => z i) fr b := by
                  refine ⟨ha.k6, fun i hi => ?_, ?_, rfl, ha.w1, ha.wm, ha.f0, ha.fb, ha.bm⟩
                  · rw [(hs i hi).1, (hs i hi).2]; exact ha.pos i hi
                  · have := ranks_bare hs ha.three v.n (Nat.le_refl _)
                    have := ha.k6
                    omega
                have key := load_calls hh rfl hv (goes_bare hs hR) hlc
                rw [hP]
                refine callsIn_wide.1 (CallsIn.mono (callsIn_wide.2 key) (n := 0) ?_)
                rintro e w' ⟨rfl, o⟩
                exact ⟨_, rfl, .tuple (.cons (hxa ρ hσ) (.cons (hxb ρ hσ) .nil)), o⟩
end Go.Proofs.YtoafolgibimgjaaGreatDoor
