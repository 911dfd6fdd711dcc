/- BoundParts answers true, whatever the setup. -/
import Derived.Test.YtoafolgibimgjaaGreatDoorQ2
import Derived.Test.YtoafolgibimgjaaGreatDoorQ3
import Derived.Test.YtoafolgibimgjaaGreatDoorQ4
set_option linter.all false
set_option maxRecDepth 100000
namespace Go.Proofs.YtoafolgibimgjaaGreatDoor
open Go.RX Go.RX.Sym

theorem pa_of {k m : Nat} (h1 : 1 ≤ k) (h5 : k ≤ 5) (hm : m ≤ 5) (σ : Sig) : paRun σ (hiOf k) k m = true := by
  have hk : k = 1 ∨ k = 2 ∨ k = 3 ∨ k = 4 ∨ k = 5 := by omega
  have hm' : m = 0 ∨ m = 1 ∨ m = 2 ∨ m = 3 ∨ m = 4 ∨ m = 5 := by omega
  rcases hk with e | e | e | e | e <;> subst e
  · rcases hm' with e | e | e | e | e | e <;> subst e
    · exact pa_10 σ
    · exact pa_11 σ
    · exact pa_12 σ
    · exact pa_13 σ
    · exact pa_14 σ
    · exact pa_15 σ
  · rcases hm' with e | e | e | e | e | e <;> subst e
    · exact pa_20 σ
    · exact pa_21 σ
    · exact pa_22 σ
    · exact pa_23 σ
    · exact pa_24 σ
    · exact pa_25 σ
  · rcases hm' with e | e | e | e | e | e <;> subst e
    · exact pa_30 σ
    · exact pa_31 σ
    · exact pa_32 σ
    · exact pa_33 σ
    · exact pa_34 σ
    · exact pa_35 σ
  · rcases hm' with e | e | e | e | e | e <;> subst e
    · exact pa_40 σ
    · exact pa_41 σ
    · exact pa_42 σ
    · exact pa_43 σ
    · exact pa_44 σ
    · exact pa_45 σ
  · rcases hm' with e | e | e | e | e | e <;> subst e
    · exact pa_50 σ
    · exact pa_51 σ
    · exact pa_52 σ
    · exact pa_53 σ
    · exact pa_54 σ
    · exact pa_55 σ
theorem pz_n {m : Nat} (hm : m ≤ 5) (σ : Sig) : zRunP (fun _ => none) σ .nilslice m = true := by
  have hm' : m = 0 ∨ m = 1 ∨ m = 2 ∨ m = 3 ∨ m = 4 ∨ m = 5 := by omega
  rcases hm' with e | e | e | e | e | e <;> subst e
  · exact pz_n0 σ
  · exact pz_n1 σ
  · exact pz_n2 σ
  · exact pz_n3 σ
  · exact pz_n4 σ
  · exact pz_n5 σ
theorem pz_r {m : Nat} (hm : m ≤ 5) (σ : Sig) : zRunP rowsT σ (.row 0) m = true := by
  have hm' : m = 0 ∨ m = 1 ∨ m = 2 ∨ m = 3 ∨ m = 4 ∨ m = 5 := by omega
  rcases hm' with e | e | e | e | e | e <;> subst e
  · exact pz_r0 σ
  · exact pz_r1 σ
  · exact pz_r2 σ
  · exact pz_r3 σ
  · exact pz_r4 σ
  · exact pz_r5 σ
/-! ### What stays -/
def pairsK : List (Nat × Nat) := [1, 2, 3, 4, 5].flatMap fun k => [0, 1, 2, 3, 4, 5].map fun m => (k, m)
noncomputable def keepI (p : Nat × Nat) : Bool := match keptOk ⟨heapOf (objI p.1 p.2), 4, 0⟩ [] (objI p.1 p.2), keptOk ⟨heapOf (objP p.1 p.2), 1, 0⟩ [] (objP p.1 p.2) with | true, true => true | _, _ => false
noncomputable def keepAll : List (Nat × Nat) → Bool
  | [] => true
  | p :: l => match keepI p with | true => keepAll l | false => false
theorem keep_all : keepAll pairsK = true := by kernel_rfl
theorem keepAll_mem : ∀ {l : List (Nat × Nat)}, keepAll l = true → ∀ p ∈ l, keepI p = true
  | [], _, p, hp => by cases hp
  | q :: l, h, p, hp => by
    simp only [keepAll] at h
    split at h
    · rename_i hq
      rcases List.mem_cons.1 hp with rfl | hp
      · exact hq
      · exact keepAll_mem h p hp
    · cases h
theorem keep_of {k m : Nat} (h1 : 1 ≤ k) (h5 : k ≤ 5) (hm : m ≤ 5) : keptOk ⟨heapOf (objI k m), 4, 0⟩ [] (objI k m) = true ∧ keptOk ⟨heapOf (objP k m), 1, 0⟩ [] (objP k m) = true := by
  have hmem : (k, m) ∈ pairsK := by
    refine List.mem_flatMap.2 ⟨k, ?_, List.mem_map.2 ⟨m, ?_, rfl⟩⟩
    · have hk : k = 1 ∨ k = 2 ∨ k = 3 ∨ k = 4 ∨ k = 5 := by omega
      rcases hk with e | e | e | e | e <;> subst e <;> decide
    · have hm' : m = 0 ∨ m = 1 ∨ m = 2 ∨ m = 3 ∨ m = 4 ∨ m = 5 := by omega
      rcases hm' with e | e | e | e | e | e <;> subst e <;> decide
  have := keepAll_mem keep_all _ hmem
  unfold keepI at this
  split at this
  · rename_i a b
    exact ⟨a, b⟩
  · cases this
theorem upd_jobs1 : updOk ⟨heapOf [(0, .cells (nameJobs 1) 111)], 1, 0⟩ [(0, some (.cells (nameJobs 1) 111))] = true := by kernel_rfl
theorem upd_jobs2 : updOk ⟨heapOf [(0, .cells (nameJobs 2) 111)], 1, 0⟩ [(0, some (.cells (nameJobs 2) 111))] = true := by kernel_rfl
theorem upd_jobs3 : updOk ⟨heapOf [(0, .cells (nameJobs 3) 111)], 1, 0⟩ [(0, some (.cells (nameJobs 3) 111))] = true := by kernel_rfl
theorem upd_jobs4 : updOk ⟨heapOf [(0, .cells (nameJobs 4) 111)], 1, 0⟩ [(0, some (.cells (nameJobs 4) 111))] = true := by kernel_rfl
theorem upd_jobs5 : updOk ⟨heapOf [(0, .cells (nameJobs 5) 111)], 1, 0⟩ [(0, some (.cells (nameJobs 5) 111))] = true := by kernel_rfl
theorem upd_jobs {k : Nat} (h1 : 1 ≤ k) (h : k ≤ 5) : updOk ⟨heapOf [(0, .cells (nameJobs k) 111)], 1, 0⟩ [(0, some (.cells (nameJobs k) 111))] = true := by
  have : k = 1 ∨ k = 2 ∨ k = 3 ∨ k = 4 ∨ k = 5 := by omega
  rcases this with e | e | e | e | e <;> subst e
  · exact upd_jobs1
  · exact upd_jobs2
  · exact upd_jobs3
  · exact upd_jobs4
  · exact upd_jobs5

section
variable {R : Nat → Option (List (Option IntKind))} {u v : Setup} {k m : Nat} {lo hi : Int} {ex : Nat → Int}
theorem known_pIn (h : Mp v k) (hm1 : m ≠ 1) (hm5 : m ≤ 5) {K : KT} (hK : Known (envP R (sW u v k ex) lo hi k m) K) : ∀ i, i ≤ k → Known (envP R (sW u v k ex) lo hi k m) (pIn k m i K)
  | 0, _ => hK
  | i + 1, hj => known_memo (T' := ⟨heapOf (objI k m), 4, 0⟩) (innerP h (i := i) (by omega) hm1) rfl (keep_of h.k1 h.k5 hm5).1 (known_pIn h hm1 hm5 hK i (by omega))
noncomputable def pTail (k m : Nat) : KT := match m with | 1 => pWorks noC | _ => pIn k m k (pWorks noC)
theorem known_tail (h : Mp v k) (hm5 : m ≤ 5) : Known (envP R (sW u v k ex) lo hi k m) (pTail k m) := by
  have hW : Known (envP R (sW u v k ex) lo hi k m) (pWorks noC) := known_memo (T' := ⟨heapOf [], 0, 0⟩) worksP rfl rfl (known_nothing _)
  by_cases c : m = 1
  · subst c; exact hW
  · have e : pTail k m = pIn k m k (pWorks noC) := by
      unfold pTail
      split
      · exact absurd rfl c
      · rfl
    rw [e]
    exact known_pIn h c hm5 hW k (Nat.le_refl _)
/-- All but Made. -/
theorem known_rest (h : Mp v k) (hm5 : m ≤ 5) (hx : ExOk v k m ex) {w : Int} (hw : (winX k m).val (sW u v k ex) = w) (hw1 : 1 ≤ w) (hwm : w ≤ 1000000) {Rs : LS} (hR : Goes (bare (countP k m) (stP v k m) (fun _ => per v k)) w (til v k m) (ls0 (frm v k m)) Rs) (hxr : ex 110 = Rs.best) (hyr : ex 111 = Rs.pos) :
    Known (envP R (sW u v k ex) lo hi k m) (pLd k m (pCnt m k (pLim k (pTail k m)))) := by
  refine known_memo (T' := ⟨heapOf (objP k m), 1, 0⟩) (loadP h hw hw1 hwm hR hxr hyr) rfl (keep_of h.k1 h.k5 hm5).2 ?_
  exact known_pCnt h hx (known_pLim h (known_tail h hm5) k (Nat.le_refl _)) k (Nat.le_refl _)
theorem made_callsT (h : Mp v k) (hlie : ∀ {W : World}, RX.Lies (envP R (sW v v k ex) lo hi k m) W → v.Lie W) : CallsT (envP R (sW v v k ex) lo hi k m) 5 argM [] 0 (nameX k) ⟨heapOf [(0, .cells (nameJobs k) 111)], 1, 0⟩ :=
  callsT_of_left (nameF nameMade) fun ρ vals w hok hv => by
    have hσ : ρ.sig = sW v v k ex := hok.num.sig
    have hl := hlie hok.glob.lies
    cases hv with
    | cons hv hv2 =>
      cases hv2
      cases hv with
      | agg hv =>
        cases hv with | cons a0 hv => cases hv with | cons a1 hv => cases hv with | cons a2 hv => cases hv with | cons a3 hv => cases hv with | cons a4 hv => cases hv with | cons a5 hv => cases hv with | cons a6 hv =>
          cases hv
          have a1 := a1.sint_inv
          have a2 := a2.sint_inv
          have a3 := a3.sint_inv
          have a4 := a4.sint_inv
          have a5 := a5.sint_inv
          have a6 := a6.sint_inv
          rw [hσ, w_low (by decide)] at a1 a2 a3 a4 a5 a6
          subst a1 a2 a3 a4 a5 a6
          cases a0 with
          | row hr hc =>
            rw [hσ] at hr
            have hr : ((v.b, v.x, 6, v.n) : Nat × Nat × Nat × Nat) = _ := hr
            simp only [Prod.mk.injEq] at hr
            obtain ⟨rfl, rfl, -, rfl⟩ := hr
            exact made_calls (σ' := sW v v k ex) h.small hl hc h.lohi.1 h.lohi.2 h.is h.k5 (id := 5 * k + 4) (by have := h.k5; omega) (made_ok h.k1 h.k5 _) (h.named ex)
theorem win_indep (h : Mp v k) (ex ex' : Nat → Int) : (winX k m).val (sW u v k ex) = (winX k m).val (sW u v k ex') := by
  have e1 : (highX k).val (sW u v k ex) = (highX k).val (sW u v k ex') := (high_val h k h.k1 (Nat.le_refl _)).1.trans (high_val h k h.k1 (Nat.le_refl _)).1.symm
  have e2 : (lowX k).val (sW u v k ex) = (lowX k).val (sW u v k ex') := (low_val h k h.k1 (Nat.le_refl _)).1.trans (low_val h k h.k1 (Nat.le_refl _)).1.symm
  have e3 : (sumX k).val (sW u v k ex) = (sumX k).val (sW u v k ex') := (sum_val k h.k5).trans (sum_val k h.k5).symm
  have e4 : ∀ i, 20 ≤ i → i < 100 → IE.val (sW u v k ex) (.var i) = IE.val (sW u v k ex') (.var i) := fun i a b => (w_nm a b).trans (w_nm a b).symm
  by_cases c : m = 1
  · subst c
    show opVal .add .i64 (opVal .add .i64 (opVal .mul .i64 (opVal .sub .i64 (if (highX k).val (sW u v k ex) < IE.val (sW u v k ex) (.var 50) then IE.val (sW u v k ex) (.var 50) else (highX k).val (sW u v k ex)) (if IE.val (sW u v k ex) (.var 50) < (lowX k).val (sW u v k ex) then IE.val (sW u v k ex) (.var 50) else (lowX k).val (sW u v k ex))) (IE.val (sW u v k ex) (.var 23))) (if (sumX k).val (sW u v k ex) < IE.val (sW u v k ex) (.var 60) then IE.val (sW u v k ex) (.var 60) else (sumX k).val (sW u v k ex))) 1 = _
    rw [e1, e2, e3, e4 50 (by decide) (by decide), e4 60 (by decide) (by decide), e4 23 (by decide) (by decide)]
    rfl
  · have e : winX k m = winY (highX k) (lowX k) (sumX k) := by
      unfold winX
      split
      · exact absurd rfl c
      · rfl
    rw [e]
    show opVal .add .i64 (opVal .add .i64 (opVal .mul .i64 (opVal .sub .i64 ((highX k).val (sW u v k ex)) ((lowX k).val (sW u v k ex))) (IE.val (sW u v k ex) (.var 23))) ((sumX k).val (sW u v k ex))) 1 = _
    rw [e1, e2, e3, e4 23 (by decide) (by decide)]
    rfl
/-- The names above 100: what load finds; how many due times each job has. -/
theorem ex_of (u : Setup) (h : Mp v k) (m : Nat) : ∃ (ex : Nat → Int) (w : Int) (Rs : LS), ExOk v k m ex ∧ (winX k m).val (sW u v k ex) = w ∧ 1 ≤ w ∧ w ≤ 1000000 ∧ Goes (bare (countP k m) (stP v k m) (fun _ => per v k)) w (til v k m) (ls0 (frm v k m)) Rs ∧ ex 110 = Rs.best ∧ ex 111 = Rs.pos := by
  obtain ⟨w, hw, w1, w2, w3⟩ := win_val (u := u) (ex := fun _ => 0) (m := m) h
  have hp := h.perR
  have hs := span_range (m := m) h
  have hP : ∀ i, i < (bare (countP k m) (stP v k m) (fun _ => per v k)).n → 1 ≤ (bare (countP k m) (stP v k m) (fun _ => per v k)).pe i := fun i _ => hp.1
  obtain ⟨Rs, hR⟩ := goes_ex (b := til v k m) hP w _ (ls0 (frm v k m)) (Nat.le_refl _)
  have hA := goes_all hP w1 hR (inv0 hP _) (by show frm v k m - 1 ≤ _; omega)
  refine ⟨fun i => if i = 110 then Rs.best else if i = 111 then Rs.pos else if 120 ≤ i ∧ i < 120 + k then (rank (sta v k (i - 120)) (per v k) (til v k m) : Int) - rank (sta v k (i - 120)) (per v k) (frm v k m - 1) else 0, w, Rs, ⟨fun i hi => ?_, fun i h1 h2 => ?_, ?_⟩, ?_, w1, by omega, hR, rfl, rfl⟩
  · rw [if_neg (by omega), if_neg (by omega), if_pos (by omega), show 120 + i - 120 = i by omega]
  · rw [if_neg (by omega), if_neg (by omega)]
    split
    · have hi : i - 120 < k := by omega
      have a := rank_le3 h hi hs.2.2
      have hst := h.staR hi
      have b := rank_mono (s := sta v k (i - 120)) (P := per v k) hp.1 (show frm v k m - 1 ≤ til v k m by omega)
      omega
    · omega
  · by_cases c : m = 1
    · subst c
      show 0 < Rs.best
      have hk := h.k1
      have e0 : stP v k 1 0 = sta v k 0 := by unfold stP; rw [if_neg (by omega)]
      have h0 := h.staR (i := 0) (by omega)
      exact best_some (by rw [countP_eq, if_pos rfl]; omega) (by rw [e0]; show (1000 : Int) ≤ _; omega) (by rw [e0]; show _ ≤ 1000 + 3 * per v k; omega) w1 hA
    · have hc : countP k m = k := by rw [countP_eq, if_neg c]
      have hb : Rs.best ≤ (countP k m : Nat) := best_few hp.1 (fun i hi => stP_range h hi) hs.1 hs.2.2 w1 w2 hA
      rw [hc] at hb
      split
      · exact absurd rfl c
      · exact hb
  · rw [win_indep (u := u) h _ (fun _ => 0)]; exact hw
def valP (v : Setup) (l : Value) : List Value := [.agg #[l, .int .u8 (v.var 0), .int .u8 (v.var 1), .int .u8 (v.var 2), .int .u8 (v.var 3), .int .u8 (v.var 4), .int .u64 (v.var 5)], .int .u8 (v.var 6), .int .u16 (v.var 7)]
theorem argsP_rel {ρ : Ren} (hσ : ∀ i, i < 20 → IE.val ρ.sig (.var i) = v.var i) {l : SV} {x : Value} (hl : VRel ρ l x) : VRels ρ [.agg (l :: tail), .sint .u8 (.var 6), .sint .u16 (.var 7)] (valP v x) := by
  have low : ∀ (t : IntKind) {i : Nat}, i < 20 → VRel ρ (.sint t (.var i)) (.int t (v.var i)) := fun t i hi => by
    have := VRel.sint (ρ := ρ) t (.var i)
    rw [hσ i hi] at this
    exact this
  exact .cons (.agg (.cons hl (.cons (low .u8 (i := 0) (by decide)) (.cons (low .u8 (i := 1) (by decide)) (.cons (low .u8 (i := 2) (by decide)) (.cons (low .u8 (i := 3) (by decide)) (.cons (low .u8 (i := 4) (by decide)) (.cons (low .u64 (i := 5) (by decide)) .nil)))))))) (.cons (low .u8 (i := 6) (by decide)) (.cons (low .u16 (i := 7) (by decide)) .nil))
theorem rows_len : ∀ (σ : Sig), σ.row = (sigG u).row → ∀ a ks, rowsT a = some ks → (σ.row a).2.2.1 = ks.length := fun σ hσ a ks h => by
  rw [hσ]
  unfold rowsT at h
  split at h
  · simp only [Option.some.injEq] at h; subst h; rfl
  · simp only [Option.some.injEq] at h; subst h; rfl
  · cases h
theorem p_lies {W : World} (h : u.Lie W) : RX.Lies (envP rowsT (sW u v k ex) lo hi k m) W := ⟨fun g cs hg => (by cases hg), fun a ks ha => (lies_G h 0 0 0).rows a ks ha⟩
theorem p_lie {W : World} (h : RX.Lies (envP rowsT (sW u v k ex) lo hi k m) W) : u.Lie W := by
  obtain ⟨b, x, n, arr, el, fz, h1, h2, h3⟩ := h.rows 0 taskKinds rfl
  have h1 : ((u.b, u.x, 6, u.n) : Nat × Nat × Nat × Nat) = (b, x, taskKinds.length, n) := h1
  simp only [Prod.mk.injEq] at h1
  obtain ⟨rfl, rfl, -, rfl⟩ := h1
  refine ⟨arr, el, fz, h2, fun i c hi hc => ?_⟩
  have hk : taskKinds[c]? = some (taskKinds[c]'(by show c < 6; exact hc)) := List.getElem?_eq_getElem _
  exact (h3 i c _ hi hk).1
theorem mod6 (h : 0 ≤ v.var 6) : ∃ m : Nat, m ≤ 5 ∧ v.var 6 % 6 = m := ⟨(v.var 6 % 6).toNat, by
  have h1 : 0 ≤ v.var 6 % 6 := Int.emod_nonneg _ (by decide)
  have h2 : v.var 6 % 6 < 6 := Int.emod_lt_of_pos _ (by decide)
  omega, by
  have h1 : 0 ≤ v.var 6 % 6 := Int.emod_nonneg _ (by decide)
  omega⟩
theorem parts_some (h : Mp v k) {W : World} (hl : v.Lie W) {cap : Nat} (hc : v.n ≤ cap) : Calls Tryz.prog 3 (valP v (.slice (some ⟨v.b, v.x, none⟩) v.n cap)).toArray W fun e w' => e = .returned (.bool true) ∧ On W w' := by
  obtain ⟨m, hm5, hm⟩ := mod6 h.six.1
  obtain ⟨ex, w, Rs, hx, hw, hw1, hwm, hR, hr1, hr2⟩ := ex_of v h m
  have hK0 : Known (envP rowsT (sW v v k ex) (.ofNat k) (hiOf k) k m) (pMade k (pLd k m (pCnt m k (pLim k (pTail k m))))) :=
    known_memo (T' := ⟨heapOf [(0, .cells (nameJobs k) 111)], 1, 0⟩) (made_callsT h fun {W} hh => p_lie hh) (upd_jobs h.k1 h.k5) rfl (known_rest h hm5 hx hw hw1 hwm hR hr1 hr2)
  have hK : Known (envP rowsT (sW v v k ex) (.ofNat k) (hiOf k) k m) (kP k m) := hK0
  have hnum : NumOk (envP rowsT (sW v v k ex) (.ofNat k) (hiOf k) k m) := ord_num rfl rfl (p_based h hx h.lohi) (p_facts h hm hm5 hx) (rows_len _ rfl)
  have hrun := pa_of h.k1 h.k5 hm5 (sW v v k ex)
  unfold paRun at hrun
  obtain ⟨S', hr⟩ := isBool_some hrun
  clear hrun
  have hargs : VRels (.nil (sW v v k ex)) argsP (valP v (.slice (some ⟨v.b, v.x, none⟩) v.n cap)) := argsP_rel (fun i hi => w_low hi) (.row (sz := 6) rfl hc)
  exact run_bool (E := envP rowsT (sW v v k ex) (.ofNat k) (hiOf k) k m) (K := kP k m) (d := 40) (f := 3) (args := argsP) hK hr hargs hnum (p_lies hl)

/-! ### No task -/
mutual
theorem val_congr {σ σ' : Sig} (hv : σ'.var = σ.var) (hf : σ'.fn = σ.fn) (hc : σ'.cell = σ.cell) (hr : ∀ a, (σ'.row a).2.2.2 = (σ.row a).2.2.2) : ∀ e, IE.val σ' e = IE.val σ e
  | .var i => congrFun hv i
  | .lit n => rfl
  | .len a => by show ((σ'.row a).2.2.2 : Int) = (σ.row a).2.2.2; rw [hr]
  | .sel a i c => by show (match σ'.cell a (IE.val σ' i).toNat c with | .int _ n => n | _ => 0) = (match σ.cell a (IE.val σ i).toNat c with | .int _ n => n | _ => 0); rw [val_congr hv hf hc hr i, hc]
  | .bin op k a b => by show opVal op k (IE.val σ' a) (IE.val σ' b) = opVal op k (IE.val σ a) (IE.val σ b); rw [val_congr hv hf hc hr a, val_congr hv hf hc hr b]
  | .conv k a => by show k.wrap (IE.val σ' a) = k.wrap (IE.val σ a); rw [val_congr hv hf hc hr a]
  | .neg k a => by show k.wrap (0 - IE.val σ' a) = k.wrap (0 - IE.val σ a); rw [val_congr hv hf hc hr a]
  | .max a b => by show (if IE.val σ' a < IE.val σ' b then IE.val σ' b else IE.val σ' a) = (if IE.val σ a < IE.val σ b then IE.val σ b else IE.val σ a); rw [val_congr hv hf hc hr a, val_congr hv hf hc hr b]
  | .min a b => by show (if IE.val σ' b < IE.val σ' a then IE.val σ' b else IE.val σ' a) = (if IE.val σ b < IE.val σ a then IE.val σ b else IE.val σ a); rw [val_congr hv hf hc hr a, val_congr hv hf hc hr b]
  | .fn f l => by show σ'.fn f (IE.vals σ' l) = σ.fn f (IE.vals σ l); rw [vals_congr hv hf hc hr l, hf]
theorem vals_congr {σ σ' : Sig} (hv : σ'.var = σ.var) (hf : σ'.fn = σ.fn) (hc : σ'.cell = σ.cell) (hr : ∀ a, (σ'.row a).2.2.2 = (σ.row a).2.2.2) : ∀ l, IE.vals σ' l = IE.vals σ l
  | [] => rfl
  | e :: l => by show IE.val σ' e :: IE.vals σ' l = IE.val σ e :: IE.vals σ l; rw [val_congr hv hf hc hr e, vals_congr hv hf hc hr l]
end
def zset (b x : Nat) (var : Nat → Int) : Setup := ⟨b, x, 1, fun _ _ => 0, var⟩
theorem nm_zset (b x : Nat) (var : Nat → Int) (k i : Nat) : nm (zset b x var) k i = nm (zset 0 0 var) k i :=
  val_congr (σ := sigG (zset 0 0 var)) (σ' := sigG (zset b x var)) rfl rfl rfl (fun a => by
    match a with
    | 0 => rfl
    | 1 => rfl
    | a + 2 => rfl) (nameE k i)
theorem mp_zset {u : Setup} (hu : u.Small) (h6 : 0 ≤ u.var 6 ∧ u.var 6 ≤ 255) (b x : Nat) : Mp (zset b x u.var) 1 :=
  ⟨⟨fun _ _ => ⟨Int.le_refl _, by show (0 : Int) ≤ 255; decide⟩, hu.five, hu.six, hu.seven, hu.other, by show 1 ≤ 9223372036854775807; decide⟩, h6, Nat.le_refl _, by decide, rfl⟩
theorem made_zero (hu : u.Small) (h6 : 0 ≤ u.var 6 ∧ u.var 6 ≤ 255) : CallsT (envP R (sW u (zset 0 0 u.var) 1 ex) lo hi 1 m) 5 argZ objZ 1 zeroX ⟨heapOf ([(1, .cells (nameJobs 1) 111)] ++ objZ), 2, 0⟩ := by
  have nj : ∀ j, j ≤ 5 → SVTs (sW u (zset 0 0 u.var) 1 ex) (sW u (zset 0 0 u.var) 1 ex) (fun i j => j = i ∧ 1 ≤ i) (nameJobs j) (nameJobs j) := by
    intro j
    induction j with
    | zero => intro _; exact .nil
    | succ j ih => intro hj; exact SVTs.app (ih (by omega)) (job_svts rfl rfl rfl rfl rfl rfl rfl)
  refine callsT_of_left2 (nameF nameMade) (by decide) ?_ ?_ (acons (by decide) anil) (by decide) (by decide) fun ρ vals w hok hv => ?_
  · exact .tuple (.cons (.agg (.cons (.num rfl) (.cons (.num rfl) (.cons (.num rfl) (.cons (.num rfl) (.cons (.num rfl) (.cons (.num rfl) (.cons (.num rfl) (.cons (.slice ⟨rfl, Nat.le_refl _⟩) .nil))))))))) (.cons (.agg (.cons (.num rfl) (.cons (.num rfl) .nil))) (.cons (.num rfl) (.cons (.num rfl) .nil))))
  · exact acons ⟨Nat.le_refl _, by decide, .cells (nj 1 (by decide))⟩ anil
  · have hσ : ρ.sig = sW u (zset 0 0 u.var) 1 ex := hok.num.sig
    cases hv with
    | cons hv hv2 =>
      cases hv2
      cases hv with
      | agg hv =>
        cases hv with | cons a0 hv => cases hv with | cons a1 hv => cases hv with | cons a2 hv => cases hv with | cons a3 hv => cases hv with | cons a4 hv => cases hv with | cons a5 hv => cases hv with | cons a6 hv =>
          cases hv
          have a1 := a1.sint_inv
          have a2 := a2.sint_inv
          have a3 := a3.sint_inv
          have a4 := a4.sint_inv
          have a5 := a5.sint_inv
          have a6 := a6.sint_inv
          rw [hσ, w_low (by decide)] at a1 a2 a3 a4 a5 a6
          subst a1 a2 a3 a4 a5 a6
          cases a0 with
          | sliceE hρ =>
            rename_i b o t
            obtain ⟨ob, hheap, hrel⟩ := hok.wrel.obj 0 (.cells (zs .u8 6) 59) (b, o, t) (Go.RX.heapOf_of (l := objZ) (by decide) (nth_mem 0 rfl)) hρ
            have hlie : (zset b o u.var).Lie w := by
              cases hrel with
              | cells arr el fz ht hlen hfz hmk hwh hc =>
                refine ⟨arr, el, fz, hheap, fun i c hi hc6 => ?_⟩
                have hi : i < 1 := hi
                have hz : (zs .u8 6)[c]? = some (.int .u8 0) := by
                  have : c = 0 ∨ c = 1 ∨ c = 2 ∨ c = 3 ∨ c = 4 ∨ c = 5 := by omega
                  rcases this with e | e | e | e | e | e <;> subst e <;> rfl
                obtain ⟨y, g1, g2⟩ := hc c _ hz
                have g2 := g2.int_inv
                subst g2
                show arr[o + i * 6 + c]? = _
                rw [show o + i * 6 + c = o + c by omega]
                exact g1
            have hmp := mp_zset hu h6 b o
            have hnamed : Named (zset b o u.var) 1 (sW u (zset 0 0 u.var) 1 ex) := fun i h1 h2 => by
              rw [nm_zset]
              exact (mp_zset hu h6 0 0).named ex i h1 h2
            have key := made_calls (σ' := sW u (zset 0 0 u.var) 1 ex) hmp.small hlie (cap := 1) (Nat.le_refl _) hmp.lohi.1 hmp.lohi.2 hmp.is (by decide) (id := 9) (by decide) (made_ok (k := 1) (Nat.le_refl _) (by decide) _) hnamed
            refine callsIn_wide.1 (CallsIn.mono (callsIn_wide.2 key) (n := 0) ?_)
            rintro e w' ⟨y, rfl, hleft⟩
            refine ⟨y, rfl, hleft.see [(1, 0)] ?_ (fun i z hz => ?_) (fun i i' j g1 g2 => ?_) (fun i j g => ?_)⟩
            · exact .tuple (.cons (.agg (.cons (.num rfl) (.cons (.num rfl) (.cons (.num rfl) (.cons (.num rfl) (.cons (.num rfl) (.cons (.num rfl) (.cons (.num rfl) (.cons (.slice rfl) .nil))))))))) (.cons (.agg (.cons (.num rfl) (.cons (.num rfl) .nil))) (.cons (.num rfl) (.cons (.num rfl) .nil))))
            · have hz := heapOf_at hz
              simp only [List.mem_cons, List.mem_nil_iff, or_false, Prod.mk.injEq] at hz
              obtain ⟨rfl, rfl⟩ := hz
              refine ⟨by decide, 0, _, rfl, Go.RX.heapOf_of (by simp) (nth_mem 0 rfl), .cells ?_⟩
              exact SVTs.app .nil (job_svts rfl rfl rfl rfl rfl rfl rfl)
            · have g1 := lookN_mem g1
              have g2 := lookN_mem g2
              simp only [List.mem_cons, List.mem_nil_iff, or_false, Prod.mk.injEq] at g1 g2
              omega
            · have g := lookN_mem g
              simp only [List.mem_cons, List.mem_nil_iff, or_false, Prod.mk.injEq] at g
              omega
theorem upd_zero : updOk ⟨heapOf ([(1, .cells (nameJobs 1) 111)] ++ objZ), 2, 0⟩ [(1, some (.cells (nameJobs 1) 111))] = true := by kernel_rfl
theorem kept_zero : keptOk ⟨heapOf ([(1, .cells (nameJobs 1) 111)] ++ objZ), 2, 0⟩ [(1, some (.cells (nameJobs 1) 111))] objZ = true := by kernel_rfl
theorem parts_zero (hu : u.Small) (h6 : 0 ≤ u.var 6 ∧ u.var 6 ≤ 255) (h0 : u.n = 0) {W : World} (hL : ∀ {m : Nat} {ex : Nat → Int}, RX.Lies (envP R (sW u (zset 0 0 u.var) 1 ex) 0 0 1 m) W) {l : SV} {x : Value} (hlx : ∀ ex, VRel (.nil (sW u (zset 0 0 u.var) 1 ex)) l x) (hrows : ∀ σ : Sig, σ.row = (sigG u).row → ∀ a ks, R a = some ks → (σ.row a).2.2.1 = ks.length) (hz : ∀ m, m ≤ 5 → ∀ σ, zRunP R σ l m = true) :
    Calls Tryz.prog 3 (valP u x).toArray W fun e w' => e = .returned (.bool true) ∧ On W w' := by
  have h := mp_zset hu h6 0 0
  obtain ⟨m, hm5, hm⟩ := mod6 h.six.1
  obtain ⟨ex, w, Rs, hx, hw, hw1, hwm, hR, hr1, hr2⟩ := ex_of u h m
  have hK : Known (envP R (sW u (zset 0 0 u.var) 1 ex) 0 0 1 m) (kZ m) :=
    known_memo (T' := ⟨heapOf ([(1, .cells (nameJobs 1) 111)] ++ objZ), 2, 0⟩) (made_zero hu h6) upd_zero kept_zero (known_rest h hm5 hx hw hw1 hwm hR hr1 hr2)
  have hrun := hz m hm5 (sW u (zset 0 0 u.var) 1 ex)
  unfold zRunP at hrun
  obtain ⟨S', hr⟩ := isBool_some hrun
  clear hrun
  have hargs : VRels (.nil (sW u (zset 0 0 u.var) 1 ex)) [.agg (l :: tail), .sint .u8 (.var 6), .sint .u16 (.var 7)] (valP u x) := argsP_rel (v := u) (fun i hi => w_low (v := zset 0 0 u.var) hi) (hlx ex)
  exact run_bool (E := envP R (sW u (zset 0 0 u.var) 1 ex) 0 0 1 m) (K := kZ m) (d := 40) (f := 3) (args := [.agg (l :: tail), .sint .u8 (.var 6), .sint .u16 (.var 7)]) hK hr hargs (ord_num rfl rfl (p_based h hx (by rw [h0]; decide)) (p_facts h hm hm5 hx) (hrows _ rfl)) hL
theorem parts_nil (hu : u.Small) (h6 : 0 ≤ u.var 6 ∧ u.var 6 ≤ 255) (h0 : u.n = 0) (W : World) : Calls Tryz.prog 3 (valP u (.slice none 0 0)).toArray W fun e w' => e = .returned (.bool true) ∧ On W w' :=
  parts_zero (R := fun _ => none) hu h6 h0 (fun {m ex} => ⟨fun _ _ h => (by cases h), fun _ _ h => (by cases h)⟩) (l := .nilslice) (fun _ => .nilslice) (fun _ _ _ _ h => by cases h) (fun m hm σ => pz_n hm σ)
/-- Whatever the setup. -/
theorem parts_calls (hu : u.Small) (h6 : 0 ≤ u.var 6 ∧ u.var 6 ≤ 255) {W : World} (hl : u.Lie W) {cap : Nat} (hc : u.n ≤ cap) : Calls Tryz.prog 3 (valP u (.slice (some ⟨u.b, u.x, none⟩) u.n cap)).toArray W fun e w' => e = .returned (.bool true) ∧ On W w' := by
  by_cases h0 : u.n = 0
  · exact parts_zero (R := rowsT) hu h6 h0 (fun {m ex} => p_lies hl) (l := .row 0) (fun _ => .row (sz := 6) rfl hc) (fun σ hσ => rows_len σ hσ) (fun m hm σ => pz_r hm σ)
  · exact parts_some (k := min u.n 5) ⟨hu, h6, by omega, by omega, rfl⟩ hl hc
end
end Go.Proofs.YtoafolgibimgjaaGreatDoor
