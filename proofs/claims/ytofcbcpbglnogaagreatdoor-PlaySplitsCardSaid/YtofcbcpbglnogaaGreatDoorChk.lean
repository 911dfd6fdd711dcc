/- Which ticks are allowed, as both checks say. -/
import Derived.Test.YtofcbcpbglnogaaGreatDoorLaw
set_option linter.all false
namespace Go.Proofs.YtofcbcpbglnogaaGreatDoor
open Go.RX
open Go.RX.Sym

noncomputable def envC (σ : Sig) (F : List Fact) : Env := { P := Tryz.prog, G := globals, lt := factLt F, eq := eqR F, sig := σ }
def argC (a b : SV) : List SV := [.agg [.int .i64 1, .sint .i64 (.var 0), .sint .i64 (.var 1), .sint .i64 (.var 2), a, b]]
noncomputable def runC (σ : Sig) (F : List Fact) (f : Nat) (a b : SV) : Option (SV × SW) := (semK (envC σ F) (fun _ _ _ => none) 6).call f (argC a b) ⟨.nil, 0, 0⟩
abbrev fAt (y : Bool) : Fact := ⟨false, .var 1, .lit 0, y⟩
abbrev fRun (y : Bool) : Fact := ⟨false, .var 2, .lit 0, y⟩
abbrev fJob : Fact := ⟨false, .var 9, .lit 0, false⟩
abbrev fLow (y : Bool) : Fact := ⟨true, .var 0, .lit 1, y⟩
abbrev fHigh (y : Bool) : Fact := ⟨true, .lit 100000, .var 0, y⟩

theorem a1 (σ : Sig) : isSV (.int .i64 2) (runC σ [fAt false] 12 .blur .blur) = true := by kernel_rfl
theorem a2 (σ : Sig) : isSV (.int .i64 2) (runC σ [fAt true, fRun false] 12 .blur .blur) = true := by kernel_rfl
theorem a3 (σ : Sig) : isSV (.int .i64 2) (runC σ [fAt true, fRun true] 12 (.bool true) .blur) = true := by kernel_rfl
theorem a4 (σ : Sig) : isSV (.int .i64 2) (runC σ [fAt true, fRun true, fJob] 12 (.bool false) (.sstr 9)) = true := by kernel_rfl
theorem a5 (σ : Sig) : isSV (.int .i64 2) (runC σ [fAt true, fRun true, fLow true] 12 (.bool false) (.string ⟨#[]⟩)) = true := by kernel_rfl
theorem a6 (σ : Sig) : isSV (.int .i64 2) (runC σ [fAt true, fRun true, fLow false, fHigh true] 12 (.bool false) (.string ⟨#[]⟩)) = true := by kernel_rfl
theorem a7 (σ : Sig) : isSV (.int .i64 0) (runC σ [fAt true, fRun true, fLow false, fHigh false] 12 (.bool false) (.string ⟨#[]⟩)) = true := by kernel_rfl
theorem b1 (σ : Sig) : isSV (.int .i64 2) (runC σ [fLow false, fHigh false, fAt false] 13 .blur .blur) = true := by kernel_rfl
theorem b2 (σ : Sig) : isSV (.int .i64 2) (runC σ [fLow false, fHigh false, fAt true, fRun false] 13 .blur .blur) = true := by kernel_rfl
theorem b3 (σ : Sig) : isSV (.int .i64 2) (runC σ [fLow false, fHigh false, fAt true, fRun true] 13 (.bool true) .blur) = true := by kernel_rfl
theorem b4 (σ : Sig) : isSV (.int .i64 2) (runC σ [fLow false, fHigh false, fAt true, fRun true, fJob] 13 (.bool false) (.sstr 9)) = true := by kernel_rfl
theorem b5 (σ : Sig) : isSV (.int .i64 2) (runC σ [fLow true] 13 .blur .blur) = true := by kernel_rfl
theorem b6 (σ : Sig) : isSV (.int .i64 2) (runC σ [fLow false, fHigh true] 13 .blur .blur) = true := by kernel_rfl
theorem b7 (σ : Sig) : isSV (.int .i64 0) (runC σ [fAt true, fRun true, fLow false, fHigh false] 13 (.bool false) (.string ⟨#[]⟩)) = true := by kernel_rfl

def sigC (d at_ run : Int) (job : ByteArray) : Sig := ⟨fun j => match j with | 0 => d | 1 => at_ | 2 => run | 9 => (job.size : Int) | _ => 0, fun _ _ => 0, fun _ => (0, 0, 0, 0), fun _ _ _ => .bool false⟩
theorem numC {σ : Sig} {F : List Fact} (hF : ∀ f ∈ F, f.holds σ) : NumOk (envC σ F) where
  lt _ _ _ h := ltF_val hF h
  eq _ _ _ h := eqR_val hF h
  rows _ _ h := by cases h
  pre _ _ _ h := by cases h
  overs _ h := by cases h
  idxs _ h := by cases h
  sames _ h := by cases h
  mkzs _ _ h := by cases h
  cells _ _ _ _ h := by cases h
  str _ _ _ _ _ _ h := by cases h
  bool _ _ _ _ _ _ h := by cases h
theorem liesC {W : World} (hG : RX.Lies (env sig0) W) (σ : Sig) (F : List Fact) : RX.Lies (envC σ F) W where
  cells g cs hg := by
    obtain ⟨arr, el, fz, h1, h2⟩ := hG.cells g cs hg
    refine ⟨arr, el, fz, h1, fun k x hx => ?_⟩
    obtain ⟨u, h3, h4⟩ := h2 k x hx
    exact ⟨u, h3, VRel.plain (plain_globals hg hx) h4⟩
  rows a ks ha := by cases ha

def opVal6 (d at_ run : Int) (ok : Bool) (job : ByteArray) : Value := .agg #[.int .i64 1, .int .i64 d, .int .i64 at_, .int .i64 run, .bool ok, .string job]
theorem chk_of {d at_ run : Int} {ok : Bool} {job : ByteArray} {f : Nat} {F : List Fact} {m : Int} {a b : SV} (hr : isSV (.int .i64 m) (runC (sigC d at_ run job) F f a b) = true) (hF : ∀ g ∈ F, g.holds (sigC d at_ run job)) (ha : VRel (.nil (sigC d at_ run job)) a (.bool ok)) (hb : VRel (.nil (sigC d at_ run job)) b (.string job)) {W : World} (hG : RX.Lies (env sig0) W) :
    Calls Tryz.prog f #[opVal6 d at_ run ok job] W fun e w' => e = .returned (.int .i64 m) ∧ On W w' := by
  unfold isSV at hr
  split at hr
  · rename_i y S' hy
    have := svEq_sound _ _ hr
    subst this
    have hv : VRels (.nil (sigC d at_ run job)) (argC a b) [opVal6 d at_ run ok job] :=
      .cons (.agg (.cons (.int _ _) (.cons (VRel.sint (ρ := .nil (sigC d at_ run job)) .i64 (.var 0)) (.cons (VRel.sint (ρ := .nil (sigC d at_ run job)) .i64 (.var 1)) (.cons (VRel.sint (ρ := .nil (sigC d at_ run job)) .i64 (.var 2)) (.cons ha (.cons hb .nil))))))) .nil
    refine callsIn_wide.1 (CallsIn.mono (callsIn_wide.2 (run_empty (E := envC (sigC d at_ run job) F) (known_nothing _) hy hv (numC hF) (liesC hG _ _))) (n := 0) ?_)
    rintro e w' ⟨u, ρ, rfl, -, hu, ho⟩
    cases hu
    exact ⟨rfl, ho⟩
  · cases hr

theorem holds_eq {σ : Sig} {a b : IE} {y : Bool} (h : a.val σ = b.val σ ↔ y = true) : (Fact.mk false a b y).holds σ := h
theorem holds_lt {σ : Sig} {a b : IE} {y : Bool} (h : a.val σ < b.val σ ↔ y = true) : (Fact.mk true a b y).holds σ := h
theorem hcons {σ : Sig} {f : Fact} {F : List Fact} (h : f.holds σ) (hF : ∀ g ∈ F, g.holds σ) : ∀ g ∈ f :: F, g.holds σ := fun g hg => by
  rcases List.mem_cons.1 hg with rfl | hg
  · exact h
  · exact hF g hg
theorem hnil {σ : Sig} : ∀ g ∈ ([] : List Fact), g.holds σ := fun g hg => by cases hg
theorem str_empty {σ : Sig} {job : ByteArray} (h : job.size = 0) : VRel (.nil σ) (.string ⟨#[]⟩) (.string job) := by
  have : job = ⟨#[]⟩ := by
    apply ByteArray.ext
    exact Array.eq_empty_of_size_eq_zero h
  rw [this]
  exact .string _

theorem check_a {d at_ run : Int} {ok : Bool} {job : ByteArray} {W : World} (hG : RX.Lies (env sig0) W) :
    Calls Tryz.prog 12 #[opVal6 d at_ run ok job] W fun e w' => e = .returned (.int .i64 (if fineC d at_ run ok job then 0 else 2)) ∧ On W w' := by
  have tAt : ∀ {y : Bool}, (at_ = 0 ↔ y = true) → (fAt y).holds (sigC d at_ run job) := fun h => holds_eq (by simpa only [IE.val, sigC] using h)
  have tRun : ∀ {y : Bool}, (run = 0 ↔ y = true) → (fRun y).holds (sigC d at_ run job) := fun h => holds_eq (by simpa only [IE.val, sigC] using h)
  have tLow : ∀ {y : Bool}, (d < 1 ↔ y = true) → (fLow y).holds (sigC d at_ run job) := fun h => holds_lt (by simpa only [IE.val, sigC] using h)
  have tHigh : ∀ {y : Bool}, (100000 < d ↔ y = true) → (fHigh y).holds (sigC d at_ run job) := fun h => holds_lt (by simpa only [IE.val, sigC] using h)
  have bl : VRel (.nil (sigC d at_ run job)) .blur (.bool ok) := .blur _ rfl
  have bs : VRel (.nil (sigC d at_ run job)) .blur (.string job) := .blur _ rfl
  have bad : ¬ fineC d at_ run ok job → (if fineC d at_ run ok job then (0 : Int) else 2) = 2 := fun h => if_neg h
  by_cases h1 : at_ = 0
  · by_cases h2 : run = 0
    · cases ok with
      | true =>
        rw [bad (by rintro ⟨-, -, h, -⟩; cases h)]
        exact chk_of (a3 _) (hcons (tAt (by simpa using h1)) (hcons (tRun (by simpa using h2)) hnil)) (.bool _) bs hG
      | false =>
        by_cases h4 : job.size = 0
        · by_cases h5 : d < 1
          · rw [bad (by rintro ⟨-, -, -, -, h, -⟩; omega)]
            exact chk_of (a5 _) (hcons (tAt (by simpa using h1)) (hcons (tRun (by simpa using h2)) (hcons (tLow (by simpa using h5)) hnil))) (.bool _) (str_empty h4) hG
          · by_cases h6 : 100000 < d
            · rw [bad (by rintro ⟨-, -, -, -, -, h⟩; omega)]
              exact chk_of (a6 _) (hcons (tAt (by simpa using h1)) (hcons (tRun (by simpa using h2)) (hcons (tLow (by simpa using h5)) (hcons (tHigh (by simpa using h6)) hnil)))) (.bool _) (str_empty h4) hG
            · rw [if_pos ⟨h1, h2, rfl, h4, by omega, by omega⟩]
              exact chk_of (a7 _) (hcons (tAt (by simpa using h1)) (hcons (tRun (by simpa using h2)) (hcons (tLow (by simpa using h5)) (hcons (tHigh (by simpa using h6)) hnil)))) (.bool _) (str_empty h4) hG
        · rw [bad (by rintro ⟨-, -, -, h, -⟩; exact h4 h)]
          exact chk_of (a4 _) (hcons (tAt (by simpa using h1)) (hcons (tRun (by simpa using h2)) (hcons (holds_eq (by simp only [IE.val, sigC]; constructor <;> intro h <;> first | omega | cases h)) hnil))) (.bool _) (.sstr (by rfl)) hG
    · rw [bad (by rintro ⟨-, h, -⟩; exact h2 h)]
      exact chk_of (a2 _) (hcons (tAt (by simpa using h1)) (hcons (tRun (by simpa using h2)) hnil)) bl bs hG
  · rw [bad (by rintro ⟨h, -⟩; exact h1 h)]
    exact chk_of (a1 _) (hcons (tAt (by simpa using h1)) hnil) bl bs hG

theorem check_b {d at_ run : Int} {ok : Bool} {job : ByteArray} {W : World} (hG : RX.Lies (env sig0) W) :
    Calls Tryz.prog 13 #[opVal6 d at_ run ok job] W fun e w' => e = .returned (.int .i64 (if fineC d at_ run ok job then 0 else 2)) ∧ On W w' := by
  have tAt : ∀ {y : Bool}, (at_ = 0 ↔ y = true) → (fAt y).holds (sigC d at_ run job) := fun h => holds_eq (by simpa only [IE.val, sigC] using h)
  have tRun : ∀ {y : Bool}, (run = 0 ↔ y = true) → (fRun y).holds (sigC d at_ run job) := fun h => holds_eq (by simpa only [IE.val, sigC] using h)
  have tLow : ∀ {y : Bool}, (d < 1 ↔ y = true) → (fLow y).holds (sigC d at_ run job) := fun h => holds_lt (by simpa only [IE.val, sigC] using h)
  have tHigh : ∀ {y : Bool}, (100000 < d ↔ y = true) → (fHigh y).holds (sigC d at_ run job) := fun h => holds_lt (by simpa only [IE.val, sigC] using h)
  have bl : VRel (.nil (sigC d at_ run job)) .blur (.bool ok) := .blur _ rfl
  have bs : VRel (.nil (sigC d at_ run job)) .blur (.string job) := .blur _ rfl
  have bad : ¬ fineC d at_ run ok job → (if fineC d at_ run ok job then (0 : Int) else 2) = 2 := fun h => if_neg h
  by_cases h5 : d < 1
  · rw [bad (by rintro ⟨-, -, -, -, h, -⟩; omega)]
    exact chk_of (b5 _) (hcons (tLow (by simpa using h5)) hnil) bl bs hG
  · by_cases h6 : 100000 < d
    · rw [bad (by rintro ⟨-, -, -, -, -, h⟩; omega)]
      exact chk_of (b6 _) (hcons (tLow (by simpa using h5)) (hcons (tHigh (by simpa using h6)) hnil)) bl bs hG
    · have l5 := tLow (y := false) (by simpa using h5)
      have l6 := tHigh (y := false) (by simpa using h6)
      by_cases h1 : at_ = 0
      · by_cases h2 : run = 0
        · cases ok with
          | true =>
            rw [bad (by rintro ⟨-, -, h, -⟩; cases h)]
            exact chk_of (b3 _) (hcons l5 (hcons l6 (hcons (tAt (by simpa using h1)) (hcons (tRun (by simpa using h2)) hnil)))) (.bool _) bs hG
          | false =>
            by_cases h4 : job.size = 0
            · rw [if_pos ⟨h1, h2, rfl, h4, by omega, by omega⟩]
              exact chk_of (b7 _) (hcons (tAt (by simpa using h1)) (hcons (tRun (by simpa using h2)) (hcons l5 (hcons l6 hnil)))) (.bool _) (str_empty h4) hG
            · rw [bad (by rintro ⟨-, -, -, h, -⟩; exact h4 h)]
              exact chk_of (b4 _) (hcons l5 (hcons l6 (hcons (tAt (by simpa using h1)) (hcons (tRun (by simpa using h2)) (hcons (holds_eq (by simp only [IE.val, sigC]; constructor <;> intro h <;> first | omega | cases h)) hnil))))) (.bool _) (.sstr (by rfl)) hG
        · rw [bad (by rintro ⟨-, h, -⟩; exact h2 h)]
          exact chk_of (b2 _) (hcons l5 (hcons l6 (hcons (tAt (by simpa using h1)) (hcons (tRun (by simpa using h2)) hnil)))) bl bs hG
      · rw [bad (by rintro ⟨h, -⟩; exact h1 h)]
        exact chk_of (b1 _) (hcons l5 (hcons l6 (hcons (tAt (by simpa using h1)) hnil))) bl bs hG
end Go.Proofs.YtofcbcpbglnogaaGreatDoor
