/- retry.Latest, for each number of further attempts. -/
import Derived.Test.YtmcmagheiijnhaaGreatDoorVB
import Derived.Test.YtmcmagheiijnhaaGreatDoorRxI
set_option linter.all false
set_option maxRecDepth 100000
namespace Go.Proofs.YtmcmagheiijnhaaGreatDoor
open Go.RX Go.RX.Sym
open Classical

def jit : IE := .max (.bin .sub .i64 (.var 14) (.lit 1)) (.lit 0)
def latE (m : Nat) : Nat → IE
  | 0 => .bin .add .i64 (.lit 0) (.bin .mul .i64 (.lit ((m + 1 : Nat) : Int)) (.bin .add .i64 (.var 6) (.var 7)))
  | i + 1 => .bin .add .i64 (latE m i) (match Nat.ble (i + 1) m with | true => .bin .add .i64 (.var (i + 101)) jit | false => .lit 0)
def latArgs (m : Nat) : List SV := [.agg [.int .i64 (m : Int), iv 12, iv 13, iv 14], z0, iv 6, iv 7]
noncomputable def wKs (m : Nat) : Nat → Nat → List SV → SW → Option (SV × SW)
  | 0 => noC
  | k + 1 => plainK 57 (atG [.agg [.int .i64 (m : Int), iv 12, iv 13, iv 14], .int .i64 ((k + 1 : Nat) : Int)] (some (.tuple [iv (k + 101), z0]))) (wKs m k)
abbrev spanF : List Fact := [⟨true, .var 6, .lit 0, false⟩, ⟨true, .lit 68719476736, .var 6, false⟩, ⟨true, .var 7, .lit 0, false⟩, ⟨true, .lit 68719476736, .var 7, false⟩]
def latF (m : Nat) : List Fact := (match m with
  | 0 => [⟨false, .var 12, .lit 0, true⟩, ⟨false, .var 13, .lit 0, true⟩, ⟨false, .var 14, .lit 0, true⟩]
  | _ => [⟨true, .var 12, .lit 1, false⟩, ⟨true, .var 13, .var 12, false⟩, ⟨true, .lit 68719476736, .var 13, false⟩, ⟨true, .var 14, .lit 0, false⟩, ⟨true, .lit 68719476736, .var 14, false⟩]) ++ spanF
def latT (m : Nat) : DT SV := .leaf (.tuple [.sint .i64 (latE m 20), z0])
noncomputable def allB (f : Nat → Bool) : Nat → Bool
  | 0 => true
  | n + 1 => match f n with | true => allB f n | false => false
theorem allB_at {f : Nat → Bool} : ∀ {n i : Nat}, allB f n = true → i < n → f i = true
  | 0, i, _, h => absurd h (Nat.not_lt_zero i)
  | n + 1, i, h, hi => by
    simp only [allB] at h
    split at h
    · rename_i h1
      rcases Nat.lt_or_eq_of_le (Nat.le_of_lt_succ hi) with h2 | rfl
      · exact allB_at h h2
      · exact h1
    · cases h
theorem lat_all (σ : Sig) : allB (fun m => (latT m).ok (callIs (envF σ) (fun _ => wKs m m) 40 28 (latArgs m)) (latF m)) 21 = true := by kernel_rfl
end Go.Proofs.YtmcmagheiijnhaaGreatDoor

/- retry.Latest hands back the sum. -/
set_option linter.all false
set_option maxRecDepth 100000
namespace Go.Proofs.YtmcmagheiijnhaaGreatDoor
open Go.RX Go.RX.Sym
open Classical

def sumW (b c j : Int) : Nat → Int
  | 0 => 0
  | i + 1 => sumW b c j i + (wkS b c i + max (j - 1) 0)
def latV (m : Nat) (b c j r w : Int) : Int := ((m + 1 : Nat) : Int) * (r + w) + sumW b c j m
noncomputable def varL (b c j r w : Int) (n : Nat) : Int := match n with | 6 => r | 7 => w | 12 => b | 13 => c | 14 => j | k => wkS b c (k - 101)
section
variable {m : Nat} {b c j r w : Int}
theorem varL_k (k : Nat) : varL b c j r w (k + 101) = wkS b c k := by
  show wkS b c (k + 101 - 101) = _
  rw [Nat.add_sub_cancel]
theorem sumW_in (h : m = 0 ∨ ((1 ≤ b ∧ b ≤ 68719476736) ∧ (b ≤ c ∧ c ≤ 68719476736) ∧ (0 ≤ j ∧ j ≤ 68719476736))) : ∀ i, i ≤ m → 0 ≤ sumW b c j i ∧ sumW b c j i ≤ i * 137438953472
  | 0, _ => ⟨Int.le_refl _, by show (0 : Int) ≤ _; omega⟩
  | i + 1, hi => by
    have ih := sumW_in h i (by omega)
    rcases h with h | ⟨⟨h1, h2⟩, ⟨h3, h4⟩, h5, h6⟩
    · omega
    · have hw := wkS_in h1 h3 i
      have hmul : ((i + 1 : Nat) : Int) * 137438953472 = (i : Int) * 137438953472 + 137438953472 := by omega
      unfold sumW
      omega
theorem latE_val (hm : m ≤ 20) (h : m = 0 ∨ ((1 ≤ b ∧ b ≤ 68719476736) ∧ (b ≤ c ∧ c ≤ 68719476736) ∧ (0 ≤ j ∧ j ≤ 68719476736))) (hr : 0 ≤ r ∧ r ≤ 68719476736) (hw : 0 ≤ w ∧ w ≤ 68719476736) {σ : Sig} (hσ : σ.var = varL b c j r w) :
    ∀ i, i ≤ 20 → (latE m i).val σ = ((m + 1 : Nat) : Int) * (r + w) + sumW b c j (min i m)
  | 0, _ => by
    have h6 : σ.var 6 = r := by rw [hσ]; rfl
    have h7 : σ.var 7 = w := by rw [hσ]; rfl
    show opVal .add .i64 0 (opVal .mul .i64 ((m + 1 : Nat) : Int) (opVal .add .i64 (σ.var 6) (σ.var 7))) = _
    have hb : ((m + 1 : Nat) : Int) * (r + w) ≤ 21 * (r + w) := Int.mul_le_mul_of_nonneg_right (by omega) (by omega)
    have h0 : 0 ≤ ((m + 1 : Nat) : Int) * (r + w) := Int.mul_nonneg (by omega) (by omega)
    rw [h6, h7, add_op (x := r) (y := w) ⟨by omega, by omega⟩, mul_op ⟨by omega, by omega⟩, add_op ⟨by omega, by omega⟩, Nat.zero_min]
    show 0 + _ = _ + 0
    omega
  | i + 1, hi => by
    have ih := latE_val hm h hr hw hσ i (by omega)
    have hb : ((m + 1 : Nat) : Int) * (r + w) ≤ 21 * (r + w) := Int.mul_le_mul_of_nonneg_right (by omega) (by omega)
    have h0 : 0 ≤ ((m + 1 : Nat) : Int) * (r + w) := Int.mul_nonneg (by omega) (by omega)
    generalize ((m + 1 : Nat) : Int) * (r + w) = M at ih hb h0
    have s1 := sumW_in h (min i m) (by omega)
    have s3 : ((min i m : Nat) : Int) * 137438953472 ≤ 20 * 137438953472 := by omega
    unfold latE
    split
    · rename_i hle
      have hle := Nat.le_of_ble_eq_true hle
      rcases h with h | ⟨⟨h1, h2⟩, ⟨h3, h4⟩, h5, h6⟩
      · omega
      have hwk := wkS_in h1 h3 i
      have h14 : σ.var 14 = j := by rw [hσ]; rfl
      have hk : σ.var (i + 101) = wkS b c i := by rw [hσ]; exact varL_k i
      have ej : jit.val σ = max (j - 1) 0 := by
        show (if opVal .sub .i64 (σ.var 14) 1 < 0 then 0 else opVal .sub .i64 (σ.var 14) 1) = _
        rw [h14, sub_op ⟨by omega, by omega⟩]
        split <;> omega
      show opVal .add .i64 ((latE m i).val σ) (opVal .add .i64 (σ.var (i + 101)) (jit.val σ)) = _
      rw [ih, ej, hk, add_op (x := wkS b c i) ⟨by omega, by omega⟩, add_op ⟨by omega, by omega⟩, show min (i + 1) m = i + 1 by omega, show min i m = i by omega]
      show _ = M + (sumW b c j i + (wkS b c i + max (j - 1) 0))
      omega
    · rename_i hle
      have hle : ¬ i + 1 ≤ m := fun h => by rw [Nat.ble_eq_true_of_le h] at hle; cases hle
      show opVal .add .i64 ((latE m i).val σ) 0 = _
      rw [ih, add_op ⟨by omega, by omega⟩, show min (i + 1) m = min i m by omega]
      omega
theorem known_tup {E : Env} {f t : Nat} {A : List SV} {K : Nat → List SV → SW → Option (SV × SW)} (hname : ∀ (vals : Array Value) w, (callFunc f vals).run E.P w = .ok (.enter f vals) w)
    (h : ∀ ρ vals w S, ρ.sig = E.sig → RX.Ok E ρ S w → VRels ρ A vals → Calls E.P f vals.toArray w fun e w' => e = .returned (.tuple #[.int .i64 (E.sig.var t), .int .i64 0]) ∧ On w w') (hK : Known E K) : Known E (plainK f (atG A (some (.tuple [iv t, z0]))) K) :=
  known_plain hname (fun args x hg ρ vals w S hok hr => by
    unfold atG at hg
    split at hg
    · rename_i ha
      have ha := svsEq_sound _ _ ha
      subst ha
      simp only [Option.some.injEq] at hg
      subst hg
      refine callsIn_wide.1 (CallsIn.mono (callsIn_wide.2 (h ρ vals w S hok.num.sig hok hr)) (n := 0) ?_)
      rintro e w' ⟨rfl, o⟩
      refine ⟨_, rfl, ?_, o⟩
      have h1 := VRel.sint (ρ := ρ) .i64 (.var t)
      have e : (IE.var t).val ρ.sig = E.sig.var t := by rw [hok.num.sig]; rfl
      rw [e] at h1
      exact .tuple (.cons h1 (.cons (.int .i64 0) .nil))
    · cases hg) hK
theorem known_wKs {σ : Sig} {F : List Fact} (hσ : σ.var = varL b c j r w) (hr : retOk m b c j) : ∀ i, i ≤ m → Known (envF σ F) (wKs m i)
  | 0, _ => known_nothing _
  | k + 1, hk => by
    refine known_tup name_WAITP (fun ρ vals W S hs hok hvs => ?_) (known_wKs hσ hr k (by omega))
    have hs : ρ.sig = σ := hs
    have e : vals = [.agg #[.int .i64 (m : Int), .int .i64 b, .int .i64 c, .int .i64 j], .int .i64 ((k + 1 : Nat) : Int)] := by
      cases hvs with
      | cons h1 hvs => cases hvs with
        | cons h2 hvs =>
          cases hvs
          cases h2
          cases h1 with
          | agg h => cases h with
            | cons g1 h => cases h with
              | cons g2 h => cases h with
                | cons g3 h => cases h with
                  | cons g4 h =>
                    cases h
                    cases g1
                    have g2 := g2.sint_inv
                    have g3 := g3.sint_inv
                    have g4 := g4.sint_inv
                    have v12 : (IE.var 12).val ρ.sig = b := by show ρ.sig.var 12 = b; rw [hs, hσ]; rfl
                    have v13 : (IE.var 13).val ρ.sig = c := by show ρ.sig.var 13 = c; rw [hs, hσ]; rfl
                    have v14 : (IE.var 14).val ρ.sig = j := by show ρ.sig.var 14 = j; rw [hs, hσ]; rfl
                    rw [g2, g3, g4, v12, v13, v14]
    rw [e]
    have := waitP_calls (k := k + 1) (spaces_ok hok) hr (by omega) (by omega : ((k + 1 : Nat) : Int) ≤ (m : Int))
    have e2 : (envF σ F).sig.var (k + 101) = wkS b c k := by show σ.var (k + 101) = _; rw [hσ]; exact varL_k k
    rw [e2]
    exact this
/-- Only what lies in reach is asked. -/
theorem lat_ok (σ : Sig) {m : Nat} (hm : m < 21) : (latT m).ok (callIs (envF σ) (fun _ => wKs m m) 40 28 (latArgs m)) (latF m) = true := allB_at (lat_all σ) hm
theorem lat_calls {W : World} (hW : Spaces W) (hm : m ≤ 20) (hr : retOk m b c j) (h1 : 0 ≤ r ∧ r ≤ 68719476736) (h2 : 0 ≤ w ∧ w ≤ 68719476736) :
    Calls Tryz.prog 28 #[.agg #[.int .i64 (m : Int), .int .i64 b, .int .i64 c, .int .i64 j], .int .i64 0, .int .i64 r, .int .i64 w] W fun e w' => e = .returned (.tuple #[.int .i64 (latV m b c j r w), .int .i64 0]) ∧ On W w' := by
  have hv : (sigV (varL b c j r w)).var = varL b c j r w := rfl
  have hor : m = 0 ∨ ((1 ≤ b ∧ b ≤ 68719476736) ∧ (b ≤ c ∧ c ≤ 68719476736) ∧ (0 ≤ j ∧ j ≤ 68719476736)) := by
    rcases hr with h | h
    · exact .inl (by omega)
    · exact .inr h.2
  have hrel : VRels (.nil (sigV (varL b c j r w))) (latArgs m) [.agg #[.int .i64 (m : Int), .int .i64 b, .int .i64 c, .int .i64 j], .int .i64 0, .int .i64 r, .int .i64 w] := by
    have h : ∀ n, VRel (.nil (sigV (varL b c j r w))) (.sint .i64 (.var n)) (.int .i64 (varL b c j r w n)) := fun n => VRel.sint (ρ := .nil (sigV (varL b c j r w))) .i64 (.var n)
    exact .cons (.agg (.cons (.int .i64 _) (.cons (h 12) (.cons (h 13) (.cons (h 14) .nil))))) (.cons (.int .i64 0) (.cons (h 6) (.cons (h 7) .nil)))
  have hf : ∀ f ∈ latF m, f.holds (sigV (varL b c j r w)) := fun f hf => by
    rcases List.mem_append.1 hf with h | h
    · match m, hr, h with
      | 0, hr, h =>
        have hz : b = 0 ∧ c = 0 ∧ j = 0 := by
          rcases hr with h | h
          · exact h.2
          · have := h.1.1
            omega
        exact (hcons (holds_eq (by show b = 0 ↔ _; exact ⟨fun _ => rfl, fun _ => hz.1⟩)) (hcons (holds_eq (by show c = 0 ↔ _; exact ⟨fun _ => rfl, fun _ => hz.2.1⟩)) (hcons (holds_eq (by show j = 0 ↔ _; exact ⟨fun _ => rfl, fun _ => hz.2.2⟩)) hnil))) f h
      | n + 1, hr, h =>
        have hz : (1 ≤ b ∧ b ≤ 68719476736) ∧ (b ≤ c ∧ c ≤ 68719476736) ∧ (0 ≤ j ∧ j ≤ 68719476736) := by
          rcases hr with h | h
          · omega
          · exact h.2
        obtain ⟨⟨d3, d4⟩, ⟨d5, d6⟩, d7, d8⟩ := hz
        exact (hcons (holds_lt (by show b < 1 ↔ _; exact no (by omega))) (hcons (holds_lt (by show c < b ↔ _; exact no (by omega))) (hcons (holds_lt (by show 68719476736 < c ↔ _; exact no (by omega))) (hcons (holds_lt (by show j < 0 ↔ _; exact no (by omega))) (hcons (holds_lt (by show 68719476736 < j ↔ _; exact no (by omega))) hnil))))) f h
    · exact (hcons (holds_lt (by show r < 0 ↔ _; exact no (by omega))) (hcons (holds_lt (by show 68719476736 < r ↔ _; exact no (by omega))) (hcons (holds_lt (by show w < 0 ↔ _; exact no (by omega))) (hcons (holds_lt (by show 68719476736 < w ↔ _; exact no (by omega))) hnil)))) f h
  refine fn_dtF (E := envF (sigV (varL b c j r w))) (K := fun _ => wKs m m) (σ := sigV (varL b c j r w)) (P := Tryz.prog) (fun _ => rfl) (fun _ => rfl) (fun F hF => ⟨numF _ hF, known_wKs hv hr m (Nat.le_refl m), liesF _ F hW⟩) (T := latT m) hf (d := 40) (f := 28) (args := latArgs m) (lat_ok _ (by omega)) hrel fun ρ hs u hu => ?_
  simp only [latT, DT.eval] at hu
  cases hu with
  | tuple h =>
    cases h with
    | cons g1 h =>
      cases h with
      | cons g2 h =>
        cases h
        cases g2
        have g1 := g1.sint_inv
        rw [hs, latE_val hm hor h1 h2 hv 20 (Nat.le_refl _), Nat.min_eq_right hm] at g1
        rw [g1]
        rfl
end
end Go.Proofs.YtmcmagheiijnhaaGreatDoor
