/- The reference's Split, whole: it hands back what play.Split does. -/
import Derived.Test.YtofcbcpbglnogaaGreatDoorRefA
set_option linter.all false
set_option maxRecDepth 100000
namespace Go.Proofs.YtofcbcpbglnogaaGreatDoor
open Go.RX
open Go.RX.Sym

def Ls.refs (v : Ls) : Nat → List (Nat → Value)
  | 0 => []
  | i + 1 => if v.kd i = 1 ∧ v.fine i then v.refs i ++ List.replicate (min (v.d i).toNat (10001 - (v.refs i).length)) (v.rep i) else v.refs i ++ [v.cell i]
theorem Ls.refs_spec (v : Ls) : ∀ i, ((v.outs i).length ≤ 10000 → v.refs i = v.outs i) ∧ (10000 < (v.outs i).length → 10000 < (v.refs i).length) ∧ (v.refs i).length ≤ 10001 + i
  | 0 => ⟨fun _ => rfl, fun h => by simp [Ls.outs] at h, by simp [Ls.refs]⟩
  | i + 1 => by
    obtain ⟨h1, h2, h3⟩ := Ls.refs_spec v i
    have hlen : (v.outs (i + 1)).length = (v.outs i).length + v.tim i := by simp [Ls.outs]
    by_cases hk : v.kd i = 1 ∧ v.fine i
    · obtain ⟨e1, e2, e3, e4⟩ := rep_of v hk
      have hr : v.refs (i + 1) = v.refs i ++ List.replicate (min (v.d i).toNat (10001 - (v.refs i).length)) (v.rep i) := by simp only [Ls.refs]; rw [if_pos hk]
      have hrl : (v.refs (i + 1)).length = (v.refs i).length + min (v.d i).toNat (10001 - (v.refs i).length) := by rw [hr]; simp
      refine ⟨fun h => ?_, fun h => ?_, by omega⟩
      · have h1 := h1 (by omega)
        rw [hr, h1]
        have : min (v.d i).toNat (10001 - (v.outs i).length) = v.tim i := by omega
        rw [this]
        rfl
      · by_cases hi : 10000 < (v.outs i).length
        · have := h2 hi; omega
        · have h1 := h1 (by omega)
          rw [h1] at hrl
          omega
    · obtain ⟨e1, e2⟩ := rep_of_not v hk
      have hr : v.refs (i + 1) = v.refs i ++ [v.cell i] := by simp only [Ls.refs]; rw [if_neg hk]
      have hrl : (v.refs (i + 1)).length = (v.refs i).length + 1 := by rw [hr]; simp
      refine ⟨fun h => ?_, fun h => ?_, by omega⟩
      · have h1 := h1 (by omega)
        rw [hr, h1]
        simp only [Ls.outs, e1, e2]
        rfl
      · by_cases hi : 10000 < (v.outs i).length
        · have := h2 hi; omega
        · have h1 := h1 (by omega)
          rw [h1] at hrl
          omega

section
variable {v : Ls} {W : World}

def RHead (v : Ls) (L : List (Nat → Value)) (i : Nat) (W : World) (a : Act) (w : World) : Prop :=
  (L = [] ∧ AtT (sigP v [] o0 i 0 0) 73 rfSl (frR oN) [] 0 W a w) ∨ (L ≠ [] ∧ AtT (sigP v L o0 i 0 0) 73 rfSl (frR oO) objO 1 W a w)
def RIn (v : Ls) (L : List (Nat → Value)) (i k : Nat) (W : World) (a : Act) (w : World) : Prop :=
  (L = [] ∧ AtT (sigP v [] o0 i k 0) 73 rfSl (frRI oN kI) [] 0 W a w) ∨ (L ≠ [] ∧ AtT (sigP v L o0 i k 0) 73 rfSl (frRI oO kI) objO 1 W a w)

theorem cell_n {L : List (Nat → Value)} {i k t : Nat} : ∀ c, c < 6 → ∃ y, opcN[c]? = some y ∧ Go.RX.valOf (sigP v L o0 i k t) y = some (v.cell i c) := fun c hc => by
  match c, hc with
  | 0, _ => exact ⟨_, rfl, by simp [Go.RX.valOf, IE.val, sigP, Ls.cell]⟩
  | 1, _ => exact ⟨_, rfl, by simp [Go.RX.valOf, IE.val, sigP, Ls.cell]⟩
  | 2, _ => exact ⟨_, rfl, by simp [Go.RX.valOf, IE.val, sigP, Ls.cell]⟩
  | 3, _ => exact ⟨_, rfl, by simp [Go.RX.valOf, IE.val, sigP, Ls.cell]⟩
  | 4, _ => exact ⟨_, rfl, by simp [Go.RX.valOf, IE.val, sigP, Ls.cell]⟩
  | 5, _ => exact ⟨_, rfl, by simp [Go.RX.valOf, IE.val, sigP, Ls.cell]⟩
theorem cell_t {L : List (Nat → Value)} {i k t : Nat} (h : v.kd i = 1 ∧ v.fine i) : ∀ c, c < 6 → ∃ y, tickC[c]? = some y ∧ Go.RX.valOf (sigP v L o0 i k t) y = some (v.rep i c) := fun c hc => by
  obtain ⟨e1, -, -, -⟩ := rep_of v h
  obtain ⟨hk, h2, h3, h4, h5, -, -⟩ := h
  have hj : v.job i = ⟨#[]⟩ := by
    apply ByteArray.ext
    exact Array.eq_empty_of_size_eq_zero h5
  rw [e1]
  match c, hc with
  | 0, _ => exact ⟨_, rfl, by simp [Go.RX.valOf, Ls.cell, hk]⟩
  | 1, _ => exact ⟨_, rfl, by simp [Go.RX.valOf]⟩
  | 2, _ => exact ⟨_, rfl, by simp [Go.RX.valOf, Ls.cell, h2]⟩
  | 3, _ => exact ⟨_, rfl, by simp [Go.RX.valOf, Ls.cell, h3]⟩
  | 4, _ => exact ⟨_, rfl, by simp [Go.RX.valOf, Ls.cell, h4]⟩
  | 5, _ => exact ⟨_, rfl, by simp [Go.RX.valOf, Ls.cell, hj]⟩

theorem more_of {L : List (Nat → Value)} {o : Nat → Value} {i k t k' t' i' : Nat} {o' o'' : Nat → Value} {cs : List SV} (hl : cs.length = 6) (h : ∀ c, c < 6 → ∃ y, cs[c]? = some y ∧ Go.RX.valOf (sigP v L o' i k t) y = some (o c)) {R : Nat → Nat → Prop} : OVT (sigP v L o' i k t) (sigP v (L ++ [o]) o'' i' k' t') R (.own 1 []) (.own 1 cs) := by
  refine .own (k := 1) (b' := 0) (x' := 0) rfl ?_ (by rw [hl]) (fun i c hi hc => gets_left hi) fun j c hj hc => ?_
  · show (0, 0, 6, (L ++ [o]).length) = (0, 0, 6, L.length + 1)
    simp
  · have : j = 0 := by omega
    subst this
    obtain ⟨y, h1, h2⟩ := h c hc
    refine ⟨y, by simpa using h1, ?_⟩
    rw [h2]
    show some (o c) = some (gets (L ++ [o]) (L.length + 0) c)
    rw [Nat.add_zero, gets_snoc]
theorem first_of {L : List (Nat → Value)} {o : Nat → Value} {i k t k' t' i' : Nat} {o' o'' : Nat → Value} {cs : List SV} (hl : cs.length = 6) (h : ∀ c, c < 6 → ∃ y, cs[c]? = some y ∧ Go.RX.valOf (sigP v L o' i k t) y = some (o c)) {R : Nat → Nat → Prop} : OVT (sigP v L o' i k t) (sigP v [o] o'' i' k' t') R (.own 1 []) (.cells cs 63) := by
  refine .first (n := 1) (b' := 0) (x' := 0) rfl (by rw [hl]) (by decide) fun j c hj hc => ?_
  have : j = 0 := by omega
  subst this
  obtain ⟨y, h1, h2⟩ := h c hc
  refine ⟨y, by simpa using h1, ?_⟩
  rw [h2]
  rfl

theorem slot_true {σ : Sig} {n : Nat} {sl : List Nat} {fr : List SV} {objs : List (Nat × SObj)} {n0 : Nat} {a : Act} {w : World} (h : AtT σ n sl fr objs n0 W a w) {t i : Nat} (ht : posOf t sl = some i) (hf : nthV .unknown fr i = .bool true) : a.eval (.tmp t) = .bool true := by
  obtain ⟨-, -, -, ρ, -, hfr, -⟩ := h
  have := hfr t i ht
  rw [hf] at this
  exact this.bool_inv

theorem lt_d {L : List (Nat → Value)} {o : Nat → Value} {i k t : Nat} {y : Bool} (h : ((k : Int) < v.d i) ↔ y = true) : (fD y).holds (sigP v L o i k t) := holds_lt (by rw [d_val, ← h]; rfl)
theorem lt_many {L : List (Nat → Value)} {o : Nat → Value} {i k t : Nat} {y : Bool} (h : 10000 < L.length ↔ y = true) : (fMany y).holds (sigP v L o i k t) := holds_lt (by simp only [IE.val, sigP]; rw [← h]; omega)
theorem in_list {L : List (Nat → Value)} {o : Nat → Value} {i k t : Nat} {y : Bool} (h : i < v.n ↔ y = true) : (fIn y).holds (sigP v L o i k t) := holds_lt (by simp only [IE.val, sigP]; rw [← h]; omega)
theorem not_neg {L : List (Nat → Value)} {o : Nat → Value} {i k t : Nat} : fNeg.holds (sigP v L o i k t) := holds_lt (by simp [IE.val, sigP])
theorem is_kind {L : List (Nat → Value)} {o : Nat → Value} {i k t : Nat} {y : Bool} (h : v.kd i = 1 ↔ y = true) : (fKind y).holds (sigP v L o i k t) := holds_eq (by rw [kind_val, ← h]; rfl)
theorem is_ok {L : List (Nat → Value)} {o : Nat → Value} {i k t : Nat} {y : Bool} (h : v.fine i ↔ y = true) : (fOk y).holds (sigP v L o i k t) := holds_eq (by
  rw [ok_val, ← h]
  show (if v.fine i then (0 : Int) else 2) = 0 ↔ v.fine i
  split <;> simp_all)

theorem r_inner (hv : v.Lies W) (hG : RX.Lies (env sig0) W) {L : List (Nat → Value)} {i : Nat} (hin : i < v.n) (hk : v.kd i = 1 ∧ v.fine i) (hl : L.length ≤ 100000) {Q : Exit → Act → World → Prop} {a : Act} {w : World} (h : RIn v L i 0 W a w)
    (hQ : ∀ a' w', AtT (sigP v (L ++ List.replicate (min (v.d i).toNat (10001 - L.length)) (v.rep i)) o0 i (min (v.d i).toNat (10001 - L.length)) 0) 73 rfSl (frR oO) objO 1 W a' w' → Q .normal a' w') : (Code.block 2 (.loop rfIN)).wpIn Fence.wide 0 Tryz.prog Q a w := by
  obtain ⟨e1, e2, e3, e4⟩ := rep_of v hk
  generalize hN : min (v.d i).toNat (10001 - L.length) = N at hQ
  refine wpIn_block (wpIn_loop_n (J := fun m a w => ∃ k, k + m = N ∧ RIn v (L ++ List.replicate k (v.rep i)) i k W a w) (N := N) ⟨0, by simp, by simpa using h⟩ ?_)
  rintro m a w ⟨k, hkm, hI⟩
  have hlen : (L ++ List.replicate k (v.rep i)).length = L.length + k := by simp
  have hsnoc : L ++ List.replicate (k + 1) (v.rep i) = L ++ List.replicate k (v.rep i) ++ [v.rep i] := by rw [replicate_snoc, List.append_assoc]
  have fin : ∀ {M : List (Nat → Value)}, (fIn true).holds (sigP v M o0 i k 0) := in_list (by simpa using hin)
  cases m with
  | zero =>
    have hkt : k = N := by omega
    subst hkt
    rcases hI with ⟨hM, -⟩ | ⟨hM, hA⟩
    · have : (L ++ List.replicate k (v.rep i)).length = 0 := by rw [hM]; rfl
      omega
    · by_cases hd : (k : Int) < v.d i
      · have hmany : 10000 < (L ++ List.replicate k (v.rep i)).length := by rw [hlen]; omega
        refine tmpl_step (E := envP (sigP v (L ++ List.replicate k (v.rep i)) o0 i k 0) [fIn true, fNeg, fD true, fMany true]) (known_nothing _) (numP (hcons fin (hcons not_neg (hcons (lt_d (by simpa using hd)) (hcons (lt_many ⟨fun _ => rfl, fun _ => hmany⟩) hnil))))) (r_xM _) hA (liesP hv hG _ _ _ _ _ _) fun a' w' hA' => hQ a' w' hA'
      · refine tmpl_step (E := envP (sigP v (L ++ List.replicate k (v.rep i)) o0 i k 0) [fIn true, fNeg, fD false]) (known_nothing _) (numP (hcons fin (hcons not_neg (hcons (lt_d (by simpa using hd)) hnil)))) (r_xD _) hA (liesP hv hG _ _ _ _ _ _) fun a' w' hA' => hQ a' w' hA'
  | succ m =>
    have hd : (k : Int) < v.d i := by omega
    rcases hI with ⟨hM, hA⟩ | ⟨hM, hA⟩
    · refine tmpl_step (E := envP (sigP v [] o0 i k 0) [fIn true, fNeg, fD true]) (known_nothing _) (numP (hcons fin (hcons not_neg (hcons (lt_d (by simpa using hd)) hnil)))) (r_iN _) hA (liesP hv hG _ _ _ _ _ _) fun a' w' hA' => ?_
      refine ⟨m, by omega, k + 1, by omega, .inr ⟨by simp, ?_⟩⟩
      rw [hsnoc, hM, List.nil_append]
      exact see hA' [(0, 1)] (by simp) (by simp) (acons (.row rfl) (acons (.first rfl (by omega) rfl (by omega)) (acons (.num rfl) (acons (.num (val_inc (by omega)).symm) anil)))) (acons ⟨by omega, 1, _, rfl, rfl, first_of rfl (cell_t hk)⟩ anil)
    · have hmany : ¬ 10000 < (L ++ List.replicate k (v.rep i)).length := by rw [hlen]; omega
      refine tmpl_step (E := envP (sigP v (L ++ List.replicate k (v.rep i)) o0 i k 0) [fIn true, fNeg, fD true, fMany false]) (known_nothing _) (numP (hcons fin (hcons not_neg (hcons (lt_d (by simpa using hd)) (hcons (lt_many ⟨fun h => absurd h hmany, fun h => by cases h⟩) hnil))))) (r_iO _) hA (liesP hv hG _ _ _ _ _ _) fun a' w' hA' => ?_
      refine ⟨m, by omega, k + 1, by omega, .inr ⟨by simp, ?_⟩⟩
      rw [hsnoc]
      exact see hA' [(0, 2)] (by simp) (by simp) (acons (.row rfl) (acons (.own (k := 1) (b' := 0) (x' := 0) rfl rfl (by show (0, 0, 6, (L ++ List.replicate k (v.rep i) ++ [v.rep i]).length) = _; simp; omega) (by omega)) (acons (.num rfl) (acons (.num (val_inc (by omega)).symm) anil)))) (acons ⟨by omega, 2, _, rfl, rfl, more_of rfl (cell_t hk)⟩ anil)

theorem ref_split (hv : v.Lies W) (hG : RX.Lies (env sig0) W) {cap : Nat} (hcap : v.n ≤ cap) :
    Calls Tryz.prog 6 #[.slice (some ⟨v.b, v.x, none⟩) v.n cap] W fun e w' => ∃ u, e = .returned u ∧ SplitLeft v W u w' := by
  have hrow : VRels (.nil (sigP v [] o0 0 0 0)) [.row 0] [.slice (some ⟨v.b, v.x, none⟩) v.n cap] := .cons (.row (sz := 6) rfl hcap) .nil
  refine tmpl_begin (E := envP (sigP v [] o0 0 0 0) []) Tryz.func6 rf_body rfSl hrow (by rw [rf_n]; decide) fun a hA => ?_
  rw [rf_n] at hA
  have lens : ∀ {y : Bool}, (10000 < v.n ↔ y = true) → (fLen y).holds (sigP v [] o0 0 0 0) := fun {y} h => holds_lt (by simp only [IE.val, sigP]; rw [← h]; omega)
  by_cases hbig : 10000 < v.n
  · refine tmpl_chain 2 (E := envP (sigP v [] o0 0 0 0) [fLen true]) (known_nothing _) (numP (hcons (lens (by simpa using hbig)) hnil)) (r_long _) hA (liesP hv hG _ _ _ _ _ _) fun a1 w1 h1 => ?_
    refine tmpl_leaves (E := envP (sigP v [] o0 0 0 0) []) (numP hnil) (k_E _ 0) h1 (liesP hv hG _ _ _ _ _ _) fun u w' hl => ⟨u, rfl, .inr (.inr ⟨by omega, left_nil hl⟩)⟩
  refine tmpl_chain 3 (E := envP (sigP v [] o0 0 0 0) [fLen false]) (known_nothing _) (numP (hcons (lens (by simpa using hbig)) hnil)) (r_begin _) hA (liesP hv hG _ _ _ _ _ _) fun a1 w1 h1 => ?_
  show (rest 3 rfBody).wpIn _ _ _ _ a1 w1
  rw [rf_rest]
  refine wpIn_seq (tmpl_chain 1 (E := envP (sigP v [] o0 0 0 0) []) (known_nothing _) (numP hnil) (r_r4 _) h1 (liesP hv hG _ _ _ _ _ _) fun a2 w2 h2 => ?_)
  show (rest 1 rfA).wpIn _ _ _ _ a2 w2
  rw [rf_blk]
  refine wpIn_block (wpIn_loop_n (J := fun m a w => ∃ i, i + m = v.n ∧ RHead v (v.refs i) i W a w) (N := v.n) ⟨0, by omega, .inl ⟨rfl, ?_⟩⟩ ?_)
  · exact see h2 [] (by simp) (by simp) (acons (.row rfl) (acons (.lit rfl) (acons (.int rfl) anil))) anil
  rintro m a3 w3 ⟨i, hi, hH⟩
  cases m with
  | zero =>
    have hin : i = v.n := by omega
    subst hin
    obtain ⟨g1, g2, g3⟩ := v.refs_spec v.n
    rcases hH with ⟨hL, hA3⟩ | ⟨hL, hA3⟩
    · have hT : (v.outs v.n).length ≤ 10000 := by
        rcases Nat.lt_or_ge 10000 (v.outs v.n).length with h | h
        · have := g2 h
          rw [hL] at this
          simp at this
        · exact h
      have hL' : v.outs v.n = [] := by rw [← g1 hT]; exact hL
      refine tmpl_chain 1 (E := envP (sigP v [] o0 v.n 0 0) [fIn false]) (known_nothing _) (numP (hcons (in_list (by simp)) hnil)) (r_eN _) hA3 (liesP hv hG _ _ _ _ _ _) fun a4 w4 h4 => ?_
      show rfB.wpIn _ _ _ _ a4 w4
      refine tmpl_step (E := envP (sigP v [] o0 v.n 0 0) []) (known_nothing _) (numP hnil) (r_zN _) h4 (liesP hv hG _ _ _ _ _ _) fun a5 w5 h5 => ?_
      exact tmpl_leaves (E := envP (sigP v [] o0 v.n 0 0) []) (numP hnil) (k_N _) h5 (liesP hv hG _ _ _ _ _ _) fun u w' hl => ⟨u, rfl, .inr (.inl ⟨by omega, hT, hL', left_nil hl⟩)⟩
    · refine tmpl_chain 1 (E := envP (sigP v (v.refs v.n) o0 v.n 0 0) [fIn false]) (known_nothing _) (numP (hcons (in_list (by simp)) hnil)) (r_eO _) hA3 (liesP hv hG _ _ _ _ _ _) fun a4 w4 h4 => ?_
      show rfB.wpIn _ _ _ _ a4 w4
      by_cases hm : 10000 < (v.refs v.n).length
      · refine tmpl_step (E := envP (sigP v (v.refs v.n) o0 v.n 0 0) [fMany true]) (known_nothing _) (numP (hcons (lt_many (by simpa using hm)) hnil)) (r_zX _) h4 (liesP hv hG _ _ _ _ _ _) fun a5 w5 h5 => ?_
        refine tmpl_leaves (E := envP (sigP v (v.refs v.n) o0 v.n 0 0) []) (numP hnil) (k_E _ 1) h5 (liesP hv hG _ _ _ _ _ _) fun u w' hl => ⟨u, rfl, .inr (.inr ⟨?_, left_nil hl⟩)⟩
        rintro ⟨-, h⟩
        rw [g1 h] at hm
        omega
      · have hT : (v.outs v.n).length ≤ 10000 := by
          rcases Nat.lt_or_ge 10000 (v.outs v.n).length with h | h
          · exact absurd (g2 h) hm
          · exact h
        have he := g1 hT
        refine tmpl_step (E := envP (sigP v (v.refs v.n) o0 v.n 0 0) [fMany false]) (known_nothing _) (numP (hcons (lt_many (by simpa using hm)) hnil)) (r_zO _) h4 (liesP hv hG _ _ _ _ _ _) fun a5 w5 h5 => ?_
        rw [he] at h5 hL
        exact tmpl_leaves (E := envP (sigP v (v.outs v.n) o0 v.n 0 0) []) (numP hnil) (k_O _) h5 (liesP hv hG _ _ _ _ _ _) fun u w' hl => ⟨u, rfl, .inl ⟨by omega, hT, hL, hl⟩⟩
  | succ m =>
    have hin : i < v.n := by omega
    have fin : ∀ {L : List (Nat → Value)}, (fIn true).holds (sigP v L o0 i 0 0) := in_list (by simpa using hin)
    obtain ⟨-, -, g3⟩ := v.refs_spec i
    have back : ∀ {a7 : Act} {w7 : World}, RHead v (v.refs (i + 1)) (i + 1) W a7 w7 → ∃ k', k' < m + 1 ∧ ∃ i, i + k' = v.n ∧ RHead v (v.refs i) i W a7 w7 := fun hh => ⟨m, by omega, i + 1, by omega, hh⟩
    -- the end of a round
    have tail : ∀ {k : Nat} {a7 : Act} {w7 : World} (Q : Exit → Act → World → Prop), v.refs (i + 1) ≠ [] → AtT (sigP v (v.refs (i + 1)) o0 i k 0) 73 rfSl (frR oO) objO 1 W a7 w7 → (∀ a8 w8, RHead v (v.refs (i + 1)) (i + 1) W a8 w8 → Q .normal a8 w8) → rfR6.wpIn Fence.wide 0 Tryz.prog Q a7 w7 := fun {k a7 w7} Q hne h7 hQ => by
      obtain ⟨-, -, g4⟩ := v.refs_spec (i + 1)
      refine tmpl_step (E := envP (sigP v (v.refs (i + 1)) o0 i k 0) []) (known_nothing _) (numP hnil) (r_6 _) h7 (liesP hv hG _ _ _ _ _ _) fun a8 w8 h8 => hQ a8 w8 (.inr ⟨hne, ?_⟩)
      exact see h8 [(0, 0)] (by simp) (by simp) (acons (.row rfl) (acons (.own (k := 0) rfl rfl rfl (by omega)) (acons (.num (val_inc0 (by omega)).symm) anil))) (acons ⟨by omega, 0, _, rfl, rfl, own_same⟩ anil)
    by_cases hk : v.kd i = 1 ∧ v.fine i
    · have hr : v.refs (i + 1) = v.refs i ++ List.replicate (min (v.d i).toNat (10001 - (v.refs i).length)) (v.rep i) := by simp only [Ls.refs]; rw [if_pos hk]
      have hd1 := (rep_of v hk).2.2.1
      have hne : v.refs (i + 1) ≠ [] := by
        intro e
        have hl := congrArg List.length hr
        rw [e] at hl
        simp only [List.length_append, List.length_replicate, List.length_nil] at hl
        omega
      have facts : ∀ {L : List (Nat → Value)}, ∀ g ∈ [fIn true, fNeg, fKind true, fOk true], g.holds (sigP v L o0 i 0 0) := hcons fin (hcons not_neg (hcons (is_kind (by simpa using hk.1)) (hcons (is_ok (by simpa using hk.2)) hnil)))
      rcases hH with ⟨hL, hA3⟩ | ⟨hL, hA3⟩
      · refine tmpl_chain 1 (E := envP (sigP v [] o0 i 0 0) [fIn true]) (known_nothing _) (numP (hcons fin hnil)) (r_hN _) hA3 (liesP hv hG _ _ _ _ _ _) fun a4 w4 h4 => ?_
        show (rest 1 rfL).wpIn _ _ _ _ a4 w4
        rw [rf_l]
        refine wpIn_seq (wpIn_block ?_)
        refine tmpl_chain 1 (E := envP (sigP v [] o0 i 0 0) [fIn true, fNeg, fKind true, fOk true]) (known_P (fun _ => hk.1)) (numP facts) (r_gN _) h4 (liesP hv hG _ _ _ _ _ _) fun a5 w5 h5 => ?_
        show (rest 1 rfR).wpIn _ _ _ _ a5 w5
        refine tmpl_chain 1 (E := envP (sigP v [] o0 i 0 0) [fIn true, fNeg, fKind true, fOk true]) (known_P (fun _ => hk.1)) (numP facts) (r_tN _) h5 (liesP hv hG _ _ _ _ _ _) fun a6 w6 h6 => ?_
        show (rest 1 (rest 1 rfR)).wpIn _ _ _ _ a6 w6
        rw [rf_r]
        refine wpIn_cond_true (slot_true h6 (i := 2) (by rfl) (by rfl)) ?_
        refine tmpl_chain 1 (E := envP (sigP v [] o0 i 0 0) []) (known_nothing _) (numP hnil) (r_10N _) h6 (liesP hv hG _ _ _ _ _ _) fun a7 w7 h7 => ?_
        show (rest 1 rfT).wpIn _ _ _ _ a7 w7
        rw [rf_t]
        refine r_inner hv hG (L := v.refs i) hin hk (by omega) (.inl ⟨hL, ?_⟩) fun a8 w8 h8 => ?_
        · exact see h7 [] (by simp) (by simp) (acons (.row rfl) (acons (.lit rfl) (acons (.num rfl) (acons (.int rfl) anil)))) anil
        · rw [← hr] at h8
          exact tail _ hne h8 fun a9 w9 h9 => back h9
      · refine tmpl_chain 1 (E := envP (sigP v (v.refs i) o0 i 0 0) [fIn true]) (known_nothing _) (numP (hcons fin hnil)) (r_hO _) hA3 (liesP hv hG _ _ _ _ _ _) fun a4 w4 h4 => ?_
        show (rest 1 rfL).wpIn _ _ _ _ a4 w4
        rw [rf_l]
        refine wpIn_seq (wpIn_block ?_)
        refine tmpl_chain 1 (E := envP (sigP v (v.refs i) o0 i 0 0) [fIn true, fNeg, fKind true, fOk true]) (known_P (fun _ => hk.1)) (numP facts) (r_gO _) h4 (liesP hv hG _ _ _ _ _ _) fun a5 w5 h5 => ?_
        show (rest 1 rfR).wpIn _ _ _ _ a5 w5
        refine tmpl_chain 1 (E := envP (sigP v (v.refs i) o0 i 0 0) [fIn true, fNeg, fKind true, fOk true]) (known_P (fun _ => hk.1)) (numP facts) (r_tO _) h5 (liesP hv hG _ _ _ _ _ _) fun a6 w6 h6 => ?_
        show (rest 1 (rest 1 rfR)).wpIn _ _ _ _ a6 w6
        rw [rf_r]
        refine wpIn_cond_true (slot_true h6 (i := 2) (by rfl) (by rfl)) ?_
        refine tmpl_chain 1 (E := envP (sigP v (v.refs i) o0 i 0 0) []) (known_nothing _) (numP hnil) (r_10O _) h6 (liesP hv hG _ _ _ _ _ _) fun a7 w7 h7 => ?_
        show (rest 1 rfT).wpIn _ _ _ _ a7 w7
        rw [rf_t]
        refine r_inner hv hG (L := v.refs i) hin hk (by omega) (.inr ⟨hL, ?_⟩) fun a8 w8 h8 => ?_
        · exact see h7 [(0, 0)] (by simp) (by simp) (acons (.row rfl) (acons (.own (k := 0) rfl rfl rfl (by omega)) (acons (.num rfl) (acons (.int rfl) anil)))) (acons ⟨by omega, 0, _, rfl, rfl, own_same⟩ anil)
        · rw [← hr] at h8
          exact tail _ hne h8 fun a9 w9 h9 => back h9
    · have hr : v.refs (i + 1) = v.refs i ++ [v.cell i] := by simp only [Ls.refs]; rw [if_neg hk]
      have hne : v.refs (i + 1) ≠ [] := by rw [hr]; simp
      have hlr : (v.refs (i + 1)).length = (v.refs i).length + 1 := by rw [hr]; simp
      -- both ways not to be an allowed tick
      have go : ∀ (F : List Fact) (tick : Bool), (tick = true → v.kd i = 1) → (∀ {L : List (Nat → Value)}, ∀ g ∈ F, g.holds (sigP v L o0 i 0 0)) →
          (∀ σ, cutOkH 0 (frR (.slice 1 0 1 (.toEnd 6 1))) [(1, .cells opcN 63)] 2 (runChain (envP σ F) (knowP tick) 5 73 rfSl (heads 1 rfR) (cutSt (frR oN) [] 0)) = true) →
          (∀ σ, cutOkH 0 (frR (.oslice 2 1 1 6)) [(2, .own 1 opcN)] 3 (runChain (envP σ F) (knowP tick) 5 73 rfSl (heads 1 rfR) (cutSt (frR oO) objO 1)) = true) →
          (∀ σ, cutOkH 0 (frR oO) objO 1 (runCode (envP σ F) (knowP tick) 5 73 rfSl (rest 1 rfR) (cutSt (frR oO) objO 1)) = true) →
          rfL.wpIn Fence.wide 0 Tryz.prog (Exit.then (fun a' w' => ∃ k', k' < m + 1 ∧ ∃ i, i + k' = v.n ∧ RHead v (v.refs i) i W a' w') (Exit.inBlock 0 (Exit.then (rfB.wpIn Fence.wide 0 Tryz.prog (bodyPostM Fence.wide 0 Tryz.prog Tryz.f6 fun e w' => ∃ u, e = .returned u ∧ SplitLeft v W u w')) (bodyPostM Fence.wide 0 Tryz.prog Tryz.f6 fun e w' => ∃ u, e = .returned u ∧ SplitLeft v W u w')))) a3 w3 := fun F tick htick hF hN hO hS => by
        have after : ∀ {a5 : Act} {w5 : World} (Q : Exit → Act → World → Prop), AtT (sigP v (v.refs (i + 1)) o0 i 0 0) 73 rfSl (frR oO) objO 1 W a5 w5 → (∀ a6 w6, AtT (sigP v (v.refs (i + 1)) o0 i 0 0) 73 rfSl (frR oO) objO 1 W a6 w6 → Q .normal a6 w6) → (rest 1 rfR).wpIn Fence.wide 0 Tryz.prog Q a5 w5 := fun {a5 w5} Q h5 hQ =>
          tmpl_step (E := envP (sigP v (v.refs (i + 1)) o0 i 0 0) F) (known_P htick) (numP hF) (hS _) h5 (liesP hv hG _ _ _ _ _ _) fun a6 w6 h6 => hQ a6 w6 h6
        rcases hH with ⟨hL, hA3⟩ | ⟨hL, hA3⟩
        · refine tmpl_chain 1 (E := envP (sigP v [] o0 i 0 0) [fIn true]) (known_nothing _) (numP (hcons fin hnil)) (r_hN _) hA3 (liesP hv hG _ _ _ _ _ _) fun a4 w4 h4 => ?_
          show (rest 1 rfL).wpIn _ _ _ _ a4 w4
          rw [rf_l]
          refine wpIn_seq (wpIn_block ?_)
          refine tmpl_chain 1 (E := envP (sigP v [] o0 i 0 0) F) (known_P htick) (numP hF) (hN _) h4 (liesP hv hG _ _ _ _ _ _) fun a5 w5 h5 => ?_
          show (rest 1 rfR).wpIn _ _ _ _ a5 w5
          refine after _ ?_ fun a6 w6 h6 => tail _ hne h6 fun a9 w9 h9 => back h9
          rw [hr, hL, List.nil_append]
          exact see h5 [(0, 1)] (by simp) (by simp) (acons (.row rfl) (acons (.first rfl (by omega) rfl (by omega)) (acons (.num rfl) anil))) (acons ⟨by omega, 1, _, rfl, rfl, first_of rfl cell_n⟩ anil)
        · refine tmpl_chain 1 (E := envP (sigP v (v.refs i) o0 i 0 0) [fIn true]) (known_nothing _) (numP (hcons fin hnil)) (r_hO _) hA3 (liesP hv hG _ _ _ _ _ _) fun a4 w4 h4 => ?_
          show (rest 1 rfL).wpIn _ _ _ _ a4 w4
          rw [rf_l]
          refine wpIn_seq (wpIn_block ?_)
          refine tmpl_chain 1 (E := envP (sigP v (v.refs i) o0 i 0 0) F) (known_P htick) (numP hF) (hO _) h4 (liesP hv hG _ _ _ _ _ _) fun a5 w5 h5 => ?_
          show (rest 1 rfR).wpIn _ _ _ _ a5 w5
          refine after _ ?_ fun a6 w6 h6 => tail _ hne h6 fun a9 w9 h9 => back h9
          rw [hr]
          exact see h5 [(0, 2)] (by simp) (by simp) (acons (.row rfl) (acons (.own (k := 1) (b' := 0) (x' := 0) rfl rfl (by show (0, 0, 6, (v.refs i ++ [v.cell i]).length) = _; simp) (by omega)) (acons (.num rfl) anil))) (acons ⟨by omega, 2, _, rfl, rfl, more_of rfl cell_n⟩ anil)
      by_cases hk1 : v.kd i = 1
      · have hf : ¬ v.fine i := fun h => hk ⟨hk1, h⟩
        exact go [fIn true, fNeg, fKind true, fOk false] true (fun _ => hk1) (hcons fin (hcons not_neg (hcons (is_kind (by simpa using hk1)) (hcons (is_ok (by simpa using hf)) hnil)))) r_bN r_bO r_skipB
      · exact go [fIn true, fNeg, fKind false] false (fun h => by cases h) (hcons fin (hcons not_neg (hcons (is_kind (by simpa using hk1)) hnil))) r_aN r_aO r_skipA
end
end Go.Proofs.YtofcbcpbglnogaaGreatDoor
