/- SameOps, whole, of two lists of the same operations. -/
import Derived.Test.YtofcbcpbglnogaaGreatDoorSameA
set_option linter.all false
set_option maxRecDepth 100000
namespace Go.Proofs.YtofcbcpbglnogaaGreatDoor
open Go.RX
open Go.RX.Sym

section
variable {t : Two} {L : List (Nat → Value)} {W : World}

theorem inc_s {i : Nat} (h : i ≤ 1000000) : IE.val (sigS t L i) (.bin .add .i64 (.var 0) (.lit 1)) = ((i + 1 : Nat) : Int) := by
  simp only [IE.val, sigS]
  rw [add_small (by omega) (by omega)]
  simp
theorem in_s {i a : Nat} (ha : a = 1 ∨ a = 2) {y : Bool} (h : i < L.length ↔ y = true) : (gIn a y).holds (sigS t L i) := holds_lt (by
  rcases ha with rfl | rfl <;> simp only [IE.val, sigS] <;> rw [← h] <;> omega)
theorem eq_s (hw : ∀ o ∈ L, OpW o) {i c : Nat} : (gEq c).holds (sigS t L i) := holds_eq ⟨fun _ => rfl, fun _ => rfl⟩

theorem same_own (hw : ∀ o ∈ L, OpW o) (hb : Both t L W) (hG : RX.Lies (env sig0) W) {c1 c2 : Nat} (h1 : L.length ≤ c1) (h2 : L.length ≤ c2) (hm : L.length ≤ 1000000) :
    Calls Tryz.prog 7 #[.slice (some ⟨t.b1, t.x1, none⟩) L.length c1, .slice (some ⟨t.b2, t.x2, none⟩) L.length c2] W fun e w' => e = .returned (.bool true) ∧ On W w' := by
  have hrow : VRels (.nil (sigS t L 0)) [.row 1, .row 2] [.slice (some ⟨t.b1, t.x1, none⟩) L.length c1, .slice (some ⟨t.b2, t.x2, none⟩) L.length c2] := .cons (.row (sz := 6) rfl h1) (.cons (.row (sz := 6) rfl h2) .nil)
  refine tmpl_begin (E := envS0 (sigS t L 0) []) Tryz.func7 sm_body smSl hrow (by rw [sm_n]; decide) fun a hA => ?_
  rw [sm_n] at hA
  refine tmpl_chain 2 (E := envS0 (sigS t L 0) [gLen]) (known_nothing _) (numS0 (hcons (holds_eq ⟨fun _ => rfl, fun _ => rfl⟩) hnil)) (s_begin _) hA (liesS0 hw hb hG _ _) fun a1 w1 a2 => ?_
  show (rest 2 smBody).wpIn _ _ _ _ a1 w1
  rw [sm_rest]
  refine wpIn_seq (tmpl_chain 1 (E := envS0 (sigS t L 0) []) (known_nothing _) (numS0 hnil) (s_r3 _) a2 (liesS0 hw hb hG _ _) fun a3 w3 h3 => ?_)
  show (rest 1 smA).wpIn _ _ _ _ a3 w3
  rw [sm_blk]
  refine wpIn_block (wpIn_loop_n (J := fun m a w => ∃ i, i + m = L.length ∧ AtT (sigS t L i) 26 smSl (smF smI) [] 0 W a w) (N := L.length) ⟨0, by omega, ?_⟩ ?_)
  · exact see h3 [] (by simp) (by simp) (acons (.row rfl) (acons (.row rfl) (acons (.int rfl) anil))) anil
  rintro m a4 w4 ⟨i, hi, h4⟩
  cases m with
  | zero =>
    refine tmpl_step (E := envS0 (sigS t L i) [gIn 1 false]) (known_nothing _) (numS0 (hcons (in_s (.inl rfl) (by simp; omega)) hnil)) (s_end _) h4 (liesS0 hw hb hG _ _) fun a5 w5 h5 => ?_
    show smB.wpIn _ _ _ _ a5 w5
    refine tmpl_step (E := envS0 (sigS t L i) []) (known_nothing _) (numS0 hnil) (s_z _) h5 (liesS0 hw hb hG _ _) fun a6 w6 h6 => ?_
    refine tmpl_leaves (E := envS0 (sigS t L i) []) (numS0 hnil) (s_l _) h6 (liesS0 hw hb hG _ _) fun u w' hl => ?_
    obtain ⟨on, ρ, -, hx, -⟩ := hl
    cases hx
    exact ⟨rfl, on⟩
  | succ m =>
    have hin : i < L.length := by omega
    refine tmpl_step (E := envS (sigS t L i) [gIn 1 true, gIn 2 true, gNeg, gEq 0, gEq 1, gEq 2, gEq 3]) (known_nothing _) (numS hw hin (hcons (in_s (.inl rfl) (by simpa using hin)) (hcons (in_s (.inr rfl) (by simpa using hin)) (hcons (holds_lt (by simp [IE.val, sigS])) (hcons (eq_s hw) (hcons (eq_s hw) (hcons (eq_s hw) (hcons (eq_s hw) hnil)))))))) (s_go _) h4 (liesS hw hb hG _ _) fun a5 w5 h5 => ?_
    exact ⟨m, by omega, i + 1, by omega, see h5 [] (by simp) (by simp) (acons (.row rfl) (acons (.row rfl) (acons (.num (inc_s (by omega)).symm) anil))) anil⟩

theorem numN {σ : Sig} : NumOk (envC σ []) := numC hnil
theorem same_nil (hG : RX.Lies (env sig0) W) : Calls Tryz.prog 7 #[.slice none 0 0, .slice none 0 0] W fun e w' => e = .returned (.bool true) ∧ On W w' := by
  obtain ⟨S', hr⟩ := isBool_some (s_nil sig0)
  exact run_bool (E := envC sig0 []) (known_nothing _) hr (.cons .nilslice (.cons .nilslice .nil)) numN (liesC hG _ _)
end
end Go.Proofs.YtofcbcpbglnogaaGreatDoor
