/- What all laws of the chapter share: the variables' cells lie in the world; the chapter's examples are a known call. -/
import Derived.Test.YtbimieobgjehkaaGreatDoorRows
import Derived.Test.YtbimieobgjehkaaGreatDoorRunA
import Derived.WideShapes
import Derived.Deep.Slices
import Derived.KernelRfl
set_option linter.all false
namespace Go.Proofs.YtbimieobgjehkaaGreatDoor
open Go.ChangeShapes Go.WideShapes Go.RowKit Go.RX Go.Deep

theorem bytes_slice : Tryz.prog.underlying 22 = some (.slice 5) := by kernel_rfl

theorem over1 : OverOk Tryz.prog 212 := over_ok (tS := 126) (tR := 4) (e := 150) Tryz.func212 (by kernel_rfl) (by kernel_rfl) (by kernel_rfl) (by kernel_rfl) (by kernel_rfl) (fun w => sizeOf_run (E := env sig0) (n := 4) (by kernel_rfl) w)
theorem over2 : OverOk Tryz.prog 217 := over_ok (tS := 103) (tR := 4) (e := 3) Tryz.func217 (by kernel_rfl) (by kernel_rfl) (by kernel_rfl) (by kernel_rfl) (by kernel_rfl) (fun w => sizeOf_run (E := env sig0) (n := 1) (by kernel_rfl) w)
theorem num (σ : Sig) : NumOk (env σ) := num_nothing rfl rfl rfl rfl (fun f h => by
  simp only [env, List.mem_cons, List.mem_nil_iff, or_false] at h
  rcases h with rfl | rfl
  · exact over1
  · exact over2)
theorem both0 (σ : Sig) : CalleeMono (insC σ) ∧ CalleeSound (env σ) (insC σ) := semK_both (known_nothing (env σ)) 4
theorem knows1 (σ : Sig) : Known (env σ) (know1 σ) := known_ins (both0 σ).2 (both0 σ).1 _ (known_nothing (env σ))
theorem both1 (σ : Sig) : CalleeMono (dfrC σ) ∧ CalleeSound (env σ) (dfrC σ) := semK_both (knows1 σ) 20
theorem knows (σ : Sig) : Known (env σ) (know σ) := known_dfr (both1 σ).2 (both1 σ).1 _ (knows1 σ)

theorem works_name (vals : Array Value) (w : World) : (callFunc 6 vals).run Tryz.prog w = .ok (.enter 6 vals) w := by kernel_rfl
/-- The chapter's examples, in any world in which the variables' cells lie. -/
theorem works_calls (σ : Sig) (w : World) (h : Lies (env σ) w) : Calls Tryz.prog 6 #[] w fun e w' => e = .returned (.bool true) ∧ On w w' := by
  obtain ⟨S', hr⟩ := isBool_some (works_run σ)
  exact run_bool (E := env σ) (knows σ) hr .nil (num σ) h

theorem okWide_has {P : Program} {W : World} {r : Reach} {base : Nat} {t e : TypeId} {a : Addr} {len cap : Nat} (ht : P.underlying t = some (.slice e)) (h : Value.okWide P W r base t (.slice (some a) len cap)) : W.has P r base a e cap := by
  simp only [Value.okWide, ht, Cell.okWide, Cell.ok] at h
  exact h.2.2

set_option maxRecDepth 100000 in
/-- An argument of bytes: none; or a row of them. -/
theorem bytes_open {H : Type} {enc : TypeId × Value → H} {W : World} {v : Value} {d : DataW H} {p : List MemPlace} {base : Nat} (hok : Value.okWide Tryz.prog W .any base 22 v) {fuel : Nat} {held : Bool}
    (h : DataW.trod enc Tryz.prog W 0 (fun _ => true) held fuel 22 [v] = some (d, p)) : v = .slice none 0 0 ∨ ∃ (b x n cap : Nat), v = .slice (some ⟨b, x, none⟩) n cap ∧ n ≤ cap := by
  rcases open_slice bytes_slice h with ⟨h0, -⟩ | ⟨a, len, cap, m, n, D, Pl, hv, hb, hl, hm, hmm, -, hx⟩
  · left
    simpa using h0
  · right
    have hv : v = .slice (some a) len cap := by simpa using hv
    subst hv
    obtain ⟨-, hspot, -⟩ := okWide_has (P := Tryz.prog) (t := 22) (e := 5) bytes_slice hok
    obtain ⟨ab, ao, asp⟩ := a
    dsimp only at hspot
    subst hspot
    exact ⟨ab, ao, len, cap, rfl, hl⟩
end Go.Proofs.YtbimieobgjehkaaGreatDoor
