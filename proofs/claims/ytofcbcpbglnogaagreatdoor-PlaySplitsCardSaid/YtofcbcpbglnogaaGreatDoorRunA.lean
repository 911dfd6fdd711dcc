/- works(): the example holds (a closed run, with the dispatcher's steps and the greater parts known). -/
import Derived.Test.YtofcbcpbglnogaaGreatDoorMbK
set_option linter.all false
set_option maxRecDepth 100000
namespace Go.Proofs.YtofcbcpbglnogaaGreatDoor
open Go.RX
theorem works_run (σ : Sig) : isBool true ((semK (env σ) (kpl σ) 60).call 4 [] ⟨.nil, 0, 0⟩) = true := by kernel_rfl
theorem works_name (vals : Array Value) (w : World) : (callFunc 4 vals).run Tryz.prog w = .ok (.enter 4 vals) w := by kernel_rfl

theorem over1 : OverOk Tryz.prog 351 := over_ok (tS := 167) (tR := 4) (e := 203) Tryz.func351 (by kernel_rfl) (by kernel_rfl) (by kernel_rfl) (by kernel_rfl) (by kernel_rfl) (fun w => sizeOf_run (E := env sig0) (n := 4) (by kernel_rfl) w)
theorem over2 : OverOk Tryz.prog 353 := over_ok (tS := 42) (tR := 4) (e := 3) Tryz.func353 (by kernel_rfl) (by kernel_rfl) (by kernel_rfl) (by kernel_rfl) (by kernel_rfl) (fun w => sizeOf_run (E := env sig0) (n := 1) (by kernel_rfl) w)
theorem same1 : SameOk Tryz.prog 101 := same_ok Tryz.func101 (by kernel_rfl) (by kernel_rfl) (by kernel_rfl) (by kernel_rfl)
theorem mkz1 : MkzOk Tryz.prog 222 5 := mkz_ok (tp := 3) (tr := 82) Tryz.func222 (by kernel_rfl) (by kernel_rfl) (by kernel_rfl) (by kernel_rfl) (by kernel_rfl)
theorem num (σ : Sig) : NumOk (env σ) := num_nothing rfl rfl rfl rfl (fun f h => by
  simp only [env, List.mem_cons, List.mem_nil_iff, or_false] at h
  rcases h with rfl | rfl
  · exact over1
  · exact over2) (fun f h => by cases h) (fun f h => by
  simp only [env, List.mem_cons, List.mem_nil_iff, or_false] at h
  subst h
  exact same1) (fun f t h => by
  simp only [env, Sym.assocN] at h
  split at h
  · rename_i hb
    have := Nat.eq_of_beq_eq_true hb
    subst this
    simp only [Option.some.injEq] at h
    subst h
    exact mkz1
  · cases h)
theorem knows (σ : Sig) : Known (env σ) (know σ) := by
  obtain ⟨hM, hC⟩ := semK_both (known_nothing (env σ)) 4
  exact known_ins hC hM _ (known_nothing (env σ))
theorem plays (σ : Sig) : Known (env σ) (kpl σ) := kpl_known σ (kdo_known σ (knows σ))
theorem works_calls (σ : Sig) (w : World) (h : Lies (env σ) w) : Calls Tryz.prog 4 #[] w fun e w' => e = .returned (.bool true) ∧ On w w' := by
  obtain ⟨S', hr⟩ := isBool_some (works_run σ)
  exact run_bool (E := env σ) (plays σ) hr .nil (num σ) h
end Go.Proofs.YtofcbcpbglnogaaGreatDoor
