/- ImageSums: the law's function answers true, of no bytes and of bytes in memory. -/
import Derived.Test.YtbimieobgjehkaaGreatDoorSumsLoop
import Derived.Test.YtbimieobgjehkaaGreatDoorBase
import Derived.KernelRfl
set_option linter.all false
namespace Go.Proofs.YtbimieobgjehkaaGreatDoor
open Go.RX
open Go.RX.Sym

/-- What is known of sums: of the row of bytes, the number with index 3. -/
def KS1 (args : List SV) (S : SW) : Option (SV × SW) := match args with
  | [.row a] => (match Nat.beq a 0 with | true => some (.sint .u32 (.var 3), S) | false => none)
  | _ => none
def KS (f : Nat) (args : List SV) (S : SW) : Option (SV × SW) := match Nat.beq f 7, Nat.beq f 8 with
  | false, false => none
  | _, _ => KS1 args S
def KW (f : Nat) (args : List SV) (S : SW) : Option (SV × SW) := match Nat.beq f 6, args with | true, [] => some (.bool true, S) | _, _ => KS f args S
noncomputable def envW (σ : Sig) (F : List Fact) : Env := { P := Tryz.prog, G := globals, rows := kindsB, lt := factLt F, eq := factEq F, sig := σ }
def sigZ (v : Bts) : Sig := sigB v 0 0 0 (crc v.list : Nat)

theorem KS1_some {args : List SV} {S S' : SW} {x : SV} (h : KS1 args S = some (x, S')) : args = [.row 0] ∧ x = .sint .u32 (.var 3) ∧ S' = S := by
  unfold KS1 at h
  split at h
  · split at h
    · rename_i a ha
      have := Nat.eq_of_beq_eq_true ha
      subst this
      simp only [Option.some.injEq, Prod.mk.injEq] at h
      exact ⟨rfl, h.1.symm, h.2.symm⟩
    · cases h
  · cases h
theorem KS_some {f : Nat} {args : List SV} {S S' : SW} {x : SV} (h : KS f args S = some (x, S')) : (f = 7 ∨ f = 8) ∧ args = [.row 0] ∧ x = .sint .u32 (.var 3) ∧ S' = S := by
  unfold KS at h
  split at h
  · cases h
  · rename_i hne
    refine ⟨?_, KS1_some h⟩
    cases h1 : Nat.beq f 7 with
    | true => exact .inl (Nat.eq_of_beq_eq_true h1)
    | false =>
      cases h2 : Nat.beq f 8 with
      | true => exact .inr (Nat.eq_of_beq_eq_true h2)
      | false => exact absurd h2 (hne h1)
noncomputable def named (f : Nat) : Bool := match Sym.compFn (env sig0) f with | some _ => true | none => false
theorem nameF {f : Nat} (hf : named f = true) (vals : Array Value) (w : World) : (callFunc f vals).run Tryz.prog w = .ok (.enter f vals) w := by
  unfold named at hf
  split at hf
  · rename_i g hc
    obtain ⟨g⟩ := g
    exact compFn_name hc vals w
  · cases hf
theorem name7 : named 7 = true := by kernel_rfl
theorem name8 : named 8 = true := by kernel_rfl

theorem fits_W {v : Bts} {F : List Fact} {w : World} (hb : ∀ i, v.at_ i < 256) (hf : v.n ≤ 9223372036854775807) (h : Lies (envW (sigZ v) F) w) : v.Fits w := by
  refine ⟨hb, hf, ?_⟩
  obtain ⟨b, x, n, arr, el, fz, e1, e2, e3⟩ := h.rows 0 [some .u8] rfl
  have e1' : ((v.b, v.x, 1, v.n) : Nat × Nat × Nat × Nat) = (b, x, 1, n) := e1
  simp only [Prod.mk.injEq] at e1'
  obtain ⟨rfl, rfl, -, rfl⟩ := e1'
  refine ⟨arr, el, fz, e2, fun i hi => ?_⟩
  have := (e3 i 0 (some .u8) hi rfl).1
  simpa [envW, sigZ, sigB] using this
theorem known_S {v : Bts} {F : List Fact} (hb : ∀ i, v.at_ i < 256) (hf : v.n ≤ 9223372036854775807) : Known (envW (sigZ v) F) KS where
  name f args S x h vals w := by
    obtain ⟨x, S'⟩ := x
    rcases (KS_some h).1 with rfl | rfl
    · exact nameF name7 vals w
    · exact nameF name8 vals w
  mono f args S x S' h := by
    obtain ⟨-, -, -, rfl⟩ := KS_some h
    exact .refl _
  call f args S x S' h ρ vals w hok hfr hv := by
    obtain ⟨hff, rfl, rfl, rfl⟩ := KS_some h
    cases hv with
    | cons h1 h2 =>
      cases h2
      obtain ⟨b, x, sz, n, cap, e1, rfl, hcap⟩ := h1.row_inv
      have hsig : ρ.sig = sigZ v := hok.glob.num.sig
      rw [hsig] at e1
      have e1' : ((v.b, v.x, 1, v.n) : Nat × Nat × Nat × Nat) = (b, x, sz, n) := e1
      simp only [Prod.mk.injEq] at e1'
      obtain ⟨rfl, rfl, -, rfl⟩ := e1'
      have hfit := fits_W hb hf hok.glob.lies
      have key : Calls Tryz.prog f #[.slice (some ⟨v.b, v.x, none⟩) v.n cap] w fun e w' => e = .returned (.int .u32 (crc v.list : Nat)) ∧ On w w' := by
        rcases hff with rfl | rfl
        · exact sum7 hfit cap hcap
        · exact sum8 hfit cap hcap
      refine callsIn_wide.1 (CallsIn.mono (callsIn_wide.2 key) (n := 0) ?_)
      rintro e w' ⟨rfl, o⟩
      have g0 : VRel ρ (.sint .u32 (.var 3)) (.int .u32 (crc v.list : Nat)) := by
        have := VRel.sint (ρ := ρ) .u32 (.var 3)
        rw [hsig] at this
        exact this
      exact ⟨_, ρ, rfl, ext_on hok.wrel hok.tidy o, g0⟩
theorem known_W {v : Bts} {F : List Fact} (hb : ∀ i, v.at_ i < 256) (hf : v.n ≤ 9223372036854775807) : Known (envW (sigZ v) F) KW :=
  known_bool (E := envW (sigZ v) F) works_name (fun w h => works_calls (sigZ v) w ⟨h.cells, fun a ks h => by cases h⟩) (known_S hb hf)
theorem num_W {v : Bts} {F : List Fact} (hF : ∀ f ∈ F, f.holds (sigZ v)) : NumOk (envW (sigZ v) F) := fact_num rfl rfl hF fun a ks h => by
  cases a with
  | zero => simp only [envW, kindsB, Option.some.injEq] at h; subst h; rfl
  | succ a => simp [envW, kindsB] at h
theorem lies_W {v : Bts} {F : List Fact} {W : World} (hv : v.Fits W) (h : Lies (env (sigZ v)) W) : Lies (envW (sigZ v) F) W := ⟨h.cells, (lies_B (P := Tryz.prog) (F := F) hv).rows⟩

noncomputable def envN (σ : Sig) : Env := { P := Tryz.prog, G := globals, sig := σ }
def knowN (f : Nat) (args : List SV) (S : SW) : Option (SV × SW) := match Nat.beq f 6, args with | true, [] => some (.bool true, S) | _, _ => none
theorem known_N (σ : Sig) : Known (envN σ) knowN := known_bool (E := envN σ) works_name (fun w h => works_calls σ w ⟨h.cells, h.rows⟩) (known_nothing _)

theorem sums_nil (σ : Sig) : isBool true ((semK (envN σ) knowN 40).call 3 [.nilslice] ⟨.nil, 0, 0⟩) = true := by kernel_rfl
theorem sums_long (σ : Sig) : isBool true ((semK (envW σ [⟨true, .lit 10000, .len 0, true⟩]) KW 40).call 3 [.row 0] ⟨.nil, 0, 0⟩) = true := by kernel_rfl
theorem sums_short (σ : Sig) : isBool true ((semK (envW σ [⟨true, .lit 10000, .len 0, false⟩, ⟨false, .var 3, .var 3, true⟩]) KW 40).call 3 [.row 0] ⟨.nil, 0, 0⟩) = true := by kernel_rfl

theorem sums_calls {v : Value} {W : World} (hv : v = .slice none 0 0 ∨ ∃ (u : Bts) (cap : Nat), v = .slice (some ⟨u.b, u.x, none⟩) u.n cap ∧ u.n ≤ cap ∧ u.Fits W) (h : ∀ σ, Lies (env σ) W) :
    Calls Tryz.prog 3 #[v] W fun e w' => e = .returned (.bool true) ∧ On W w' := by
  rcases hv with rfl | ⟨u, cap, rfl, hc, hu⟩
  · obtain ⟨S', hr⟩ := isBool_some (sums_nil sig0)
    exact run_bool (known_N _) hr (.cons .nilslice .nil) (num_nothing rfl rfl rfl) ⟨(h sig0).cells, (h sig0).rows⟩
  · have hrow : VRel (.nil (sigZ u)) (.row 0) (.slice (some ⟨u.b, u.x, none⟩) u.n cap) := .row (sz := 1) rfl hc
    by_cases hl : IE.val (sigZ u) (.lit 10000) < IE.val (sigZ u) (.len 0)
    · obtain ⟨S', hr⟩ := isBool_some (sums_long (sigZ u))
      exact run_bool (known_W hu.byte hu.few) hr (vals := [.slice (some ⟨u.b, u.x, none⟩) u.n cap]) (.cons hrow .nil) (num_W (fcons (ltT hl) fnil)) (lies_W hu (h _))
    · obtain ⟨S', hr⟩ := isBool_some (sums_short (sigZ u))
      exact run_bool (known_W hu.byte hu.few) hr (vals := [.slice (some ⟨u.b, u.x, none⟩) u.n cap]) (.cons hrow .nil) (num_W (fcons (ltF hl) (fcons (eqT rfl) fnil))) (lies_W hu (h _))
end Go.Proofs.YtbimieobgjehkaaGreatDoor
