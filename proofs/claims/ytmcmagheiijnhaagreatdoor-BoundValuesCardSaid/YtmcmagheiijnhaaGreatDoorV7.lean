/- The parts of a policy as calls; as questions. -/
import Derived.Test.YtmcmagheiijnhaaGreatDoorV5
import Derived.Test.YtmcmagheiijnhaaGreatDoorV1
set_option linter.all false
set_option maxRecDepth 100000
namespace Go.Proofs.YtmcmagheiijnhaaGreatDoor
open Go.RX Go.RX.Sym
open Classical

/-- Numbers of 64 bits. -/
noncomputable def numsN : Nat → List SV → Option (List IE)
  | 0, l => (match l with | [] => some [] | _ => none)
  | n + 1, l => match l with
    | x :: xs => (match toIE x, numsN n xs with | some (.i64, e), some l => some (e :: l) | _, _ => none)
    | [] => none
theorem numsN_vals {ρ : Ren} : ∀ {n : Nat} {xs : List SV} {l : List IE} {vs : List Value}, numsN n xs = some l → VRels ρ xs vs → vs = l.map (fun e => .int .i64 (e.val ρ.sig)) ∧ l.length = n
  | 0, xs, l, vs, h, hv => by
    simp only [numsN] at h
    split at h
    · simp only [Option.some.injEq] at h; subst h; cases hv; exact ⟨rfl, rfl⟩
    · cases h
  | n + 1, xs, l, vs, h, hv => by
    simp only [numsN] at h
    split at h
    · split at h
      · rename_i h1 h2
        simp only [Option.some.injEq] at h
        subst h
        cases hv with
        | cons hx hs =>
          obtain ⟨rfl, hl⟩ := numsN_vals h2 hs
          have := toIE_val0 h1 hx
          subst this
          exact ⟨rfl, by simp [hl]⟩
      · cases h
    · cases h
noncomputable def flatA (n : Nat) : List SV → Option (List IE)
  | [.agg xs] => numsN n xs
  | _ => none
noncomputable def flatP (n : Nat) (l : List SV) : Option (List IE) := numsN n l
theorem flatA_vals {ρ : Ren} {n : Nat} {args : List SV} {l : List IE} {vals : List Value} (h : flatA n args = some l) (hv : VRels ρ args vals) : vals = [.agg (l.map fun e => Value.int .i64 (e.val ρ.sig)).toArray] ∧ l.length = n := by
  unfold flatA at h
  split at h
  · cases hv with
    | cons hx hs =>
      cases hs
      cases hx with
      | agg hh =>
        obtain ⟨rfl, hl⟩ := numsN_vals h hh
        exact ⟨rfl, hl⟩
  · cases h

noncomputable def sigL (l : List Int) : Sig := sigV fun i => match i with | 0 => 0 | i + 1 => l.getD i 0
theorem sigL_fn {l : List Int} : (sigL l).fn = fnS := rfl
section
variable {W : World}
theorem limP_calls (hW : Spaces W) {t u : Int} : Calls Tryz.prog 71 #[.agg #[.int .i64 t, .int .i64 u]] W fun e w' => e = .returned (errV (limOk t u) 16) ∧ On W w' :=
  fn_dt (E := envF (sigL [t, u])) (K := fun F => inK (envF (sigL [t, u]) F)) (σ := sigL [t, u]) (P := Tryz.prog) (fun _ => rfl) (fun _ => rfl) (fnIn sigL_fn hW) (T := limP) (d := 40) (f := 71) (args := [.agg [iv 1, iv 2]]) (limP_ok _) (vals := [.agg #[.int .i64 t, .int .i64 u]])
    (.cons (.agg (.cons (VRel.sint (ρ := .nil (sigL [t, u])) .i64 (.var 1)) (.cons (VRel.sint (ρ := .nil (sigL [t, u])) .i64 (.var 2)) .nil))) .nil) fun ρ _ w hw => by rw [limP_eval sigL_fn] at hw; exact pick_err hw
theorem limR_calls (hW : Spaces W) {t u : Int} : Calls Tryz.prog 79 #[.agg #[.int .i64 t, .int .i64 u]] W fun e w' => e = .returned (errV (limOk t u) 16) ∧ On W w' :=
  fn_dt (E := envF (sigL [t, u])) (K := fun _ => noC) (σ := sigL [t, u]) (P := Tryz.prog) (fun _ => rfl) (fun _ => rfl) (fnF _ hW) (T := limR) (d := 40) (f := 79) (args := [.agg [iv 1, iv 2]]) (limR_ok _) (vals := [.agg #[.int .i64 t, .int .i64 u]])
    (.cons (.agg (.cons (VRel.sint (ρ := .nil (sigL [t, u])) .i64 (.var 1)) (.cons (VRel.sint (ρ := .nil (sigL [t, u])) .i64 (.var 2)) .nil))) .nil) fun ρ _ w hw => by rw [limR_eval] at hw; exact pick_err hw
theorem brkP_calls (hW : Spaces W) {a b c : Int} : Calls Tryz.prog 103 #[.agg #[.int .i64 a, .int .i64 b, .int .i64 c]] W fun e w' => e = .returned (errV (brkOk a b c) 16) ∧ On W w' :=
  fn_dt (E := envF (sigL [a, b, c])) (K := fun F => inK (envF (sigL [a, b, c]) F)) (σ := sigL [a, b, c]) (P := Tryz.prog) (fun _ => rfl) (fun _ => rfl) (fnIn sigL_fn hW) (T := brkP) (d := 40) (f := 103) (args := [.agg [iv 1, iv 2, iv 3]]) (brkP_ok _) (vals := [.agg #[.int .i64 a, .int .i64 b, .int .i64 c]])
    (.cons (.agg (.cons (VRel.sint (ρ := .nil (sigL [a, b, c])) .i64 (.var 1)) (.cons (VRel.sint (ρ := .nil (sigL [a, b, c])) .i64 (.var 2)) (.cons (VRel.sint (ρ := .nil (sigL [a, b, c])) .i64 (.var 3)) .nil)))) .nil) fun ρ _ w hw => by rw [brkP_eval sigL_fn] at hw; exact pick_err hw
theorem brkR_calls (hW : Spaces W) {a b c : Int} : Calls Tryz.prog 86 #[.agg #[.int .i64 a, .int .i64 b, .int .i64 c]] W fun e w' => e = .returned (errV (brkOk a b c) 16) ∧ On W w' :=
  fn_dt (E := envF (sigL [a, b, c])) (K := fun _ => noC) (σ := sigL [a, b, c]) (P := Tryz.prog) (fun _ => rfl) (fun _ => rfl) (fnF _ hW) (T := brkR) (d := 40) (f := 86) (args := [.agg [iv 1, iv 2, iv 3]]) (brkR_ok _) (vals := [.agg #[.int .i64 a, .int .i64 b, .int .i64 c]])
    (.cons (.agg (.cons (VRel.sint (ρ := .nil (sigL [a, b, c])) .i64 (.var 1)) (.cons (VRel.sint (ρ := .nil (sigL [a, b, c])) .i64 (.var 2)) (.cons (VRel.sint (ρ := .nil (sigL [a, b, c])) .i64 (.var 3)) .nil)))) .nil) fun ρ _ w hw => by rw [brkR_eval] at hw; exact pick_err hw
theorem retP_calls (hW : Spaces W) {a b c d : Int} : Calls Tryz.prog 104 #[.agg #[.int .i64 a, .int .i64 b, .int .i64 c, .int .i64 d]] W fun e w' => e = .returned (errV (retOk a b c d) 16) ∧ On W w' :=
  fn_dt (E := envF (sigL [a, b, c, d])) (K := fun F => inK (envF (sigL [a, b, c, d]) F)) (σ := sigL [a, b, c, d]) (P := Tryz.prog) (fun _ => rfl) (fun _ => rfl) (fnIn sigL_fn hW) (T := retP) (d := 40) (f := 104) (args := [.agg [iv 1, iv 2, iv 3, iv 4]]) (retP_ok _) (vals := [.agg #[.int .i64 a, .int .i64 b, .int .i64 c, .int .i64 d]])
    (.cons (.agg (.cons (VRel.sint (ρ := .nil (sigL [a, b, c, d])) .i64 (.var 1)) (.cons (VRel.sint (ρ := .nil (sigL [a, b, c, d])) .i64 (.var 2)) (.cons (VRel.sint (ρ := .nil (sigL [a, b, c, d])) .i64 (.var 3)) (.cons (VRel.sint (ρ := .nil (sigL [a, b, c, d])) .i64 (.var 4)) .nil))))) .nil) fun ρ _ w hw => by rw [retP_eval sigL_fn] at hw; exact pick_err hw
theorem retR_calls (hW : Spaces W) {a b c d : Int} : Calls Tryz.prog 87 #[.agg #[.int .i64 a, .int .i64 b, .int .i64 c, .int .i64 d]] W fun e w' => e = .returned (errV (retOk a b c d) 16) ∧ On W w' :=
  fn_dt (E := envF (sigL [a, b, c, d])) (K := fun _ => noC) (σ := sigL [a, b, c, d]) (P := Tryz.prog) (fun _ => rfl) (fun _ => rfl) (fnF _ hW) (T := retR) (d := 40) (f := 87) (args := [.agg [iv 1, iv 2, iv 3, iv 4]]) (retR_ok _) (vals := [.agg #[.int .i64 a, .int .i64 b, .int .i64 c, .int .i64 d]])
    (.cons (.agg (.cons (VRel.sint (ρ := .nil (sigL [a, b, c, d])) .i64 (.var 1)) (.cons (VRel.sint (ρ := .nil (sigL [a, b, c, d])) .i64 (.var 2)) (.cons (VRel.sint (ρ := .nil (sigL [a, b, c, d])) .i64 (.var 3)) (.cons (VRel.sint (ρ := .nil (sigL [a, b, c, d])) .i64 (.var 4)) .nil))))) .nil) fun ρ _ w hw => by rw [retR_eval] at hw; exact pick_err hw
theorem misP_calls (hW : Spaces W) {a b : Int} : Calls Tryz.prog 102 #[.int .i64 a, .int .i64 b] W fun e w' => e = .returned (errV (misOk a b) 16) ∧ On W w' :=
  fn_dt (E := envF (sigL [a, b])) (K := fun F => inK (envF (sigL [a, b]) F)) (σ := sigL [a, b]) (P := Tryz.prog) (fun _ => rfl) (fun _ => rfl) (fnIn sigL_fn hW) (T := misP) (d := 40) (f := 102) (args := [iv 1, iv 2]) (misP_ok _) (vals := [.int .i64 a, .int .i64 b])
    (.cons (VRel.sint (ρ := .nil (sigL [a, b])) .i64 (.var 1)) (.cons (VRel.sint (ρ := .nil (sigL [a, b])) .i64 (.var 2)) .nil)) fun ρ _ w hw => by rw [misP_eval sigL_fn] at hw; exact pick_err hw
theorem misR_calls (hW : Spaces W) {a b : Int} : Calls Tryz.prog 85 #[.int .i64 a, .int .i64 b] W fun e w' => e = .returned (errV (misOk a b) 16) ∧ On W w' :=
  fn_dt (E := envF (sigL [a, b])) (K := fun _ => noC) (σ := sigL [a, b]) (P := Tryz.prog) (fun _ => rfl) (fun _ => rfl) (fnF _ hW) (T := misR) (d := 40) (f := 85) (args := [iv 1, iv 2]) (misR_ok _) (vals := [.int .i64 a, .int .i64 b])
    (.cons (VRel.sint (ρ := .nil (sigL [a, b])) .i64 (.var 1)) (.cons (VRel.sint (ρ := .nil (sigL [a, b])) .i64 (.var 2)) .nil)) fun ρ _ w hw => by rw [misR_eval] at hw; exact pick_err hw
end

theorem okV_rel : ∀ ρ, VRel ρ okV (.int .i64 0) := fun _ => .int .i64 0
theorem ruleV_rel : ∀ ρ, VRel ρ ruleV (.int .i64 16) := fun _ => .int .i64 16
theorem ask_err {p : Prop} : (if ind p = 1 then Value.int .i64 0 else .int .i64 16) = errV p 16 := by
  unfold errV
  by_cases h : p
  · rw [if_pos (ind_one.2 h), if_pos h]
  · rw [if_neg fun g => h (ind_one.1 g), if_neg h]
section
variable {σ : Sig} {F : List Fact} {K : Nat → List SV → SW → Option (SV × SW)}
theorem known_lim {f : Nat} (hname : ∀ (vals : Array Value) w, (callFunc f vals).run Tryz.prog w = .ok (.enter f vals) w) (hc : ∀ {W : World} (hW : Spaces W) {t u : Int}, Calls Tryz.prog f #[.agg #[.int .i64 t, .int .i64 u]] W fun e w' => e = .returned (errV (limOk t u) 16) ∧ On W w') (hσ : σ.fn = fnS) (hF : ∀ f ∈ F, f.holds σ) (hK : Known (envF σ F) K) :
    Known (envF σ F) (plainK f (qG (envF σ F) 52 (flatA 2) okV ruleV) K) :=
  known_q (Go.Proofs.YtmcmagheiijnhaaGreatDoor.numF σ hF) okV_rel ruleV_rel hname (fun args l hl ρ vals w S hs hok hv => by
    obtain ⟨rfl, hn⟩ := flatA_vals hl hv
    match l, hn with
    | [a, b], _ =>
      refine callsIn_wide.1 (CallsIn.mono (callsIn_wide.2 (hc (spaces_ok hok))) (n := 0) ?_)
      rintro e w' ⟨rfl, o⟩
      refine ⟨?_, o⟩
      rw [show (envF σ F).sig.fn 52 (IE.vals (envF σ F).sig [a, b]) = ind (limOk (a.val ρ.sig) (b.val ρ.sig)) from by rw [hs]; show σ.fn 52 [a.val σ, b.val σ] = _; rw [hσ]; rfl, ask_err]) hK
end
end Go.Proofs.YtmcmagheiijnhaaGreatDoor

/- Policies, schedules with periods, zones: what both calls hand back. -/
set_option linter.all false
set_option maxRecDepth 100000
namespace Go.Proofs.YtmcmagheiijnhaaGreatDoor
open Go.RX Go.RX.Sym
open Classical

def ivL (l : List Int) : List Value := l.map (.int .i64)
section
variable {σ : Sig} {F : List Fact} {K : Nat → List SV → SW → Option (SV × SW)}
theorem known_errA {f tag n : Nat} {m : Int} {spec : List Int → Prop} (hname : ∀ (vals : Array Value) w, (callFunc f vals).run Tryz.prog w = .ok (.enter f vals) w) (hfn : ∀ l, l.length = n → fnS tag l = ind (spec l))
    (hc : ∀ {W : World} (hW : Spaces W) (l : List Int), l.length = n → Calls Tryz.prog f #[.agg (ivL l).toArray] W fun e w' => e = .returned (errV (spec l) m) ∧ On W w') (hσ : σ.fn = fnS) (hF : ∀ f ∈ F, f.holds σ) (hK : Known (envF σ F) K) :
    Known (envF σ F) (plainK f (qG (envF σ F) tag (flatA n) okV (.int .i64 m)) K) :=
  known_q (Go.Proofs.YtmcmagheiijnhaaGreatDoor.numF σ hF) okV_rel (fun _ => .int .i64 m) hname (fun args l hl ρ vals w S hs hok hv => by
    obtain ⟨rfl, hn⟩ := flatA_vals hl hv
    refine callsIn_wide.1 (CallsIn.mono (callsIn_wide.2 (by have := hc (spaces_ok hok) (l.map fun e => e.val ρ.sig) (by simpa using hn); rw [ivL, List.map_map] at this; exact this)) (n := 0) ?_)
    rintro e w' ⟨rfl, o⟩
    refine ⟨?_, o⟩
    have e1 : IE.vals (envF σ F).sig l = l.map fun e => e.val ρ.sig := by
      rw [hs]
      clear hl hn hv
      induction l with
      | nil => rfl
      | cons a l ih => simp only [IE.vals, List.map_cons, ih]
    rw [e1]
    have e2 : (envF σ F).sig.fn tag (l.map fun e => e.val ρ.sig) = ind (spec (l.map fun e => e.val ρ.sig)) := by
      show σ.fn tag _ = _
      rw [hσ]
      exact hfn _ (by simpa using hn)
    rw [e2]
    unfold errV
    by_cases h : spec (l.map fun e => e.val ρ.sig)
    · rw [if_pos (ind_one.2 h), if_pos h]
    · rw [if_neg fun g => h (ind_one.1 g), if_neg h]) hK
theorem known_errP {f tag n : Nat} {m : Int} {spec : List Int → Prop} (hname : ∀ (vals : Array Value) w, (callFunc f vals).run Tryz.prog w = .ok (.enter f vals) w) (hfn : ∀ l, l.length = n → fnS tag l = ind (spec l))
    (hc : ∀ {W : World} (hW : Spaces W) (l : List Int), l.length = n → Calls Tryz.prog f (ivL l).toArray W fun e w' => e = .returned (errV (spec l) m) ∧ On W w') (hσ : σ.fn = fnS) (hF : ∀ f ∈ F, f.holds σ) (hK : Known (envF σ F) K) :
    Known (envF σ F) (plainK f (qG (envF σ F) tag (flatP n) okV (.int .i64 m)) K) :=
  known_q (Go.Proofs.YtmcmagheiijnhaaGreatDoor.numF σ hF) okV_rel (fun _ => .int .i64 m) hname (fun args l hl ρ vals w S hs hok hv => by
    obtain ⟨rfl, hn⟩ := numsN_vals hl hv
    refine callsIn_wide.1 (CallsIn.mono (callsIn_wide.2 (by have := hc (spaces_ok hok) (l.map fun e => e.val ρ.sig) (by simpa using hn); rw [ivL, List.map_map] at this; exact this)) (n := 0) ?_)
    rintro e w' ⟨rfl, o⟩
    refine ⟨?_, o⟩
    have e1 : IE.vals (envF σ F).sig l = l.map fun e => e.val ρ.sig := by
      rw [hs]
      clear hl hn hv
      induction l with
      | nil => rfl
      | cons a l ih => simp only [IE.vals, List.map_cons, ih]
    rw [e1]
    have e2 : (envF σ F).sig.fn tag (l.map fun e => e.val ρ.sig) = ind (spec (l.map fun e => e.val ρ.sig)) := by
      show σ.fn tag _ = _
      rw [hσ]
      exact hfn _ (by simpa using hn)
    rw [e2]
    unfold errV
    by_cases h : spec (l.map fun e => e.val ρ.sig)
    · rw [if_pos (ind_one.2 h), if_pos h]
    · rw [if_neg fun g => h (ind_one.1 g), if_neg h]) hK
end
def limL (l : List Int) : Prop := match l with | [a, b] => limOk a b | _ => False
def brkL (l : List Int) : Prop := match l with | [a, b, c] => brkOk a b c | _ => False
def retL (l : List Int) : Prop := match l with | [a, b, c, d] => retOk a b c d | _ => False
def misL (l : List Int) : Prop := match l with | [a, b] => misOk a b | _ => False
theorem name_LIMP (vals : Array Value) (w : World) : (callFunc 71 vals).run Tryz.prog w = .ok (.enter 71 vals) w := by kernel_rfl
theorem name_LIMR (vals : Array Value) (w : World) : (callFunc 79 vals).run Tryz.prog w = .ok (.enter 79 vals) w := by kernel_rfl
theorem name_BRKP (vals : Array Value) (w : World) : (callFunc 103 vals).run Tryz.prog w = .ok (.enter 103 vals) w := by kernel_rfl
theorem name_BRKR (vals : Array Value) (w : World) : (callFunc 86 vals).run Tryz.prog w = .ok (.enter 86 vals) w := by kernel_rfl
theorem name_RETP (vals : Array Value) (w : World) : (callFunc 104 vals).run Tryz.prog w = .ok (.enter 104 vals) w := by kernel_rfl
theorem name_RETR (vals : Array Value) (w : World) : (callFunc 87 vals).run Tryz.prog w = .ok (.enter 87 vals) w := by kernel_rfl
theorem name_MISP (vals : Array Value) (w : World) : (callFunc 102 vals).run Tryz.prog w = .ok (.enter 102 vals) w := by kernel_rfl
theorem name_MISR (vals : Array Value) (w : World) : (callFunc 85 vals).run Tryz.prog w = .ok (.enter 85 vals) w := by kernel_rfl
theorem fn52 (l : List Int) (h : l.length = 2) : fnS 52 l = ind (limL l) := by match l, h with | [a, b], _ => rfl
theorem fn53 (l : List Int) (h : l.length = 3) : fnS 53 l = ind (brkL l) := by match l, h with | [a, b, c], _ => rfl
theorem fn54 (l : List Int) (h : l.length = 4) : fnS 54 l = ind (retL l) := by match l, h with | [a, b, c, d], _ => rfl
theorem fn55 (l : List Int) (h : l.length = 2) : fnS 55 l = ind (misL l) := by match l, h with | [a, b], _ => rfl
noncomputable def polK (lim brk ret mis : Nat) (E : Env) (K : Nat → List SV → SW → Option (SV × SW)) : Nat → List SV → SW → Option (SV × SW) :=
  plainK lim (qG E 52 (flatA 2) okV ruleV) (plainK brk (qG E 53 (flatA 3) okV ruleV) (plainK ret (qG E 54 (flatA 4) okV ruleV) (plainK mis (qG E 55 (flatP 2) okV ruleV) K)))
section
variable {σ : Sig} {F : List Fact} {K : Nat → List SV → SW → Option (SV × SW)}
theorem known_polP (hσ : σ.fn = fnS) (hF : ∀ f ∈ F, f.holds σ) : Known (envF σ F) (polK 71 103 104 102 (envF σ F) (inK (envF σ F))) :=
  known_errA (spec := limL) name_LIMP fn52 (fun hW l h => by match l, h with | [a, b], _ => exact limP_calls hW) hσ hF
  (known_errA (spec := brkL) name_BRKP fn53 (fun hW l h => by match l, h with | [a, b, c], _ => exact brkP_calls hW) hσ hF
  (known_errA (spec := retL) name_RETP fn54 (fun hW l h => by match l, h with | [a, b, c, d], _ => exact retP_calls hW) hσ hF
  (known_errP (spec := misL) name_MISP fn55 (fun hW l h => by match l, h with | [a, b], _ => exact misP_calls hW) hσ hF (known_in hσ hF))))
theorem known_polR (hσ : σ.fn = fnS) (hF : ∀ f ∈ F, f.holds σ) : Known (envF σ F) (polK 79 86 87 85 (envF σ F) noC) :=
  known_errA (spec := limL) name_LIMR fn52 (fun hW l h => by match l, h with | [a, b], _ => exact limR_calls hW) hσ hF
  (known_errA (spec := brkL) name_BRKR fn53 (fun hW l h => by match l, h with | [a, b, c], _ => exact brkR_calls hW) hσ hF
  (known_errA (spec := retL) name_RETR fn54 (fun hW l h => by match l, h with | [a, b, c, d], _ => exact retR_calls hW) hσ hF
  (known_errP (spec := misL) name_MISR fn55 (fun hW l h => by match l, h with | [a, b], _ => exact misR_calls hW) hσ hF (known_nothing _))))
end
/-! ### Trees -/
/-- All of some questions. -/
def allT {α : Type} : List IE → Bool → α → α → DT α
  | [], true, y, _ => .leaf y
  | [], false, _, n => .leaf n
  | q :: l, b, y, n => .eq q (.lit 1) (allT l b y n) (allT l false y n)
theorem allT_eval {α : Type} {σ : Sig} {y n : α} : ∀ (l : List IE) (b : Bool), (allT l b y n).eval σ = if b = true ∧ ∀ q ∈ l, q.val σ = 1 then y else n
  | [], true => by rw [if_pos ⟨rfl, fun q h => by cases h⟩]; rfl
  | [], false => by rw [if_neg fun h => by cases h.1]; rfl
  | q :: l, b => by
    show (DT.eq q (.lit 1) (allT l b y n) (allT l false y n)).eval σ = _
    simp only [DT.eval, allT_eval l]
    by_cases hq : q.val σ = 1
    · rw [if_pos (show q.val σ = (IE.lit 1).val σ from hq)]
      by_cases hb : b = true ∧ ∀ q ∈ l, q.val σ = 1
      · rw [if_pos hb, if_pos ⟨hb.1, fun x hx => by rcases List.mem_cons.1 hx with rfl | hx; exact hq; exact hb.2 x hx⟩]
      · rw [if_neg hb, if_neg fun h => hb ⟨h.1, fun x hx => h.2 x (List.mem_cons_of_mem _ hx)⟩]
    · rw [if_neg (show ¬ q.val σ = (IE.lit 1).val σ from hq), if_neg (fun h => by cases h.1), if_neg fun h => hq (h.2 q (by simp))]
noncomputable def bd77 : Code := match Tryz.f77.body with | some c => c | none => .skip
theorem bd77_is : Tryz.f77.body = some bd77 := by kernel_rfl
theorem nt77 : Tryz.f77.ntmps = 35 := by kernel_rfl
def sl77 : List Nat := [3, 2, 1, 0]
def polL : List SV := [iv 1, iv 2, iv 3, iv 4, iv 5, iv 6, iv 7, iv 8, iv 9, iv 10, iv 11, iv 12, iv 13, iv 14, iv 15]
def objP : List (Nat × SObj) := [(0, .cells polL 126)]
def p77o (m : Int) : Lf := ⟨0, frN sl77 [(3, (.int .i64 m)), (1, (.ptr 0 0))], objP, 2⟩
def p77r (m : Int) : Lf := ⟨1, frN sl77 [(2, (.int .i64 m))], [], 3⟩
def p77a : DT Lf := allT [vl 1 1 1000, vl 2 0 100, vl 3 0 68719476736, vl 4 0 68719476736] true (p77o 0) (p77o 16)
def q77 : List IE := [.fn 55 [.var 5, .var 6], .fn 52 [.var 7, .var 8], .fn 53 [.var 9, .var 10, .var 11], .fn 54 [.var 12, .var 13, .var 14, .var 15]]
theorem p77a_ok (σ : Sig) : p77a.ok (pieceIs (envF σ) (fun F => polK 71 103 104 102 (envF σ F) (inK (envF σ F))) 40 35 sl77 ((flatC bd77).take 2) (cutSt (frameOf [.agg polL] sl77) [] 0)) [] = true := by kernel_rfl
theorem p77b_ok (σ : Sig) : (allT q77 true (p77r 0) (p77r 16)).ok (pieceIs (envF σ) (fun F => polK 71 103 104 102 (envF σ F) (inK (envF σ F))) 40 35 sl77 (((flatC bd77).drop 2).take 2) (cutSt (p77o 0).fr objP 2)) [] = true := by kernel_rfl
theorem p77c_ok (σ : Sig) : (allT q77 false (p77r 0) (p77r 16)).ok (pieceIs (envF σ) (fun F => polK 71 103 104 102 (envF σ F) (inK (envF σ F))) 40 35 sl77 (((flatC bd77).drop 2).take 2) (cutSt (p77o 16).fr objP 2)) [] = true := by kernel_rfl
theorem r77_0 (σ : Sig) : leftOk (.int .i64 0) [] 3 (envF σ []) sl77 Tryz.f77.results.toList (cutSt (frN sl77 [(2, .int .i64 0)]) [] 3) = true := by kernel_rfl
theorem r77_16 (σ : Sig) : leftOk (.int .i64 16) [] 3 (envF σ []) sl77 Tryz.f77.results.toList (cutSt (frN sl77 [(2, .int .i64 16)]) [] 3) = true := by kernel_rfl
def p52 : DT SV := vr 1 1 1000 (vr 2 0 100 (vr 3 0 68719476736 (vr 4 0 68719476736 (.eq (.fn 55 [.var 5, .var 6]) (.lit 1) (.eq (.fn 52 [.var 7, .var 8]) (.lit 1) (.eq (.fn 53 [.var 9, .var 10, .var 11]) (.lit 1) (.eq (.fn 54 [.var 12, .var 13, .var 14, .var 15]) (.lit 1) (.leaf okV) (.leaf ruleV)) (.leaf ruleV)) (.leaf ruleV)) (.leaf ruleV)))))
theorem p52_ok (σ : Sig) : p52.ok (callIs (envF σ) (fun F => polK 79 86 87 85 (envF σ F) noC) 40 52 [.agg polL]) [] = true := by kernel_rfl
def evT : DT SV := vr 1 0 253402300799 (vr 2 1 68719476736 (vr 3 0 1000000 (.leaf okV)))
theorem evP_ok (σ : Sig) : evT.ok (callIs (envF σ) (fun _ => noC) 40 136 [.agg [iv 1, iv 2, iv 3]]) [] = true := by kernel_rfl
theorem evR_ok (σ : Sig) : evT.ok (callIs (envF σ) (fun _ => noC) 40 83 [.agg [iv 1, iv 2, iv 3]]) [] = true := by kernel_rfl
def znT : DT SV := .lt (.var 1) (.lit (-840)) (.leaf (.int .i64 2)) (.lt (.lit 840) (.var 1) (.leaf (.int .i64 2)) (.leaf okV))
theorem znP_ok (σ : Sig) : znT.ok (callIs (envF σ) (fun _ => noC) 40 128 [iv 1]) [] = true := by kernel_rfl
theorem znR_ok (σ : Sig) : znT.ok (callIs (envF σ) (fun _ => noC) 40 82 [iv 1]) [] = true := by kernel_rfl
end Go.Proofs.YtmcmagheiijnhaaGreatDoor

/- Policies, schedules with periods, zones: the calls. -/
set_option linter.all false
set_option maxRecDepth 100000
namespace Go.Proofs.YtmcmagheiijnhaaGreatDoor
open Go.RX Go.RX.Sym
open Classical

/-- The cells of numbers. -/
def ivs : Nat → Nat → List SV
  | 0, _ => []
  | n + 1, i => iv i :: ivs n (i + 1)
theorem ivs_rel {σ : Sig} : ∀ {l : List Int} {i : Nat}, (∀ j, j < l.length → σ.var (i + j) = l.getD j 0) → VRels (.nil σ) (ivs l.length i) (ivL l)
  | [], i, _ => .nil
  | a :: l, i, h => .cons (by
      have := VRel.sint (ρ := .nil σ) .i64 (.var i)
      have e : (IE.var i).val (Ren.nil σ).sig = a := h 0 (by simp)
      rw [e] at this
      exact this) (ivs_rel fun j hj => by
      have := h (j + 1) (by simp; omega)
      rw [show i + 1 + j = i + (j + 1) from by omega, this]
      simp)
theorem sigL_rel {l : List Int} : VRels (.nil (sigL l)) (ivs l.length 1) (ivL l) := ivs_rel fun j hj => by
  rw [Nat.add_comm]; rfl
def polS (l : List Int) : Prop := polOk (sigL l).var
theorem pol_spec {σ : Sig} (hσ : σ.fn = fnS) : ((true = true ∧ ∀ q ∈ [vl 1 1 1000, vl 2 0 100, vl 3 0 68719476736, vl 4 0 68719476736], q.val σ = 1) ∧ (true = true ∧ ∀ q ∈ q77, q.val σ = 1)) ↔ polOk σ.var := by
  have e1 : (IE.fn 55 [.var 5, .var 6]).val σ = 1 ↔ misOk (σ.var 5) (σ.var 6) := by show σ.fn 55 [σ.var 5, σ.var 6] = 1 ↔ _; rw [hσ]; exact ind_one
  have e2 : (IE.fn 52 [.var 7, .var 8]).val σ = 1 ↔ limOk (σ.var 7) (σ.var 8) := by show σ.fn 52 [σ.var 7, σ.var 8] = 1 ↔ _; rw [hσ]; exact ind_one
  have e3 : (IE.fn 53 [.var 9, .var 10, .var 11]).val σ = 1 ↔ brkOk (σ.var 9) (σ.var 10) (σ.var 11) := by show σ.fn 53 [σ.var 9, σ.var 10, σ.var 11] = 1 ↔ _; rw [hσ]; exact ind_one
  have e4 : (IE.fn 54 [.var 12, .var 13, .var 14, .var 15]).val σ = 1 ↔ retOk (σ.var 12) (σ.var 13) (σ.var 14) (σ.var 15) := by show σ.fn 54 [σ.var 12, σ.var 13, σ.var 14, σ.var 15] = 1 ↔ _; rw [hσ]; exact ind_one
  unfold q77
  rw [mem4, mem4, vl_val hσ, vl_val hσ, vl_val hσ, vl_val hσ, e1, e2, e3, e4]
  unfold polOk inR
  simp [and_assoc]
section
variable {W : World}
theorem polP_calls (hW : Spaces W) (l : List Int) (hl : l.length = 15) : Calls Tryz.prog 77 #[.agg (ivL l).toArray] W fun e w' => e = .returned (errV (polS l) 16) ∧ On W w' := by
  have hrel : VRels (.nil (sigL l)) [.agg polL] [.agg (ivL l).toArray] := .cons (.agg (by have := sigL_rel (l := l); rw [hl] at this; exact this)) .nil
  have hk : ∀ F, (∀ f ∈ F, f.holds (sigL l)) → NumOk (envF (sigL l) F) ∧ Known (envF (sigL l) F) (polK 71 103 104 102 (envF (sigL l) F) (inK (envF (sigL l) F))) ∧ Lies (envF (sigL l) F) W := fun F hF => ⟨numF _ hF, known_polP rfl hF, liesF _ F hW⟩
  refine tmpl_begin (E := envF (sigL l) []) (f := 77) (fn := Tryz.f77) (body := bd77) Tryz.func77 bd77_is sl77 (args := [.agg polL]) (vals := [.agg (ivL l).toArray]) hrel (by rw [nt77]; decide) fun a hA => wpL_whole ?_
  rw [nt77] at hA
  refine walk_take 2 (E := fun F => envF (sigL l) F) (K := fun F => polK 71 103 104 102 (envF (sigL l) F) (inK (envF (sigL l) F))) (fun _ => rfl) (fun _ => rfl) hk (p77a_ok _) hnil hA fun x hx a1 w1 h1 => ?_
  have hsp := pol_spec (σ := sigL l) rfl
  have fin : ∀ (m : Int) (hm : leftOk (.int .i64 m) [] 3 (envF (sigL l) []) sl77 Tryz.f77.results.toList (cutSt (frN sl77 [(2, .int .i64 m)]) [] 3) = true) (hv : errV (polS l) 16 = .int .i64 m) a' w', AtT (sigL l) 35 sl77 (frN sl77 [(2, (.int .i64 m))]) [] 3 W a' w' → bodyPostM Fence.wide 0 Tryz.prog Tryz.f77 (fun e w' => e = .returned (errV (polS l) 16) ∧ On W w') .ret a' w' := fun m hm hv a' w' h' => by
    refine tmpl_leaves (E := envF (sigL l) []) (numF _ hnil) hm h' (liesF _ [] hW) fun u w' hl => ?_
    obtain ⟨rfl, o⟩ := left_int hl
    exact ⟨by rw [hv], o⟩
  rw [p77a, allT_eval] at hx
  split at hx
  · rename_i c1
    subst hx
    refine walk_take 2 (E := fun F => envF (sigL l) F) (K := fun F => polK 71 103 104 102 (envF (sigL l) F) (inK (envF (sigL l) F))) (fun _ => rfl) (fun _ => rfl) hk (p77b_ok _) hnil h1 fun x hx a2 w2 h2 => ?_
    rw [allT_eval] at hx
    split at hx
    · rename_i c2
      subst hx
      exact fin 0 (r77_0 _) (by unfold errV; rw [if_pos (show polS l from hsp.1 ⟨c1, c2⟩)]) _ _ h2
    · rename_i c2
      subst hx
      exact fin 16 (r77_16 _) (by unfold errV; rw [if_neg (show ¬ polS l from fun h => c2 (hsp.2 h).2)]) _ _ h2
  · rename_i c1
    subst hx
    refine walk_take 2 (E := fun F => envF (sigL l) F) (K := fun F => polK 71 103 104 102 (envF (sigL l) F) (inK (envF (sigL l) F))) (fun _ => rfl) (fun _ => rfl) hk (p77c_ok _) hnil h1 fun x hx a2 w2 h2 => ?_
    rw [allT_eval, if_neg fun h => by cases h.1] at hx
    subst hx
    exact fin 16 (r77_16 _) (by unfold errV; rw [if_neg (show ¬ polS l from fun h => c1 (hsp.2 h).1)]) _ _ h2
theorem polR_calls (hW : Spaces W) (l : List Int) (hl : l.length = 15) : Calls Tryz.prog 52 #[.agg (ivL l).toArray] W fun e w' => e = .returned (errV (polS l) 16) ∧ On W w' := by
  have hrel : VRels (.nil (sigL l)) [.agg polL] [.agg (ivL l).toArray] := .cons (.agg (by have := sigL_rel (l := l); rw [hl] at this; exact this)) .nil
  refine fn_dt (E := envF (sigL l)) (K := fun F => polK 79 86 87 85 (envF (sigL l) F) noC) (σ := sigL l) (P := Tryz.prog) (fun _ => rfl) (fun _ => rfl) (fun F hF => ⟨numF _ hF, known_polR rfl hF, liesF _ F hW⟩) (T := p52) (d := 40) (f := 52) (args := [.agg polL]) (p52_ok _) hrel fun ρ _ u hu => ?_
  have hsp := pol_spec (σ := sigL l) rfl
  unfold p52 at hu
  rw [vr_eval, vr_eval, vr_eval, vr_eval, eval_eq, eval_eq, eval_eq, eval_eq] at hu
  have e : pickV (inR ((sigL l).var 1) 1 1000) (pickV (inR ((sigL l).var 2) 0 100) (pickV (inR ((sigL l).var 3) 0 68719476736) (pickV (inR ((sigL l).var 4) 0 68719476736) (pickV ((IE.fn 55 [.var 5, .var 6]).val (sigL l) = (IE.lit 1).val (sigL l)) (pickV ((IE.fn 52 [.var 7, .var 8]).val (sigL l) = (IE.lit 1).val (sigL l)) (pickV ((IE.fn 53 [.var 9, .var 10, .var 11]).val (sigL l) = (IE.lit 1).val (sigL l)) (pickV ((IE.fn 54 [.var 12, .var 13, .var 14, .var 15]).val (sigL l) = (IE.lit 1).val (sigL l)) okV ruleV) ruleV) ruleV) ruleV) ruleV) ruleV) ruleV) ruleV = pickV (polS l) okV ruleV := by
    rw [pick_and, pick_and, pick_and, pick_and, pick_and, pick_and, pick_and]
    refine pick_iff ?_
    rw [show polS l = polOk (sigL l).var from rfl, ← hsp]
    unfold q77
    rw [mem4, mem4, vl_val rfl, vl_val rfl, vl_val rfl, vl_val rfl]
    have l1 : (IE.lit 1).val (sigL l) = 1 := rfl
    rw [l1]
    simp [and_assoc]
  exact pick_err (e ▸ hu)
def evS (l : List Int) : Prop := match l with | [a, b, c] => evOk a b c | _ => False
theorem ev_eval {σ : Sig} : evT.eval σ = pickV (evOk (σ.var 1) (σ.var 2) (σ.var 3)) okV ruleV := by
  unfold evT
  rw [vr_eval, vr_eval, vr_eval, pick_and, pick_and]
  exact pick_iff (by unfold evOk inR; simp [and_assoc])
theorem evP_calls (hW : Spaces W) (l : List Int) (hl : l.length = 3) : Calls Tryz.prog 136 #[.agg (ivL l).toArray] W fun e w' => e = .returned (errV (evS l) 16) ∧ On W w' := by
  match l, hl with
  | [a, b, c], _ =>
    have hrel : VRels (.nil (sigL [a, b, c])) [.agg [iv 1, iv 2, iv 3]] [.agg (ivL [a, b, c]).toArray] := .cons (.agg (sigL_rel (l := [a, b, c]))) .nil
    exact fn_dt (E := envF (sigL [a, b, c])) (K := fun _ => noC) (σ := sigL [a, b, c]) (P := Tryz.prog) (fun _ => rfl) (fun _ => rfl) (fnF _ hW) (T := evT) (d := 40) (f := 136) (args := [.agg [iv 1, iv 2, iv 3]]) (evP_ok _) hrel fun ρ _ u hu => by rw [ev_eval] at hu; exact pick_err hu
theorem evR_calls (hW : Spaces W) (l : List Int) (hl : l.length = 3) : Calls Tryz.prog 83 #[.agg (ivL l).toArray] W fun e w' => e = .returned (errV (evS l) 16) ∧ On W w' := by
  match l, hl with
  | [a, b, c], _ =>
    have hrel : VRels (.nil (sigL [a, b, c])) [.agg [iv 1, iv 2, iv 3]] [.agg (ivL [a, b, c]).toArray] := .cons (.agg (sigL_rel (l := [a, b, c]))) .nil
    exact fn_dt (E := envF (sigL [a, b, c])) (K := fun _ => noC) (σ := sigL [a, b, c]) (P := Tryz.prog) (fun _ => rfl) (fun _ => rfl) (fnF _ hW) (T := evT) (d := 40) (f := 83) (args := [.agg [iv 1, iv 2, iv 3]]) (evR_ok _) hrel fun ρ _ u hu => by rw [ev_eval] at hu; exact pick_err hu
def znS (l : List Int) : Prop := match l with | [z] => znOk z | _ => False
theorem zn_eval {σ : Sig} : znT.eval σ = pickV (znOk (σ.var 1)) okV (.int .i64 2) := by
  unfold znT
  rw [eval_lt, eval_lt]
  show pickV (σ.var 1 < -840) (.int .i64 2) (pickV (840 < σ.var 1) (.int .i64 2) okV) = _
  rw [pick_or]
  by_cases h : znOk (σ.var 1)
  · rw [pick_yes h, pick_no (by unfold znOk at h; omega)]
  · rw [pick_no h, pick_yes (by unfold znOk at h; omega)]
theorem znP_calls (hW : Spaces W) (l : List Int) (hl : l.length = 1) : Calls Tryz.prog 128 (ivL l).toArray W fun e w' => e = .returned (errV (znS l) 2) ∧ On W w' := by
  match l, hl with
  | [a], _ =>
    exact fn_dt (E := envF (sigL [a])) (K := fun _ => noC) (σ := sigL [a]) (P := Tryz.prog) (fun _ => rfl) (fun _ => rfl) (fnF _ hW) (T := znT) (d := 40) (f := 128) (args := [iv 1]) (znP_ok _) (sigL_rel (l := [a])) fun ρ _ u hu => by rw [zn_eval] at hu; exact pick_err hu
theorem znR_calls (hW : Spaces W) (l : List Int) (hl : l.length = 1) : Calls Tryz.prog 82 (ivL l).toArray W fun e w' => e = .returned (errV (znS l) 2) ∧ On W w' := by
  match l, hl with
  | [a], _ =>
    exact fn_dt (E := envF (sigL [a])) (K := fun _ => noC) (σ := sigL [a]) (P := Tryz.prog) (fun _ => rfl) (fun _ => rfl) (fnF _ hW) (T := znT) (d := 40) (f := 82) (args := [iv 1]) (znR_ok _) (sigL_rel (l := [a])) fun ρ _ u hu => by rw [zn_eval] at hu; exact pick_err hu
end
end Go.Proofs.YtmcmagheiijnhaaGreatDoor
