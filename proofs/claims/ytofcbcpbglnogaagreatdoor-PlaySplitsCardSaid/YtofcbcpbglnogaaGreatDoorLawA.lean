/- PlaySplits, whole, of a list in memory. -/
import Derived.Test.YtofcbcpbglnogaaGreatDoorSameB
import Derived.Test.YtofcbcpbglnogaaGreatDoorRunA
set_option linter.all false
set_option maxRecDepth 100000
namespace Go.Proofs.YtofcbcpbglnogaaGreatDoor
open Go.RX
open Go.RX.Sym

theorem name_spl (vals : Array Value) (w : World) : (callFunc 5 vals).run Tryz.prog w = .ok (.enter 5 vals) w := by kernel_rfl
theorem name_ref (vals : Array Value) (w : World) : (callFunc 6 vals).run Tryz.prog w = .ok (.enter 6 vals) w := by kernel_rfl
theorem name_same (vals : Array Value) (w : World) : (callFunc 7 vals).run Tryz.prog w = .ok (.enter 7 vals) w := by kernel_rfl

/-- What both Splits hand back: a list; no list; an error. -/
def xA : SV := .tuple [.oslice 0 1 0 6, .int .i64 0]
def xB : SV := .tuple [.nilslice, .int .i64 0]
def xC : SV := .tuple [.nilslice, .int .i64 12]
def updA : List (Nat × Option SObj) := [(0, some (.own 1 []))]
theorem updA_ok : updOk ⟨heapOf objO, 1, 0⟩ updA = true := by kernel_rfl
theorem keptA_ok : keptOk ⟨heapOf objO, 1, 0⟩ updA [] = true := by kernel_rfl
def two : List (Nat × SObj) := [(0, .own 1 []), (1, .own 1 [])]
def argsT : List SV := [.oslice 0 1 0 6, .oslice 1 1 0 6]
theorem keptT_ok : keptOk ⟨heapOf two, 2, 0⟩ [] two = true := by kernel_rfl

noncomputable def kW (K : Nat → List SV → SW → Option (SV × SW)) (f : Nat) (args : List SV) (S : SW) : Option (SV × SW) := match Nat.beq f 4, args with | true, [] => some (.bool true, S) | _, _ => K f args S
noncomputable def k0 : Nat → List SV → SW → Option (SV × SW) := kW kn
noncomputable def kA : Nat → List SV → SW → Option (SV × SW) := kW (memoCall 5 [.row 0] [] 0 xA updA 1 (memoCall 6 [.row 0] [] 0 xA updA 1 (memoCall 7 argsT two 2 (.bool true) [] 2 kn)))
noncomputable def kB : Nat → List SV → SW → Option (SV × SW) := kW (memoCall 5 [.row 0] [] 0 xB [] 0 (memoCall 6 [.row 0] [] 0 xB [] 0 kn))
noncomputable def kC : Nat → List SV → SW → Option (SV × SW) := kW (memoCall 5 [.row 0] [] 0 xC [] 0 (memoCall 6 [.row 0] [] 0 xC [] 0 kn))
abbrev m40 (y : Bool) : Fact := ⟨true, .lit 40, .len 0, y⟩
abbrev m5 (y : Bool) : Fact := ⟨true, .lit 10005, .len 0, y⟩
theorem w_mid (σ : Sig) : isBool true ((semK (envP σ [m40 true, fLen false, m5 false]) k0 6).call 3 [.row 0] ⟨.nil, 0, 0⟩) = true := by kernel_rfl
theorem w_top (σ : Sig) : isBool true ((semK (envP σ [m40 true, fLen true, m5 true]) k0 6).call 3 [.row 0] ⟨.nil, 0, 0⟩) = true := by kernel_rfl
theorem w_A (σ : Sig) : isBool true ((semK (envP σ [m40 false, m5 false]) kA 6).call 3 [.row 0] ⟨.nil, 0, 0⟩) = true := by kernel_rfl
theorem w_B (σ : Sig) : isBool true ((semK (envP σ [m40 false, m5 false]) kB 6).call 3 [.row 0] ⟨.nil, 0, 0⟩) = true := by kernel_rfl
theorem w_C (σ : Sig) : isBool true ((semK (envP σ [m40 false, m5 false]) kC 6).call 3 [.row 0] ⟨.nil, 0, 0⟩) = true := by kernel_rfl
theorem w_D (σ : Sig) : isBool true ((semK (envP σ [m40 true, fLen true, m5 false]) kC 6).call 3 [.row 0] ⟨.nil, 0, 0⟩) = true := by kernel_rfl
theorem w_nil (σ : Sig) : isBool true ((semK (envC σ []) k0 8).call 3 [.nilslice] ⟨.nil, 0, 0⟩) = true := by kernel_rfl

section
variable {v : Ls}
abbrev sigL (v : Ls) : Sig := sigP v (v.outs v.n) o0 v.n 0 0

theorem row_args {W : World} {ρ : Ren} {F : List Fact} (hok : Ok (envP (sigL v) F) ρ ⟨heapOf [], 0, 0⟩ W) (hfew : v.n ≤ 9223372036854775807) {vals : List Value} (hv : VRels ρ [.row 0] vals) : ∃ cap, vals.toArray = #[.slice (some ⟨v.b, v.x, none⟩) v.n cap] ∧ v.n ≤ cap ∧ v.Lies W := by
  cases hv with
  | cons h hs =>
    cases hs
    obtain ⟨b, x, sz, n, cap, h1, rfl, hc⟩ := h.row_inv
    rw [hok.num.sig] at h1
    have h1 : (v.b, v.x, 6, v.n) = (b, x, sz, n) := h1
    simp only [Prod.mk.injEq] at h1
    obtain ⟨rfl, rfl, rfl, rfl⟩ := h1
    refine ⟨cap, rfl, hc, hfew, ?_⟩
    obtain ⟨b, x, n, arr, el, fz, g1, g2, g3⟩ := hok.glob.lies.rows 0 opKinds rfl
    have g1 : (v.b, v.x, 6, v.n) = (b, x, 6, n) := g1
    simp only [Prod.mk.injEq] at g1
    obtain ⟨rfl, rfl, -, rfl⟩ := g1
    refine ⟨arr, el, fz, g2, fun i c hi hc => ?_⟩
    obtain ⟨k, hk⟩ : ∃ k, opKinds[c]? = some k := by
      match c, hc with
      | 0, _ => exact ⟨_, rfl⟩
      | 1, _ => exact ⟨_, rfl⟩
      | 2, _ => exact ⟨_, rfl⟩
      | 3, _ => exact ⟨_, rfl⟩
      | 4, _ => exact ⟨_, rfl⟩
      | 5, _ => exact ⟨_, rfl⟩
    exact (g3 i c k hi hk).1

/-- A function that hands back what play.Split does. -/
def Splits (f : Nat) (v : Ls) : Prop := ∀ W, v.Lies W → RX.Lies (env sig0) W → ∀ cap, v.n ≤ cap → Calls Tryz.prog f #[.slice (some ⟨v.b, v.x, none⟩) v.n cap] W fun e w' => ∃ u, e = .returned u ∧ SplitLeft v W u w'
theorem splits_spl : Splits 5 v := fun W hv hG cap hc => play_split hv hG hc
theorem splits_ref : Splits 6 v := fun W hv hG cap hc => ref_split hv hG hc

theorem left_of_nil {W w' : World} {m : Int} (on : On W w') : LeftT (sigL v) W (.tuple #[.slice none 0 0, .int .i64 m]) (.tuple [.nilslice, .int .i64 m]) [] 0 w' :=
  ⟨on, .nil _, rfl, .tuple (.cons .nilslice (.cons (.int _ _) .nil)), ⟨fun i x p _ hp => (by cases hp), fun i j p q _ _ hp => (by cases hp)⟩, fun i p _ hp => (by cases hp), fun i _ => rfl, fun i _ => by simp [SW.at, hget, heapOf, Tr.get_nil]⟩

theorem callsT_A {f : Nat} {F : List Fact} (hname : ∀ (vals : Array Value) w, (callFunc f vals).run Tryz.prog w = .ok (.enter f vals) w) (hf : Splits f v) (hfew : v.n ≤ 10000) (hl : (v.outs v.n).length ≤ 10000) (hne : v.outs v.n ≠ []) : CallsT (envP (sigL v) F) f [.row 0] [] 0 xA ⟨heapOf objO, 1, 0⟩ :=
  callsT_of_left (E := envP (sigL v) F) hname fun ρ vals w hok hv => by
    obtain ⟨cap, he, hc, hlies⟩ := row_args hok (by omega) hv
    rw [he]
    refine (hf w hlies (lies_glob hok.glob.lies) cap hc).mono fun e w' ⟨u, hu, hs⟩ => ?_
    rcases hs with ⟨-, -, -, h⟩ | ⟨-, -, h, -⟩ | ⟨h, -⟩
    · exact ⟨u, hu, h⟩
    · exact absurd h hne
    · exact absurd ⟨hfew, hl⟩ h
theorem callsT_B {f : Nat} {F : List Fact} (hname : ∀ (vals : Array Value) w, (callFunc f vals).run Tryz.prog w = .ok (.enter f vals) w) (hf : Splits f v) (hfew : v.n ≤ 10000) (hne : v.outs v.n = []) : CallsT (envP (sigL v) F) f [.row 0] [] 0 xB ⟨heapOf [], 0, 0⟩ :=
  callsT_of_left (E := envP (sigL v) F) hname fun ρ vals w hok hv => by
    obtain ⟨cap, he, hc, hlies⟩ := row_args hok (by omega) hv
    rw [he]
    refine (hf w hlies (lies_glob hok.glob.lies) cap hc).mono fun e w' ⟨u, hu, hs⟩ => ?_
    rcases hs with ⟨-, -, h, -⟩ | ⟨-, -, -, rfl, on⟩ | ⟨h, -⟩
    · exact absurd hne h
    · exact ⟨_, hu, left_of_nil on⟩
    · exact absurd ⟨hfew, by rw [hne]; simp⟩ h
theorem callsT_C {f : Nat} {F : List Fact} (hname : ∀ (vals : Array Value) w, (callFunc f vals).run Tryz.prog w = .ok (.enter f vals) w) (hf : Splits f v) (hfew : v.n ≤ 20000) (hno : ¬ (v.n ≤ 10000 ∧ (v.outs v.n).length ≤ 10000)) : CallsT (envP (sigL v) F) f [.row 0] [] 0 xC ⟨heapOf [], 0, 0⟩ :=
  callsT_of_left (E := envP (sigL v) F) hname fun ρ vals w hok hv => by
    obtain ⟨cap, he, hc, hlies⟩ := row_args hok (by omega) hv
    rw [he]
    refine (hf w hlies (lies_glob hok.glob.lies) cap hc).mono fun e w' ⟨u, hu, hs⟩ => ?_
    rcases hs with ⟨h1, h2, -⟩ | ⟨h1, h2, -⟩ | ⟨-, rfl, on⟩
    · exact absurd ⟨h1, h2⟩ hno
    · exact absurd ⟨h1, h2⟩ hno
    · exact ⟨_, hu, left_of_nil on⟩

theorem two_at0 : (SW.mk (heapOf two) 2 0).at 0 = some (.own 1 []) := by kernel_rfl
theorem two_at1 : (SW.mk (heapOf two) 2 0).at 1 = some (.own 1 []) := by kernel_rfl
theorem own_lies {W : World} {ρ : Ren} {F : List Fact} {i : Nat} (hok : Ok (envP (sigL v) F) ρ ⟨heapOf two, 2, 0⟩ W) (hi : (SW.mk (heapOf two) 2 0).at i = some (.own 1 [])) {u : Value} (hu : VRel ρ (.oslice i 1 0 6) u) :
    ∃ b x cap, u = .slice (some ⟨b, x, none⟩) (v.outs v.n).length cap ∧ (v.outs v.n).length ≤ cap ∧ ∃ (arr : Array Value) (el : TypeId) (fz : Nat × Nat), W.heap[b]? = some (.cells arr el fz) ∧ ∀ i c, i < (v.outs v.n).length → c < 6 → arr[x + i * 6 + c]? = some (gets (v.outs v.n) i c) := by
  cases hu with
  | oslice hp ha hc ht hn hk =>
    rename_i b o t b0 x0 n cap
    rw [hok.num.sig] at ha
    have ha : (0, 0, 6, (v.outs v.n).length) = (b0, x0, 6, n) := ha
    simp only [Prod.mk.injEq] at ha
    obtain ⟨-, -, -, rfl⟩ := ha
    obtain ⟨ob, g1, g2⟩ := hok.wrel.obj i _ _ hi hp
    cases g2 with
    | own arr el fz ht2 ha2 hlen hfz hb hcs =>
      rw [hok.num.sig] at ha2 hb
      have ha2 : (0, 0, 6, (v.outs v.n).length) = _ := ha2
      simp only [Prod.mk.injEq] at ha2
      obtain ⟨-, -, rfl, rfl⟩ := ha2
      exact ⟨b, o, cap, rfl, hc, arr, el, fz, g1, fun i c hi hc => hb i c hi hc⟩
theorem callsT_S {F : List Fact} (hl : (v.outs v.n).length ≤ 10000) : CallsT (envP (sigL v) F) 7 argsT two 2 (.bool true) ⟨heapOf two, 2, 0⟩ where
  name := name_same
  le := Nat.le_refl _
  call ρ vals w hok hfr hv := by
    cases hv with
    | cons h1 hv =>
      cases hv with
      | cons h2 hv =>
        cases hv
        obtain ⟨b1, x1, c1, rfl, l1, lie1⟩ := own_lies hok two_at0 h1
        obtain ⟨b2, x2, c2, rfl, l2, lie2⟩ := own_lies hok two_at1 h2
        refine (same_own (t := ⟨b1, x1, b2, x2⟩) (L := v.outs v.n) (v.outs_w v.n) ⟨lie1, lie2⟩ (lies_glob hok.glob.lies) l1 l2 (by omega)).mono fun e w' ⟨he, on⟩ => ?_
        exact ⟨_, ρ, he, ext_on hok.wrel hok.tidy on, .bool true⟩

theorem known_W {F : List Fact} {K : Nat → List SV → SW → Option (SV × SW)} (hK : Known (envP (sigL v) F) K) : Known (envP (sigL v) F) (kW K) :=
  known_bool (E := envP (sigL v) F) works_name (fun w h => works_calls sig0 w (lies_glob h)) hK
theorem known_A {F : List Fact} (hfew : v.n ≤ 10000) (hl : (v.outs v.n).length ≤ 10000) (hne : v.outs v.n ≠ []) : Known (envP (sigL v) F) kA :=
  known_W (known_memo (T' := ⟨heapOf objO, 1, 0⟩) (callsT_A name_spl splits_spl hfew hl hne) updA_ok keptA_ok (known_memo (T' := ⟨heapOf objO, 1, 0⟩) (callsT_A name_ref splits_ref hfew hl hne) updA_ok keptA_ok (known_memo (T' := ⟨heapOf two, 2, 0⟩) (callsT_S hl) rfl keptT_ok (known_nothing _))))
theorem known_B {F : List Fact} (hfew : v.n ≤ 10000) (hne : v.outs v.n = []) : Known (envP (sigL v) F) kB :=
  known_W (known_memo (T' := ⟨heapOf [], 0, 0⟩) (callsT_B name_spl splits_spl hfew hne) rfl rfl (known_memo (T' := ⟨heapOf [], 0, 0⟩) (callsT_B name_ref splits_ref hfew hne) rfl rfl (known_nothing _)))
theorem known_C {F : List Fact} (hfew : v.n ≤ 20000) (hno : ¬ (v.n ≤ 10000 ∧ (v.outs v.n).length ≤ 10000)) : Known (envP (sigL v) F) kC :=
  known_W (known_memo (T' := ⟨heapOf [], 0, 0⟩) (callsT_C name_spl splits_spl hfew hno) rfl rfl (known_memo (T' := ⟨heapOf [], 0, 0⟩) (callsT_C name_ref splits_ref hfew hno) rfl rfl (known_nothing _)))

theorem law_row {W : World} (hv : v.Lies W) (hG : RX.Lies (env sig0) W) {cap : Nat} (hc : v.n ≤ cap) : Calls Tryz.prog 3 #[.slice (some ⟨v.b, v.x, none⟩) v.n cap] W fun e w' => e = .returned (.bool true) ∧ On W w' := by
  have hrow : VRels (.nil (sigL v)) [.row 0] [.slice (some ⟨v.b, v.x, none⟩) v.n cap] := .cons (.row (sz := 6) rfl hc) .nil
  have go : ∀ (F : List Fact) (K : Nat → List SV → SW → Option (SV × SW)), (∀ g ∈ F, g.holds (sigL v)) → Known (envP (sigL v) F) K → isBool true ((semK (envP (sigL v) F) K 6).call 3 [.row 0] ⟨.nil, 0, 0⟩) = true → Calls Tryz.prog 3 #[.slice (some ⟨v.b, v.x, none⟩) v.n cap] W fun e w' => e = .returned (.bool true) ∧ On W w' := fun F K hF hK hr => by
    obtain ⟨S', hr⟩ := isBool_some hr
    exact run_bool (E := envP (sigL v) F) hK hr hrow (numP hF) (liesP hv hG _ _ _ _ _ _)
  have f40 : ∀ {y : Bool}, (40 < v.n ↔ y = true) → (m40 y).holds (sigL v) := fun {y} h => holds_lt (by simp only [IE.val, sigL, sigP]; rw [← h]; omega)
  have f1 : ∀ {y : Bool}, (10000 < v.n ↔ y = true) → (fLen y).holds (sigL v) := fun {y} h => holds_lt (by simp only [IE.val, sigL, sigP]; rw [← h]; omega)
  have f5 : ∀ {y : Bool}, (10005 < v.n ↔ y = true) → (m5 y).holds (sigL v) := fun {y} h => holds_lt (by simp only [IE.val, sigL, sigP]; rw [← h]; omega)
  by_cases h40 : 40 < v.n
  · by_cases h1 : 10000 < v.n
    · by_cases h5 : 10005 < v.n
      · exact go _ _ (hcons (f40 (by simpa using h40)) (hcons (f1 (by simpa using h1)) (hcons (f5 (by simpa using h5)) hnil))) (known_W (known_nothing _)) (w_top _)
      · exact go _ _ (hcons (f40 (by simpa using h40)) (hcons (f1 (by simpa using h1)) (hcons (f5 (by simpa using h5)) hnil))) (known_C (by omega) (by rintro ⟨h, -⟩; omega)) (w_D _)
    · have h5 : ¬ 10005 < v.n := by omega
      exact go _ _ (hcons (f40 (by simpa using h40)) (hcons (f1 (by simpa using h1)) (hcons (f5 (by simpa using h5)) hnil))) (known_W (known_nothing _)) (w_mid _)
  · have h5 : ¬ 10005 < v.n := by omega
    have facts : ∀ g ∈ [m40 false, m5 false], g.holds (sigL v) := hcons (f40 (by simpa using h40)) (hcons (f5 (by simpa using h5)) hnil)
    by_cases hl : (v.outs v.n).length ≤ 10000
    · by_cases hne : v.outs v.n = []
      · exact go _ _ facts (known_B (by omega) hne) (w_B _)
      · exact go _ _ facts (known_A (by omega) hl hne) (w_A _)
    · exact go _ _ facts (known_C (by omega) (by rintro ⟨-, h⟩; exact hl h)) (w_C _)
end
theorem law_nil {W : World} (hG : RX.Lies (env sig0) W) : Calls Tryz.prog 3 #[.slice none 0 0] W fun e w' => e = .returned (.bool true) ∧ On W w' := by
  obtain ⟨S', hr⟩ := isBool_some (w_nil sig0)
  have hk : Known (envC sig0 []) k0 := known_bool (E := envC sig0 []) works_name (fun w h => works_calls sig0 w ⟨fun g cs hg => by
    obtain ⟨arr, el, fz, h1, h2⟩ := h.cells g cs hg
    exact ⟨arr, el, fz, h1, h2⟩, fun a ks ha => by cases ha⟩) (known_nothing _)
  exact run_bool (E := envC sig0 []) hk hr (.cons .nilslice .nil) numN (liesC hG _ _)
end Go.Proofs.YtofcbcpbglnogaaGreatDoor
