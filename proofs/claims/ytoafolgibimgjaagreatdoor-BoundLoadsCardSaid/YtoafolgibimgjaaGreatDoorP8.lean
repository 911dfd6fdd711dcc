/- BoundLoads: the pieces of its own loops. -/
import Derived.Test.YtoafolgibimgjaaGreatDoorP7
set_option linter.all false
set_option maxRecDepth 100000
namespace Go.Proofs.YtoafolgibimgjaaGreatDoor
open Go.RX Go.RX.Sym

noncomputable def lwBody : Code := match Tryz.f4.body with | some c => c | none => .skip
theorem lw_body : Tryz.f4.body = some lwBody := by kernel_rfl
theorem lw_n : Tryz.f4.ntmps = 147 := by kernel_rfl
def lwSl : List Nat := [132, 116, 104, 103, 102, 101, 98, 97, 96, 95, 94, 53, 44, 43, 42, 41, 29, 27, 26, 24, 23, 22, 20, 19, 18, 17, 16, 15, 14, 12, 11, 9, 7, 6, 3, 2, 1, 0]
noncomputable def lwL : Code := partA (rest 10 lwBody)
noncomputable def lwZ : Code := partB (rest 10 lwBody)
theorem lw_rest : rest 10 lwBody = .seq lwL lwZ := by kernel_rfl
noncomputable def lwD : Code := inOf (inOf (rest 1 lwL))
theorem lw_blk : rest 1 lwL = .block 4 (.loop lwD) := by kernel_rfl
noncomputable def lwB5 : Code := inOf (partA (rest 2 lwD))
noncomputable def lwR30 : Code := partB (rest 2 lwD)
theorem lw_d : rest 2 lwD = .seq (.block 5 lwB5) lwR30 := by kernel_rfl
noncomputable def lwX : Code := partA (rest 2 lwB5)
noncomputable def lwY : Code := partB (rest 2 lwB5)
theorem lw_b5 : rest 2 lwB5 = .seq lwX lwY := by kernel_rfl
noncomputable def lwI : Code := inOf (inOf (rest 1 lwX))
theorem lw_x : rest 1 lwX = .block 6 (.loop lwI) := by kernel_rfl

def nv (i : Nat) : SV := .sint .i64 (.var i)
def osl : SV := .oslice 0 2 0 1
def objT : List (Nat × SObj) := [(0, .own 2 [])]
def hdB (best first : SV) : List (Nat × SV) := [(12, osl), (16, nv 114), (17, nv 110), (18, nv 111), (23, best), (24, first)]
def hdO (best first i : SV) : List (Nat × SV) := hdB best first ++ [(95, osl), (96, .sint .i64 (.len 2)), (97, i)]
def hdA (k : SV) : List (Nat × SV) := hdO (nv 120) (nv 121) (nv 122) ++ [(26, nv 123), (27, k)]
def hdN (k j : SV) : List (Nat × SV) := hdA k ++ [(101, osl), (102, .sint .i64 (.len 2)), (103, j)]
def cellsT (a : Nat) (i : IE) (c : Nat) : Option SV := match a with | 2 => some (.sint .i64 (.sel 2 i c)) | _ => none
noncomputable def envT (σ : Sig) (F : List Fact) : Env := { P := Tryz.prog, G := fun _ => none, lt := factLt F, eq := factEq F, cells := cellsT, sig := σ }
noncomputable def tRun (σ : Sig) (F : List Fact) (c : Code) (fr : List (Nat × SV)) : Option Out := runCode (envT σ F) noC 5 147 lwSl c (cutSt (frN lwSl fr) objT 1)
noncomputable def tChain (σ : Sig) (F : List Fact) (cs : List Code) (fr : List (Nat × SV)) : Option Out := runChain (envT σ F) noC 5 147 lwSl cs (cutSt (frN lwSl fr) objT 1)

abbrev qIn (i : Nat) (y : Bool) : Fact := fl (.var i) (.len 2) y
abbrev qNeg (i : Nat) : Fact := fl (.var i) (.lit 0) false
def inc (i : Nat) : IE := .bin .add .i64 (.var i) (.lit 1)
def tJ : IE := .sel 2 (.var 125) 0
def endA : IE := .bin .add .i64 (.var 123) (.var 114)
/-! ### Inner rounds -/
theorem i_end (σ : Sig) : cutOkH 8 (frN lwSl (hdN (nv 124) (nv 125))) objT 1 (tRun σ [qIn 125 false] lwI (hdN (nv 124) (nv 125))) = true := by kernel_rfl
theorem i_out (σ : Sig) : cutOkH 0 (frN lwSl (hdN (nv 124) (.sint .i64 (inc 125)))) objT 1 (tRun σ [qIn 125 true, qNeg 125, fl tJ (.var 123) true] lwI (hdN (nv 124) (nv 125))) = true := by kernel_rfl
theorem i_in (σ : Sig) : cutOkH 0 (frN lwSl (hdN (.sint .i64 (inc 124)) (.sint .i64 (inc 125)))) objT 1 (tRun σ [qIn 125 true, qNeg 125, fl tJ (.var 123) false, fl tJ endA true] lwI (hdN (nv 124) (nv 125))) = true := by kernel_rfl
theorem i_far (σ : Sig) : cutOkH 0 (frN lwSl (hdN (nv 124) (.sint .i64 (inc 125)))) objT 1 (tRun σ [qIn 125 true, qNeg 125, fl tJ (.var 123) false, fl tJ endA false] lwI (hdN (nv 124) (nv 125))) = true := by kernel_rfl
/-! ### Outer rounds -/
theorem o_begin (σ : Sig) : cutOkH 0 (frN lwSl (hdO (.int .i64 0) (.int .i64 0) (.int .i64 0))) objT 1 (tChain σ [] (heads 1 lwL) (hdB (.int .i64 0) (.int .i64 0))) = true := by kernel_rfl
theorem o_end (σ : Sig) : cutOkH 6 (frN lwSl (hdB (nv 120) (nv 121))) objT 1 (tChain σ [qIn 122 false] (heads 2 lwD) (hdO (nv 120) (nv 121) (nv 122))) = true := by kernel_rfl
theorem o_go (σ : Sig) : cutOkH 0 (frN lwSl (hdO (nv 120) (nv 121) (nv 122))) objT 1 (tChain σ [qIn 122 true] (heads 2 lwD) (hdO (nv 120) (nv 121) (nv 122))) = true := by kernel_rfl
theorem o_a (σ : Sig) : cutOkH 0 (frN lwSl (hdO (nv 120) (nv 121) (nv 122) ++ [(26, .sint .i64 (.sel 2 (.var 122) 0)), (27, .int .i64 0)])) objT 1 (tChain σ [qIn 122 true, qNeg 122] (heads 2 lwB5) (hdO (nv 120) (nv 121) (nv 122))) = true := by kernel_rfl
theorem o_x (σ : Sig) : cutOkH 0 (frN lwSl (hdN (nv 124) (.int .i64 0))) objT 1 (tChain σ [] (heads 1 lwX) (hdA (nv 124))) = true := by kernel_rfl
noncomputable def yRun (σ : Sig) (F : List Fact) : Option Out := tRun σ F lwY (hdA (nv 124))
theorem y_more (σ : Sig) : cutOkH 0 (frN lwSl (hdO (nv 124) (nv 123) (nv 122))) objT 1 (yRun σ [fl (.var 120) (.var 124) true]) = true := by kernel_rfl
theorem y_less (σ : Sig) : cutOkH 0 (frN lwSl (hdO (nv 120) (nv 121) (nv 122))) objT 1 (yRun σ [fl (.var 120) (.var 124) false, fe (.var 124) (.var 120) false]) = true := by kernel_rfl
theorem y_same (σ : Sig) : cutOkH 0 (frN lwSl (hdO (nv 124) (nv 123) (nv 122))) objT 1 (yRun σ [fl (.var 120) (.var 124) false, fe (.var 124) (.var 120) true, fl (.var 123) (.var 121) true]) = true := by kernel_rfl
theorem y_late (σ : Sig) : cutOkH 0 (frN lwSl (hdO (nv 120) (nv 121) (nv 122))) objT 1 (yRun σ [fl (.var 120) (.var 124) false, fe (.var 124) (.var 120) true, fl (.var 123) (.var 121) false]) = true := by kernel_rfl
theorem o_next (σ : Sig) : cutOkH 0 (frN lwSl (hdO (nv 120) (nv 121) (.sint .i64 (inc 122)))) objT 1 (tRun σ [] lwR30 (hdO (nv 120) (nv 121) (nv 122))) = true := by kernel_rfl
/-! ### The end -/
noncomputable def kW : Nat → List SV → SW → Option (SV × SW) := memoCall 7 [] [] 0 (.bool true) [] 0 noC
theorem z_end (σ : Sig) : cutOkH 1 (frN lwSl [(6, .bool true)]) [] 1 (runCode (envT σ [fe (.var 110) (.var 120) true, fe (.var 111) (.var 121) true]) kW 5 147 lwSl lwZ (cutSt (frN lwSl (hdB (nv 120) (nv 121))) objT 1)) = true := by kernel_rfl
theorem z_left (σ : Sig) : leftOk (.bool true) [] 1 (envT σ []) lwSl Tryz.f4.results.toList (cutSt (frN lwSl [(6, .bool true)]) [] 1) = true := by kernel_rfl
end Go.Proofs.YtoafolgibimgjaaGreatDoor

/- BoundLoads: its own loops, whole: the most due times in a window, by trying each. -/
set_option linter.all false
set_option maxRecDepth 100000
namespace Go.Proofs.YtoafolgibimgjaaGreatDoor
open Go.RX Go.RX.Sym

/-- How many of the first j lie in the window that begins with a. -/
def win (L : List Int) (len a : Int) : Nat → Int
  | 0 => 0
  | j + 1 => win L len a j + if a ≤ L.getD j 0 ∧ L.getD j 0 < a + len then 1 else 0
theorem win_range (L : List Int) (len a : Int) : ∀ j, 0 ≤ win L len a j ∧ win L len a j ≤ j
  | 0 => ⟨Int.le_refl _, Int.le_refl _⟩
  | j + 1 => by
    have := win_range L len a j
    simp only [win]
    split <;> omega
/-- The most, and the first that has them, after so many. -/
def brute (L : List Int) (len : Int) : Nat → Int × Int
  | 0 => (0, 0)
  | i + 1 => if (brute L len i).1 < win L len (L.getD i 0) L.length then (win L len (L.getD i 0) L.length, L.getD i 0)
    else if win L len (L.getD i 0) L.length = (brute L len i).1 ∧ L.getD i 0 < (brute L len i).2 then (win L len (L.getD i 0) L.length, L.getD i 0) else brute L len i

def sigT (f : Nat → Int) (L : List Int) : Sig where
  var := f
  fn _ _ := 0
  row a := match a with | 2 => (0, 0, 1, L.length) | _ => (0, 0, 0, 0)
  cell a i c := match a with | 2 => .int .i64 (L.getD i 0) | _ => .bool false
def fT (n p len best first i a k j : Int) : Nat → Int := fun x => match x with | 110 => n | 111 => p | 114 => len | 120 => best | 121 => first | 122 => i | 123 => a | 124 => k | 125 => j | _ => 0
section
variable {f : Nat → Int} {L : List Int} {F : List Fact}
theorem numT (hF : ∀ g ∈ F, g.holds (sigT f L)) : NumOk (envT (sigT f L) F) where
  lt a b r h := (numF (sigT f L) hF).lt a b r h
  eq a b r h := (numF (sigT f L) hF).eq a b r h
  rows a ks h := by cases h
  pre _ _ _ h := by cases h
  overs _ h := by cases h
  idxs _ h := by cases h
  sames _ h := by cases h
  mkzs _ _ h := by cases h
  cells a i c x h _ _ := by
    have h : cellsT a i c = some x := h
    unfold cellsT at h
    split at h
    · simp only [Option.some.injEq] at h
      subst h
      exact VRel.sint (ρ := .nil (sigT f L)) .i64 (.sel 2 i c)
    · cases h
  str _ _ _ _ _ _ h := by cases h
  bool _ _ _ _ _ _ h := by cases h
theorem liesT (σ : Sig) (F : List Fact) (W : World) : RX.Lies (envT σ F) W := ⟨fun _ _ h => (by cases h), fun _ _ h => (by cases h)⟩
end

theorem seeT {σ σ' : Sig} {n : Nat} {sl : List Nat} {l l1 : List (Nat × SV)} {objs objs1 : List (Nat × SObj)} {n0 n1 : Nat} {W0 w : World} {a : Act} (h : AtT σ n sl (frN sl l1) objs1 n1 W0 a w) (π : List (Nat × Nat)) (hnd : (π.map Prod.snd).Nodup) (hlt : ∀ p ∈ π, p.1 < n0)
    (hl : ∀ p ∈ l, SVT σ σ' (fun i j => lookN i π = some j) p.2 (frN.slot p.1 l1)) (ho : ∀ p ∈ objs, p.1 < n0 ∧ ∃ j y, lookN p.1 π = some j ∧ (SW.mk (heapOf objs1) n1 0).at j = some y ∧ OVT σ σ' (fun i j => lookN i π = some j) p.2 y) : AtT σ' n sl (frN sl l) objs n0 W0 a w :=
  h.see π (frN_of hl sl) (fun i x hx => ho (i, x) (heapOf_at hx)) (fun i i' j h1 h2 => nodup_inj hnd i i' j (lookN_mem h1) (lookN_mem h2)) (fun i j h1 => hlt _ (lookN_mem h1))

section
variable {L : List Int} {n p len : Int} {W : World}
abbrev sT (L : List Int) (n p len best first i a k j : Int) : Sig := sigT (fT n p len best first i a k j) L
theorem obj_see {f f' : Nat → Int} (hL : L.length ≤ 1000000) : ∀ q ∈ objT, q.1 < 1 ∧ ∃ j y, lookN q.1 [(0, 0)] = some j ∧ (SW.mk (heapOf objT) 1 0).at j = some y ∧ OVT (sigT f L) (sigT f' L) (fun i j => lookN i [(0, 0)] = some j) q.2 y :=
  acons ⟨by decide, 0, _, rfl, Go.RX.heapOf_of (by decide) (nth_mem 0 rfl), .own (cs := []) (a := 2) (a' := 2) (b := 0) (x := 0) (z := 1) (n := L.length) (k := 0) (b' := 0) (x' := 0) rfl rfl rfl (fun _ _ _ _ => rfl) (fun i c hi => by omega)⟩ anil
theorem osl_see {f f' : Nat → Int} (hL : L.length ≤ 1000000) : SVT (sigT f L) (sigT f' L) (fun i j => lookN i [(0, 0)] = some j) osl osl :=
  .own (a := 2) (a' := 2) (z := 1) rfl (b := 0) (x := 0) (n := L.length) (k := 0) (b' := 0) (x' := 0) rfl rfl (by omega)
theorem t_see {f f' : Nat → Int} {l l1 : List (Nat × SV)} {a : Act} {w : World} (hL : L.length ≤ 1000000) (h : AtT (sigT f L) 147 lwSl (frN lwSl l1) objT 1 W a w) (hl : ∀ q ∈ l, SVT (sigT f L) (sigT f' L) (fun i j => lookN i [(0, 0)] = some j) q.2 (frN.slot q.1 l1)) : AtT (sigT f' L) 147 lwSl (frN lwSl l) objT 1 W a w :=
  seeT h [(0, 0)] (by decide) (fun q hq => by simp only [List.mem_cons, List.mem_nil_iff, or_false] at hq; subst hq; decide) hl (obj_see hL)

abbrev InAt (L : List Int) (n p len best first i a : Int) (W : World) (k j : Int) (ac : Act) (w : World) : Prop := AtT (sT L n p len best first i a k j) 147 lwSl (frN lwSl (hdN (nv 124) (nv 125))) objT 1 W ac w
theorem sel2_val {f : Nat → Int} {x : Nat} {j : Nat} (h : f x = (j : Int)) : (IE.sel 2 (.var x) 0).val (sigT f L) = L.getD j 0 := by
  show (match (sigT f L).cell 2 ((f x).toNat) 0 with | .int _ n => n | _ => 0) = _
  rw [h, Int.toNat_natCast]
  rfl
theorem inc_val {f : Nat → Int} {x : Nat} {j : Nat} (h : f x = (j : Int)) (hj : j ≤ 1000000) : (inc x).val (sigT f L) = ((j + 1 : Nat) : Int) := by
  show opVal .add .i64 (f x) 1 = _
  rw [h, add_op ⟨by omega, by omega⟩]
  simp
theorem inc_valI {f : Nat → Int} {x : Nat} {k : Int} (h : f x = k) (h0 : 0 ≤ k) (hk : k ≤ 1000000) : (inc x).val (sigT f L) = k + 1 := by
  show opVal .add .i64 (f x) 1 = _
  rw [h, add_op ⟨by omega, by omega⟩]

theorem in_see {best first i a k j k' j' : Int} {ks js : SV} {ac : Act} {w : World} (hL : L.length ≤ 1000000) (h : AtT (sT L n p len best first i a k j) 147 lwSl (frN lwSl (hdN ks js)) objT 1 W ac w) (hk : ∀ R, SVT (sT L n p len best first i a k j) (sT L n p len best first i a k' j') R (nv 124) ks) (hj : ∀ R, SVT (sT L n p len best first i a k j) (sT L n p len best first i a k' j') R (nv 125) js) : InAt L n p len best first i a W k' j' ac w :=
  t_see hL h (acons (osl_see hL) (acons (.num rfl) (acons (.num rfl) (acons (.num rfl) (acons (.num rfl) (acons (.num rfl) (acons (osl_see hL) (acons (.num rfl) (acons (.num rfl) (acons (.num rfl) (acons (hk _) (acons (osl_see hL) (acons (.num rfl) (acons (hj _) anil))))))))))))))

/-- The inner loop. -/
theorem in_loop {best first i a : Int} (hL : L.length ≤ 1000000) (hfit : Fits (a + len)) {m : Nat} {Q : Exit → Act → World → Prop} {ac : Act} {w : World} (h : InAt L n p len best first i a W 0 0 ac w) (hQ : ∀ ac w, InAt L n p len best first i a W (win L len a L.length) L.length ac w → Q .normal ac w) :
    (Code.block 6 (.loop lwI)).wpIn Fence.wide m Tryz.prog Q ac w := by
  refine wpIn_block (wpIn_loop_n (J := fun m ac w => ∃ j : Nat, j + m = L.length ∧ InAt L n p len best first i a W (win L len a j) j ac w) (N := L.length) ⟨0, by omega, h⟩ ?_)
  rintro m a1 w1 ⟨j, hj, h1⟩
  have vj : ∀ {k : Int}, (IE.var 125).val (sT L n p len best first i a k j) = (j : Int) := rfl
  have hin : ∀ {k : Int} {y : Bool}, (j < L.length ↔ y = true) → (qIn 125 y).holds (sT L n p len best first i a k j) := fun {k y} h => holds_lt (by
    show (j : Int) < (L.length : Int) ↔ _
    rw [← h]; omega)
  cases m with
  | zero =>
    have e : j = L.length := by omega
    refine tmpl_step (E := envT (sT L n p len best first i a (win L len a j) j) [qIn 125 false]) (known_nothing _) (numT (hcons (hin (by simp; omega)) hnil)) (i_end _) h1 (liesT _ _ _) fun a2 w2 h2 => ?_
    subst e
    exact hQ a2 w2 h2
  | succ m =>
    have hlt : j < L.length := by omega
    have hr := win_range L len a j
    have hneg : ∀ {k : Int}, (qNeg 125).holds (sT L n p len best first i a k j) := fun {k} => holds_lt (no (by show ¬ (j : Int) < 0; omega))
    have hsel : tJ.val (sT L n p len best first i a (win L len a j) j) = L.getD j 0 := sel2_val rfl
    have hend : endA.val (sT L n p len best first i a (win L len a j) j) = a + len := by
      show opVal .add .i64 a len = _
      rw [add_op hfit]
    have hj1 : ∀ {k' : Int} (R : Nat → Nat → Prop), SVT (sT L n p len best first i a (win L len a j) j) (sT L n p len best first i a k' ((j + 1 : Nat) : Int)) R (nv 125) (.sint .i64 (inc 125)) := fun R => .num (by
      exact (inc_val (L := L) (f := fT n p len best first i a (win L len a j) j) (x := 125) (j := j) rfl (by omega)).symm)
    have hw : win L len a (j + 1) = win L len a j + if a ≤ L.getD j 0 ∧ L.getD j 0 < a + len then 1 else 0 := rfl
    by_cases c1 : L.getD j 0 < a
    · rw [if_neg (by omega)] at hw
      refine tmpl_step (E := envT (sT L n p len best first i a (win L len a j) j) [qIn 125 true, qNeg 125, fl tJ (.var 123) true]) (known_nothing _) (numT (hcons (hin (by simp; omega)) (hcons hneg (hcons (holds_lt (yes (by rw [hsel]; exact c1))) hnil)))) (i_out _) h1 (liesT _ _ _) fun a2 w2 h2 => ?_
      exact ⟨m, by omega, j + 1, by omega, in_see hL h2 (fun R => .num (by show win L len a (j + 1) = win L len a j; omega)) hj1⟩
    · by_cases c2 : L.getD j 0 < a + len
      · rw [if_pos ⟨by omega, c2⟩] at hw
        refine tmpl_step (E := envT (sT L n p len best first i a (win L len a j) j) [qIn 125 true, qNeg 125, fl tJ (.var 123) false, fl tJ endA true]) (known_nothing _) (numT (hcons (hin (by simp; omega)) (hcons hneg (hcons (holds_lt (no (by rw [hsel]; exact c1))) (hcons (holds_lt (yes (by rw [hsel, hend]; exact c2))) hnil))))) (i_in _) h1 (liesT _ _ _) fun a2 w2 h2 => ?_
        refine ⟨m, by omega, j + 1, by omega, in_see hL h2 (fun R => .num ?_) hj1⟩
        exact hw.trans (inc_valI (L := L) (f := fT n p len best first i a (win L len a j) j) (x := 124) (k := win L len a j) rfl hr.1 (by omega)).symm
      · rw [if_neg (by omega)] at hw
        refine tmpl_step (E := envT (sT L n p len best first i a (win L len a j) j) [qIn 125 true, qNeg 125, fl tJ (.var 123) false, fl tJ endA false]) (known_nothing _) (numT (hcons (hin (by simp; omega)) (hcons hneg (hcons (holds_lt (no (by rw [hsel]; exact c1))) (hcons (holds_lt (no (by rw [hsel, hend]; exact c2))) hnil))))) (i_far _) h1 (liesT _ _ _) fun a2 w2 h2 => ?_
        exact ⟨m, by omega, j + 1, by omega, in_see hL h2 (fun R => .num (by show win L len a (j + 1) = win L len a j; omega)) hj1⟩

abbrev OutAt (L : List Int) (n p len : Int) (W : World) (best first i : Int) (ac : Act) (w : World) : Prop := AtT (sT L n p len best first i 0 0 0) 147 lwSl (frN lwSl (hdO (nv 120) (nv 121) (nv 122))) objT 1 W ac w
theorem out_see {f f' : Nat → Int} {bs fs is : SV} {ac : Act} {w : World} (hL : L.length ≤ 1000000) (h : AtT (sigT f L) 147 lwSl (frN lwSl (hdO bs fs is)) objT 1 W ac w) (h0 : f' 110 = f 110) (h1 : f' 111 = f 111) (h2 : f' 114 = f 114) (hb : ∀ R, SVT (sigT f L) (sigT f' L) R (nv 120) bs) (hf : ∀ R, SVT (sigT f L) (sigT f' L) R (nv 121) fs) (hi : ∀ R, SVT (sigT f L) (sigT f' L) R (nv 122) is) : AtT (sigT f' L) 147 lwSl (frN lwSl (hdO (nv 120) (nv 121) (nv 122))) objT 1 W ac w :=
  t_see hL h (acons (osl_see hL) (acons (.num h2) (acons (.num h0) (acons (.num h1) (acons (hb _) (acons (hf _) (acons (osl_see hL) (acons (.num rfl) (acons (hi _) anil)))))))))

/-- The outer loop. -/
theorem out_loop (hL : L.length ≤ 1000000) (hfit : ∀ i, i < L.length → Fits (L.getD i 0 + len)) {m : Nat} {Q : Exit → Act → World → Prop} {ac : Act} {w : World} (h : OutAt L n p len W 0 0 0 ac w)
    (hQ : ∀ ac w, AtT (sT L n p len (brute L len L.length).1 (brute L len L.length).2 0 0 0 0) 147 lwSl (frN lwSl (hdB (nv 120) (nv 121))) objT 1 W ac w → Q .normal ac w) :
    (Code.block 4 (.loop lwD)).wpIn Fence.wide m Tryz.prog Q ac w := by
  refine wpIn_block (wpIn_loop_n (J := fun m ac w => ∃ i : Nat, i + m = L.length ∧ OutAt L n p len W (brute L len i).1 (brute L len i).2 i ac w) (N := L.length) ⟨0, by omega, h⟩ ?_)
  rintro m a1 w1 ⟨i, hi, h1⟩
  have hin : ∀ {best first a k j : Int} {y : Bool}, (i < L.length ↔ y = true) → (qIn 122 y).holds (sT L n p len best first i a k j) := fun {best first a k j y} h => holds_lt (by
    show (i : Int) < (L.length : Int) ↔ _
    rw [← h]; omega)
  cases m with
  | zero =>
    have e : i = L.length := by omega
    refine tmpl_chain 2 (E := envT (sT L n p len (brute L len i).1 (brute L len i).2 i 0 0 0) [qIn 122 false]) (known_nothing _) (numT (hcons (hin (by simp; omega)) hnil)) (o_end _) h1 (liesT _ _ _) fun a2 w2 h2 => ?_
    subst e
    exact hQ a2 w2 (t_see hL h2 (acons (osl_see hL) (acons (.num rfl) (acons (.num rfl) (acons (.num rfl) (acons (.num rfl) (acons (.num rfl) anil)))))))
  | succ m =>
    have hlt : i < L.length := by omega
    refine tmpl_chain 2 (E := envT (sT L n p len (brute L len i).1 (brute L len i).2 i 0 0 0) [qIn 122 true]) (known_nothing _) (numT (hcons (hin (by simp; omega)) hnil)) (o_go _) h1 (liesT _ _ _) fun a2 w2 h2 => ?_
    show (rest 2 lwD).wpIn _ _ _ _ a2 w2
    rw [lw_d]
    refine wpIn_seq (wpIn_block ?_)
    refine tmpl_chain 2 (E := envT (sT L n p len (brute L len i).1 (brute L len i).2 i 0 0 0) [qIn 122 true, qNeg 122]) (known_nothing _) (numT (hcons (hin (by simp; omega)) (hcons (holds_lt (no (by show ¬ (i : Int) < 0; omega))) hnil))) (o_a _) h2 (liesT _ _ _) fun a3 w3 h3 => ?_
    show (rest 2 lwB5).wpIn _ _ _ _ a3 w3
    rw [lw_b5]
    have h4 : AtT (sT L n p len (brute L len i).1 (brute L len i).2 i (L.getD i 0) 0 0) 147 lwSl (frN lwSl (hdA (nv 124))) objT 1 W a3 w3 :=
      t_see hL h3 (acons (osl_see hL) (acons (.num rfl) (acons (.num rfl) (acons (.num rfl) (acons (.num rfl) (acons (.num rfl) (acons (osl_see hL) (acons (.num rfl) (acons (.num rfl) (acons (.num (sel2_val (L := L) (f := fT n p len (brute L len i).1 (brute L len i).2 i 0 0 0) (x := 122) (j := i) rfl).symm) (acons (.int rfl) anil)))))))))))
    refine wpIn_seq (tmpl_chain 1 (E := envT (sT L n p len (brute L len i).1 (brute L len i).2 i (L.getD i 0) 0 0) []) (known_nothing _) (numT hnil) (o_x _) h4 (liesT _ _ _) fun a5 w5 h5 => ?_)
    show (rest 1 lwX).wpIn _ _ _ _ a5 w5
    rw [lw_x]
    have h6 : InAt L n p len (brute L len i).1 (brute L len i).2 i (L.getD i 0) W 0 0 a5 w5 := in_see hL h5 (fun R => .num rfl) (fun R => .int rfl)
    refine in_loop hL (hfit i hlt) h6 fun a7 w7 h7 => ?_
    show lwY.wpIn _ _ _ _ a7 w7
    generalize hk : win L len (L.getD i 0) L.length = k at h7
    have h8 : AtT (sT L n p len (brute L len i).1 (brute L len i).2 i (L.getD i 0) k 0) 147 lwSl (frN lwSl (hdA (nv 124))) objT 1 W a7 w7 :=
      t_see hL h7 (acons (osl_see hL) (acons (.num rfl) (acons (.num rfl) (acons (.num rfl) (acons (.num rfl) (acons (.num rfl) (acons (osl_see hL) (acons (.num rfl) (acons (.num rfl) (acons (.num rfl) (acons (.num rfl) anil)))))))))))
    have fin' : ∀ {a9 : Act} {w9 : World} {bs fs : SV} {mm : Nat}, AtT (sT L n p len (brute L len i).1 (brute L len i).2 i (L.getD i 0) k 0) 147 lwSl (frN lwSl (hdO bs fs (nv 122))) objT 1 W a9 w9 → (∀ R, SVT (sT L n p len (brute L len i).1 (brute L len i).2 i (L.getD i 0) k 0) (sT L n p len (brute L len (i + 1)).1 (brute L len (i + 1)).2 i 0 0 0) R (nv 120) bs) → (∀ R, SVT (sT L n p len (brute L len i).1 (brute L len i).2 i (L.getD i 0) k 0) (sT L n p len (brute L len (i + 1)).1 (brute L len (i + 1)).2 i 0 0 0) R (nv 121) fs) →
        lwR30.wpIn Fence.wide mm Tryz.prog (Exit.then (fun a' w' => ∃ k', k' < m + 1 ∧ ∃ i : Nat, i + k' = L.length ∧ OutAt L n p len W (brute L len i).1 (brute L len i).2 i a' w') (Exit.inBlock 4 Q)) a9 w9 := fun {a9 w9 bs fs mm} h9 hb hf => by
      have h10 : OutAt L n p len W (brute L len (i + 1)).1 (brute L len (i + 1)).2 i a9 w9 := out_see hL h9 rfl rfl rfl hb hf (fun R => .num rfl)
      refine tmpl_step (E := envT (sT L n p len (brute L len (i + 1)).1 (brute L len (i + 1)).2 i 0 0 0) []) (known_nothing _) (numT hnil) (o_next _) h10 (liesT _ _ _) fun a11 w11 h11 => ?_
      exact ⟨m, by omega, i + 1, by omega, out_see hL h11 rfl rfl rfl (fun R => .num rfl) (fun R => .num rfl) (fun R => .num (inc_val (L := L) (f := fT n p len (brute L len (i + 1)).1 (brute L len (i + 1)).2 i 0 0 0) (x := 122) (j := i) rfl (by omega)).symm)⟩
    have hb1 : brute L len (i + 1) = if (brute L len i).1 < k then (k, L.getD i 0) else if k = (brute L len i).1 ∧ L.getD i 0 < (brute L len i).2 then (k, L.getD i 0) else brute L len i := by rw [← hk]; rfl
    by_cases c1 : (brute L len i).1 < k
    · rw [if_pos c1] at hb1
      refine tmpl_step (d := 5) (E := envT (sT L n p len (brute L len i).1 (brute L len i).2 i (L.getD i 0) k 0) [fl (.var 120) (.var 124) true]) (known_nothing _) (numT (hcons (holds_lt (yes c1)) hnil)) (y_more (sT L n p len (brute L len i).1 (brute L len i).2 i (L.getD i 0) k 0)) h8 (liesT _ _ _) fun a9 w9 h9 => ?_
      exact fin' h9 (fun R => .num (by show (brute L len (i + 1)).1 = k; rw [hb1])) (fun R => .num (by show (brute L len (i + 1)).2 = L.getD i 0; rw [hb1]))
    · rw [if_neg c1] at hb1
      by_cases c2 : k = (brute L len i).1
      · by_cases c3 : L.getD i 0 < (brute L len i).2
        · rw [if_pos ⟨c2, c3⟩] at hb1
          refine tmpl_step (d := 5) (E := envT (sT L n p len (brute L len i).1 (brute L len i).2 i (L.getD i 0) k 0) [fl (.var 120) (.var 124) false, fe (.var 124) (.var 120) true, fl (.var 123) (.var 121) true]) (known_nothing _) (numT (hcons (holds_lt (no c1)) (hcons (holds_eq (yes c2)) (hcons (holds_lt (yes c3)) hnil)))) (y_same (sT L n p len (brute L len i).1 (brute L len i).2 i (L.getD i 0) k 0)) h8 (liesT _ _ _) fun a9 w9 h9 => ?_
          exact fin' h9 (fun R => .num (by show (brute L len (i + 1)).1 = k; rw [hb1])) (fun R => .num (by show (brute L len (i + 1)).2 = L.getD i 0; rw [hb1]))
        · rw [if_neg (by omega)] at hb1
          refine tmpl_step (d := 5) (E := envT (sT L n p len (brute L len i).1 (brute L len i).2 i (L.getD i 0) k 0) [fl (.var 120) (.var 124) false, fe (.var 124) (.var 120) true, fl (.var 123) (.var 121) false]) (known_nothing _) (numT (hcons (holds_lt (no c1)) (hcons (holds_eq (yes c2)) (hcons (holds_lt (no c3)) hnil)))) (y_late (sT L n p len (brute L len i).1 (brute L len i).2 i (L.getD i 0) k 0)) h8 (liesT _ _ _) fun a9 w9 h9 => ?_
          exact fin' h9 (fun R => .num (by show (brute L len (i + 1)).1 = _; rw [hb1]; rfl)) (fun R => .num (by show (brute L len (i + 1)).2 = _; rw [hb1]; rfl))
      · rw [if_neg (by omega)] at hb1
        refine tmpl_step (d := 5) (E := envT (sT L n p len (brute L len i).1 (brute L len i).2 i (L.getD i 0) k 0) [fl (.var 120) (.var 124) false, fe (.var 124) (.var 120) false]) (known_nothing _) (numT (hcons (holds_lt (no c1)) (hcons (holds_eq (no c2)) hnil))) (y_less (sT L n p len (brute L len i).1 (brute L len i).2 i (L.getD i 0) k 0)) h8 (liesT _ _ _) fun a9 w9 h9 => ?_
        exact fin' h9 (fun R => .num (by show (brute L len (i + 1)).1 = _; rw [hb1]; rfl)) (fun R => .num (by show (brute L len (i + 1)).2 = _; rw [hb1]; rfl))
end
end Go.Proofs.YtoafolgibimgjaaGreatDoor

/- What load finds is what BoundLoads finds by trying each. In plain numbers. -/
set_option linter.all false
set_option maxRecDepth 100000
namespace Go.Proofs.YtoafolgibimgjaaGreatDoor

def inK (L : List Int) (len a : Int) : Nat := L.countP fun x => decide (a ≤ x ∧ x < a + len)
theorem win_take (L : List Int) (len a : Int) : ∀ j, j ≤ L.length → win L len a j = ((L.take j).countP fun x => decide (a ≤ x ∧ x < a + len) : Nat)
  | 0, _ => by simp [win]
  | j + 1, hj => by
    have h : L[j]? = some L[j] := List.getElem?_eq_getElem (by omega)
    rw [win, win_take L len a j (by omega), List.take_add_one, h, List.countP_append]
    have e : L.getD j 0 = L[j] := getD_at (by omega)
    rw [e]
    simp only [Option.toList_some, List.countP_cons, List.countP_nil]
    by_cases c : a ≤ L[j] ∧ L[j] < a + len
    · rw [if_pos c, if_pos (by simpa using c)]; omega
    · rw [if_neg c, if_neg (by simpa using c)]; omega
theorem win_all (L : List Int) (len a : Int) : win L len a L.length = (inK L len a : Int) := by
  rw [win_take L len a L.length (Nat.le_refl _), List.take_length]
  rfl

theorem inK_pos {L : List Int} {len a : Int} (h : a ∈ L) (hl : 1 ≤ len) : 1 ≤ inK L len a := by
  have : 0 < inK L len a := List.countP_pos_iff.2 ⟨a, h, by simp; omega⟩
  omega
/-- The last of those in a window. -/
theorem last_in (a len : Int) : ∀ {L : List Int}, (∃ x ∈ L, a ≤ x ∧ x < a + len) → ∃ t ∈ L, (a ≤ t ∧ t < a + len) ∧ ∀ x ∈ L, a ≤ x → x < a + len → x ≤ t
  | [], ⟨x, h, _⟩ => by cases h
  | y :: L, h => by
    by_cases c : ∃ x ∈ L, a ≤ x ∧ x < a + len
    · obtain ⟨t, h1, h2, h3⟩ := last_in a len c
      by_cases d : a ≤ y ∧ y < a + len ∧ t < y
      · refine ⟨y, by simp, ⟨d.1, d.2.1⟩, fun x hx g1 g2 => ?_⟩
        rcases List.mem_cons.1 hx with rfl | hx
        · exact Int.le_refl _
        · have := h3 x hx g1 g2; omega
      · refine ⟨t, List.mem_cons_of_mem _ h1, h2, fun x hx g1 g2 => ?_⟩
        rcases List.mem_cons.1 hx with rfl | hx
        · omega
        · exact h3 x hx g1 g2
    · obtain ⟨x, hx, g1, g2⟩ := h
      have e : x = y := by
        rcases List.mem_cons.1 hx with e | hx
        · exact e
        · exact absurd ⟨x, hx, g1, g2⟩ c
      subst e
      refine ⟨x, by simp, ⟨g1, g2⟩, fun z hz k1 k2 => ?_⟩
      rcases List.mem_cons.1 hz with rfl | hz
      · exact Int.le_refl _
      · exact absurd ⟨z, hz, k1, k2⟩ c
theorem inK_le {L : List Int} {len a : Int} (h : a ∈ L) (hl : 1 ≤ len) : ∃ t ∈ L, a ≤ t ∧ t < a + len ∧ inK L len a ≤ inW L len t := by
  obtain ⟨t, h1, ⟨h2, h3⟩, h4⟩ := last_in a len (L := L) ⟨a, h, Int.le_refl _, by omega⟩
  refine ⟨t, h1, h2, h3, List.countP_mono_left fun x hx hp => ?_⟩
  simp only [decide_eq_true_eq] at hp ⊢
  have := h4 x hx hp.1 hp.2
  omega

structure Tried (T : List Int) (len : Int) (i : Nat) (p : Int × Int) : Prop where
  zero : i = 0 → p = (0, 0)
  is : 0 < i → ∃ j, j < i ∧ (inK T len (T.getD j 0) : Int) = p.1 ∧ T.getD j 0 = p.2
  le : ∀ j, j < i → (inK T len (T.getD j 0) : Int) ≤ p.1
  first : ∀ j, j < i → (inK T len (T.getD j 0) : Int) = p.1 → p.2 ≤ T.getD j 0
theorem brute_is {T : List Int} {len : Int} (hl : 1 ≤ len) : ∀ i, i ≤ T.length → Tried T len i (brute T len i)
  | 0, _ => ⟨fun _ => rfl, fun h => by omega, fun j h => by omega, fun j h => by omega⟩
  | i + 1, hi => by
    obtain ⟨h0, h1, h2, h3⟩ := brute_is (T := T) hl i (by omega)
    have hk := inK_pos (L := T) (len := len) (a := T.getD i 0) (getD_mem (by omega)) hl
    have e : brute T len (i + 1) = if (brute T len i).1 < (inK T len (T.getD i 0) : Int) then ((inK T len (T.getD i 0) : Int), T.getD i 0) else if (inK T len (T.getD i 0) : Int) = (brute T len i).1 ∧ T.getD i 0 < (brute T len i).2 then ((inK T len (T.getD i 0) : Int), T.getD i 0) else brute T len i := by
      rw [← win_all]; rfl
    rw [e]
    by_cases c1 : (brute T len i).1 < (inK T len (T.getD i 0) : Int)
    · rw [if_pos c1]
      refine ⟨fun h => by omega, fun _ => ⟨i, by omega, rfl, rfl⟩, fun j hj => ?_, fun j hj g => ?_⟩
      · by_cases ej : j = i
        · subst ej; exact Int.le_refl _
        · have := h2 j (by omega)
          show (inK T len (T.getD j 0) : Int) ≤ (inK T len (T.getD i 0) : Int)
          omega
      · by_cases ej : j = i
        · subst ej; exact Int.le_refl _
        · have := h2 j (by omega)
          have g : (inK T len (T.getD j 0) : Int) = (inK T len (T.getD i 0) : Int) := g
          omega
    · rw [if_neg c1]
      have hi0 : 0 < i := by
        by_cases z : i = 0
        · subst z
          have := h0 rfl
          rw [this] at c1
          simp only at c1
          omega
        · omega
      by_cases c2 : (inK T len (T.getD i 0) : Int) = (brute T len i).1 ∧ T.getD i 0 < (brute T len i).2
      · rw [if_pos c2]
        refine ⟨fun h => by omega, fun _ => ⟨i, by omega, rfl, rfl⟩, fun j hj => ?_, fun j hj g => ?_⟩
        · by_cases ej : j = i
          · subst ej; exact Int.le_refl _
          · have := h2 j (by omega)
            show (inK T len (T.getD j 0) : Int) ≤ (inK T len (T.getD i 0) : Int)
            omega
        · by_cases ej : j = i
          · subst ej; exact Int.le_refl _
          · have g : (inK T len (T.getD j 0) : Int) = (inK T len (T.getD i 0) : Int) := g
            have := h3 j (by omega) (by omega)
            show T.getD i 0 ≤ _
            omega
      · rw [if_neg c2]
        obtain ⟨j0, a1, a2, a3⟩ := h1 hi0
        refine ⟨fun h => by omega, fun _ => ⟨j0, by omega, a2, a3⟩, fun j hj => ?_, fun j hj g => ?_⟩
        · by_cases ej : j = i
          · subst ej; omega
          · exact h2 j (by omega)
        · by_cases ej : j = i
          · subst ej
            have : ¬ T.getD j 0 < (brute T len j).2 := fun z => c2 ⟨g, z⟩
            omega
          · exact h3 j (by omega) g

theorem brute_best {T L : List Int} {len best pos : Int} (hl : 1 ≤ len) (hp : ∀ x, T.count x = L.count x) (hb : Best L len best pos) : brute T len T.length = (best, pos) := by
  have hperm : T.Perm L := List.perm_iff_count.2 hp
  have hK : ∀ a, inK T len a = inK L len a := fun a => hperm.countP_eq _
  have hmem : ∀ x, x ∈ T ↔ x ∈ L := fun x => hperm.mem_iff
  obtain ⟨h0, h1, h2, h3⟩ := brute_is (T := T) hl T.length (Nat.le_refl _)
  by_cases hT : T = []
  · have hL : L = [] := by rw [hT] at hperm; exact hperm.symm.eq_nil
    have e := hb.nil hL
    rw [h0 (by rw [hT]; rfl), e.1, e.2]
  · have hL : L ≠ [] := fun e => hT (by rw [e] at hperm; exact hperm.eq_nil)
    have hlen : 0 < T.length := List.length_pos_iff.2 hT
    obtain ⟨t, ht, g1, g2, g3, g4, g5, g6⟩ := hb.is hL
    have kle : ∀ a ∈ L, (inK L len a : Int) ≤ best := fun a ha => by
      obtain ⟨t', q1, -, -, q2⟩ := inK_le ha hl
      have := hb.le t' q1
      omega
    have kpos : (inK L len pos : Int) = best := by
      have h : inW L len t ≤ inK L len pos := List.countP_mono_left fun x hx hp => by
        simp only [decide_eq_true_eq] at hp ⊢
        have := g5 x hx hp.1
        omega
      have := kle pos g2
      omega
    obtain ⟨j, q1, q2, q3⟩ := h1 hlen
    have hjL : T.getD j 0 ∈ L := (hmem _).1 (getD_mem q1)
    obtain ⟨jp, r1, r2⟩ := mem_getD ((hmem pos).2 g2)
    have hb1 : (brute T len T.length).1 = best := by
      have a1 := kle _ hjL
      have a2 := h2 jp r1
      rw [hK, r2, kpos] at a2
      rw [hK] at q2
      omega
    have hb2 : (brute T len T.length).2 = pos := by
      have a1 := h3 jp r1 (by rw [hK, r2, kpos, hb1])
      rw [r2] at a1
      rw [q3] at hjL
      rw [hK, q3, hb1] at q2
      by_cases c : (brute T len T.length).2 < pos
      · obtain ⟨t', s1, s2, s3, s4⟩ := inK_le hjL hl
        have hlo : (brute T len T.length).2 ≤ t - len := by
          by_cases d : t - len < (brute T len T.length).2
          · have := g5 _ hjL d; omega
          · omega
        have := g6 t' s1 (by omega)
        omega
      · omega
    rw [← hb1, ← hb2]
/-- A longer window has no fewer. -/
theorem best_mono {L : List Int} {w w' best best' pos pos' : Int} (hw : w ≤ w') (h : Best L w best pos) (h' : Best L w' best' pos') : best ≤ best' := by
  by_cases hL : L = []
  · rw [(h.nil hL).1, (h'.nil hL).1]; exact Int.le_refl _
  · obtain ⟨t, ht, g1, -⟩ := h.is hL
    have a := h'.le t ht
    have b : inW L w t ≤ inW L w' t := List.countP_mono_left fun x hx hp => by
      simp only [decide_eq_true_eq] at hp ⊢
      omega
    omega
end Go.Proofs.YtoafolgibimgjaaGreatDoor

/- BoundLoads, up to its own loops: with one to five jobs. -/
set_option linter.all false
set_option maxRecDepth 100000
namespace Go.Proofs.YtoafolgibimgjaaGreatDoor
open Go.RX Go.RX.Sym

def boundsW (k : Nat) (e : IE) : Option (Int × Int) := match e with
  | .var i => if i < 20 then (match i with | 5 => some (0, 18446744073709551615) | 6 => some (0, 255) | 7 => some (0, 255) | _ => some (0, 255)) else boundsN k i
  | _ => none
def endE : IE := plus (.lit 1000) (.bin .mul .i64 (.lit 3) (.var 30))
def tI (i : Nat) : Nat → IE
  | 0 => .var (40 + i)
  | j + 1 => plus (tI i j) (.var 30)
def timeF : Nat → List Fact
  | 0 => []
  | i + 1 => fl endE (tI i 0) false :: fl endE (tI i 1) false :: fl endE (tI i 2) false :: fl endE (tI i 3) true :: timeF i
def factsL (k : Nat) : List Fact := fl (.var 112) (.var 110) false :: timeF k
noncomputable def envW (σ : Sig) (k : Nat) : Env := { P := Tryz.prog, G := fun _ => none, rows := rowsT, lt := ordLt (boundsW k) (factsL k), eq := ordEq (boundsW k) (factsL k), sig := σ }
/-! ### The calls that are known -/
def planN (i : Nat) : SV := .agg (.int .i64 2 :: zs .u64 6 ++ [.bool false, .bool false, .int .i64 0, .sint .i64 (.var (40 + i)), .sint .i64 (.var 30), .int .i64 0, .nilslice])
def shortE : IE := plus (.lit 1) (.conv .i64 (.var 6))
def longE : IE := plus shortE (.conv .i64 (.var 7))
def objJ (k : Nat) : List (Nat × SObj) := [(0, .cells (nameJobs k) 111)]
def argLd (k : Nat) (e : IE) : List SV := [cfgSV 0 k k cfg7, .sint .i64 e, .int .i64 1000, .sint .i64 endE]
def argLm (a b : Nat) : List SV := [.agg [.sint .i64 (.var a), .sint .i64 (.var b)]]
def argCn (i : Nat) : List SV := [planN i, .int .i64 1000, .sint .i64 endE]
noncomputable def kLim : Nat → (Nat → List SV → SW → Option (SV × SW)) → Nat → List SV → SW → Option (SV × SW)
  | 0, K => memoCall 52 (argLm 25 26) [] 0 (.int .i64 0) [] 0 K
  | i + 1, K => memoCall 52 (argLm (80 + i) (90 + i)) [] 0 (.int .i64 0) [] 0 (kLim i K)
noncomputable def kCnt : Nat → (Nat → List SV → SW → Option (SV × SW)) → Nat → List SV → SW → Option (SV × SW)
  | 0, K => K
  | i + 1, K => memoCall 29 (argCn i) [] 0 (.tuple [.int .i64 3, .int .i64 0]) [] 0 (kCnt i K)
noncomputable def kMade (k : Nat) (K : Nat → List SV → SW → Option (SV × SW)) : Nat → List SV → SW → Option (SV × SW) := memoCall 5 argM [] 0 (nameX k) [(0, some (.cells (nameJobs k) 111))] 1 K
noncomputable def kLd (k : Nat) (e : IE) (x y : Nat) (K : Nat → List SV → SW → Option (SV × SW)) : Nat → List SV → SW → Option (SV × SW) := memoCall 15 (argLd k e) (objJ k) 1 (.tuple [nv x, nv y]) [] 1 K
noncomputable def kL (k : Nat) : Nat → List SV → SW → Option (SV × SW) := kMade k (kLd k shortE 110 111 (kLd k longE 112 113 (kCnt k (kLim k noC))))
def argsLw : List SV := [.agg (.row 0 :: tail), .sint .u8 (.var 6), .sint .u8 (.var 7)]
def timesSV : Nat → List SV
  | 0 => []
  | i + 1 => timesSV i ++ [.sint .i64 (tI i 0), .sint .i64 (tI i 1), .sint .i64 (tI i 2)]
def endFr (k id : Nat) : List (Nat × SV) := [(12, .slice id 0 (3 * k) (.toEnd 1 (3 * k))), (16, .sint .i64 shortE), (17, nv 110), (18, nv 111), (23, .int .i64 0), (24, .int .i64 0)]
noncomputable def lwRun (σ : Sig) (k id : Nat) : Bool := cutOkH 0 (frN lwSl (endFr k id)) [(id, .cells (timesSV k) 7)] 300 (runChain (envW σ k) (kL k) 40 147 lwSl (heads 10 lwBody) (cutSt (Sym.frameOf argsLw lwSl) [] 0))
theorem lw_1 (σ : Sig) : lwRun σ 1 10 = true := by kernel_rfl
theorem lw_2 (σ : Sig) : lwRun σ 2 17 = true := by kernel_rfl
theorem lw_3 (σ : Sig) : lwRun σ 3 24 = true := by kernel_rfl
theorem lw_4 (σ : Sig) : lwRun σ 4 31 = true := by kernel_rfl
theorem lw_5 (σ : Sig) : lwRun σ 5 38 = true := by kernel_rfl
end Go.Proofs.YtoafolgibimgjaaGreatDoor

/- BoundLoads: what is known of its calls; its facts. -/
set_option linter.all false
set_option maxRecDepth 100000
namespace Go.Proofs.YtoafolgibimgjaaGreatDoor
open Go.RX Go.RX.Sym

theorem Best.perm {L L' : List Int} {w best pos : Int} (h : L.Perm L') (hb : Best L w best pos) : Best L' w best pos := by
  have hi : ∀ t, inW L' w t = inW L w t := fun t => (h.countP_eq _).symm
  have hm : ∀ x, x ∈ L' ↔ x ∈ L := fun x => h.symm.mem_iff
  refine ⟨fun e => hb.nil (by rw [e] at h; exact h.eq_nil), fun t ht => by rw [hi]; exact hb.le t ((hm t).1 ht), fun hne => ?_⟩
  obtain ⟨t, ht, g1, g2, g3, g4, g5, g6⟩ := hb.is (fun e => hne (by rw [e] at h; exact h.symm.eq_nil))
  exact ⟨t, (hm t).2 ht, by rw [hi]; exact g1, (hm _).2 g2, g3, g4, fun x hx => g5 x ((hm x).1 hx), fun u hu => by rw [hi]; exact g6 u ((hm u).1 hu)⟩
theorem all_best {v : Jb} {fr w w' b best best' pos pos' : Int} {L L' : List Int} (hw : w ≤ w') (h : LAll v fr w b L best pos) (h' : LAll v fr w' b L' best' pos') : best ≤ best' :=
  best_mono hw (h.best.perm (List.perm_iff_count.2 fun x => by rw [h.count, h'.count])) h'.best

/-! ### The times that the law writes down -/
def timesL (st : Nat → Int) (P : Int) : Nat → List Int
  | 0 => []
  | i + 1 => timesL st P i ++ [st i, st i + P, st i + P + P]
theorem three_count {s P x : Int} (hP : 1 ≤ P) (h1 : 1001 ≤ s) (h2 : s ≤ 1000 + P) : [s, s + P, s + P + P].count x = if 1000 ≤ x ∧ x ≤ 1000 + 3 * P then (if IsDue s P x then 1 else 0) else 0 := by
  simp only [List.count_cons, List.count_nil]
  have due : IsDue s P x ∧ x ≤ 1000 + 3 * P ↔ x = s ∨ x = s + P ∨ x = s + P + P := by
    constructor
    · rintro ⟨hd, hx⟩
      have e := isDue_eq hd
      generalize hq : (x - s) / P = q at e
      have hq0 : 0 ≤ q := by rw [← hq]; exact div_nonneg (by have := hd.1; omega) hP
      have hq3 : q < 3 := by
        by_cases c : q < 3
        · exact c
        · have := Int.mul_le_mul_of_nonneg_right (show 3 ≤ q by omega) (show 0 ≤ P by omega)
          omega
      have : q = 0 ∨ q = 1 ∨ q = 2 := by omega
      rcases this with e1 | e1 | e1 <;> subst e1 <;> omega
    · rintro (e | e | e) <;> subst e
      · exact ⟨⟨Int.le_refl _, by simp⟩, by omega⟩
      · exact ⟨⟨by omega, by rw [show s + P - s = P by omega]; exact Int.emod_self⟩, by omega⟩
      · exact ⟨⟨by omega, by rw [show s + P + P - s = P * 2 by omega]; exact Int.mul_emod_right _ _⟩, by omega⟩
  by_cases c : 1000 ≤ x ∧ x ≤ 1000 + 3 * P
  · rw [if_pos c]
    by_cases d : IsDue s P x
    · rw [if_pos d]
      rcases due.1 ⟨d, c.2⟩ with e | e | e
      · have a1 : (s == x) = true := by simp; omega
        have a2 : (s + P == x) = false := by simp; omega
        have a3 : (s + P + P == x) = false := by simp; omega
        rw [a1, a2, a3]; rfl
      · have a1 : (s == x) = false := by simp; omega
        have a2 : (s + P == x) = true := by simp; omega
        have a3 : (s + P + P == x) = false := by simp; omega
        rw [a1, a2, a3]; rfl
      · have a1 : (s == x) = false := by simp; omega
        have a2 : (s + P == x) = false := by simp; omega
        have a3 : (s + P + P == x) = true := by simp; omega
        rw [a1, a2, a3]; rfl
    · rw [if_neg d]
      have n := fun h => d (due.2 h).1
      have a1 : (s == x) = false := by simp; exact fun e => n (.inl e.symm)
      have a2 : (s + P == x) = false := by simp; exact fun e => n (.inr (.inl e.symm))
      have a3 : (s + P + P == x) = false := by simp; exact fun e => n (.inr (.inr e.symm))
      rw [a1, a2, a3]; rfl
  · rw [if_neg c]
    have n : ∀ y, (y = s ∨ y = s + P ∨ y = s + P + P) → y ≠ x := fun y h e => c (by omega)
    have a1 : (s == x) = false := by simp; exact n s (.inl rfl)
    have a2 : (s + P == x) = false := by simp; exact n _ (.inr (.inl rfl))
    have a3 : (s + P + P == x) = false := by simp; exact n _ (.inr (.inr rfl))
    rw [a1, a2, a3]; rfl
theorem times_count {st : Nat → Int} {P : Int} (hP : 1 ≤ P) {n : Nat} (h : ∀ i, i < n → 1001 ≤ st i ∧ st i ≤ 1000 + P) (x : Int) : ∀ k, k ≤ n → (timesL st P k).count x = if 1000 ≤ x ∧ x ≤ 1000 + 3 * P then (bare n st (fun _ => P)).onN x k else 0
  | 0, _ => by simp [timesL, Jb.onN]
  | k + 1, hk => by
    have hh := h k (by omega)
    rw [timesL, List.count_append, times_count hP h x k (by omega), three_count hP hh.1 hh.2]
    by_cases c : 1000 ≤ x ∧ x ≤ 1000 + 3 * P
    · rw [if_pos c, if_pos c, if_pos c]; rfl
    · rw [if_neg c, if_neg c, if_neg c]
theorem times_len {st : Nat → Int} {P : Int} : ∀ k, (timesL st P k).length = 3 * k
  | 0 => rfl
  | k + 1 => by rw [timesL, List.length_append, times_len k]; simp; omega
theorem times_mem {st : Nat → Int} {P : Int} {x : Int} : ∀ k, x ∈ timesL st P k → ∃ i, i < k ∧ (x = st i ∨ x = st i + P ∨ x = st i + P + P)
  | 0, h => by cases h
  | k + 1, h => by
    rcases List.mem_append.1 h with h | h
    · obtain ⟨i, h1, h2⟩ := times_mem k h
      exact ⟨i, by omega, h2⟩
    · simp only [List.mem_cons, List.not_mem_nil, or_false] at h
      exact ⟨k, by omega, h⟩

/-! ### The numbers -/
def sigW (v : Setup) (k : Nat) (nmv : Nat → Int) (ex : Nat → Int) : Sig := ⟨fun i => if i < 20 then v.var i else if i < 100 then nmv i else ex i, fnG, (sigG v).row, (sigG v).cell⟩
structure Mk (v : Setup) (k : Nat) : Prop where
  small : v.Small
  six : 0 ≤ v.var 6 ∧ v.var 6 ≤ 255
  seven : 0 ≤ v.var 7 ∧ v.var 7 ≤ 255
  k1 : 1 ≤ k
  k5 : k ≤ 5
  is : min v.n 5 = k
def hiOf (k : Nat) : Int := if k = 5 then 9223372036854775807 else (k : Int)
section
variable {v : Setup} {k : Nat}
theorem Mk.lohi (h : Mk v k) : (k : Int) ≤ v.n ∧ (v.n : Int) ≤ hiOf k := by
  have h1 := h.is
  have h2 := h.k5
  have h3 := h.small.few
  unfold hiOf
  split <;> omega
theorem names_of (h1 : 1 ≤ k) (h5 : k ≤ 5) : namesOk k (hiOf k) k (upTo 100) = true := by
  have : k = 1 ∨ k = 2 ∨ k = 3 ∨ k = 4 ∨ k = 5 := by omega
  rcases this with e | e | e | e | e <;> subst e
  · exact names_1
  · exact names_2
  · exact names_3
  · exact names_4
  · exact names_5
theorem Mk.range (h : Mk v k) {i : Nat} {t : Int × Int} (hb : boundsN k i = some t) : t.1 ≤ nm v k i ∧ nm v k i ≤ t.2 :=
  nm_range h.small h.k5 h.lohi.1 h.lohi.2 h.is (names_of h.k1 h.k5) hb
theorem Mk.named (h : Mk v k) (ex : Nat → Int) : Named v k (sigW v k (nm v k) ex) := fun i h1 h2 => by
  show (if i < 20 then v.var i else if i < 100 then nm v k i else ex i) = _
  rw [if_neg (by omega), if_pos h2]
theorem bN30 : boundsN k 30 = some (1, 200) := by unfold boundsN; rfl
theorem bN40 {i : Nat} (hi : i < k) (hk : k ≤ 5) : boundsN k (40 + i) = some (1001, 1300) := by
  unfold boundsN
  rw [if_neg (by omega), if_neg (by omega), if_pos (by omega)]
theorem bN80 {i : Nat} (hi : i < k) (hk : k ≤ 5) : boundsN k (80 + i) = some (0, 5) := by
  unfold boundsN
  rw [if_neg (by omega), if_neg (by omega), if_neg (by omega), if_neg (by omega), if_neg (by omega), if_neg (by omega), if_neg (by omega), if_neg (by omega), if_neg (by omega), if_neg (by omega), if_pos (by omega)]
theorem bN90 {i : Nat} (hi : i < k) (hk : k ≤ 5) : boundsN k (90 + i) = some (0, 11) := by
  unfold boundsN
  rw [if_neg (by omega), if_neg (by omega), if_neg (by omega), if_neg (by omega), if_neg (by omega), if_neg (by omega), if_neg (by omega), if_neg (by omega), if_neg (by omega), if_neg (by omega), if_neg (by omega), if_neg (by omega), if_pos (by omega)]

/-- The period; when the jobs begin. -/
noncomputable def per (v : Setup) (k : Nat) : Int := nm v k 30
noncomputable def sta (v : Setup) (k i : Nat) : Int := nm v k (40 + i)
theorem Mk.perR (h : Mk v k) : 1 ≤ per v k ∧ per v k ≤ 200 := h.range bN30
theorem rem_op {x y : Int} (hx : 0 ≤ x) (hy : 1 ≤ y) (hm : y ≤ 1000000) : opVal .rem .i64 x y = x % y := by
  have h1 : Int.tmod x y = x % y := Int.tmod_eq_emod_of_nonneg hx
  have h2 : 0 ≤ x % y := Int.emod_nonneg _ (by omega)
  have h3 : x % y < y := Int.emod_lt_of_pos _ (by omega)
  have hz : eqb y (.ofNat 0) = false := by
    rw [eqb_eq]
    exact decide_eq_false (by show ¬ (y = 0); omega)
  exact opVal_int (op := .rem) (k := .i64) (x := x) (y := y) (n := x % y) (by simp) (by simp) (by simp only [intOp, hz]; rw [int_eq, h1])
theorem Mk.staR (h : Mk v k) {i : Nat} (hi : i < k) : 1001 ≤ sta v k i ∧ sta v k i ≤ 1000 + per v k := by
  have hp := h.perR
  have e : sta v k i = (stE k i).val (sigG v) := by
    have := h.k5
    unfold sta nm nameE
    rw [if_neg (by omega), if_pos (by omega), show 40 + i - 40 = i by omega]
  have e2 : (pE k).val (sigG v) = per v k := rfl
  rw [e]
  show 1001 ≤ opVal .add .i64 1001 (opVal .rem .i64 (IntKind.i64.wrap (v.cell (Int.toNat i) 0)) ((pE k).val (sigG v))) ∧ _
  have hc := h.small.cell (Int.toNat i) 0
  have hw : IntKind.i64.wrap (v.cell (Int.toNat i) 0) = v.cell (Int.toNat i) 0 := Fits.wrap ⟨by omega, by omega⟩
  rw [hw, e2, rem_op hc.1 hp.1 (by omega)]
  have h2 : 0 ≤ v.cell (Int.toNat i) 0 % per v k := Int.emod_nonneg _ (by omega)
  have h3 : v.cell (Int.toNat i) 0 % per v k < per v k := Int.emod_lt_of_pos _ (by omega)
  rw [add_op ⟨by omega, by omega⟩]
  refine ⟨by omega, ?_⟩
  show opVal .add .i64 1001 (opVal .rem .i64 (IntKind.i64.wrap (v.cell (Int.toNat i) 0)) ((pE k).val (sigG v))) ≤ _
  rw [hw, e2, rem_op hc.1 hp.1 (by omega), add_op ⟨by omega, by omega⟩]
  omega
theorem Mk.zero (h : Mk v k) {i : Nat} (hi : i < k) : nm v k (80 + i) = 0 → nm v k (90 + i) = 0 := by
  have := h.k5
  have e1 : nm v k (80 + i) = fnG 1 (IE.vals (sigG v) [selT i 3, selT i 4]) := by
    unfold nm nameE
    rw [if_neg (by omega), if_neg (by omega), if_neg (by omega), if_neg (by omega), if_neg (by omega), if_pos (by omega), show 80 + i - 80 = i by omega]
    rfl
  have e2 : nm v k (90 + i) = fnG 2 (IE.vals (sigG v) [selT i 3, selT i 4]) := by
    unfold nm nameE
    rw [if_neg (by omega), if_neg (by omega), if_neg (by omega), if_neg (by omega), if_neg (by omega), if_neg (by omega), if_pos (by omega), show 90 + i - 90 = i by omega]
    rfl
  rw [e1, e2]
  exact fn_zero _
theorem Mk.zeroG (h : Mk v k) : nm v k 25 = 0 → nm v k 26 = 0 := fun e => fn_zero (IE.vals (sigG v) [.var 3, .var 4]) e

variable {ex : Nat → Int}
theorem w_low {i : Nat} (h : i < 20) : IE.val (sigW v k (nm v k) ex) (.var i) = v.var i := by
  show (if i < 20 then v.var i else _) = _
  rw [if_pos h]
theorem w_nm {i : Nat} (h : 20 ≤ i) (h2 : i < 100) : IE.val (sigW v k (nm v k) ex) (.var i) = nm v k i := by
  show (if i < 20 then v.var i else if i < 100 then nm v k i else ex i) = _
  rw [if_neg (by omega), if_pos h2]
theorem w_ex {i : Nat} (h : 100 ≤ i) : IE.val (sigW v k (nm v k) ex) (.var i) = ex i := by
  show (if i < 20 then v.var i else if i < 100 then nm v k i else ex i) = _
  rw [if_neg (by omega), if_neg (by omega)]
theorem w_based (h : Mk v k) : Based (sigW v k (nm v k) ex) (boundsW k) := fun e r hr => by
  unfold boundsW at hr
  split at hr
  · rename_i i
    split at hr
    · rename_i h20
      rw [w_low h20]
      split at hr
      · simp only [Option.some.injEq] at hr; subst hr; exact h.small.five
      · simp only [Option.some.injEq] at hr; subst hr; exact h.six
      · simp only [Option.some.injEq] at hr; subst hr; exact h.seven
      · rename_i a5 a6 a7
        simp only [Option.some.injEq] at hr; subst hr
        exact h.small.other i a5 a6 a7
    · have := boundsN_lt h.k5 hr
      rw [w_nm this.1 this.2]
      exact h.range hr
  · cases hr
theorem w_end (h : Mk v k) : endE.val (sigW v k (nm v k) ex) = 1000 + 3 * per v k := by
  have hp := h.perR
  show opVal .add .i64 1000 (opVal .mul .i64 3 (IE.val (sigW v k (nm v k) ex) (.var 30))) = _
  rw [w_nm (by decide) (by decide)]
  show opVal .add .i64 1000 (opVal .mul .i64 3 (per v k)) = _
  rw [mul_op ⟨by omega, by omega⟩, add_op ⟨by omega, by omega⟩]
theorem w_t (h : Mk v k) {i : Nat} (hi : i < k) : ∀ j : Nat, j ≤ 3 → (tI i j).val (sigW v k (nm v k) ex) = sta v k i + j * per v k
  | 0, _ => by
    have := h.k5
    show IE.val (sigW v k (nm v k) ex) (.var (40 + i)) = _
    rw [w_nm (by omega) (by omega)]
    show sta v k i = _
    omega
  | j + 1, hj => by
    have hs := h.staR hi
    have hp := h.perR
    show opVal .add .i64 ((tI i j).val (sigW v k (nm v k) ex)) (IE.val (sigW v k (nm v k) ex) (.var 30)) = _
    rw [w_t h hi j (by omega), w_nm (by decide) (by decide)]
    show opVal .add .i64 (sta v k i + j * per v k) (per v k) = _
    have : j = 0 ∨ j = 1 ∨ j = 2 := by omega
    rcases this with e | e | e <;> subst e <;> rw [add_op ⟨by omega, by omega⟩] <;> omega
theorem w_facts (h : Mk v k) (hle : ex 110 ≤ ex 112) : ∀ f ∈ factsL k, f.holds (sigW v k (nm v k) ex) := by
  refine hcons (holds_lt (no (by rw [w_ex (by decide), w_ex (by decide)]; omega))) ?_
  have : ∀ i, i ≤ k → ∀ f ∈ timeF i, f.holds (sigW v k (nm v k) ex) := by
    intro i
    induction i with
    | zero => intro _; exact hnil
    | succ i ih =>
      intro hi
      have hs := h.staR (i := i) (by omega)
      refine hcons (holds_lt (no ?_)) (hcons (holds_lt (no ?_)) (hcons (holds_lt (no ?_)) (hcons (holds_lt (yes ?_)) (ih (by omega)))))
      all_goals rw [w_end h, w_t h (by omega) _ (by decide)]; omega
  exact this k (Nat.le_refl _)
theorem w_num (h : Mk v k) (hle : ex 110 ≤ ex 112) : NumOk (envW (sigW v k (nm v k) ex) k) :=
  ord_num rfl rfl (w_based h) (w_facts h hle) (fun a ks h => by
    have h : rowsT a = some ks := h
    unfold rowsT at h
    split at h
    · simp only [Option.some.injEq] at h; subst h; rfl
    · simp only [Option.some.injEq] at h; subst h; rfl
    · cases h)
theorem w_lies {W : World} (h : v.Lie W) : RX.Lies (envW (sigW v k (nm v k) ex) k) W := ⟨fun g cs hg => (by cases hg), fun a ks ha => (lies_G h 0 0 0).rows a ks ha⟩
theorem w_lie {W : World} (h : RX.Lies (envW (sigW v k (nm v k) ex) k) W) : v.Lie W := by
  obtain ⟨b, x, n, arr, el, fz, h1, h2, h3⟩ := h.rows 0 taskKinds rfl
  have h1 : ((v.b, v.x, 6, v.n) : Nat × Nat × Nat × Nat) = (b, x, taskKinds.length, n) := h1
  simp only [Prod.mk.injEq] at h1
  obtain ⟨rfl, rfl, -, rfl⟩ := h1
  refine ⟨arr, el, fz, h2, fun i c hi hc => ?_⟩
  have hk : taskKinds[c]? = some (taskKinds[c]'(by show c < 6; exact hc)) := List.getElem?_eq_getElem _
  exact (h3 i c _ hi hk).1
end
end Go.Proofs.YtoafolgibimgjaaGreatDoor

/- BoundLoads answers true, with one to five jobs. -/
set_option linter.all false
set_option maxRecDepth 100000
namespace Go.Proofs.YtoafolgibimgjaaGreatDoor
open Go.RX Go.RX.Sym

theorem nameMade : named 5 = true := by kernel_rfl
theorem nameCount : named 29 = true := by kernel_rfl
section
variable {v : Setup} {k : Nat} {ex : Nat → Int}
noncomputable abbrev sW (v : Setup) (k : Nat) (ex : Nat → Int) : Sig := sigW v k (nm v k) ex
theorem made_ok (h1 : 1 ≤ k) (h5 : k ≤ 5) (σ : Sig) : madeOk k (5 * k + 4) k (madeRun σ k (hiOf k) k) = true := by
  have : k = 1 ∨ k = 2 ∨ k = 3 ∨ k = 4 ∨ k = 5 := by omega
  rcases this with e | e | e | e | e <;> subst e
  · exact made_1 σ
  · exact made_2 σ
  · exact made_3 σ
  · exact made_4 σ
  · exact made_5 σ
theorem made_callsT (h : Mk v k) : CallsT (envW (sW v k ex) k) 5 argM [] 0 (nameX k) ⟨heapOf [(0, .cells (nameJobs k) 111)], 1, 0⟩ :=
  callsT_of_left (nameF nameMade) fun ρ vals w hok hv => by
    have hσ : ρ.sig = sW v k ex := hok.num.sig
    have hl := w_lie hok.glob.lies
    cases hv with
    | cons hv hv2 =>
      cases hv2
      cases hv with
      | agg hv =>
        cases hv with
        | cons a0 hv => cases hv with
          | cons a1 hv => cases hv with
            | cons a2 hv => cases hv with
              | cons a3 hv => cases hv with
                | cons a4 hv => cases hv with
                  | cons a5 hv => cases hv with
                    | cons a6 hv =>
                      cases hv
                      have a1 := a1.sint_inv
                      have a2 := a2.sint_inv
                      have a3 := a3.sint_inv
                      have a4 := a4.sint_inv
                      have a5 := a5.sint_inv
                      have a6 := a6.sint_inv
                      rw [hσ, w_low (by decide)] at a1 a2 a3 a4 a5 a6
                      subst a1 a2 a3 a4 a5 a6
                      cases a0 with
                      | row hr hc =>
                        rw [hσ] at hr
                        have hr : ((v.b, v.x, 6, v.n) : Nat × Nat × Nat × Nat) = _ := hr
                        simp only [Prod.mk.injEq] at hr
                        obtain ⟨rfl, rfl, -, rfl⟩ := hr
                        have key := made_calls (σ' := sW v k ex) h.small hl hc h.lohi.1 h.lohi.2 h.is h.k5 (id := 5 * k + 4) (by have := h.k5; omega) (made_ok h.k1 h.k5 _) (h.named ex)
                        exact key
theorem limit_callsT (h : Mk v k) {a b : Nat} (ha : boundsN k a = some (0, 5)) (hb : boundsN k b = some (0, 11)) (hz : nm v k a = 0 → nm v k b = 0) : CallsT (envW (sW v k ex) k) 52 (argLm a b) [] 0 (.int .i64 0) ⟨heapOf [], 0, 0⟩ :=
  callsT_plain (nameF nameL) fun ρ vals w hok hv => by
    have hσ : ρ.sig = sW v k ex := hok.num.sig
    have la := boundsN_lt h.k5 ha
    have lb := boundsN_lt h.k5 hb
    have ra := h.range ha
    have rb := h.range hb
    cases hv with
    | cons hv hv2 =>
      cases hv2
      cases hv with
      | agg hv =>
        cases hv with
        | cons a0 hv => cases hv with
          | cons a1 hv =>
            cases hv
            have a0 := a0.sint_inv
            have a1 := a1.sint_inv
            rw [hσ, w_nm la.1 la.2] at a0
            rw [hσ, w_nm lb.1 lb.2] at a1
            subst a0 a1
            exact (limit_calls ra.1 ra.2 rb.1 rb.2 hz w).mono fun e w' ⟨he, ho⟩ => ⟨_, he, .int .i64 0, ho⟩
theorem rank3 {s P : Int} (hP : 1 ≤ P) (h1 : 1001 ≤ s) (h2 : s ≤ 1000 + P) : rank s P (1000 + 3 * P) = 3 := by
  have e : (1000 + 3 * P - s) / P = 2 := div_uniq hP (by omega) (by omega)
  unfold rank
  rw [if_neg (by omega), e]
  rfl
theorem count_callsT (h : Mk v k) {i : Nat} (hi : i < k) : CallsT (envW (sW v k ex) k) 29 (argCn i) [] 0 (.tuple [.int .i64 3, .int .i64 0]) ⟨heapOf [], 0, 0⟩ :=
  callsT_plain (nameF nameCount) fun ρ vals w hok hv => by
    have hσ : ρ.sig = sW v k ex := hok.num.sig
    have hs := h.staR hi
    have hp := h.perR
    have h5 := h.k5
    have e : vals = args2 (sta v k i) (per v k) 1000 (1000 + 3 * per v k) := by
      cases hv with
      | cons hp hv => cases hv with
        | cons ha hv => cases hv with
          | cons hb hv =>
            cases hv
            have ha := ha.int_inv
            have hb := hb.sint_inv
            rw [hσ, w_end h] at hb
            subst ha hb
            cases hp with
            | agg g =>
              cases g with | cons c1 g => cases g with | cons c2 g => cases g with | cons c3 g => cases g with | cons c4 g => cases g with | cons c5 g => cases g with | cons c6 g => cases g with | cons c7 g => cases g with | cons c8 g => cases g with | cons c9 g => cases g with | cons c10 g => cases g with | cons c11 g => cases g with | cons c12 g => cases g with | cons c13 g => cases g with | cons c14 g =>
                cases g
                cases c1; cases c2; cases c3; cases c4; cases c5; cases c6; cases c7; cases c8; cases c9; cases c10; cases c13; cases c14
                have c11 := c11.sint_inv
                have c12 := c12.sint_inv
                rw [hσ, w_nm (by omega) (by omega)] at c11
                rw [hσ, w_nm (by decide) (by decide)] at c12
                subst c11 c12
                rfl
    subst e
    have hev : Ev2 (sta v k i) (per v k) 1000 (1000 + 3 * per v k) := ⟨by omega, by omega, by omega, by omega, by omega, by omega, by omega⟩
    refine (count_calls hev w).mono fun ed w' ⟨he, ho⟩ => ⟨_, he, ?_, ho⟩
    rw [rank3 hp.1 hs.1 hs.2, rank_before (by omega)]
    exact .tuple (.cons (.int .i64 3) (.cons (.int .i64 0) .nil))
theorem jobs_like : ∀ j, all2 (likesN j) (nameJobs j) = true
  | 0 => rfl
  | j + 1 => by
    show all2 (likesN j ++ likes) (nameJobs j ++ nameJob j) = true
    have app : ∀ (ps qs : List (SV → Bool)) (xs ys : List SV), all2 ps xs = true → all2 qs ys = true → all2 (ps ++ qs) (xs ++ ys) = true := by
      intro ps
      induction ps with
      | nil =>
        intro qs xs ys h1 h2
        cases xs with
        | nil => exact h2
        | cons x xs => simp [all2] at h1
      | cons p ps ih =>
        intro qs xs ys h1 h2
        cases xs with
        | nil => simp [all2] at h1
        | cons x xs =>
          simp only [all2, List.cons_append] at h1 ⊢
          split at h1
          · rename_i hp
            first | exact ih qs xs ys h1 h2 | (rw [hp]; exact ih qs xs ys h1 h2)
          · cases h1
    exact app _ _ _ _ (jobs_like j) rfl
theorem nameJobs_len : ∀ j, (nameJobs j).length = j * 30
  | 0 => rfl
  | j + 1 => by
    show (nameJobs j ++ nameJob j).length = _
    rw [List.length_append, nameJobs_len j]
    show j * 30 + 30 = _
    omega
theorem nameJobs_at : ∀ j i c, i < j → c < 30 → (nameJobs j).getD (i * 30 + c) .unknown = (nameJob i).getD c .unknown
  | j + 1, i, c, hi, hc => by
    show (nameJobs j ++ nameJob j).getD (i * 30 + c) .unknown = _
    rw [List.getD_eq_getElem?_getD]
    by_cases e : i = j
    · subst e
      rw [List.getElem?_append_right (by rw [nameJobs_len]; omega), nameJobs_len, show i * 30 + c - i * 30 = c by omega, List.getD_eq_getElem?_getD]
    · rw [List.getElem?_append_left (by rw [nameJobs_len]; omega), ← List.getD_eq_getElem?_getD]
      exact nameJobs_at j i c (by omega) hc
theorem load_callsT3 (h : Mk v k) {e : IE} {x y : Nat} {w : Int} (hw1 : 1 ≤ w) (hwm : w ≤ 1000000) (he : e.val (sW v k ex) = w) (hx : 100 ≤ x) (hy : 100 ≤ y) {R : LS} (hR : Goes (bare k (sta v k) (fun _ => per v k)) w (1000 + 3 * per v k) (ls0 1000) R) (hxr : ex x = R.best) (hyr : ex y = R.pos) :
    CallsT (envW (sW v k ex) k) 15 (argLd k e) (objJ k) 1 (.tuple [nv x, nv y]) ⟨heapOf (objJ k), 1, 0⟩ := by
  have hp := h.perR
  have h5 := h.k5
  refine load_callsT2 (E := envW (sW v k ex) k) (k := k) (mk := 111) (c := cfg7) (cs := nameJobs k) (we := .sint .i64 e) (fe := .int .i64 1000) (te := .sint .i64 endE) (xa := nv x) (xb := nv y) (st := sta v k) (pe := fun _ => per v k) (w := w) (fr := 1000) (b := 1000 + 3 * per v k) (least := k) rfl ⟨by omega, fun i hi => ?_, fun i hi => ?_, hw1, hwm, by omega, by omega, by omega⟩ h.k1 (jobs_like k) (fun i hi => ?_) (z := nm v k) (fun ρ hρ => ⟨fun vals hv => ?_⟩) (fun ρ u hρ hu => ?_) (fun ρ u hρ hu => ?_) (fun ρ u hρ hu => ?_) hR (fun ρ hρ => ?_) (fun ρ hρ => ?_)
  · have := h.staR hi
    exact ⟨hp.1, by omega, by omega, by omega, by omega⟩
  · have := h.staR hi
    rw [rank3 hp.1 this.1 this.2]
    exact Nat.le_refl _
  · unfold stOf peOf
    rw [nameJobs_at k i 11 hi (by decide), nameJobs_at k i 12 hi (by decide)]
    exact ⟨w_nm (ex := ex) (by omega) (by omega), w_nm (ex := ex) (by decide) (by decide)⟩
  · have hρ : ρ.sig = sW v k ex := hρ
    unfold cfg7 at hv
    cases hv with | cons c1 g => cases g with | cons c2 g => cases g with | cons c3 g => cases g with | cons c4 g => cases g with | cons c5 g => cases g with | cons c6 g => cases g with | cons c7 g =>
      cases g
      have c1 := c1.sint_inv
      have c2 := c2.sint_inv
      have c3 := c3.sint_inv
      have c4 := c4.sint_inv
      have c5 := c5.sint_inv
      have c6 := c6.sint_inv
      have c7 := c7.sint_inv
      rw [hρ, w_nm (by decide) (by decide)] at c1 c2 c3 c4 c5 c6 c7
      subst c1 c2 c3 c4 c5 c6 c7
      rfl
  · have := hu.sint_inv
    rw [hρ] at this
    rw [this]
    congr 1
  · exact hu.int_inv
  · have := hu.sint_inv
    rw [hρ] at this
    rw [this]
    have := w_end (ex := ex) h
    congr 1
  · have e1 : ρ.sig = sW v k ex := hρ
    have e2 : IE.val ρ.sig (.var x) = R.best := by rw [e1, w_ex hx, hxr]
    rw [← e2]
    exact .sint .i64 (.var x)
  · have e1 : ρ.sig = sW v k ex := hρ
    have e2 : IE.val ρ.sig (.var y) = R.pos := by rw [e1, w_ex hy, hyr]
    rw [← e2]
    exact .sint .i64 (.var y)

theorem known_lim (h : Mk v k) {K : Nat → List SV → SW → Option (SV × SW)} (hK : Known (envW (sW v k ex) k) K) : ∀ i, i ≤ k → Known (envW (sW v k ex) k) (kLim i K)
  | 0, _ => known_memo (T' := ⟨heapOf [], 0, 0⟩) (limit_callsT h rfl rfl h.zeroG) rfl rfl hK
  | i + 1, hi => known_memo (T' := ⟨heapOf [], 0, 0⟩) (limit_callsT h (bN80 (by omega) h.k5) (bN90 (by omega) h.k5) (h.zero (by omega))) rfl rfl (known_lim h hK i (by omega))
theorem known_cnt (h : Mk v k) {K : Nat → List SV → SW → Option (SV × SW)} (hK : Known (envW (sW v k ex) k) K) : ∀ i, i ≤ k → Known (envW (sW v k ex) k) (kCnt i K)
  | 0, _ => hK
  | i + 1, hi => known_memo (T' := ⟨heapOf [], 0, 0⟩) (count_callsT h (by omega)) rfl rfl (known_cnt h hK i (by omega))
end
theorem upd_jobs0 : updOk ⟨heapOf [(0, .cells (nameJobs 0) 111)], 1, 0⟩ [(0, some (.cells (nameJobs 0) 111))] = true := by kernel_rfl
theorem keep_jobs0 : keptOk ⟨heapOf (objJ 0), 1, 0⟩ [] (objJ 0) = true := by kernel_rfl
theorem upd_jobs1 : updOk ⟨heapOf [(0, .cells (nameJobs 1) 111)], 1, 0⟩ [(0, some (.cells (nameJobs 1) 111))] = true := by kernel_rfl
theorem keep_jobs1 : keptOk ⟨heapOf (objJ 1), 1, 0⟩ [] (objJ 1) = true := by kernel_rfl
theorem upd_jobs2 : updOk ⟨heapOf [(0, .cells (nameJobs 2) 111)], 1, 0⟩ [(0, some (.cells (nameJobs 2) 111))] = true := by kernel_rfl
theorem keep_jobs2 : keptOk ⟨heapOf (objJ 2), 1, 0⟩ [] (objJ 2) = true := by kernel_rfl
theorem upd_jobs3 : updOk ⟨heapOf [(0, .cells (nameJobs 3) 111)], 1, 0⟩ [(0, some (.cells (nameJobs 3) 111))] = true := by kernel_rfl
theorem keep_jobs3 : keptOk ⟨heapOf (objJ 3), 1, 0⟩ [] (objJ 3) = true := by kernel_rfl
theorem upd_jobs4 : updOk ⟨heapOf [(0, .cells (nameJobs 4) 111)], 1, 0⟩ [(0, some (.cells (nameJobs 4) 111))] = true := by kernel_rfl
theorem keep_jobs4 : keptOk ⟨heapOf (objJ 4), 1, 0⟩ [] (objJ 4) = true := by kernel_rfl
theorem upd_jobs5 : updOk ⟨heapOf [(0, .cells (nameJobs 5) 111)], 1, 0⟩ [(0, some (.cells (nameJobs 5) 111))] = true := by kernel_rfl
theorem keep_jobs5 : keptOk ⟨heapOf (objJ 5), 1, 0⟩ [] (objJ 5) = true := by kernel_rfl
theorem upd_jobs (k : Nat) (h : k ≤ 5) : updOk ⟨heapOf [(0, .cells (nameJobs k) 111)], 1, 0⟩ [(0, some (.cells (nameJobs k) 111))] = true := by
  have : k = 0 ∨ k = 1 ∨ k = 2 ∨ k = 3 ∨ k = 4 ∨ k = 5 := by omega
  rcases this with e | e | e | e | e | e <;> subst e
  · exact upd_jobs0
  · exact upd_jobs1
  · exact upd_jobs2
  · exact upd_jobs3
  · exact upd_jobs4
  · exact upd_jobs5
theorem keep_jobs (k : Nat) (h : k ≤ 5) : keptOk ⟨heapOf (objJ k), 1, 0⟩ [] (objJ k) = true := by
  have : k = 0 ∨ k = 1 ∨ k = 2 ∨ k = 3 ∨ k = 4 ∨ k = 5 := by omega
  rcases this with e | e | e | e | e | e <;> subst e
  · exact keep_jobs0
  · exact keep_jobs1
  · exact keep_jobs2
  · exact keep_jobs3
  · exact keep_jobs4
  · exact keep_jobs5
end Go.Proofs.YtoafolgibimgjaaGreatDoor

/- BoundLoads answers true, whatever the setup. -/
set_option linter.all false
set_option maxRecDepth 100000
namespace Go.Proofs.YtoafolgibimgjaaGreatDoor
open Go.RX Go.RX.Sym

def valL (v : Setup) (l : Value) : List Value := [.agg #[l, .int .u8 (v.var 0), .int .u8 (v.var 1), .int .u8 (v.var 2), .int .u8 (v.var 3), .int .u8 (v.var 4), .int .u64 (v.var 5)], .int .u8 (v.var 6), .int .u8 (v.var 7)]
theorem nameLoads : named 4 = true := by kernel_rfl
section
variable {v : Setup} {k : Nat}
theorem lw_of (h1 : 1 ≤ k) (h5 : k ≤ 5) (σ : Sig) : lwRun σ k (7 * k + 3) = true := by
  have : k = 1 ∨ k = 2 ∨ k = 3 ∨ k = 4 ∨ k = 5 := by omega
  rcases this with e | e | e | e | e <;> subst e
  · exact lw_1 σ
  · exact lw_2 σ
  · exact lw_3 σ
  · exact lw_4 σ
  · exact lw_5 σ
theorem known_L {ex : Nat → Int} (h : Mk v k) {w1 w2 : Int} (e1 : shortE.val (sW v k ex) = w1) (e2 : longE.val (sW v k ex) = w2) (g1 : 1 ≤ w1 ∧ w1 ≤ 1000000) (g2 : 1 ≤ w2 ∧ w2 ≤ 1000000) {R1 R2 : LS} (h1 : Goes (bare k (sta v k) (fun _ => per v k)) w1 (1000 + 3 * per v k) (ls0 1000) R1) (h2 : Goes (bare k (sta v k) (fun _ => per v k)) w2 (1000 + 3 * per v k) (ls0 1000) R2)
    (x1 : ex 110 = R1.best) (x2 : ex 111 = R1.pos) (x3 : ex 112 = R2.best) (x4 : ex 113 = R2.pos) : Known (envW (sW v k ex) k) (kL k) := by
  refine known_memo (T' := ⟨heapOf [(0, .cells (nameJobs k) 111)], 1, 0⟩) (made_callsT h) (upd_jobs k h.k5) rfl ?_
  refine known_memo (T' := ⟨heapOf (objJ k), 1, 0⟩) (load_callsT3 h g1.1 g1.2 e1 (by decide) (by decide) h1 x1 x2) rfl (keep_jobs k h.k5) ?_
  refine known_memo (T' := ⟨heapOf (objJ k), 1, 0⟩) (load_callsT3 h g2.1 g2.2 e2 (by decide) (by decide) h2 x3 x4) rfl (keep_jobs k h.k5) ?_
  exact known_cnt h (known_lim h (known_nothing _) k (Nat.le_refl _)) k (Nat.le_refl _)

theorem timesSV_len : ∀ j, (timesSV j).length = 3 * j
  | 0 => rfl
  | j + 1 => by rw [timesSV, List.length_append, timesSV_len j]; simp; omega
theorem timesSV_at {ex : Nat → Int} (h : Mk v k) : ∀ j, j ≤ k → ∀ i, i < 3 * j → ∃ y, (timesSV j)[i]? = some y ∧ Go.RX.valOf (sW v k ex) y = some (.int .i64 ((timesL (sta v k) (per v k) j).getD i 0))
  | 0, _, i, hi => by omega
  | j + 1, hj, i, hi => by
    have hs := h.staR (i := j) (by omega)
    have hp := h.perR
    by_cases c : i < 3 * j
    · obtain ⟨y, h1, h2⟩ := timesSV_at h j (by omega) i c
      refine ⟨y, ?_, ?_⟩
      · rw [timesSV, List.getElem?_append_left (by rw [timesSV_len]; exact c)]
        exact h1
      · rw [timesL, getD_front (by rw [times_len]; exact c)]
        exact h2
    · have t := fun m (hm : m ≤ 3) => w_t (ex := ex) h (i := j) (by omega) m hm
      have hv : ∀ m, m < 3 → ∃ y, (timesSV (j + 1))[3 * j + m]? = some y ∧ Go.RX.valOf (sW v k ex) y = some (.int .i64 (sta v k j + m * per v k)) := fun m hm => by
        refine ⟨.sint .i64 (tI j m), ?_, ?_⟩
        · rw [timesSV, List.getElem?_append_right (by rw [timesSV_len]; omega), timesSV_len, show 3 * j + m - 3 * j = m by omega]
          have : m = 0 ∨ m = 1 ∨ m = 2 := by omega
          rcases this with e | e | e <;> subst e <;> rfl
        · show some (Value.int .i64 ((tI j m).val (sW v k ex))) = _
          rw [t m (by omega)]
      have hl : ∀ m, m < 3 → (timesL (sta v k) (per v k) (j + 1)).getD (3 * j + m) 0 = sta v k j + m * per v k := fun m hm => by
        rw [timesL, List.getD_eq_getElem?_getD, List.getElem?_append_right (by rw [times_len]; omega), times_len, show 3 * j + m - 3 * j = m by omega]
        have : m = 0 ∨ m = 1 ∨ m = 2 := by omega
        rcases this with e | e | e <;> subst e
        · show sta v k j = _; omega
        · show sta v k j + per v k = _; omega
        · show sta v k j + per v k + per v k = _; omega
      obtain ⟨y, h1, h2⟩ := hv (i - 3 * j) (by omega)
      rw [show 3 * j + (i - 3 * j) = i by omega] at h1
      have h3 := hl (i - 3 * j) (by omega)
      rw [show 3 * j + (i - 3 * j) = i by omega] at h3
      exact ⟨y, h1, by rw [h3]; exact h2⟩

theorem loads_some (h : Mk v k) {W : World} (hl : v.Lie W) {cap : Nat} (hc : v.n ≤ cap) : Calls Tryz.prog 4 (valL v (.slice (some ⟨v.b, v.x, none⟩) v.n cap)).toArray W fun e w' => e = .returned (.bool true) ∧ On W w' := by
  have hp := h.perR
  have h6 := h.six
  have h7 := h.seven
  have h5 := h.k5
  have hP : ∀ i, i < (bare k (sta v k) (fun _ => per v k)).n → 1 ≤ (bare k (sta v k) (fun _ => per v k)).pe i := fun i _ => hp.1
  obtain ⟨R1, hR1⟩ := goes_ex (b := 1000 + 3 * per v k) hP (1 + v.var 6) _ (ls0 1000) (Nat.le_refl _)
  obtain ⟨R2, hR2⟩ := goes_ex (b := 1000 + 3 * per v k) hP (1 + v.var 6 + v.var 7) _ (ls0 1000) (Nat.le_refl _)
  have hb0 : (ls0 1000).t ≤ 1000 + 3 * per v k := by show (1000 : Int) - 1 ≤ _; omega
  have hA1 := goes_all hP (by omega) hR1 (inv0 hP _) hb0
  have hA2 := goes_all hP (by omega) hR2 (inv0 hP _) hb0
  have hle : R1.best ≤ R2.best := all_best (by omega) hA1 hA2
  let ex : Nat → Int := fun i => match i with | 110 => R1.best | 111 => R1.pos | 112 => R2.best | 113 => R2.pos | _ => 0
  have e1 : shortE.val (sW v k ex) = 1 + v.var 6 := by
    show opVal .add .i64 1 (IntKind.i64.wrap (IE.val (sW v k ex) (.var 6))) = _
    rw [w_low (by decide), Fits.wrap ⟨by omega, by omega⟩, add_op ⟨by omega, by omega⟩]
  have e2 : longE.val (sW v k ex) = 1 + v.var 6 + v.var 7 := by
    show opVal .add .i64 (shortE.val (sW v k ex)) (IntKind.i64.wrap (IE.val (sW v k ex) (.var 7))) = _
    rw [e1, w_low (by decide), Fits.wrap ⟨by omega, by omega⟩, add_op ⟨by omega, by omega⟩]
  have hK := known_L (ex := ex) h e1 e2 ⟨by omega, by omega⟩ ⟨by omega, by omega⟩ hR1 hR2 rfl rfl rfl rfl
  have hn : NumOk (envW (sW v k ex) k) := w_num h hle
  have low : ∀ (t : IntKind) {i : Nat}, i < 20 → VRel (.nil (sW v k ex)) (.sint t (.var i)) (.int t (v.var i)) := fun t i hi => by
    have := VRel.sint (ρ := .nil (sW v k ex)) t (.var i)
    rw [show IE.val (Ren.nil (sW v k ex)).sig (.var i) = v.var i from w_low hi] at this
    exact this
  have hargs : VRels (.nil (sW v k ex)) argsLw (valL v (.slice (some ⟨v.b, v.x, none⟩) v.n cap)) :=
    .cons (.agg (.cons (.row (sz := 6) rfl hc) (.cons (low .u8 (i := 0) (by decide)) (.cons (low .u8 (i := 1) (by decide)) (.cons (low .u8 (i := 2) (by decide)) (.cons (low .u8 (i := 3) (by decide)) (.cons (low .u8 (i := 4) (by decide)) (.cons (low .u64 (i := 5) (by decide)) .nil)))))))) (.cons (low .u8 (i := 6) (by decide)) (.cons (low .u8 (i := 7) (by decide)) .nil))
  have hrun := lw_of h.k1 h5 (sW v k ex)
  unfold lwRun at hrun
  refine tmpl_begin (E := envW (sW v k ex) k) Tryz.func4 lw_body lwSl hargs (by rw [lw_n]; decide) fun a hA => ?_
  rw [lw_n] at hA
  refine tmpl_chain 10 (d := 40) hK hn hrun hA (w_lies hl) fun a1 w1 hA1' => ?_
  clear hrun hK
  show (rest 10 lwBody).wpIn _ _ _ _ a1 w1
  rw [lw_rest]
  have hA1' : AtT (sW v k ex) 147 lwSl (frN lwSl (endFr k (7 * k + 3))) [(7 * k + 3, .cells (timesSV k) 7)] 300 W a1 w1 := hA1'
  have hlen : (timesL (sta v k) (per v k) k).length = 3 * k := times_len k
  have h2 : AtT (sigT (fT R1.best R1.pos (1 + v.var 6) 0 0 0 0 0 0) (timesL (sta v k) (per v k) k)) 147 lwSl (frN lwSl (hdB (.int .i64 0) (.int .i64 0))) objT 1 W a1 w1 := by
    refine seeT hA1' [(0, 7 * k + 3)] (by simp) (fun q hq => by simp only [List.mem_cons, List.mem_nil_iff, or_false] at hq; subst hq; show 0 < 1; decide) ?_ ?_
    · refine acons (.first (a' := 2) (z := 1) rfl (by have := h.k1; omega) (b' := 0) (x' := 0) (by show ((0, 0, 1, (timesL (sta v k) (per v k) k).length) : Nat × Nat × Nat × Nat) = _; rw [hlen]) (by omega)) (acons (.num e1.symm) (acons (.num ?_) (acons (.num ?_) (acons (.lit rfl) (acons (.lit rfl) anil)))))
      · exact (w_ex (ex := ex) (i := 110) (by decide)).symm
      · exact (w_ex (ex := ex) (i := 111) (by decide)).symm
    · refine acons ⟨by decide, 7 * k + 3, _, rfl, Go.RX.heapOf_of (by simp) (nth_mem 0 rfl), .first (a' := 2) (z := 1) (n := 3 * k) (b' := 0) (x' := 0) (by show ((0, 0, 1, (timesL (sta v k) (per v k) k).length) : Nat × Nat × Nat × Nat) = _; rw [hlen]) (by rw [timesSV_len]; omega) (by decide) fun i c hi hcc => ?_⟩ anil
      obtain ⟨y, q1, q2⟩ := timesSV_at (ex := ex) h k (Nat.le_refl _) i hi
      exact ⟨y, by rw [show i * 1 + c = i by omega]; exact q1, q2⟩
  generalize hL : timesL (sta v k) (per v k) k = L at h2 hlen
  have hL6 : L.length ≤ 1000000 := by omega
  have hbr : brute L (1 + v.var 6) L.length = (R1.best, R1.pos) := by
    refine brute_best (by omega) (fun x => ?_) hA1.best
    rw [hA1.count x, ← hL]
    exact times_count hp.1 (n := k) (fun i hi => h.staR hi) x k (Nat.le_refl _)
  have hfit : ∀ i, i < L.length → Fits (L.getD i 0 + (1 + v.var 6)) := fun i hi => by
    have hm := getD_mem hi
    rw [← hL] at hm ⊢
    obtain ⟨j, hj, hx⟩ := times_mem k hm
    have := h.staR hj
    rw [hL] at hx ⊢
    exact ⟨by omega, by omega⟩
  clear hA1' hn hargs
  refine wpIn_seq (tmpl_chain 1 (E := envT (sigT (fT R1.best R1.pos (1 + v.var 6) 0 0 0 0 0 0) L) []) (d := 5) (known_nothing _) (numT hnil) (o_begin _) h2 (liesT _ _ _) fun a3 w3 h3 => ?_)
  show (rest 1 lwL).wpIn _ _ _ _ a3 w3
  rw [lw_blk]
  have h4 : OutAt L R1.best R1.pos (1 + v.var 6) W 0 0 0 a3 w3 := out_see hL6 h3 rfl rfl rfl (fun R => .int rfl) (fun R => .int rfl) (fun R => .int rfl)
  refine out_loop hL6 hfit h4 fun a5 w5 h5' => ?_
  show lwZ.wpIn _ _ _ _ a5 w5
  rw [hbr] at h5'
  have hkw : Known (envT (sT L R1.best R1.pos (1 + v.var 6) R1.best R1.pos 0 0 0 0) [fe (.var 110) (.var 120) true, fe (.var 111) (.var 121) true]) kW :=
    known_memo (T' := ⟨heapOf [], 0, 0⟩) (callsT_plain (nameF nameW) fun ρ vals w hok hv => by
      cases hv
      exact (works_calls w).mono fun e w' ⟨he, ho⟩ => ⟨_, he, .bool true, ho⟩) rfl rfl (known_nothing _)
  refine tmpl_step (d := 5) hkw (numT (hcons (holds_eq (yes rfl)) (hcons (holds_eq (yes rfl)) hnil))) (z_end _) h5' (liesT _ _ _) fun a6 w6 h6' => ?_
  refine tmpl_leaves (E := envT (sT L R1.best R1.pos (1 + v.var 6) R1.best R1.pos 0 0 0 0) []) (numT hnil) (z_left _) h6' (liesT _ _ _) fun u w' hlf => ?_
  obtain ⟨on, ρ, -, hx, -⟩ := hlf
  cases hx
  exact ⟨rfl, on⟩
end
end Go.Proofs.YtoafolgibimgjaaGreatDoor

/- BoundLoads with no jobs. -/
set_option linter.all false
set_option maxRecDepth 100000
namespace Go.Proofs.YtoafolgibimgjaaGreatDoor
open Go.RX Go.RX.Sym

def argL0 (l : SV) : List SV := [.agg (l :: tail), .sint .u8 (.var 6), .sint .u8 (.var 7)]
theorem ld_run0 (σ : Sig) : isBool true ((semK (envN σ) (knowG (bounds 0 0 0)) 40).call 4 (argL0 .nilslice) ⟨.nil, 0, 0⟩) = true := by kernel_rfl
theorem ld_run00 (σ : Sig) : isBool true ((semK (envG σ 0 0 0) (knowG (bounds 0 0 0)) 40).call 4 (argL0 (.row 0)) ⟨.nil, 0, 0⟩) = true := by kernel_rfl
theorem argL_rel {v : Setup} {l : SV} {u : Value} (h : VRel (.nil (sigG v)) l u) : VRels (.nil (sigG v)) (argL0 l) (valL v u) :=
  .cons (.agg (.cons h (.cons (.sint .u8 (.var 0)) (.cons (.sint .u8 (.var 1)) (.cons (.sint .u8 (.var 2)) (.cons (.sint .u8 (.var 3)) (.cons (.sint .u8 (.var 4)) (.cons (.sint .u64 (.var 5)) .nil)))))))) (.cons (.sint .u8 (.var 6)) (.cons (.sint .u8 (.var 7)) .nil))
theorem loads_nil {v : Setup} (hv : v.Small) (h0 : v.n = 0) (W : World) : Calls Tryz.prog 4 (valL v (.slice none 0 0)).toArray W fun e w' => e = .returned (.bool true) ∧ On W w' := by
  obtain ⟨S', hr⟩ := isBool_some (ld_run0 (sigG v))
  have hB : Based (sigG v) (bounds 0 0 0) := based_G hv (by omega) (by omega) (by simp [h0])
  exact run_bool (E := envN (sigG v)) (K := knowG (bounds 0 0 0)) (d := 40) (known_G (E := envN (sigG v)) rfl hB rfl) hr (argL_rel .nilslice) (ord_num rfl rfl hB (fun f h => by cases h) (fun _ _ h => by cases h)) (lies_none rfl rfl)
theorem loads_zero {v : Setup} (hv : v.Small) (h0 : v.n = 0) {W : World} (hl : v.Lie W) {cap : Nat} : Calls Tryz.prog 4 (valL v (.slice (some ⟨v.b, v.x, none⟩) v.n cap)).toArray W fun e w' => e = .returned (.bool true) ∧ On W w' := by
  obtain ⟨S', hr⟩ := isBool_some (ld_run00 (sigG v))
  have e : ((min v.n 5 : Nat) : Int) = 0 := by rw [h0]; rfl
  have hB : Based (sigG v) (bounds 0 0 0) := based_G hv (by omega) (by omega) e
  exact run_bool (E := envG (sigG v) 0 0 0) (K := knowG (bounds 0 0 0)) (d := 40) (known_G (E := envG (sigG v) 0 0 0) rfl hB rfl) hr (argL_rel (.row (sz := 6) rfl (by omega))) (num_G hv (by omega) (by omega) e) (lies_G hl 0 0 0)
/-- Whatever the setup. -/
theorem loads_calls {v : Setup} (hv : v.Small) (h6 : 0 ≤ v.var 6 ∧ v.var 6 ≤ 255) (h7 : 0 ≤ v.var 7 ∧ v.var 7 ≤ 255) {W : World} (hl : v.Lie W) {cap : Nat} (hc : v.n ≤ cap) : Calls Tryz.prog 4 (valL v (.slice (some ⟨v.b, v.x, none⟩) v.n cap)).toArray W fun e w' => e = .returned (.bool true) ∧ On W w' := by
  by_cases h0 : v.n = 0
  · exact loads_zero hv h0 hl
  · exact loads_some (k := min v.n 5) ⟨hv, h6, h7, by omega, by omega, rfl⟩ hl hc
end Go.Proofs.YtoafolgibimgjaaGreatDoor
