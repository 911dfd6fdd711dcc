/- What both functions Late answer: the loops by hand, each round by the evaluator. -/
import Derived.Test.YtnlgajlmjkfecaaGreatDoorCa
import Derived.Test.YtnlgajlmjkfecaaGreatDoorCb
import Derived.Test.YtnlgajlmjkfecaaGreatDoorRxLoops
import Derived.KernelRfl
set_option linter.all false
namespace Go.Proofs.YtnlgajlmjkfecaaGreatDoor
open Go.RX
open Go.RX.Sym

def evL : List Int → Int
  | [a, b, c, d, e, f, g, h] => evSpec a b c d e f g h
  | _ => 0

/-- Events in memory: block, first place, how many, their numbers. -/
structure Evs where
  b : Nat
  x : Nat
  n : Nat
  ev : Nat → Nat → Int

structure Evs.Fits (v : Evs) (W : World) : Prop where
  run : ∀ i, v.ev i 5 ≤ 9223372036854775807
  few : v.n ≤ 9223372036854775807
  lies : ∃ (arr : Array Value) (el : TypeId) (fz : Nat × Nat), W.heap[v.b]? = some (.cells arr el fz) ∧ ∀ i c, i < v.n → c < 8 → arr[v.x + i * 8 + c]? = some (.int .i64 (v.ev i c))

theorem Evs.Fits.on {v : Evs} {W W' : World} (h : v.Fits W) (o : On W W') : v.Fits W' := ⟨h.run, h.few, by
  obtain ⟨arr, el, fz, h1, h2⟩ := h.lies
  exact ⟨arr, el, fz, by rw [o.old v.b (Array.getElem?_eq_some_iff.1 h1).1]; exact h1, h2⟩⟩

def sigE (v : Evs) (i : Nat) (late : Int) : Sig :=
  { var := fun k => match k with | 0 => (i : Int) | 1 => late | _ => 0
    fn := fun _ => evL
    row := fun _ => (v.b, v.x, 8, v.n)
    cell := fun _ i c => .int .i64 (v.ev i c) }
def evKinds : List (Option IntKind) := [some .i64, some .i64, some .i64, some .i64, some .i64, some .i64, some .i64, some .i64]
noncomputable def envE (σ : Sig) (F : List Fact) : Env := { P := Tryz.prog, G := fun _ => none, rows := fun a => match a with | 0 => some evKinds | _ + 1 => none, lt := factLt F, eq := factEq F, sig := σ }

def evIE : List IE := [.sel 0 (.var 0) 0, .sel 0 (.var 0) 1, .sel 0 (.var 0) 2, .sel 0 (.var 0) 3, .sel 0 (.var 0) 4, .sel 0 (.var 0) 5, .sel 0 (.var 0) 6, .sel 0 (.var 0) 7]
def KE1 : List SV → Option SV
  | [.agg l] => (match iesOf l with | some es => (match IE.sames es evIE with | true => some (.sint .i64 (.fn 0 evIE)) | false => none) | none => none)
  | _ => none
def KE (f : Nat) (args : List SV) : Option SV := match Nat.beq f 52, Nat.beq f 53 with
  | false, false => none
  | _, _ => KE1 args

theorem KE_some {f : Nat} {args : List SV} {x : SV} (h : KE f args = some x) : (f = 52 ∨ f = 53) ∧ KE1 args = some x := by
  unfold KE at h
  split at h
  · cases h
  · rename_i hne
    refine ⟨?_, h⟩
    cases h1 : Nat.beq f 52 with
    | true => exact .inl (Nat.eq_of_beq_eq_true h1)
    | false =>
      cases h2 : Nat.beq f 53 with
      | true => exact .inr (Nat.eq_of_beq_eq_true h2)
      | false => exact absurd h2 (hne h1)
theorem KE1_some {args : List SV} {x : SV} (h : KE1 args = some x) : ∃ l, args = [.agg l] ∧ iesOf l = some evIE ∧ x = .sint .i64 (.fn 0 evIE) := by
  unfold KE1 at h
  split at h
  · rename_i l
    split at h
    · rename_i es hes
      split at h
      · rename_i hs
        have := IE.sames_eq hs
        subst this
        simp only [Option.some.injEq] at h
        exact ⟨l, rfl, hes, h.symm⟩
      · cases h
    · cases h
  · cases h

def evSig (v : Evs) (i : Nat) : Sig := ⟨fun k => v.ev i k, fun _ _ => 0, fun _ => (0, 0, 0, 0), fun _ _ _ => .bool false⟩
def errAt (v : Evs) (i : Nat) : Int := evSpec (v.ev i 0) (v.ev i 1) (v.ev i 2) (v.ev i 3) (v.ev i 4) (v.ev i 5) (v.ev i 6) (v.ev i 7)

noncomputable def named (f : Nat) : Bool := match compFn (envE (evSig ⟨0, 0, 0, fun _ _ => 0⟩ 0) []) f with | some _ => true | none => false
theorem name52 : named 52 = true := by kernel_rfl
theorem name53 : named 53 = true := by kernel_rfl
theorem nameF {f : Nat} (hf : named f = true) (vals : Array Value) (w : World) : (callFunc f vals).run Tryz.prog w = .ok (.enter f vals) w := by
  unfold named at hf
  split at hf
  · rename_i g hc
    obtain ⟨g⟩ := g
    exact compFn_name hc vals w
  · cases hf

theorem known_KE {v : Evs} {i : Nat} {late : Int} {F : List Fact} (h5 : ∀ i, v.ev i 5 ≤ 9223372036854775807) : Known (envE (sigE v i late) F) KE where
  name f args x h vals w := by
    rcases (KE_some h).1 with rfl | rfl
    · exact nameF name52 vals w
    · exact nameF name53 vals w
  call f args x h ρ S vals w hok hv := by
    obtain ⟨hf, h⟩ := KE_some h
    obtain ⟨l, rfl, hl, rfl⟩ := KE1_some h
    cases hv with
    | cons h1 h2 =>
      cases h2
      cases h1 with
      | agg hus =>
        rename_i us
        have hsig : ρ.sig = sigE v i late := hok.num.sig
        have hus := iesOf_rel hl hus
        rw [hsig] at hus
        have e1 : (Value.agg us.toArray) = evVal (evSig v i) ((evSig v i).var 0) := by
          rw [hus]
          simp [evIE, IE.val, sigE, evVal, evSig]
        have e2 : errAt v i = (IE.fn 0 evIE).val ρ.sig := by
          rw [hsig]
          simp [evIE, IE.val, IE.vals, sigE, evL, errAt]
        have key : Calls Tryz.prog f #[evVal (evSig v i) ((evSig v i).var 0)] w fun e w' => e = .returned (.int .i64 (errAt v i)) ∧ On w w' := by
          rcases hf with rfl | rfl
          · exact ca (evSig v i) (h5 i) w
          · exact cb (evSig v i) (h5 i) w
        rw [← e1] at key
        refine callsIn_wide.1 (CallsIn.mono (callsIn_wide.2 key) (n := 0) ?_)
        rintro e w' ⟨rfl, o⟩
        exact ⟨_, ρ, rfl, ext_on hok.wrel hok.tidy o, by rw [e2]; exact .sint .i64 _⟩

theorem num_E {v : Evs} {i : Nat} {late : Int} {F : List Fact} (hF : ∀ f ∈ F, f.holds (sigE v i late)) : NumOk (envE (sigE v i late) F) := fact_num rfl rfl hF fun a ks h => by
  cases a with
  | zero => simp only [envE, Option.some.injEq] at h; subst h; rfl
  | succ a => simp [envE] at h

theorem lies_E {v : Evs} {i : Nat} {late : Int} {F : List Fact} {W : World} (h : v.Fits W) : Lies (envE (sigE v i late) F) W where
  cells g cs hg := by simp [envE] at hg
  rows a ks ha := by
    cases a with
    | succ a => simp [envE] at ha
    | zero =>
      simp only [envE, Option.some.injEq] at ha
      subst ha
      obtain ⟨arr, el, fz, h1, h2⟩ := h.lies
      refine ⟨v.b, v.x, v.n, arr, el, fz, rfl, h1, fun i c k hi hc => ?_⟩
      have hc8 : c < 8 := (List.getElem?_eq_some_iff.1 hc).1
      refine ⟨h2 i c hi hc8, ?_⟩
      have : k = some .i64 := by
        have : ∀ c < 8, evKinds[c]? = some (some .i64) := by decide
        rw [this c hc8] at hc
        simpa using hc.symm
      subst this
      exact ⟨_, rfl⟩

/-- A piece of code. -/
noncomputable def pc (fn : Func) (p : List Bool) : Code := go (fn.body.getD .skip) p
where go : Code → List Bool → Code
  | c, [] => c
  | c, false :: p => (match c with | .seq a _ => go a p | .block _ b => go b p | .loop b => go b p | c => c)
  | c, true :: p => (match c with | .seq _ b => go b p | c => c)

theorem piece {v : Evs} {i : Nat} {late : Int} {F : List Fact} {n m how : Nat} {sl : List Nat} {c : Code} {l0 l1 : List (Nat × Option IE)} {a : Act} {W : World} (hv : v.Fits W) (hF : ∀ f ∈ F, f.holds (sigE v i late))
    (h : outOk how sl l1 (runCode (envE (sigE v i late) F) KE 20 n sl c (bare (frIn sl l0))) = true) (hs : a.tmps.size = n) (hd : a.defers = []) (h0 : Slotted (sigE v i late) l0 a) {Q : Exit → Act → World → Prop}
    (hQ : ∀ a' w', On W w' → Slotted (sigE v i late) l1 a' → a'.tmps.size = n → a'.defers = [] → Q (howOf how) a' w') : c.wpIn Fence.wide m Tryz.prog Q a W :=
  piece_step (E := envE (sigE v i late) F) (known_KE hv.run) (num_E hF) h hs hd h0 (lies_E hv) hQ

def maxIE : IE := .max (.var 1) (.bin .sub .i64 (.sel 0 (.var 0) 1) (.sel 0 (.var 0) 3))
def incIE : IE := .bin .add .i64 (.var 0) (.lit 1)
noncomputable def stepLate (v : Evs) (i : Nat) (late : Int) : Int := if v.ev i 0 = 1 then (if v.ev i 4 = 1 then maxIE.val (sigE v i late) else late) else late
noncomputable def walkE (v : Evs) : Nat → Nat → Int → Int × Int
  | 0, _, late => (late, 0)
  | k + 1, i, late => if errAt v i = 0 then walkE v k (i + 1) (stepLate v i late) else (0, errAt v i)

theorem inc_val {v : Evs} {i : Nat} {late : Int} (h : i + 1 ≤ 9223372036854775807) : incIE.val (sigE v i late) = ((i + 1 : Nat) : Int) := by
  simp only [incIE, IE.val, sigE]
  rw [add_small (by omega) (by omega)]
  simp
theorem fn_val {v : Evs} {i : Nat} {late : Int} : IE.val (sigE v i late) (.fn 0 evIE) = errAt v i := by simp [evIE, IE.val, IE.vals, sigE, evL, errAt]

/-! ### The first of them -/
def sl23 : List Nat := [26, 17, 11, 10, 9, 8, 7, 6, 4, 3, 2, 0]
def h23 : List (Nat × Option IE) := [(10, some (.var 0)), (9, some (.len 0)), (8, none), (4, some (.var 1)), (0, none)]
def n23 (late : IE) : List (Nat × Option IE) := [(10, some incIE), (9, some (.len 0)), (8, none), (4, some late), (0, none)]
noncomputable def L23 : Code := pc Tryz.f23 [true, true, false, true, false, false]
theorem body23 : Tryz.f23.body = some (.seq (pc Tryz.f23 [false]) (.seq (pc Tryz.f23 [true, false]) (.seq (.seq (pc Tryz.f23 [true, true, false, false]) (.block 0 (.loop L23))) (pc Tryz.f23 [true, true, true])))) := by kernel_rfl

theorem r23_a (σ : Sig) : outOk 0 sl23 [(0, none)] (runCode (envE σ []) KE 20 36 sl23 (pc Tryz.f23 [false]) (bare (frIn sl23 [(0, none)]))) = true := by kernel_rfl
theorem r23_b (σ : Sig) : outOk 0 sl23 [(0, none), (4, some (.lit 0))] (runCode (envE σ []) KE 20 36 sl23 (pc Tryz.f23 [true, false]) (bare (frIn sl23 [(0, none)]))) = true := by kernel_rfl
theorem r23_c (σ : Sig) : outOk 0 sl23 [(10, some (.lit 0)), (9, some (.len 0)), (8, none), (4, some (.lit 0)), (0, none)] (runCode (envE σ []) KE 20 36 sl23 (pc Tryz.f23 [true, true, false, false]) (bare (frIn sl23 [(0, none), (4, some (.lit 0))]))) = true := by kernel_rfl
theorem r23_z (σ : Sig) : outOk 1 sl23 [(2, some (.var 1)), (3, some (.lit 0))] (runCode (envE σ []) KE 20 36 sl23 (pc Tryz.f23 [true, true, true]) (bare (frIn sl23 [(4, some (.var 1))]))) = true := by kernel_rfl
theorem r23_0 (σ : Sig) : outOk 2 sl23 [(4, some (.var 1))] (runCode (envE σ [⟨true, .var 0, .len 0, false⟩]) KE 20 36 sl23 L23 (bare (frIn sl23 h23))) = true := by kernel_rfl
theorem r23_1 (σ : Sig) : outOk 1 sl23 [(2, some (.lit 0)), (3, some (.fn 0 evIE))] (runCode (envE σ [⟨true, .var 0, .len 0, true⟩, ⟨true, .var 0, .lit 0, false⟩, ⟨false, .fn 0 evIE, .lit 0, false⟩]) KE 20 36 sl23 L23 (bare (frIn sl23 h23))) = true := by kernel_rfl
theorem r23_2 (σ : Sig) : outOk 0 sl23 (n23 maxIE) (runCode (envE σ [⟨true, .var 0, .len 0, true⟩, ⟨true, .var 0, .lit 0, false⟩, ⟨false, .fn 0 evIE, .lit 0, true⟩, ⟨false, .sel 0 (.var 0) 0, .lit 1, true⟩, ⟨false, .sel 0 (.var 0) 4, .lit 1, true⟩]) KE 20 36 sl23 L23 (bare (frIn sl23 h23))) = true := by kernel_rfl
theorem r23_3 (σ : Sig) : outOk 0 sl23 (n23 (.var 1)) (runCode (envE σ [⟨true, .var 0, .len 0, true⟩, ⟨true, .var 0, .lit 0, false⟩, ⟨false, .fn 0 evIE, .lit 0, true⟩, ⟨false, .sel 0 (.var 0) 0, .lit 1, true⟩, ⟨false, .sel 0 (.var 0) 4, .lit 1, false⟩]) KE 20 36 sl23 L23 (bare (frIn sl23 h23))) = true := by kernel_rfl
theorem r23_4 (σ : Sig) : outOk 0 sl23 (n23 (.var 1)) (runCode (envE σ [⟨true, .var 0, .len 0, true⟩, ⟨true, .var 0, .lit 0, false⟩, ⟨false, .fn 0 evIE, .lit 0, true⟩, ⟨false, .sel 0 (.var 0) 0, .lit 1, false⟩]) KE 20 36 sl23 L23 (bare (frIn sl23 h23))) = true := by kernel_rfl
theorem p23_0 (σ : Sig) : isPair (.lit 0) (.fn 0 evIE) (resRun (envE σ []) sl23 Tryz.f23.results.toList (frIn sl23 [(2, some (.lit 0)), (3, some (.fn 0 evIE))])) = true := by kernel_rfl
theorem p23_1 (σ : Sig) : isPair (.var 1) (.lit 0) (resRun (envE σ []) sl23 Tryz.f23.results.toList (frIn sl23 [(2, some (.var 1)), (3, some (.lit 0))])) = true := by kernel_rfl
end Go.Proofs.YtnlgajlmjkfecaaGreatDoor
