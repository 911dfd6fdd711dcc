/- The chapter's examples hold, in any world where the tables lie. -/
import Derived.Test.YtcbkglclienegaaGreatDoorJF
import Derived.Test.YtcbkglclienegaaGreatDoorJG
import Derived.Test.YtcbkglclienegaaGreatDoorJC
import Derived.Test.YtcbkglclienegaaGreatDoorJE
set_option linter.all false
namespace Go.Proofs.YtcbkglclienegaaGreatDoor
open Go.RX Go.RX.Sym
theorem over1 : OverOk Tryz.prog 447 := over_ok (tS := 157) (tR := 4) (e := 181) Tryz.func447 (by kernel_rfl) (by kernel_rfl) (by kernel_rfl) (by kernel_rfl) (by kernel_rfl) (fun w => sizeOf_run (E := env sig0) (n := 4) (by kernel_rfl) w)
theorem over2 : OverOk Tryz.prog 449 := over_ok (tS := 134) (tR := 4) (e := 3) Tryz.func449 (by kernel_rfl) (by kernel_rfl) (by kernel_rfl) (by kernel_rfl) (by kernel_rfl) (fun w => sizeOf_run (E := env sig0) (n := 1) (by kernel_rfl) w)
theorem idxW : IdxOk Tryz.prog 429 := idx_ok Tryz.func429 (by kernel_rfl) (by kernel_rfl) (by kernel_rfl) (by kernel_rfl)
theorem numW (σ : Sig) : NumOk (env σ) := num_nothing rfl rfl rfl rfl (fun f h => by
  simp only [env, List.mem_cons, List.mem_nil_iff, or_false] at h
  rcases h with rfl | rfl
  · exact over1
  · exact over2) (fun f h => by
  simp only [env, List.mem_cons, List.mem_nil_iff, or_false] at h
  subst h
  exact idxW)
theorem both0 (σ : Sig) : CalleeMono (insC σ) ∧ CalleeSound (env σ) (insC σ) := semK_both (known_nothing (env σ)) 4
theorem knows1 (σ : Sig) : Known (env σ) (know1 σ) := known_ins (both0 σ).2 (both0 σ).1 _ (known_nothing (env σ))
theorem both1 (σ : Sig) : CalleeMono (dfrC σ) ∧ CalleeSound (env σ) (dfrC σ) := semK_both (knows1 σ) 20
theorem knows2 (σ : Sig) : Known (env σ) (know2 σ) := known_dfr (both1 σ).2 (both1 σ).1 _ (knows1 σ)
theorem both2 (σ : Sig) : CalleeMono (pickC σ) ∧ CalleeSound (env σ) (pickC σ) := semK_both (known_nothing (env σ)) 20
theorem knows3 (σ : Sig) : Known (env σ) (know3 σ) := by
  obtain ⟨h1, h2⟩ := pickRun_calls (both2 σ).2 (both2 σ).1 (numW σ) (tick_run σ)
  exact known_pure rfl rfl h1 h2 (knows2 σ)
theorem knows (σ : Sig) : Known (env σ) (know σ) := by
  obtain ⟨h1, h2⟩ := pickRun_calls (both2 σ).2 (both2 σ).1 (numW σ) (finish_run σ)
  exact known_pure rfl rfl h1 h2 (knows3 σ)
theorem works_name (vals : Array Value) (w : World) : (callFunc 11 vals).run Tryz.prog w = .ok (.enter 11 vals) w := by kernel_rfl
theorem works_calls (w : World) (h : Tabs w) : Calls Tryz.prog 11 #[] w fun e w' => e = .returned (.bool true) ∧ On w w' := by
  obtain ⟨S', hr⟩ := isBool_some (works_run sig0)
  exact run_bool (E := env sig0) (knows sig0) hr .nil (numW sig0) (h sig0)
end Go.Proofs.YtcbkglclienegaaGreatDoor

/- The rest of the law: a record behind the bytes, read; the bytes, read; what was read compared. -/
set_option linter.all false
set_option maxRecDepth 100000
namespace Go.Proofs.YtcbkglclienegaaGreatDoor
open Go.RX Go.RX.Sym

/-! ### The operations that are met by hand -/
noncomputable def elB : TypeId := match Tryz.prog.underlying 41 with | some (.slice e) => e | _ => 0
theorem t41 : Tryz.prog.underlying 41 = some (.slice elB) := by kernel_rfl
noncomputable def byteInfo : Bool := match Tryz.prog.info? elB with
  | some i => i.size == 1 && i.bytes == 1 && (match i.zero with | some z => z.cells.size == 1 | none => false)
  | none => false
theorem byteInfo_ok : byteInfo = true := by kernel_rfl
theorem byte_info : ∃ i z, Tryz.prog.info? elB = some i ∧ i.zero = some z ∧ i.size = 1 ∧ i.bytes = 1 ∧ z.cells.size = 1 := by
  have h := byteInfo_ok
  unfold byteInfo at h
  split at h
  · rename_i i hi
    simp only [Bool.and_eq_true, beq_iff_eq] at h
    obtain ⟨⟨h1, h2⟩, h3⟩ := h
    split at h3
    · rename_i z hz
      exact ⟨i, z, hi, hz, h1, h2, by simpa using h3⟩
    · cases h3
  · cases h
def isAppend (o : Option Oper) (x y d : Nat) : Bool := match o with
  | some o => (match o.op with
    | .call c => (match c.callee, c.args.toList with
      | .builtin .append, [.tmp a, .tmp b] => a == x && b == y && c.argTypes.toList == [41, 41] && o.guard.isNone && o.dst == some d
      | _, _ => false)
    | _ => false)
  | none => false
theorem isAppend_some {o : Option Oper} {x y d : Nat} (h : isAppend o x y d = true) : ∃ o' c, o = some o' ∧ o'.op = .call c ∧ c.callee = .builtin .append ∧ c.args.toList = [.tmp x, .tmp y] ∧ c.argTypes.toList = [41, 41] ∧ o'.guard = none ∧ o'.dst = some d := by
  unfold isAppend at h
  split at h
  · rename_i o'
    split at h
    · rename_i c hc
      split at h
      · rename_i a b h1 h2
        simp only [Bool.and_eq_true, beq_iff_eq, Option.isNone_iff_eq_none] at h
        obtain ⟨⟨⟨⟨rfl, rfl⟩, h3⟩, h4⟩, h5⟩ := h
        exact ⟨o', c, rfl, hc, h1, h2, h3, h4, h5⟩
      · cases h
    · cases h
  · cases h
def isCall (o : Option Oper) (f x d : Nat) : Bool := match o with
  | some o => (match o.op with
    | .call c => (match c.callee, c.args.toList with
      | .value (.func g), [.tmp a] => g == f && a == x && o.guard.isNone && o.dst == some d
      | _, _ => false)
    | _ => false)
  | none => false
theorem isCall_some {o : Option Oper} {f x d : Nat} (h : isCall o f x d = true) : ∃ o' c, o = some o' ∧ o'.op = .call c ∧ c.callee = .value (.func f) ∧ c.args.toList = [.tmp x] ∧ o'.guard = none ∧ o'.dst = some d := by
  unfold isCall at h
  split at h
  · rename_i o'
    split at h
    · rename_i c hc
      split at h
      · rename_i g a h1 h2
        simp only [Bool.and_eq_true, beq_iff_eq, Option.isNone_iff_eq_none] at h
        obtain ⟨⟨⟨rfl, rfl⟩, h4⟩, h5⟩ := h
        exact ⟨o', c, rfl, hc, h1, h2, h4, h5⟩
      · cases h
    · cases h
  · cases h
noncomputable def regNo : Code → Nat | .region i _ _ => i | _ => 0
noncomputable def nthC : List Code → Nat → Code | [], _ => .skip | c :: _, 0 => c | _ :: l, n + 1 => nthC l n
noncomputable def O17 : Array Oper := opsOf (nthC (flatC bd3) 13)
noncomputable def O18 : Array Oper := opsOf (nthC (flatC bd3) 14)
noncomputable def R19 : Code := nthC (flatC bd3) 15
theorem tl3 : (flatC bd3).drop 13 = [.region (regNo (nthC (flatC bd3) 13)) O17 false, .region (regNo (nthC (flatC bd3) 14)) O18 false, R19, .ret] := by kernel_rfl
theorem O17_size : O17.size = 15 := by kernel_rfl
theorem O18_size : O18.size = 7 := by kernel_rfl
theorem app17 : isAppend O17[6]? 68 73 74 = true := by kernel_rfl
theorem call17 : isCall O17[7]? 9 74 75 = true := by kernel_rfl
theorem call18 : isCall O18[1]? 10 80 81 = true := by kernel_rfl
theorem res3 : Tryz.f3.results.toList = [.tmp 0] := by kernel_rfl

/-! ### What is known there -/
/-- Where things lie: the bytes, the journal, the operations. -/
structure Wh where
  b : Nat
  x : Nat
  jb : Nat
  jx : Nat
  ob : Nat
  ox : Nat
def sigT (q : Wh) : Sig where
  var _ := 0
  fn _ _ := 0
  row k := match k with | 0 => (q.b, q.x, 1, total 10000) | 1 => (q.b, q.x + 150071, 1, 15) | 3 => (q.jb, q.jx, 3, 1) | 4 => (q.ob, q.ox, 6, 10000) | _ => (0, 0, 0, 0)
  cell k i c := match k with | 0 => .int .u8 (cont i) | _ => .bool false
def cutE : IE := .bin .sub .i64 (.len 0) (.lit 15)
def rowsS : Nat → Option (List (Option IntKind)) | 0 => some [none] | _ => none
noncomputable def subS (a : Nat) (lo : IE) (hi : Option IE) : Option Nat := match a, hi, IE.same lo cutE with | 0, none, true => some 1 | _, _, _ => none
noncomputable def envS (q : Wh) : Env := { P := Tryz.prog, G := fun _ => none, rows := rowsS, sub := subS, sig := sigT q }
def factJ : List Fact := [⟨false, .len 4, .lit 10000, true⟩]
noncomputable def envT (q : Wh) (F : List Fact) : Env := { P := Tryz.prog, G := globals, lt := factLt F, eq := factEq F, sig := sigT q }
noncomputable def knowT (f : Nat) (args : List SV) (S : SW) : Option (SV × SW) := match Nat.beq f 11, args with | true, [] => some (.bool true, S) | _, _ => none
section
variable {q : Wh}
theorem numS : NumOk (envS q) where
  lt a b r h := by cases h
  eq a b r h := by cases h
  rows a ks h := by
    have h : rowsS a = some ks := h
    unfold rowsS at h
    split at h
    · cases h; rfl
    · cases h
  pre a e a' h := by cases h
  overs f h := by cases h
  idxs f h := by cases h
  sames f h := by cases h
  mkzs f t h := by cases h
  cells a i c x h := by cases h
  str a i c b j d r h := by cases h
  bool a i c b j d r h := by cases h
  maps := ⟨fun _ _ _ _ h => (by cases h), fun _ _ _ _ _ h => (by cases h), fun _ _ _ _ h => (by cases h), fun a lo hi a' h => by
    have h : subS a lo hi = some a' := h
    unfold subS at h
    split at h
    · rename_i h1 _
      cases h
      have e := IE.same_eq h1
      subst e
      have e1 : cutE.val (sigT q) = ((150071 : Nat) : Int) := by
        show opVal .sub .i64 ((total 10000 : Nat) : Int) 15 = _
        rw [sub_op ⟨by decide, by decide⟩]
        decide
      exact ⟨q.b, q.x, 1, total 10000, 150071, total 10000, rfl, e1, rfl, by decide, Nat.le_refl _, rfl⟩
    · cases h⟩
theorem liesS {W : World} (h : LieB W q.b q.x (total 10000) cont) : Lies (envS q) W where
  cells g cs hg := by cases hg
  rows a ks ha := by
    have ha : rowsS a = some ks := ha
    unfold rowsS at ha
    split at ha
    · cases ha
      obtain ⟨arr, el, fz, h1, h2⟩ := h
      refine ⟨q.b, q.x, total 10000, arr, el, fz, rfl, h1, fun i c k hi hk => ?_⟩
      have hc : c = 0 := by
        have := (List.getElem?_eq_some_iff.1 hk).1
        have : c < 1 := this
        omega
      subst hc
      have hk0 : k = none := by simpa using hk.symm
      subst hk0
      refine ⟨?_, rfl⟩
      show arr[q.x + i * 1 + 0]? = some (.int .u8 (cont i))
      rw [Nat.mul_one, Nat.add_zero]
      exact h2 i hi
    · cases ha
theorem numT {F : List Fact} (hF : ∀ f ∈ F, f.holds (sigT q)) : NumOk (envT q F) := fact_num rfl rfl hF (fun a ks h => by cases h)
theorem factsJ : ∀ f ∈ factJ, f.holds (sigT q) := hcons (holds_eq (yes rfl)) hnil
theorem liesT {W : World} (hT : Tabs W) {F : List Fact} : Lies (envT q F) W where
  cells g cs hg := (hT (sigT q)).cells g cs hg
  rows a ks ha := by cases ha
theorem knowsT {F : List Fact} : Known (envT q F) knowT := known_bool (E := envT q F) works_name (fun w h => works_calls w (tabs_of rfl h)) (known_nothing _)
theorem noneS : Known (envS q) (fun _ _ _ => none) := known_nothing _

/-! ### The runs -/
def sl17 : List Nat := [69, 70, 71, 72, 73, 74, 75, 67, 76, 77, 78, 9, 10, 11, 12, 13, 14]
def l9 : List (Nat × Want) := [(9, .rowN 0)]
def l17 : List (Nat × Want) := [(9, .rowN 0), (10, .rptr 3 (.lit 0)), (11, .num .i64 (.lit 15)), (12, .num .i64 (.lit 0))]
def l18 : List (Nat × Want) := l17 ++ [(13, .rowN 4), (14, .num .i64 (.lit 0))]
def f17 : List (Nat × SV) := [(9, .row 0), (75, .tuple [.rptr 3 (.lit 0) 0, .int .i64 15, .int .i64 0])]
def f18 : List (Nat × SV) := [(9, .row 0), (10, .rptr 3 (.lit 0) 0), (11, .int .i64 15), (12, .int .i64 0), (81, .tuple [.row 4, .int .i64 0])]
theorem r17_a (q : Wh) : opsOkV sl17 (l9 ++ [(73, .rowN 1)]) (opsRun (envS q) (fun _ _ _ => none) 5 107 sl17 O17 1 5 (frInV sl17 l9)) = true := by kernel_rfl
theorem r17_b (q : Wh) : opsOkV sl17 l17 (opsRun (envS q) (fun _ _ _ => none) 5 107 sl17 O17 8 7 (frN sl17 f17)) = true := by kernel_rfl
theorem k17 : notDst 68 ((O17.toList.drop 1).take 5) = true := by kernel_rfl
def sl18 : List Nat := [80, 81, 79, 82, 83, 13, 14, 9, 10, 11, 12]
theorem r18_a (q : Wh) : opsOkV sl18 (l17 ++ [(80, .rowN 0)]) (opsRun (envS q) (fun _ _ _ => none) 5 107 sl18 O18 0 1 (frInV sl18 l17)) = true := by kernel_rfl
theorem r18_b (q : Wh) : opsOkV sl18 l18 (opsRun (envS q) (fun _ _ _ => none) 5 107 sl18 O18 2 5 (frN sl18 f18)) = true := by kernel_rfl
def isMove (o : Option Oper) (x d : Nat) : Bool := match o with
  | some o => (match o.op with
    | .move (.tmp y) => y == x && o.guard.isNone && o.dst == some d
    | _ => false)
  | none => false
theorem isMove_some {o : Option Oper} {x d : Nat} (h : isMove o x d = true) : ∃ o', o = some o' ∧ o'.guard = none ∧ o'.op = .move (.tmp x) ∧ o'.dst = some d := by
  unfold isMove at h
  split at h
  · rename_i o'
    split at h
    · rename_i y hy
      simp only [Bool.and_eq_true, beq_iff_eq, Option.isNone_iff_eq_none] at h
      obtain ⟨⟨rfl, h1⟩, h2⟩ := h
      exact ⟨o', rfl, h1, hy, h2⟩
    · cases h
  · cases h
theorem mv17 : isMove O17[0]? 9 68 = true := by kernel_rfl
def sl19 : List Nat := (List.range 23).map (· + 84) ++ [10, 11, 12, 13, 14, 0]
def l19 : List (Nat × SV) := [(10, .ptr 0 0), (11, .int .i64 15), (12, .int .i64 0), (13, .row 4), (14, .int .i64 0)]
def fr19 : List SV := frN sl19 l19
def ob19 : List (Nat × SObj) := [(0, .cells [.unknown, .int .i64 10000, .ptr 1 0] 0)]
def t19 : DT Lf := .leaf ⟨0, frN sl19 [(0, .bool true)], [], 2⟩
theorem t19_ok (q : Wh) : t19.ok (pieceIs (fun F => envT q F) (fun _ => knowT) 40 107 sl19 [R19] (cutSt fr19 ob19 2)) factJ = true := by kernel_rfl
end
end Go.Proofs.YtcbkglclienegaaGreatDoor

/- The law, walked to its end. -/
set_option linter.all false
set_option maxRecDepth 100000
namespace Go.Proofs.YtcbkglclienegaaGreatDoor
open Go.RX Go.RX.Sym

theorem frN_at (l : List (Nat × SV)) : ∀ (sl : List Nat) (i : Nat), (frN sl l)[i]? = (sl[i]?).map fun t => frN.slot t l
  | [], i => by simp [frN]
  | t :: sl, 0 => by simp [frN]
  | t :: sl, i + 1 => by simp [frN, frN_at l sl i]
theorem frel_of {ρ : Ren} {sl : List Nat} {l : List (Nat × SV)} {tmps : Array Value} (h : ∀ p ∈ l, VRel ρ p.2 (tmps.getD p.1 undef)) : FRel ρ sl (frN sl l) tmps := fun t i ht => by
  rw [nthV_eq, frN_at, posOf_some ht]
  show VRel ρ (frN.slot t l) _
  rcases frN_or t l with e | ⟨p, hp, rfl, e⟩
  · rw [e]; exact .unknown _
  · rw [e]; exact h p hp
theorem move_hand {P : Program} {ops : Array Oper} {Q : Exit → Act → World → Prop} {m i : Nat} {L : List Nat} {o : Oper} {x : Operand} {a : Act} {w : World} (ho : ops[i]? = some o) (hg : o.guard = none) (hop : o.op = .move x)
    (hn : wpOpsIn Fence.wide m P ops Q L (a.put o.dst (a.eval x)) w) : wpOpsIn Fence.wide m P ops Q (i :: L) a w :=
  op_hand (v := a.eval x) ho hg (fun c e => by rw [hop] at e; cases e) (by simp only [execOp, hop]; rfl) hn
theorem Tabs.on {W W' : World} (h : Tabs W) (o : On W W') : Tabs W' := fun σ => (h σ).on fun b hb => by
  rcases hb with ⟨cs, hg⟩ | ⟨a, ks, ha, e⟩
  · obtain ⟨arr, el, fz, h1, h2⟩ := (h σ).cells b cs hg
    exact o.old b (Array.getElem?_eq_some_iff.1 h1).1
  · cases ha
theorem at_479 : (⟨heapOf [(479, .own 0 [])], 480, 0⟩ : SW).at 479 = some (.own 0 []) := by kernel_rfl
theorem pos_9 : posOf 9 sl3 = some 10 := by kernel_rfl
theorem fr_9 : nthV .unknown frD 10 = .oslice 479 0 0 1 := by kernel_rfl
theorem pos_19 : posOf 0 sl19 = some 28 := by kernel_rfl
theorem fr_19 : nthV .unknown (frN sl19 [(0, .bool true)]) 28 = .bool true := by kernel_rfl
theorem cont_back {i : Nat} (h : 101 ≤ i) : cont (i - 15) = cont i := by
  have e1 : i = 86 + 15 * ((i - 86) / 15) + (i - 86) % 15 := by omega
  have e2 : i - 15 = 86 + 15 * ((i - 86) / 15 - 1) + (i - 86) % 15 := by omega
  have hj : (i - 86) % 15 < 15 := by omega
  rw [e2, cont_rec hj]
  conv => rhs; rw [e1, cont_rec hj]
theorem factsD : ∀ f ∈ factD, f.holds (sigL 10000) :=
  hcons (holds_lt (no (by show ¬ ((10000 : Nat) : Int) < 10000; decide))) (hcons (holds_eq (yes (by show ((10000 : Nat) : Int) = 10000; decide))) (hcons (holds_lt (yes (by show (0 : Int) < ((150086 : Nat) : Int); decide))) (hcons (holds_lt (yes (by show ((150086 : Nat) : Int) < 1000001; decide))) (hcons (holds_lt (no (by show ¬ ((150086 : Nat) : Int) < 15; decide))) hnil))))
theorem args1 {c : Call} {a : Act} {x : Nat} (h : c.args.toList = [.tmp x]) : c.args.map a.eval = #[a.tmps.getD x undef] := by
  apply Array.ext'
  simp [h, Act.eval]
/-- Where R19 begins. -/
theorem at_19 {W : World} {q : Wh} {a : Act} {w : World} (hon : On W w) (hs : a.tmps.size = 107) (hd : a.defers = []) (hsl : SlottedV (sigT q) l18 a) {v0 : Value} {pb po : Nat} {arr : Array Value} {el : TypeId} {fz : Nat × Nat}
    (hfresh : W.heap.size ≤ q.jb) (g : w.heap[q.jb]? = some (.cells arr el fz)) (hfz : ∀ k, k < arr.size → ¬ (fz.1 ≤ k ∧ k < fz.2)) (h3 : q.jx + 3 ≤ arr.size) (g0 : arr[q.jx]? = some v0) (g1 : arr[q.jx + 1]? = some (.int .i64 10000)) (g2 : arr[q.jx + 2]? = some (.pointer (some ⟨pb, po, none⟩))) :
    AtT (sigT q) 107 sl19 fr19 ob19 2 W a w := by
  let ρ : Ren := ⟨fun i => match i with | 0 => some (q.jb, q.jx, arr.size) | 1 => some (pb, po, 0) | _ => none, sigT q⟩
  have hv10 := hsl (10, .rptr 3 (.lit 0)) (by simp [l18, l17])
  have hv11 := hsl (11, .num .i64 (.lit 15)) (by simp [l18, l17])
  have hv12 := hsl (12, .num .i64 (.lit 0)) (by simp [l18, l17])
  have hv13 := hsl (13, .rowN 4) (by simp [l18, l17])
  have hv14 := hsl (14, .num .i64 (.lit 0)) (by simp [l18, l17])
  have hv10 : a.tmps.getD 10 undef = .pointer (some ⟨q.jb, q.jx + 0, none⟩) := by rw [hv10.2.2]; rfl
  have hv11 : a.tmps.getD 11 undef = .int .i64 15 := hv11
  have hv12 : a.tmps.getD 12 undef = .int .i64 0 := hv12
  have hv14 : a.tmps.getD 14 undef = .int .i64 0 := hv14
  have hv13 : RowIs ρ.sig 4 (a.tmps.getD 13 undef) := hv13
  have hfr : FRel ρ sl19 (frN sl19 l19) a.tmps := frel_of fun p hp => by
    simp only [l19, List.mem_cons, List.not_mem_nil, or_false] at hp
    rcases hp with rfl | rfl | rfl | rfl | rfl
    · show VRel ρ (.ptr 0 0) (a.tmps.getD 10 undef)
      rw [hv10]
      exact .ptr (id := 0) rfl
    · show VRel ρ (.int .i64 15) (a.tmps.getD 11 undef)
      rw [hv11]; exact .int _ _
    · show VRel ρ (.int .i64 0) (a.tmps.getD 12 undef)
      rw [hv12]; exact .int _ _
    · exact hv13.rel
    · show VRel ρ (.int .i64 0) (a.tmps.getD 14 undef)
      rw [hv14]; exact .int _ _
  have hat : ∀ i x, (⟨heapOf ob19, 2, 0⟩ : SW).at i = some x → i = 0 ∧ x = .cells [.unknown, .int .i64 10000, .ptr 1 0] 0 := fun i x h => by
    have := heapOf_at h
    simp only [ob19, List.mem_cons, List.not_mem_nil, or_false, Prod.mk.injEq] at this
    exact this
  · refine ⟨hon, hs, hd, ρ, rfl, hfr, ⟨fun i x p h hp => ?_, fun i j p r h1 h2 _ _ _ => ?_⟩, fun i p h hp => ?_, fun i hi => ?_, fun i hi => ?_⟩
    · obtain ⟨rfl, rfl⟩ := hat i x h
      obtain rfl : (q.jb, q.jx, arr.size) = p := Option.some.inj hp
      refine ⟨_, g, .cells arr el fz rfl (by simpa using h3) hfz (fun h => absurd rfl h) ⟨fun t h => by omega, fun t h => by omega⟩ fun k x hk => ?_⟩
      match k, hk with
      | 0, hk => cases hk; exact ⟨v0, g0, .unknown _⟩
      | 1, hk => cases hk; exact ⟨_, g1, .int _ _⟩
      | 2, hk => cases hk; exact ⟨_, g2, .ptr (id := 1) (o := po) rfl⟩
    · cases hi : (⟨heapOf ob19, 2, 0⟩ : SW).at i with
      | none => exact absurd hi h1
      | some x =>
        cases hj : (⟨heapOf ob19, 2, 0⟩ : SW).at j with
        | none => exact absurd hj h2
        | some y => rw [(hat i x hi).1, (hat j y hj).1]
    · cases hi : (⟨heapOf ob19, 2, 0⟩ : SW).at i with
      | none => exact absurd hi h
      | some x =>
        obtain ⟨rfl, -⟩ := hat i x hi
        obtain rfl : (q.jb, q.jx, arr.size) = p := Option.some.inj hp
        exact hfresh
    · match i, hi with
      | i + 2, _ => rfl
    · cases hj : (⟨heapOf ob19, 2, 0⟩ : SW).at i with
      | none => rfl
      | some x => have := (hat i x hj).1; omega
/-- What R19 compares, and the end. -/
theorem end_of {W : World} (hW : Tabs W) {q : Wh} {c : Code} (hc : t19.ok (pieceIs (fun F => envT q F) (fun _ => knowT) 40 107 sl19 [c] (cutSt fr19 ob19 2)) factJ = true) {a : Act} {w : World} (hA : AtT (sigT q) 107 sl19 fr19 ob19 2 W a w) {R : Ending → World → Prop} (hR : ∀ w', On W w' → R (.returned (.bool true)) w') : wpL Tryz.prog 0 ([c] ++ [.ret]) (bodyPostM Fence.wide 0 Tryz.prog Tryz.f3 R) a w := by
  refine walk_dt (E := fun F => envT q F) (K := fun _ => knowT) (fun _ => rfl) (fun _ => rfl) (fun F hF => ⟨numT hF, knowsT, liesT hW⟩) hc factsJ hA fun l hl a1 w1 h1 => ?_
  simp only [t19, DT.eval] at hl
  subst hl
  obtain ⟨o1, hs1, hd1, ρ1, hσ1, hf1, -⟩ := h1
  have hf1 : FRel ρ1 sl19 (frN sl19 [(0, .bool true)]) a1.tmps := hf1
  have hb := hf1 0 28 pos_19
  rw [fr_19] at hb
  show wpL _ _ [.ret] _ _ _
  refine wpIn_ret ?_
  show LeavesInM _ _ _ _ _ _ _ _ _
  rw [hd1]
  refine leave_one res3 ?_
  generalize a1.tmps.getD 0 undef = y at hb
  cases hb
  exact hR _ o1
theorem end_calls {W : World} (hW : Tabs W) {q : Wh} {a : Act} {w : World} (hA : AtT (sigT q) 107 sl19 fr19 ob19 2 W a w) : wpL Tryz.prog 0 ([R19] ++ [.ret]) (bodyPostM Fence.wide 0 Tryz.prog Tryz.f3 fun e w' => e = .returned (.bool true) ∧ On W w') a w :=
  end_of hW (t19_ok q) hA fun w' h => ⟨rfl, h⟩
end Go.Proofs.YtcbkglclienegaaGreatDoor

/- The law holds: it hands back true, and changes nothing that was there. -/
set_option linter.all false
set_option maxRecDepth 100000
namespace Go.Proofs.YtcbkglclienegaaGreatDoor
open Go.RX Go.RX.Sym

theorem ops_stepF {E : Env} {K : Nat → List SV → SW → Option (SV × SW)} (hK : Known E K) (hn : NumOk E) {d n m i len : Nat} {sl : List Nat} {ops : Array Oper} {L : List Nat} {fr : List SV} {l1 : List (Nat × Want)} (h : opsOkV sl l1 (opsRun E K d n sl ops i len fr) = true) (hlen : i + len ≤ ops.size)
    {a : Act} {w : World} (hs : a.tmps.size = n) (hd : a.defers = []) (hf : FRel (.nil E.sig) sl fr a.tmps) (hL : Lies E w) {Q : Exit → Act → World → Prop}
    (hQ : ∀ a' w', On w w' → SlottedV E.sig l1 a' → a'.tmps.size = n → a'.defers = [] → (∀ t, notDst t ((ops.toList.drop i).take len) = true → a'.tmps.getD t undef = a.tmps.getD t undef) → wpOpsIn Fence.wide m E.P ops Q L a' w') :
    wpOpsIn Fence.wide m E.P ops Q (List.range' i len ++ L) a w := by
  unfold opsOkV at h
  split at h
  · rename_i fr' S' hr
    refine ops_step hK hn hr hlen hs hf hL fun ρ' a' w' hext hok hf hsz hdf hk => ?_
    refine hQ a' w' ⟨hext.size, hext.os, hext.tape, hext.output, fun k hk => hext.frame k hk fun i p _ hp => by cases hp⟩ ?_ hsz (hdf.trans hd) hk
    have := wantsOkV_holds hf h
    rw [hok.glob.num.sig] at this
    exact this
  · cases h
/-- The journal lies there. -/
def LieJ (W : World) (q : Wh) (w : World) : Prop := W.heap.size ≤ q.jb ∧ ∃ (v0 : Value) (pb po : Nat) (arr : Array Value) (el : TypeId) (fz : Nat × Nat), w.heap[q.jb]? = some (.cells arr el fz) ∧ (∀ k, k < arr.size → ¬ (fz.1 ≤ k ∧ k < fz.2)) ∧ q.jx + 3 ≤ arr.size ∧ arr[q.jx]? = some v0 ∧ arr[q.jx + 1]? = some (.int .i64 10000) ∧ arr[q.jx + 2]? = some (.pointer (some ⟨pb, po, none⟩))
theorem LieJ.on {W w w' : World} {q : Wh} (h : LieJ W q w) (o : On w w') : LieJ W q w' := by
  obtain ⟨h0, v0, pb, po, arr, el, fz, h1, h2⟩ := h
  exact ⟨h0, v0, pb, po, arr, el, fz, by rw [o.old q.jb (Array.getElem?_eq_some_iff.1 h1).1]; exact h1, h2⟩
theorem row_of {q : Wh} {k n : Nat} {v : Value} (h : RowIs (sigT q) k v) {b x : Nat} (hr : (sigT q).row k = (b, x, 1, n)) (hn : n ≠ 0) : ∃ cap, v = .slice (some ⟨b, x, none⟩) n cap ∧ n ≤ cap := by
  unfold RowIs at h
  rw [hr] at h
  rcases h with ⟨cap, e, hc⟩ | ⟨e, -⟩
  · exact ⟨cap, e, hc⟩
  · exact absurd e hn
abbrev Post (W : World) : Exit → Act → World → Prop := bodyPostM Fence.wide 0 Tryz.prog Tryz.f3 fun e w' => e = .returned (.bool true) ∧ On W w'
theorem code18 {id : Nat} {W : World} (hW : Tabs W) {q : Wh} {a : Act} {w : World} (hon : On W w) (hs : a.tmps.size = 107) (hd : a.defers = []) (hsl : SlottedV (sigT q) l17 a) (hB : LieB w q.b q.x (total 10000) cont) (hJ : LieJ W q w) : wpL Tryz.prog 0 (.region id O18 false :: ([R19] ++ [.ret])) (Post W) a w := by
  refine region_parts O18_size ?_
  show wpOpsIn _ _ _ _ _ (List.range' 0 1 ++ (1 :: (List.range' 2 5 ++ []))) a w
  refine ops_stepV (E := envS q) noneS numS (r18_a q) (by rw [O18_size]; omega) hs hd hsl (liesS hB) fun a1 w1 o1 s1 z1 d1 => ?_
  obtain ⟨o', cc, e1, e2, e3, e4, e5, e6⟩ := isCall_some call18
  obtain ⟨cap, e80, hcap⟩ := row_of (s1 (80, .rowN 0) (by simp)) rfl (by decide)
  have v9 := s1 (9, .rowN 0) (by simp [l17])
  have v10 := s1 (10, .rptr 3 (.lit 0)) (by simp [l17])
  have v11 := s1 (11, .num .i64 (.lit 15)) (by simp [l17])
  have v12 := s1 (12, .num .i64 (.lit 0)) (by simp [l17])
  have e80 : a1.tmps.getD 80 undef = _ := e80
  refine op_call_hand e1 e5 e2 e3 (args1 e4) (name_10 _ _) (R := _) (by rw [e80]; exact ops_val ⟨hW.on (hon.trans o1), hB.on o1⟩ rfl hcap) ?_
  rintro e w2 ⟨o2, ob, ox, ocap, rfl, hc⟩
  refine ⟨_, rfl, ?_⟩
  rw [e6]
  have hL : Lies (envS { q with ob := ob, ox := ox }) w2 := liesS (q := { q with ob := ob, ox := ox }) (hB.on (o1.trans o2))
  have oth : ∀ {t : Nat} {v : Value}, t ≠ 81 → (a1.put (some 81) v).tmps.getD t undef = a1.tmps.getD t undef := fun h => put_other h
  refine ops_stepF (E := envS { q with ob := ob, ox := ox }) noneS numS (r18_b _) (by rw [O18_size]; omega) (by rw [put_size]; exact z1) (by rw [put_defers]; exact d1) (frel_of fun p hp => ?_) hL fun a3 w3 o3 s3 z3 d3 _ => ?_
  · simp only [f18, List.mem_cons, List.not_mem_nil, or_false] at hp
    rcases hp with rfl | rfl | rfl | rfl | rfl
    · rw [oth (by decide)]
      exact RowIs.rel (ρ := .nil (sigT { q with ob := ob, ox := ox })) v9
    · rw [oth (by decide)]
      obtain ⟨h1, h2, h3⟩ := v10
      have h3 : a1.tmps.getD 10 undef = .pointer (some ⟨q.jb, q.jx + 0 * 3 + 0, none⟩) := h3
      rw [h3]
      exact VRel.rptr (ρ := .nil (sigT { q with ob := ob, ox := ox })) (a := 3) (i := .lit 0) (n := 1) rfl (Int.le_refl 0) (by show (0 : Int) < ((1 : Nat) : Int); decide)
    · rw [oth (by decide)]
      have v11 : a1.tmps.getD 11 undef = .int .i64 15 := v11
      rw [v11]
      exact .int _ _
    · rw [oth (by decide)]
      have v12 : a1.tmps.getD 12 undef = .int .i64 0 := v12
      rw [v12]
      exact .int _ _
    · rw [put_same (by rw [z1]; decide)]
      exact .tuple (.cons (.row rfl hc) (.cons (.int _ _) .nil))
  · obtain ⟨h0, v0, pb, po, arr, el, fz, g, hfz, g3, g0, g1, g2⟩ := hJ.on ((o1.trans o2).trans o3)
    exact end_calls hW (at_19 (q := { q with ob := ob, ox := ox }) (hon.trans ((o1.trans o2).trans o3)) z3 d3 s3 h0 g hfz g3 g0 g1 g2)
theorem code17 {id id' : Nat} {W : World} (hW : Tabs W) {a : Act} {w : World} (hon : On W w) (hs : a.tmps.size = 107) (hd : a.defers = []) {b x cap : Nat} {arr : Array Value} {el : TypeId} {fz : Nat × Nat} (hv : a.tmps.getD 9 undef = .slice (some ⟨b, x, none⟩) (total 10000) cap) (hcap : total 10000 ≤ cap) (hold : W.heap.size ≤ b)
    (g1 : w.heap[b]? = some (.cells arr el fz)) (gz : ∀ k, k < arr.size → ¬ (fz.1 ≤ k ∧ k < fz.2)) (g2 : x + cap ≤ arr.size) (g3 : ∀ i, i < total 10000 → arr[x + i]? = some (.int .u8 (cont i))) : wpL Tryz.prog 0 (.region id O17 false :: .region id' O18 false :: ([R19] ++ [.ret])) (Post W) a w := by
  refine region_parts O17_size ?_
  show wpOpsIn _ _ _ _ _ (0 :: (List.range' 1 5 ++ (6 :: 7 :: (List.range' 8 7 ++ [])))) a w
  obtain ⟨om, m1, m2, m3, m4⟩ := isMove_some mv17
  refine move_hand m1 m2 m3 ?_
  rw [m4]
  have hB : LieB w b x (total 10000) cont := ⟨arr, el, fz, g1, g3⟩
  have v9 : (a.put (some 68) (a.eval (.tmp 9))).tmps.getD 9 undef = .slice (some ⟨b, x, none⟩) (total 10000) cap := by rw [put_other (by decide)]; exact hv
  refine ops_stepF (E := envS ⟨b, x, 0, 0, 0, 0⟩) noneS numS (r17_a _) (by rw [O17_size]; omega) (by rw [put_size]; exact hs) (by rw [put_defers]; exact hd) (frInV_rel (l := l9) fun p hp => ?_) (liesS (q := ⟨b, x, 0, 0, 0, 0⟩) hB) fun a1 w1 o1 s1 z1 d1 k1 => ?_
  · obtain rfl := List.mem_singleton.1 hp
    exact .inl ⟨cap, v9, hcap⟩
  obtain ⟨cap9, e9, hcap9⟩ := row_of (s1 (9, .rowN 0) (by simp [l9])) rfl (by decide)
  have e9 : a1.tmps.getD 9 undef = .slice (some ⟨b, x, none⟩) (total 10000) cap9 := e9
  obtain ⟨cap3, e73, -⟩ := row_of (s1 (73, .rowN 1) (by simp)) rfl (by decide)
  have e73 : a1.tmps.getD 73 undef = .slice (some ⟨b, x + 150071, none⟩) 15 cap3 := e73
  have e68 : a1.tmps.getD 68 undef = .slice (some ⟨b, x, none⟩) (total 10000) cap := by
    rw [k1 68 k17, put_same (by rw [hs]; decide)]
    exact hv
  -- the record is put behind
  obtain ⟨oa, ca, c1, c2, c3, c4, c5, c6, c7⟩ := isAppend_some app17
  obtain ⟨i, z, hi, hz, hs1, hs2, hs3⟩ := byte_info
  obtain ⟨consts, hrn⟩ := run_builtin (E := env sig0) c2 c3 a1
  have ht0 : ca.argTypes[0]? = some 41 := by rw [← Array.getElem?_toList, c5]; rfl
  have ht1 : ca.argTypes[1]? = some 41 := by rw [← Array.getElem?_toList, c5]; rfl
  have g1' : w1.heap[b]? = some (.cells arr el fz) := by rw [o1.old b (Array.getElem?_eq_some_iff.1 g1).1]; exact g1
  have g4 : ∀ j, j < 15 → arr[x + 150071 + j]? = some (.int .u8 (cont (150071 + j))) := fun j hj => by rw [Nat.add_assoc]; exact g3 _ (by have := total_is 10000; omega)
  obtain ⟨b', x', cap', w2, h1, h2, h3, h4, h5⟩ := append_ownW (P := Tryz.prog) (ty := oa.type) (c := fun j => cont (150071 + j)) (cap2 := cap3) ht0 ht1 t41 t41 hi hz (fun k hk => by cases hk) hs1 hs2 hcap g1' gz g2 g3 g4 (by have := total_is 10000; omega) (by decide) (hon.trans o1) hold
  refine op_hand c1 c6 (fun c e => by rw [c2] at e; cases e) (v := .slice (some ⟨b', x', none⟩) (total 10000 + 15) cap') (w' := w2) ?_ ?_
  · refine (hrn w1).trans ?_
    have hargs : ca.args.map a1.eval = #[.slice (some ⟨b, x, none⟩) (total 10000) cap, .slice (some ⟨b, x + 150071, none⟩) 15 cap3] := by
      rw [map_args2 c4]
      simp only [Act.eval]
      rw [e68, e73]
    rw [hargs]
    exact run_v h1
  rw [c7]
  have hB2 : LieB w2 b' x' (total 10001) cont := by
    obtain ⟨arr', el', fz', p1, p2⟩ := h3
    refine ⟨arr', el', fz', p1, fun i hi => ?_⟩
    rw [p2 i (by have := total_is 10000; have := total_is 10001; omega)]
    dsimp only
    by_cases hin : i < total 10000
    · rw [if_pos hin]
    · rw [if_neg hin]
      have h0 := total_is 10000
      rw [show 150071 + (i - total 10000) = i - 15 by omega, cont_back (by omega)]
  obtain ⟨oc, cc, f1, f2, f3, f4, f5, f6⟩ := isCall_some call17
  refine op_call_hand f1 f5 f2 f3 (args1 f4) (name_9 _ _) (R := _) (by rw [put_same (by rw [z1]; decide)]; exact open_val ⟨hW.on h5, hB2⟩ (by decide) h2) ?_
  rintro e w3 ⟨o3, jb, jx, pb, po, v0, arrj, elj, fzj, rfl, j1, j2, j3, j4, j5, j6, j7⟩
  refine ⟨_, rfl, ?_⟩
  rw [f6]
  have hB3 : LieB w3 b x (total 10000) cont := h4.on o3
  refine ops_stepF (E := envS ⟨b, x, jb, jx, 0, 0⟩) noneS numS (r17_b _) (by rw [O17_size]; omega) (by rw [put_size, put_size]; exact z1) (by rw [put_defers, put_defers]; exact d1) (frel_of fun p hp => ?_) (liesS (q := ⟨b, x, jb, jx, 0, 0⟩) hB3) fun a4 w4 o4 s4 z4 d4 _ => ?_
  · simp only [f17, List.mem_cons, List.not_mem_nil, or_false] at hp
    rcases hp with rfl | rfl
    · rw [put_other (by decide), put_other (by decide), e9]
      exact .row rfl hcap9
    · rw [put_same (by rw [put_size, z1]; decide)]
      exact .tuple (.cons (VRel.rptr (ρ := .nil (sigT ⟨b, x, jb, jx, 0, 0⟩)) (a := 3) (i := .lit 0) (n := 1) (off := 0) rfl (Int.le_refl 0) (by show (0 : Int) < ((1 : Nat) : Int); decide)) (.cons (.int _ _) (.cons (.int _ _) .nil)))
  · have hj : LieJ W ⟨b, x, jb, jx, 0, 0⟩ w3 := ⟨Nat.le_trans h5.size j1, v0, pb, po, arrj, elj, fzj, j2, j3, j4, j5, j6, j7⟩
    exact code18 hW (q := ⟨b, x, jb, jx, 0, 0⟩) ((h5.trans o3).trans o4) z4 d4 s4 (hB3.on o4) (hj.on o4)
theorem law_calls {W : World} (hW : Tabs W) : Calls Tryz.prog 3 #[] W fun e w' => e = .returned (.bool true) ∧ On W w' := by
  refine tmpl_begin (σ := sigZ) (E := envL sigZ []) (f := 3) (fn := Tryz.f3) (body := bd3) Tryz.func3 bd3_is sl3 (args := []) (vals := []) .nil (by rw [nt3]; decide) fun a hA => wpL_whole ?_
  rw [nt3] at hA
  refine walk_take 6 (E := fun F => envL sigZ F) (K := fun _ => knowR) (fun _ => rfl) (fun _ => rfl) (allL hW sigZ) (tA_ok _) hnil hA fun l hl a1 w1 h1 => ?_
  simp only [tA, DT.eval] at hl
  subst hl
  show wpL _ _ ((flatC bd3).drop 6) _ _ _
  rw [lp3]
  have h2 : AtH W 0 a1 w1 := h1.sa sees_first sa0
  refine law_loop hW h2 fun a3 w3 h3 => ?_
  show wpL _ _ ((flatC bd3).drop 7) _ _ _
  refine walk_take 6 (E := fun F => envL (sigL 10000) F) (K := fun _ => knowR) (fun _ => rfl) (fun _ => rfl) (allL hW (sigL 10000)) (tD_ok _) factsD h3 fun l hl a4 w4 h4 => ?_
  simp only [tD, DT.eval] at hl
  subst hl
  show wpL _ _ (((flatC bd3).drop 7).drop 6) _ _ _
  rw [List.drop_drop, show 7 + 6 = 13 from rfl, tl3]
  obtain ⟨on4, hs4, hd4, ρ, hσ, hf, hw, hy, -, -⟩ := h4
  have hf : FRel ρ sl3 frD a4.tmps := hf
  have hv := hf 9 10 pos_9
  rw [fr_9] at hv
  generalize hx : a4.tmps.getD 9 undef = y at hv
  cases hv with
  | oslice hp ha hc ht hn hk =>
    rename_i b0 x0 tt b1 x1 n cap
    rw [hσ] at ha
    have ha : ((0 : Nat), (0 : Nat), (1 : Nat), total 10000) = (b1, x1, 1, n) := ha
    simp only [Prod.mk.injEq] at ha
    obtain ⟨-, -, -, rfl⟩ := ha
    obtain ⟨ob, hob, hr⟩ := hw.obj 479 _ _ at_479 hp
    have hy := hy 479 _ (by rw [show (⟨heapOf [(479, SObj.own 0 [])], 480, 0⟩ : SW).at 479 = _ from at_479]; simp) hp
    cases hr with
    | own arr el' fz ht' ha' hlen hfz hb hc' =>
      rename_i bb xx sz nn
      rw [hσ] at ha'
      have ha' : ((0 : Nat), (0 : Nat), (1 : Nat), total 10000) = (bb, xx, sz, nn) := ha'
      simp only [Prod.mk.injEq] at ha'
      obtain ⟨-, -, rfl, rfl⟩ := ha'
      refine code17 hW on4 hs4 hd4 (b := b0) (x := x0) (cap := cap) (arr := arr) (el := el') (fz := fz) (by rw [hx]; rfl) hc hy hob hfz (by rw [ht']; omega) fun i hi => ?_
      have := hb i 0 hi (by omega)
      rw [hσ, Nat.mul_one, Nat.add_zero] at this
      exact this
end Go.Proofs.YtcbkglclienegaaGreatDoor
