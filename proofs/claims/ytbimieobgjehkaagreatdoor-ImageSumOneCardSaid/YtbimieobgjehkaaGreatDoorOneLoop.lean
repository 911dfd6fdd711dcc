/- ImageSumOne: bytes.Clone, and the law's function, walked. -/
import Derived.Test.YtbimieobgjehkaaGreatDoorOneRuns
set_option linter.all false
namespace Go.Proofs.YtbimieobgjehkaaGreatDoor
open Go.RX
open Go.RX.Sym

theorem t22 : Tryz.prog.underlying 22 = some (.slice 5) := by kernel_rfl
noncomputable def byteInfo : Bool := match Tryz.prog.info? 5 with
  | some i => i.size == 1 && i.bytes == 1 && (match i.zero with | some z => z.cells.size == 1 | none => false)
  | none => false
theorem byteInfo_ok : byteInfo = true := by kernel_rfl
theorem byte_info : ∃ i z, Tryz.prog.info? 5 = some i ∧ i.zero = some z ∧ i.size = 1 ∧ i.bytes = 1 ∧ z.cells.size = 1 := by
  have h := byteInfo_ok
  unfold byteInfo at h
  split at h
  · rename_i i hi
    simp only [Bool.and_eq_true, beq_iff_eq] at h
    obtain ⟨⟨h1, h2⟩, h3⟩ := h
    split at h3
    · rename_i z hz
      exact ⟨i, z, hi, hz, h1, h2, by simpa using h3⟩
    · cases h3
  · cases h

def isAppend (o : Option Oper) (x y d : Nat) : Bool := match o with
  | some o => (match o.op with
    | .call c => (match c.callee, c.args.toList with
      | .builtin .append, [.tmp a, .tmp b] => a == x && b == y && c.argTypes.toList == [22, 22] && o.guard.isNone && o.dst == some d
      | _, _ => false)
    | _ => false)
  | none => false
theorem isAppend_some {o : Option Oper} {x y d : Nat} (h : isAppend o x y d = true) : ∃ o' c, o = some o' ∧ o'.op = .call c ∧ c.callee = .builtin .append ∧ c.args.toList = [.tmp x, .tmp y] ∧ c.argTypes.toList = [22, 22] ∧ o'.guard = none ∧ o'.dst = some d := by
  unfold isAppend at h
  split at h
  · rename_i o'
    split at h
    · rename_i c hc
      split at h
      · rename_i a b h1 h2
        simp only [Bool.and_eq_true, beq_iff_eq, Option.isNone_iff_eq_none] at h
        obtain ⟨⟨⟨⟨rfl, rfl⟩, h3⟩, h4⟩, h5⟩ := h
        exact ⟨o', c, rfl, hc, h1, h2, h3, h4, h5⟩
      · cases h
    · cases h
  · cases h
theorem app15 : isAppend O15[2]? 5 6 7 = true := by kernel_rfl
theorem app4 : isAppend O4[14]? 16 28 29 = true := by kernel_rfl

/-- Append of bytes to a row of the call's own, by hand. -/
theorem append_step {ops : Array Oper} {Q : Exit → Act → World → Prop} {m j x y d : Nat} {L : List Nat} (h : isAppend ops[j]? x y d = true) {a : Act} {W : World} {b x0 cap n : Nat} {at_ : Nat → Nat} (ho : OwnB W b x0 cap n at_) {b2 o2 k cap2 : Nat} {arr2 : Array Value} {el2 : TypeId} {fz2 : Nat × Nat} {c : Nat → Nat}
    (hx : a.tmps.getD x undef = .slice (some ⟨b, x0, none⟩) n cap) (hy : a.tmps.getD y undef = .slice (some ⟨b2, o2, none⟩) k cap2) (hb2 : W.heap[b2]? = some (.cells arr2 el2 fz2)) (hc : ∀ j, j < k → arr2[o2 + j]? = some (.int .u8 (c j))) (hsm : n ≤ 100000) (hsk : k ≤ 100000)
    (hn : ∀ b' x' cap' w', OwnB w' b' x' cap' (n + k) (fun i => if i < n then at_ i else c (i - n)) → (b' = b ∨ W.heap.size ≤ b') → OnBut b W w' → wpOpsIn Fence.wide m Tryz.prog ops Q L (a.put (some d) (.slice (some ⟨b', x', none⟩) (n + k) cap')) w') :
    wpOpsIn Fence.wide m Tryz.prog ops Q (j :: L) a W := by
  obtain ⟨o', cc, e1, e2, e3, e4, e5, e6, e7⟩ := isAppend_some h
  obtain ⟨i, z, hi, hz, hs1, hs2, hs3⟩ := byte_info
  obtain ⟨consts, hrn⟩ := run_builtin (E := env sig0) e2 e3 a
  have ht0 : cc.argTypes[0]? = some 22 := by rw [← Array.getElem?_toList, e5]; rfl
  have ht1 : cc.argTypes[1]? = some 22 := by rw [← Array.getElem?_toList, e5]; rfl
  obtain ⟨b', x', cap', w', h1, h2, h3, h4⟩ := append_own (E := env sig0) (ty := o'.type) ht0 ht1 t22 t22 hi hz (fun k hk => by cases hk) hs1 hs2 hs3 ho hb2 hc rfl hsm hsk (cap2 := cap2)
  refine op_hand e1 e6 (fun c e => by rw [e2] at e; cases e) (v := .slice (some ⟨b', x', none⟩) (n + k) cap') (w' := w') ?_ ?_
  · refine (hrn W).trans ?_
    have hargs : cc.args.map a.eval = #[.slice (some ⟨b, x0, none⟩) n cap, .slice (some ⟨b2, o2, none⟩) k cap2] := by
      rw [map_args2 e4]
      simp only [Act.eval]
      rw [hx, hy]
    rw [hargs]
    exact run_v h1
  · rw [e7]
    exact hn b' x' cap' w' h2 h3 h4

theorem ext_on0 {σ : Sig} {ρ' : Ren} {S' : SW} {w w' : World} (hext : Ext (.nil σ) ⟨.nil, 0, 0⟩ w ρ' S' w') : On w w' := ⟨hext.size, hext.os, hext.tape, hext.output, fun k hk => hext.frame k hk fun i p _ hp => by cases hp⟩

def rowSig (v u : Bts) : Sig := sigO v u 0 0 0 0
theorem num_B2 {v u : Bts} {F : List Fact} (hF : ∀ f ∈ F, f.holds (rowSig v u)) : NumOk (eB (rowSig v u) F) := fact_num rfl rfl hF fun a ks h => by
  cases a with
  | zero => simp only [eB, envB, kindsB, Option.some.injEq] at h; subst h; rfl
  | succ a => simp [eB, envB, kindsB] at h
theorem lies_B2 {v u : Bts} {F : List Fact} {W : World} (h : v.Fits W) : Lies (eB (rowSig v u) F) W := ⟨fun _ _ h => (by cases h), fun a ks ha => by
  obtain ⟨b, x, n, arr, el, fz, h1, h2, h3⟩ := (lies_B (P := Tryz.prog) (i := 0) (r := 0) (k := 0) (z := 0) (F := F) h).rows a ks ha
  cases a with
  | succ a => simp [eB, envB, kindsB] at ha
  | zero => exact ⟨b, x, n, arr, el, fz, h1, h2, h3⟩⟩

def isAssign (o : Option Oper) (x d : Nat) : Bool := match o with
  | some o => (match o.op with
    | .assign (.tmp y) => y == x && o.guard.isNone && o.dst == some d
    | _ => false)
  | none => false
theorem isAssign_some {o : Option Oper} {x d : Nat} (h : isAssign o x d = true) : ∃ o', o = some o' ∧ o'.guard = none ∧ o'.op = .assign (.tmp x) ∧ o'.dst = some d := by
  unfold isAssign at h
  split at h
  · rename_i o'
    split at h
    · rename_i y hy
      simp only [Bool.and_eq_true, beq_iff_eq, Option.isNone_iff_eq_none] at h
      obtain ⟨⟨rfl, h1⟩, h2⟩ := h
      exact ⟨o', rfl, h1, hy, h2⟩
    · cases h
  · cases h
theorem asg15 : ∃ o', O15[3]? = some o' ∧ o'.guard = none ∧ o'.op = .assign (.tmp 7) ∧ o'.dst = some 2 := isAssign_some (by kernel_rfl)
theorem ret15 : pcs Tryz.f15 [true, true, true] = .ret := by kernel_rfl
theorem res15 : Tryz.f15.results.toList = [.tmp 2] := by kernel_rfl
theorem clone15 {v : Bts} {W : World} (hv : v.Fits W) (hn : v.n ≤ 100000) {cap : Nat} (hcap : v.n ≤ cap) : Calls Tryz.prog 15 #[.slice (some ⟨v.b, v.x, none⟩) v.n cap] W fun e w' => ∃ b' x' cap', e = .returned (.slice (some ⟨b', x', none⟩) v.n cap') ∧ OwnB w' b' x' cap' v.n v.at_ ∧ W.heap.size ≤ b' ∧ On W w' := by
  refine Go.RX.begun (E := eB (rowSig v v) []) (fn := Tryz.f15) f15_at body15 (by rw [f15_n]; simp) fun a hs hd h0 => ?_
  rw [f15_n] at hs
  have h0 := h0 0 (by simp)
  have s0 : SlottedV (rowSig v v) [(0, .row)] a := slotV1 ⟨cap, h0, hcap⟩
  refine wpIn_seq (piece_stepV (E := eB (rowSig v v) []) (known_noK _) (num_B2 fnil) (r15_a (rowSig v v)) hs hd s0 (lies_B2 hv) fun a1 W1 o1 s1 z1 d1 => ?_)
  refine wpIn_seq (piece_stepV (E := eB (rowSig v v) []) (known_noK _) (num_B2 fnil) (r15_b (rowSig v v)) z1 d1 s1 (lies_B2 (hv.on o1)) fun a2 W2 o2 s2 z2 d2 => ?_)
  rw [R15]
  refine wpIn_seq (region_parts O15_size ?_)
  show wpOpsIn _ _ _ _ _ (List.range' 0 2 ++ (2 :: (List.range' 3 1 ++ []))) a2 W2
  obtain ⟨fr, S, hr, hw, hb⟩ := opsBox_some (r15_c (rowSig v v))
  refine ops_step (E := eB (rowSig v v) []) (known_noK _) (num_B2 fnil) hr (by rw [O15_size]; omega) z2 (frInV_rel s2) (lies_B2 ((hv.on o1).on o2)) fun ρ3 a3 W3 hext hok hf z3 d3 _ => ?_
  have o3 := (o1.trans o2).trans (ext_on0 hext)
  have s3 : SlottedV (rowSig v v) [(6, .row)] a3 := by
    have := wantsOkV_holds hf hw
    rw [hok.glob.num.sig] at this
    exact this
  obtain ⟨b5, x5, arr5, el5, fz5, e5, hb5, hf5, hz5, hl5, -⟩ := boxOk_some hb hok hext hf
  obtain ⟨cap6, e6, -⟩ := s3 (6, .row) (by simp)
  have e6 : a3.tmps.getD 6 undef = .slice (some ⟨v.b, v.x, none⟩) v.n cap6 := e6
  have own5 : OwnB W3 b5 x5 0 0 v.at_ := ⟨Nat.le_refl _, arr5, el5, fz5, hb5, hz5, by simpa using hl5, fun i hi => by omega⟩
  have hfresh : W.heap.size ≤ b5 := Nat.le_trans (o1.trans o2).size hf5
  obtain ⟨arrv, elv, fzv, hv1, hv2⟩ := (hv.on o3).lies
  refine append_step app15 own5 e5 e6 hv1 hv2 (by omega) hn fun b' x' cap' w' h1 h2 h3 => ?_
  simp only [Nat.zero_add] at h1 ⊢
  have o4 : On W w' := OnBut.on o3 h3 hfresh
  have hb' : W.heap.size ≤ b' := by rcases h2 with rfl | h2; exact hfresh; exact Nat.le_trans o3.size h2
  have h1' : OwnB w' b' x' cap' v.n v.at_ := ⟨h1.le, by
    obtain ⟨arr, el, fz, g1, g2, g3, g4⟩ := h1.lies
    exact ⟨arr, el, fz, g1, g2, g3, fun i hi => by simpa using g4 i hi⟩⟩
  obtain ⟨oo, ho1, ho2, ho3, ho4⟩ := asg15
  refine op_assign_hand ho1 ho2 ho3 ?_
  rw [ho4]
  show Exit.then _ _ .normal _ w'
  rw [ret15]
  refine wpIn_ret ?_
  have hd6 : ((a3.put (some 7) (.slice (some ⟨b', x', none⟩) v.n cap')).put (some 2) ((a3.put (some 7) (.slice (some ⟨b', x', none⟩) v.n cap')).eval (.tmp 7))).defers = [] := by rw [put_defers, put_defers, d3, d2]
  show LeavesInM _ _ _ _ _ _ _ _ _
  rw [hd6]
  refine leave_one res15 ⟨b', x', cap', ?_, h1', hb', o4⟩
  rw [put_same (by rw [put_size, z3]; omega)]
  show Ending.returned ((a3.put (some 7) _).tmps.getD 7 undef) = _
  rw [put_same (by rw [z3]; omega)]

/-! ### The law -/
theorem KO1_some {args : List SV} {S S' : SW} {x : SV} (h : KO1 args S = some (x, S')) : ((args = [.row 0] ∧ x = .sint .u32 (.var 3)) ∨ (args = [.row 1] ∧ x = .sint .u32 (.var 4))) ∧ S' = S := by
  unfold KO1 at h
  split at h
  · simp only [Option.some.injEq, Prod.mk.injEq] at h
    exact ⟨.inl ⟨rfl, h.1.symm⟩, h.2.symm⟩
  · simp only [Option.some.injEq, Prod.mk.injEq] at h
    exact ⟨.inr ⟨rfl, h.1.symm⟩, h.2.symm⟩
  · cases h
theorem KOS_some {f : Nat} {args : List SV} {S S' : SW} {x : SV} (h : KOS f args S = some (x, S')) : f = 7 ∧ ((args = [.row 0] ∧ x = .sint .u32 (.var 3)) ∨ (args = [.row 1] ∧ x = .sint .u32 (.var 4))) ∧ S' = S := by
  unfold KOS at h
  split at h
  · cases h
  · rename_i hb
    exact ⟨Nat.eq_of_beq_eq_true hb, KO1_some h⟩

def sumSig (v u : Bts) (x y : Int) : Sig := sigO v u x y (crc v.list : Nat) (crc u.list : Nat)
theorem num_O {v u : Bts} {x y : Int} {F : List Fact} (hF : ∀ f ∈ F, f.holds (sumSig v u x y)) : NumOk (envO (sumSig v u x y) F) := fact_num rfl rfl hF fun a ks h => by
  match a, h with
  | 0, h => simp only [envO, kindsO, Option.some.injEq] at h; subst h; rfl
  | 1, h => simp only [envO, kindsO, Option.some.injEq] at h; subst h; rfl
  | a + 2, h => simp [envO, kindsO] at h
theorem lies_O {v u : Bts} {x y : Int} {F : List Fact} {W : World} (hv : v.Fits W) (hu : u.Fits W) (h : Lies (env sig0) W) : Lies (envO (sumSig v u x y) F) W := by
  have key : ∀ (a : Nat) (p : Bts), p.Fits W → (sumSig v u x y).row a = (p.b, p.x, 1, p.n) → (∀ i c, (sumSig v u x y).cell a i c = .int .u8 (p.at_ i)) → ∃ (b x' n : Nat) (arr : Array Value) (el : TypeId) (fz : Nat × Nat), (sumSig v u x y).row a = (b, x', ([some .u8] : List (Option IntKind)).length, n) ∧ W.heap[b]? = some (.cells arr el fz) ∧
      ∀ (i c : Nat) (k : Option IntKind), i < n → ([some .u8] : List (Option IntKind))[c]? = some k → arr[x' + i * ([some .u8] : List (Option IntKind)).length + c]? = some ((sumSig v u x y).cell a i c) ∧ (match k with | some k => ∃ z, (sumSig v u x y).cell a i c = .int k z | none => ((sumSig v u x y).cell a i c).oneCell' = true) := by
    intro a p hp hr hc
    obtain ⟨arr, el, fz, h1, h2⟩ := hp.lies
    refine ⟨p.b, p.x, p.n, arr, el, fz, hr, h1, fun i c k hi hk => ?_⟩
    have hc8 : c < 1 := (List.getElem?_eq_some_iff.1 hk).1
    have hc0 : c = 0 := by omega
    subst hc0
    simp only [List.getElem?_cons_zero, Option.some.injEq] at hk
    subst hk
    rw [hc]
    refine ⟨?_, _, rfl⟩
    simpa using h2 i hi
  refine ⟨fun g cs hg => ?_, fun a ks ha => ?_⟩
  · obtain ⟨arr, el, fz, h1, h2⟩ := h.cells g cs hg
    refine ⟨arr, el, fz, h1, fun k x hx => ?_⟩
    obtain ⟨z, e1, e2⟩ := h2 k x hx
    have hg' : globals g = some cs := hg
    refine ⟨z, e1, ?_⟩
    have : ∀ g cs, globals g = some cs → ∀ x ∈ cs, ∃ k n, x = .int k n := by
      intro g cs hg x hx
      unfold globals at hg
      split at hg
      · simp only [Option.some.injEq] at hg; subst hg
        simp only [stepsCells, List.mem_cons, List.not_mem_nil, or_false] at hx
        rcases hx with rfl | rfl | rfl | rfl | rfl | rfl <;> exact ⟨_, _, rfl⟩
      · simp only [Option.some.injEq] at hg; subst hg
        have : ∀ x ∈ tabCells, (match x with | .int _ _ => true | _ => false) = true := by
          have h0 : tabCells.all (fun x => match x with | .int _ _ => true | _ => false) = true := rfl
          exact fun x hx => List.all_eq_true.1 h0 x hx
        have := this x hx
        split at this
        · exact ⟨_, _, rfl⟩
        · cases this
      · cases hg
    obtain ⟨k', n', rfl⟩ := this g cs hg' x (List.mem_of_getElem? hx)
    cases e2
    exact .int _ _
  · match a, ha with
    | 0, ha => simp only [envO, kindsO, Option.some.injEq] at ha; subst ha; exact key 0 v hv rfl fun _ _ => rfl
    | 1, ha => simp only [envO, kindsO, Option.some.injEq] at ha; subst ha; exact key 1 u hu rfl fun _ _ => rfl
    | a + 2, ha => simp [envO, kindsO] at ha

theorem fits_O {v u : Bts} {x y : Int} {F : List Fact} {w : World} (hv : ∀ i, v.at_ i < 256) (hvn : v.n ≤ 9223372036854775807) (hu : ∀ i, u.at_ i < 256) (hun : u.n ≤ 9223372036854775807) (h : Lies (envO (sumSig v u x y) F) w) : v.Fits w ∧ u.Fits w := by
  constructor
  · refine ⟨hv, hvn, ?_⟩
    obtain ⟨b, x, n, arr, el, fz, e1, e2, e3⟩ := h.rows 0 [some .u8] rfl
    have e1' : ((v.b, v.x, 1, v.n) : Nat × Nat × Nat × Nat) = (b, x, 1, n) := e1
    simp only [Prod.mk.injEq] at e1'
    obtain ⟨rfl, rfl, -, rfl⟩ := e1'
    refine ⟨arr, el, fz, e2, fun i hi => ?_⟩
    have := (e3 i 0 (some .u8) hi rfl).1
    simpa [envO, sumSig, sigO] using this
  · refine ⟨hu, hun, ?_⟩
    obtain ⟨b, x, n, arr, el, fz, e1, e2, e3⟩ := h.rows 1 [some .u8] rfl
    have e1' : ((u.b, u.x, 1, u.n) : Nat × Nat × Nat × Nat) = (b, x, 1, n) := e1
    simp only [Prod.mk.injEq] at e1'
    obtain ⟨rfl, rfl, -, rfl⟩ := e1'
    refine ⟨arr, el, fz, e2, fun i hi => ?_⟩
    have := (e3 i 0 (some .u8) hi rfl).1
    simpa [envO, sumSig, sigO] using this

theorem known_OS {v u : Bts} {x y : Int} {F : List Fact} (hv : ∀ i, v.at_ i < 256) (hvn : v.n ≤ 9223372036854775807) (hu : ∀ i, u.at_ i < 256) (hun : u.n ≤ 9223372036854775807) : Known (envO (sumSig v u x y) F) KOS where
  name f args S x h vals w := by
    obtain ⟨x, S'⟩ := x
    obtain ⟨rfl, -⟩ := KOS_some h
    exact nameF name7 vals w
  mono f args S x S' h := by
    obtain ⟨-, -, rfl⟩ := KOS_some h
    exact .refl _
  call f args S z S' h ρ vals w hok hfr hvs := by
    obtain ⟨rfl, hcase, rfl⟩ := KOS_some h
    obtain ⟨hfv, hfu⟩ := fits_O hv hvn hu hun hok.glob.lies
    have hsig : ρ.sig = sumSig v u x y := hok.glob.num.sig
    have key : ∀ (p : Bts) (j k : Nat), p.Fits w → args = [.row j] → z = .sint .u32 (.var k) → (sumSig v u x y).row j = (p.b, p.x, 1, p.n) → (sumSig v u x y).var k = (crc p.list : Nat) → Calls Tryz.prog 7 vals.toArray w (Res (envO (sumSig v u x y) F) ρ S' w S' z) := by
      intro p j k hp ha hz hr hvar
      subst ha
      subst hz
      cases hvs with
      | cons h1 h2 =>
        cases h2
        obtain ⟨b, x0, sz, n, cap, e1, rfl, hcap⟩ := h1.row_inv
        rw [hsig, hr] at e1
        simp only [Prod.mk.injEq] at e1
        obtain ⟨rfl, rfl, -, rfl⟩ := e1
        have key : Calls Tryz.prog 7 #[.slice (some ⟨p.b, p.x, none⟩) p.n cap] w fun e w' => e = .returned (.int .u32 (crc p.list : Nat)) ∧ On w w' := sum7 hp cap hcap
        refine callsIn_wide.1 (CallsIn.mono (callsIn_wide.2 key) (n := 0) ?_)
        rintro e w' ⟨rfl, o⟩
        have g0 : VRel ρ (.sint .u32 (.var k)) (.int .u32 (crc p.list : Nat)) := by
          have := VRel.sint (ρ := ρ) .u32 (.var k)
          rw [hsig] at this
          simp only [IE.val] at this
          rw [hvar] at this
          exact this
        exact ⟨_, ρ, rfl, ext_on hok.wrel hok.tidy o, g0⟩
    rcases hcase with ⟨h1, h2⟩ | ⟨h1, h2⟩
    · exact key v 0 3 hfv h1 h2 rfl rfl
    · exact key u 1 4 hfu h1 h2 rfl rfl
theorem globals_lies {σ σ' : Sig} {E : Env} {w : World} (h : Lies E w) (hG : E.G = globals) : Lies (env σ') w := by
  refine ⟨fun g cs hg => ?_, fun a ks h => by cases h⟩
  have hg' : globals g = some cs := hg
  obtain ⟨arr, el, fz, h1, h2⟩ := h.cells g cs (by rw [hG]; exact hg')
  refine ⟨arr, el, fz, h1, fun k x hx => ?_⟩
  obtain ⟨z, e1, e2⟩ := h2 k x hx
  refine ⟨z, e1, ?_⟩
  have h0 : ∀ x ∈ cs, (match x with | .int _ _ => true | _ => false) = true := by
    unfold globals at hg'
    split at hg'
    · simp only [Option.some.injEq] at hg'; subst hg'
      have h0 : stepsCells.all (fun x => match x with | .int _ _ => true | _ => false) = true := rfl
      exact fun x hx => List.all_eq_true.1 h0 x hx
    · simp only [Option.some.injEq] at hg'; subst hg'
      have h0 : tabCells.all (fun x => match x with | .int _ _ => true | _ => false) = true := rfl
      exact fun x hx => List.all_eq_true.1 h0 x hx
    · cases hg'
  have := h0 x (List.mem_of_getElem? hx)
  split at this
  · cases e2
    exact .int _ _
  · cases this
theorem known_O {v u : Bts} {x y : Int} {F : List Fact} (hv : ∀ i, v.at_ i < 256) (hvn : v.n ≤ 9223372036854775807) (hu : ∀ i, u.at_ i < 256) (hun : u.n ≤ 9223372036854775807) : Known (envO (sumSig v u x y) F) KO :=
  known_bool (E := envO (sumSig v u x y) F) works_name (fun w h => works_calls sig0 w (globals_lies (σ := sig0) h rfl)) (known_OS hv hvn hu hun)

theorem slotted_put {σ : Sig} {l : List (Nat × Want)} {a : Act} {d : Nat} {v : Value} (h : SlottedV σ l a) (hd : ∀ p ∈ l, p.1 ≠ d) : SlottedV σ l (a.put (some d) v) := fun p hp => by
  rw [put_other (hd p hp)]
  exact h p hp
theorem moveB {v u u' : Bts} {x y : Int} {a : Act} (h : SlottedV (sumSig v u x y) B5 a) : SlottedV (sumSig v u' x y) B5 a :=
  slotVcons (slotRow h (.head _) rfl) (slotVcons (slotNum h (.tail _ (.head _)) rfl) (slotVcons (slotNum h (.tail _ (.tail _ (.head _))) rfl) (slotV1 (slotNum h (.tail _ (.tail _ (.tail _ (.head _)))) rfl))))
theorem tailV {σ : Sig} {p : Nat × Want} {l : List (Nat × Want)} {a : Act} (h : SlottedV σ (p :: l) a) : SlottedV σ l a := fun q hq => h q (List.mem_cons_of_mem _ hq)

def isCall (o : Option Oper) (f x d : Nat) : Bool := match o with
  | some o => (match o.op with
    | .call c => (match c.callee, c.args.toList with
      | .value (.func g), [.tmp y] => g == f && y == x && o.guard.isNone && o.dst == some d
      | _, _ => false)
    | _ => false)
  | none => false
theorem isCall_some {o : Option Oper} {f x d : Nat} (h : isCall o f x d = true) : ∃ o' c, o = some o' ∧ o'.guard = none ∧ o'.op = .call c ∧ c.callee = .value (.func f) ∧ c.args.toList = [.tmp x] ∧ o'.dst = some d := by
  unfold isCall at h
  split at h
  · rename_i o'
    split at h
    · rename_i c hc
      split at h
      · rename_i g y h1 h2
        simp only [Bool.and_eq_true, beq_iff_eq, Option.isNone_iff_eq_none] at h
        obtain ⟨⟨⟨rfl, rfl⟩, h3⟩, h4⟩ := h
        exact ⟨o', c, rfl, h3, hc, h1, h2, h4⟩
      · cases h
    · cases h
  · cases h
theorem call4 : isCall O4[1]? 15 15 16 = true := by kernel_rfl
theorem call8 : isCall O8[1]? 15 40 41 = true := by kernel_rfl
theorem keep16 : notDst 16 ((O4.toList.drop 2).take 12) = true := by kernel_rfl
theorem name15 : named 15 = true := by kernel_rfl

theorem clone_step {ops : Array Oper} {Q : Exit → Act → World → Prop} {m j x d : Nat} {L : List Nat} (h : isCall ops[j]? 15 x d = true) {a : Act} {W : World} {v : Bts} (hv : v.Fits W) (hn : v.n ≤ 100000) {cap : Nat} (hcap : v.n ≤ cap)
    (hx : a.tmps.getD x undef = .slice (some ⟨v.b, v.x, none⟩) v.n cap)
    (hq : ∀ b' x' cap' w', OwnB w' b' x' cap' v.n v.at_ → W.heap.size ≤ b' → On W w' → wpOpsIn Fence.wide m Tryz.prog ops Q L (a.put (some d) (.slice (some ⟨b', x', none⟩) v.n cap')) w') :
    wpOpsIn Fence.wide m Tryz.prog ops Q (j :: L) a W := by
  obtain ⟨o', c, e1, e2, e3, e4, e5, e6⟩ := isCall_some h
  refine op_call_hand (vals := #[.slice (some ⟨v.b, v.x, none⟩) v.n cap]) e1 e2 e3 e4 ?_ (nameF name15 _ _) (clone15 hv hn hcap) ?_
  · apply Array.ext'
    simp [e5, Act.eval, hx]
  · rintro e w' ⟨b', x', cap', rfl, h1, h2, h3⟩
    refine ⟨_, rfl, ?_⟩
    rw [e6]
    exact hq b' x' cap' w' h1 h2 h3

/-! the bytes of the sum -/
theorem wrap8 (n : Nat) : IntKind.u8.wrap (n : Int) = ((n % 256 : Nat) : Int) := by
  simp only [IntKind.wrap, IntKind.bits, IntKind.signed]
  simp
theorem opVal_shr {k : IntKind} {a m : Nat} (hm : m ≤ k.bits) : opVal .shr k (a : Int) (m : Int) = ((a / 2 ^ m : Nat) : Int) := by
  unfold opVal
  have : Nat.min m k.bits = m := Nat.min_eq_left hm
  simp only [Sym.shiftOp]
  show (match Sym.int k (Int.fdiv (a : Int) (Int.ofNat (Nat.pow 2 (Nat.min m k.bits)))) with | some (.int _ n) => n | _ => 0) = _
  rw [int_eq, this]
  show Int.fdiv (a : Int) ((2 ^ m : Nat) : Int) = _
  rw [Int.fdiv_eq_ediv_of_nonneg _ (Int.natCast_nonneg _)]
  norm_cast
theorem four_lt (s j : Nat) : (four s).getD j 0 < 256 := by
  match j with
  | 0 => exact Nat.mod_lt _ (by decide)
  | 1 => exact Nat.mod_lt _ (by decide)
  | 2 => exact Nat.mod_lt _ (by decide)
  | 3 => exact Nat.mod_lt _ (by decide)
  | j + 4 => simp [four]
theorem bytes_val {v u : Bts} {x y : Int} {j : Nat} (hj : j < 4) : ∃ e, bytesIE[j]? = some e ∧ IE.val (sumSig v u x y) e = (((four (crc v.list)).getD j 0 : Nat) : Int) := by
  have h8 : opVal .shr .u32 ((crc v.list : Nat) : Int) 8 = ((crc v.list / 256 : Nat) : Int) := opVal_shr (m := 8) (by decide)
  have h16 : opVal .shr .u32 ((crc v.list : Nat) : Int) 16 = ((crc v.list / 65536 : Nat) : Int) := opVal_shr (m := 16) (by decide)
  have h24 : opVal .shr .u32 ((crc v.list : Nat) : Int) 24 = ((crc v.list / 16777216 : Nat) : Int) := opVal_shr (m := 24) (by decide)
  match j, hj with
  | 0, _ => exact ⟨_, rfl, by simp only [IE.val, sumSig, sigO]; rw [wrap8]; rfl⟩
  | 1, _ => exact ⟨_, rfl, by simp only [IE.val, sumSig, sigO]; rw [h8, wrap8]; rfl⟩
  | 2, _ => exact ⟨_, rfl, by simp only [IE.val, sumSig, sigO]; rw [h16, wrap8]; rfl⟩
  | 3, _ => exact ⟨_, rfl, by simp only [IE.val, sumSig, sigO]; rw [h24, wrap8]; rfl⟩
theorem list_four (v : Bts) (b x : Nat) (c : List Nat) (hc : c.length = 4) : (Bts.mk b x (v.n + 4) (fun i => if i < v.n then v.at_ i else c.getD (i - v.n) 0)).list = v.list ++ c := by
  unfold Bts.list
  apply List.ext_getElem
  · simp [hc]
  · intro i h1 h2
    simp only [List.getElem_map, List.getElem_range', Nat.zero_add, Nat.one_mul]
    by_cases hi : i < v.n
    · rw [if_pos hi, List.getElem_append_left (by simpa using hi)]
      simp
    · rw [if_neg hi, List.getElem_append_right (by simpa using hi)]
      simp only [List.length_map, List.length_range']
      have : i - v.n < c.length := by
        simp at h1
        omega
      rw [List.getD_eq_getElem?_getD, List.getElem?_eq_getElem this]
      rfl

/-! one byte changed -/
theorem list_split (n : Nat) (f : Nat → Nat) {j : Nat} (hj : j < n) : (List.range' 0 n).map f = (List.range' 0 j).map f ++ f j :: (List.range' (j + 1) (n - (j + 1))).map f := by
  have e : n = j + (1 + (n - (j + 1))) := by omega
  have : List.range' 0 n = List.range' 0 j ++ (j :: List.range' (j + 1) (n - (j + 1))) := by
    conv => lhs; rw [e]
    rw [← List.range'_append_1, Nat.zero_add]
    congr 1
    rw [Nat.add_comm 1, List.range'_succ]
  rw [this, List.map_append, List.map_cons]
theorem changed {v : Bts} (hv : ∀ i, v.at_ i < 256) {b x j z : Nat} (hj : j < v.n) (hz : z < 256) (hne : z ≠ v.at_ j) : crc (Bts.mk b x v.n (fun i => if i = j then z else v.at_ i)).list ≠ crc v.list := by
  intro h
  have e1 : (Bts.mk b x v.n (fun i => if i = j then z else v.at_ i)).list = (List.range' 0 j).map v.at_ ++ z :: (List.range' (j + 1) (v.n - (j + 1))).map v.at_ := by
    unfold Bts.list
    rw [list_split _ _ hj]
    congr 1
    · apply List.map_congr_left
      intro i hi
      have := (List.mem_range'_1.1 hi).2
      exact if_neg (by omega)
    · show (if j = j then z else v.at_ j) :: _ = _
      rw [if_pos rfl]
      congr 1
      apply List.map_congr_left
      intro i hi
      have := (List.mem_range'_1.1 hi).1
      exact if_neg (by omega)
  have e2 : v.list = (List.range' 0 j).map v.at_ ++ v.at_ j :: (List.range' (j + 1) (v.n - (j + 1))).map v.at_ := by
    unfold Bts.list
    rw [list_split _ _ hj]
  rw [e1, e2] at h
  have key : ∀ (l : List Nat), ∀ c ∈ l.map v.at_, c < 256 := fun l c hc => by
    obtain ⟨i, -, rfl⟩ := List.mem_map.1 hc
    exact hv i
  exact hne (crc_one (key _) (key _) hz (hv j) h)
end Go.Proofs.YtbimieobgjehkaaGreatDoor
