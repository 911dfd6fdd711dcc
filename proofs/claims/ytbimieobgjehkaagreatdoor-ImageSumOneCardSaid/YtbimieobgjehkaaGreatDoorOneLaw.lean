/- ImageSumOne: the law's function answers true, of no bytes and of bytes in memory. -/
import Derived.Test.YtbimieobgjehkaaGreatDoorOneLoop
set_option linter.all false
namespace Go.Proofs.YtbimieobgjehkaaGreatDoor
open Go.RX
open Go.RX.Sym

def isStore (o : Option Oper) (x y : Nat) : Bool := match o with
  | some o => (match o.op with
    | .store t (.tmp a) (.tmp b) => t == 5 && a == x && b == y && o.guard.isNone && o.dst.isNone
    | _ => false)
  | none => false
theorem isStore_some {o : Option Oper} {x y : Nat} (h : isStore o x y = true) : ∃ o', o = some o' ∧ o'.op = .store 5 (.tmp x) (.tmp y) ∧ o'.guard = none ∧ o'.dst = none := by
  unfold isStore at h
  split at h
  · rename_i o'
    split at h
    · rename_i t a b hc
      simp only [Bool.and_eq_true, beq_iff_eq, Option.isNone_iff_eq_none] at h
      obtain ⟨⟨⟨⟨rfl, rfl⟩, rfl⟩, h4⟩, h5⟩ := h
      exact ⟨o', rfl, hc, h4, h5⟩
    · cases h
  · cases h
theorem store9 : isStore O9[12]? 53 52 = true := by kernel_rfl
theorem size5 (w : World) : (Go.sizeOf 5).run Tryz.prog w = .ok 1 w := sizeOf_run (E := env sig0) (n := 1) (by kernel_rfl) w

/-- A byte of a row of the call's own is written, by hand. -/
theorem store_step {ops : Array Oper} {Q : Exit → Act → World → Prop} {m j x y : Nat} {L : List Nat} (h : isStore ops[j]? x y = true) {a : Act} {W : World} {b x0 cap n i z : Nat} {at_ : Nat → Nat} (ho : OwnB W b x0 cap n at_) (hi : i < n)
    (hx : a.tmps.getD x undef = .pointer (some ⟨b, x0 + i, none⟩)) (hy : a.tmps.getD y undef = .int .u8 (z : Nat))
    (hn : ∀ w', OwnB w' b x0 cap n (fun k => if k = i then z else at_ k) → OnBut b W w' → wpOpsIn Fence.wide m Tryz.prog ops Q L a w') : wpOpsIn Fence.wide m Tryz.prog ops Q (j :: L) a W := by
  obtain ⟨o', e1, e2, e3, e4⟩ := isStore_some h
  obtain ⟨arr, el, fz, g1, g2, g3, g4⟩ := ho.lies
  have hle := ho.le
  obtain ⟨w', hrun, hsame, arr', hb', hs', hk'⟩ := run_storeCells_win Tryz.prog b (x0 + i) el fz [Value.int .u8 (z : Nat)] 0 arr W g1 g2 (by simp; omega) (fun v hv => by simp only [List.mem_cons, List.not_mem_nil, or_false] at hv; subst hv; rfl)
  refine op_hand_skip e1 e3 (fun c e => by rw [e2] at e; cases e) (w' := w') ?_ ?_
  · simp only [execOp, e2, Act.eval, hx, hy]
    refine run_u (E := env sig0) ?_
    show (do Instr.storeAt _ _ _ : Sem Unit).run Tryz.prog W = _
    simp only [Instr.storeAt, Instr.sureAddr, Sem.run_bind, Sem.run_pure, Result.andThen_ok, storeVar, size5]
    rw [if_neg (by simp [Value.cells])]
    exact hrun
  · rw [e4]
    refine hn w' ⟨hle, arr', el, fz, hb', by rw [hs']; exact g2, by rw [hs']; exact g3, fun k hk => ?_⟩ hsame.onBut
    rw [hk']
    simp only [Nat.add_zero, List.length_cons, List.length_nil]
    by_cases hki : k = i
    · subst hki
      rw [if_pos (by omega), if_pos rfl, show x0 + k - (x0 + k) = 0 by omega]
      rfl
    · rw [if_neg (by omega), if_neg hki]
      exact g4 k hk

def OneIs (e : Ending) : Prop := e = .returned (.bool true)

theorem idx_val {v u : Bts} {x : Nat} {y : Int} (hx : x < 65536) (hn : 0 < u.n) (hu : u.n ≤ 100000) : IE.val (sumSig v u x y) idxIE = ((x % u.n : Nat) : Int) := by
  simp only [idxIE, IE.val, sumSig, sigO]
  rw [show IntKind.i64.wrap (x : Int) = (x : Int) from wrapN (by simp only [highOf]; omega)]
  refine opVal_int (by simp) (by simp) ?_
  simp only [Sym.intOp]
  have : Sym.eqb ((u.n : Nat) : Int) (.ofNat 0) = false := by
    rw [eqb_eq]
    exact decide_eq_false fun h => by simp at h; omega
  rw [this]
  simp only
  rw [int_eq]
  rfl
theorem new_val {v u : Bts} {x y : Nat} (hv : ∀ i, u.at_ i < 256) (hx : x < 65536) (hy : y < 256) (hn : 0 < u.n) (hu : u.n ≤ 100000) : IE.val (sumSig v u x y) newIE = ((u.at_ (x % u.n) ^^^ max y 1 : Nat) : Int) := by
  have hi := idx_val (v := v) (u := u) (x := x) (y := y) hx hn hu
  have hm : IE.val (sumSig v u x y) (.max (.var 1) (.lit 1)) = ((max y 1 : Nat) : Int) := by
    simp only [IE.val, sumSig, sigO]
    split <;> omega
  have hs : IE.val (sumSig v u x y) (.sel 1 idxIE 0) = ((u.at_ (x % u.n) : Nat) : Int) := by
    simp only [IE.val] at hi ⊢
    rw [hi, Int.toNat_natCast]
    rfl
  have hb := hv (x % u.n)
  show opVal .xor .u8 (IE.val (sumSig v u x y) (.sel 1 idxIE 0)) (IE.val (sumSig v u x y) (.max (.var 1) (.lit 1))) = _
  rw [hs, hm]
  refine opVal_int (by simp) (by simp) ?_
  have hlt : u.at_ (x % u.n) ^^^ max y 1 < 256 := Nat.xor_lt_two_pow (n := 8) hb (by omega)
  have e : (BitVec.ofInt IntKind.u8.bits ((u.at_ (x % u.n) : Nat) : Int) ^^^ BitVec.ofInt IntKind.u8.bits ((max y 1 : Nat) : Int)).toNat = u.at_ (x % u.n) ^^^ max y 1 := by
    rw [ofInt_nat, ofInt_nat, BitVec.toNat_xor, BitVec.toNat_ofNat, BitVec.toNat_ofNat]
    simp only [IntKind.bits]
    rw [Nat.mod_eq_of_lt (a := u.at_ (x % u.n)) (by omega), Nat.mod_eq_of_lt (a := max y 1) (by omega)]
  simp only [Sym.intOp, Sym.bitsOp]
  rw [wrapSlow_eq, e, wrapN (by simp only [highOf]; omega)]

theorem one_row {v : Bts} {W : World} (hv : v.Fits W) (hL : ∀ σ, Lies (env σ) W) {cap : Nat} (hcap : v.n ≤ cap) {x y : Nat} (hx : x < 65536) (hy : y < 256) :
    Calls Tryz.prog 5 #[.slice (some ⟨v.b, v.x, none⟩) v.n cap, .int .u16 (x : Int), .int .u8 (y : Int)] W fun e w' => e = .returned (.bool true) ∧ On W w' := by
  have hL := hL sig0
  have hby := hv.byte
  have hfew := hv.few
  refine Go.RX.begun (E := envO (sumSig v v x y) []) (fn := Tryz.f5) f5_at body5 (by rw [f5_n]; simp) fun a hs hd h0 => ?_
  rw [f5_n] at hs
  have s0 : SlottedV (sumSig v v x y) A5 a := slotVcons ⟨cap, h0 0 (by simp), hcap⟩ (slotVcons (by simp only [wantIsV]; exact h0 1 (by simp)) (slotV1 (by simp only [wantIsV]; exact h0 2 (by simp))))
  have kn : ∀ F, Known (envO (sumSig v v x y) F) KO := fun F => known_O hby hfew hby hfew
  have fin : ∀ {u : Bts} {a : Act} {w : World}, u.Fits w → On W w → SlottedV (sumSig v u x y) [(6, .bool true)] a → a.tmps.size = 61 → a.defers = [] → LeavesInM Fence.wide 0 Tryz.prog Tryz.f5 a.tmps (fun e w' => e = .returned (.bool true) ∧ On W w') a.defers .returning w := fun {u a w} hu ho hsl hz hdd => by
    refine one_leavesV (E := envO (sumSig v u x y) []) (num_O fnil) (p5 (sumSig v u x y)) hz hdd hsl (lies_O (hv.on ho) hu (lies_on hL ho)) fun z w' hz o' => ?_
    simp only [wantIsV] at hz
    subst hz
    exact ⟨rfl, ho.trans o'⟩
  refine wpIn_seq (piece_stepV (E := envO (sumSig v v x y) []) (kn _) (num_O fnil) (o_a _) hs hd s0 (lies_O hv hv hL) fun a1 W1 o1 s1 z1 d1 => ?_)
  have hv1 := hv.on o1
  have hL1 := lies_on hL o1
  by_cases hl : IE.val (sumSig v v x y) (.lit 2000) < IE.val (sumSig v v x y) (.len 0)
  · refine wpIn_seq (piece_stepV (E := envO (sumSig v v x y) [⟨true, .lit 2000, .len 0, true⟩]) (kn _) (num_O (fcons (ltT hl) fnil)) (o_b' _) z1 d1 s1 (lies_O hv1 hv1 hL1) fun a2 W2 o2 s2 z2 d2 => ?_)
    exact fin (hv1.on o2) (o1.trans o2) s2 z2 d2
  · have hn : v.n ≤ 2000 := by
      simp only [IE.val, sumSig, sigO] at hl
      omega
    refine wpIn_seq (piece_stepV (E := envO (sumSig v v x y) [⟨true, .lit 2000, .len 0, false⟩]) (kn _) (num_O (fcons (ltF hl) fnil)) (o_b _) z1 d1 s1 (lies_O hv1 hv1 hL1) fun a2 W2 o2 s2 z2 d2 => ?_)
    have o2 := o1.trans o2
    have hv2 := hv.on o2
    have hL2 := lies_on hL o2
    refine wpIn_seq (piece_stepV (E := envO (sumSig v v x y) []) (kn _) (num_O fnil) (o_c _) z2 d2 s2 (lies_O hv2 hv2 hL2) fun a3 W3 o3 s3 z3 d3 => ?_)
    have o3 := o2.trans o3
    have hv3 := hv.on o3
    have hL3 := lies_on hL o3
    refine wpIn_seq (wpIn_seq ?_)
    rw [R4]
    refine region_parts O4_size ?_
    show wpOpsIn _ _ _ _ _ (List.range' 0 1 ++ (1 :: (List.range' 2 12 ++ (14 :: (List.range' 15 6 ++ []))))) a3 W3
    refine ops_stepV (E := envO (sumSig v v x y) []) (kn _) (num_O fnil) (o_d _) (by rw [O4_size]; omega) z3 d3 s3 (lies_O hv3 hv3 hL3) fun a4 W4 o4 s4 z4 d4 => ?_
    have o4 := o3.trans o4
    have hv4 := hv.on o4
    have hL4 := lies_on hL o4
    obtain ⟨cap4, e4, hc4⟩ := s4 (15, .row) (by simp)
    refine clone_step call4 hv4 (by omega) hc4 e4 fun b5 x5 cap5 W5 hown hfr5 o5 => ?_
    have hf5 : W.heap.size ≤ b5 := Nat.le_trans o4.size hfr5
    have o5 := o4.trans o5
    have hv5 := hv.on o5
    have hL5 := lies_on hL o5
    have s5 : SlottedV (sumSig v v x y) B5 (a4.put (some 16) (.slice (some ⟨b5, x5, none⟩) v.n cap5)) := slotted_put (tailV s4) (by decide)
    obtain ⟨fr6, S6, hr6, hw6, hb6⟩ := opsBox_some (o_e (sumSig v v x y))
    refine ops_step (E := envO (sumSig v v x y) []) (kn _) (num_O fnil) hr6 (by rw [O4_size]; omega) (by rw [put_size, z4]) (frInV_rel s5) (lies_O hv5 hv5 hL5) fun ρ6 a6 W6 hext hok hf z6 d6 hk6 => ?_
    have s6 : SlottedV (sumSig v v x y) B5 a6 := by
      have := wantsOkV_holds hf hw6
      rw [hok.glob.num.sig] at this
      exact this
    have e16 : a6.tmps.getD 16 undef = .slice (some ⟨b5, x5, none⟩) v.n cap5 := by
      rw [hk6 16 keep16]
      exact put_same (by rw [z4]; omega)
    obtain ⟨b28, x28, arr28, el28, fz28, e28, h28, -, -, -, c28⟩ := boxOk_some hb6 hok hext hf
    have o6 := o5.trans (ext_on0 hext)
    have hown6 := hown.on (ext_on0 hext)
    have d6' : a6.defers = [] := by rw [d6, put_defers, d4]
    refine append_step app4 hown6 (c := fun j => (four (crc v.list)).getD j 0) e16 e28 h28 (fun j hj => ?_) (by omega) (by simp [bytesIE]) fun b7 x7 cap7 W7 hown7 hf7 ob7 => ?_
    · have hj : j < 4 := by simpa [bytesIE] using hj
      obtain ⟨e, h1, h2⟩ := bytes_val (v := v) (u := v) (x := x) (y := y) hj
      rw [c28 j e h1]
      exact congrArg (fun z => some (Value.int .u8 z)) h2
    have o7 : On W W7 := OnBut.on o6 ob7 hf5
    have hv7 := hv.on o7
    have hL7 := lies_on hL o7
    have hlen4 : bytesIE.length = 4 := rfl
    rw [hlen4] at hown7
    have hu7 := hown7.fits (fun i => by
      split
      · exact hby i
      · exact four_lt _ _) (by omega)
    generalize hU : Bts.mk b7 x7 (v.n + 4) (fun i => if i < v.n then v.at_ i else (four (crc v.list)).getD (i - v.n) 0) = u at hu7
    have hul : crc u.list = 558161692 := by
      rw [← hU, list_four v b7 x7 (four (crc v.list)) rfl]
      exact crc_four _ (Bts.list_lt hby)
    have kn7 : ∀ F, Known (envO (sumSig v u x y) F) KO := fun F => known_O hby hfew hu7.byte hu7.few
    have s7 : SlottedV (sumSig v u x y) ((29, .rowN 1) :: B5) (a6.put (some 29) (.slice (some ⟨b7, x7, none⟩) (v.n + bytesIE.length) cap7)) := by
      refine slotVcons ⟨cap7, ?_, ?_⟩ (moveB (slotted_put s6 (by decide)))
      · rw [put_same (by rw [z6]; omega), ← hU]
        rfl
      · rw [← hU]
        exact hown7.le
    refine ops_stepV (E := envO (sumSig v u x y) [⟨false, .var 4, .lit 558161692, true⟩]) (kn7 _) (num_O (fcons (eqT (by simp only [IE.val, sumSig, sigO]; rw [hul]; rfl)) fnil)) (o_f _) (by rw [O4_size]; omega) (by rw [put_size, z6]) (by rw [put_defers, d6']) s7 (lies_O hv7 hu7 hL7) fun a8 W8 o8 s8 z8 d8 => ?_
    have u8 := hu7.on o8
    have o8 := o7.trans o8
    have hv8 := hv.on o8
    have hL8 := lies_on hL o8
    show (pcs Tryz.f5 [true, true, true, false, true]).wpIn _ _ _ _ a8 W8
    refine piece_stepV (E := envO (sumSig v u x y) []) (kn7 _) (num_O fnil) (o_g _) z8 d8 s8 (lies_O hv8 u8 hL8) fun a9 W9 o9 s9 z9 d9 => ?_
    have u9 := u8.on o9
    have o9 := o8.trans o9
    have hv9 := hv.on o9
    have hL9 := lies_on hL o9
    show (Code.seq _ _).wpIn _ _ _ _ a9 W9
    by_cases hz : v.n = 0
    · refine wpIn_seq (piece_stepV (E := envO (sumSig v u x y) [⟨false, .len 0, .lit 0, true⟩]) (kn7 _) (num_O (fcons (eqT (by simp only [IE.val, sumSig, sigO]; omega)) fnil)) (o_h' _) z9 d9 s9 (lies_O hv9 u9 hL9) fun a10 W10 o10 s10 z10 d10 => ?_)
      exact fin (u9.on o10) (o9.trans o10) s10 z10 d10
    · refine wpIn_seq (piece_stepV (E := envO (sumSig v u x y) [⟨false, .len 0, .lit 0, false⟩]) (kn7 _) (num_O (fcons (eqF (by simp only [IE.val, sumSig, sigO]; omega)) fnil)) (o_h _) z9 d9 s9 (lies_O hv9 u9 hL9) fun a10 W10 o10 s10 z10 d10 => ?_)
      have o10 := o9.trans o10
      have hv10 := hv.on o10
      have hL10 := lies_on hL o10
      rw [R8]
      refine wpIn_seq (region_parts O8_size ?_)
      show wpOpsIn _ _ _ _ _ (List.range' 0 1 ++ (1 :: (List.range' 2 1 ++ []))) a10 W10
      refine ops_stepV (E := envO (sumSig v v x y) []) (kn _) (num_O fnil) (o_i _) (by rw [O8_size]; omega) z10 d10 (moveB s10) (lies_O hv10 hv10 hL10) fun a11 W11 o11 s11 z11 d11 => ?_
      have o11 := o10.trans o11
      have hv11 := hv.on o11
      obtain ⟨cap11, e11, hc11⟩ := s11 (40, .row) (by simp)
      refine clone_step call8 hv11 (by omega) hc11 e11 fun b12 x12 cap12 W12 hown12 hfr12 o12 => ?_
      have hf12 : W.heap.size ≤ b12 := Nat.le_trans o11.size hfr12
      have o12 := o11.trans o12
      have hv12 := hv.on o12
      have hL12 := lies_on hL o12
      have u12 : Bts.Fits ⟨b12, x12, v.n, v.at_⟩ W12 := hown12.fits hby hfew
      have s12 : SlottedV (sumSig v ⟨b12, x12, v.n, v.at_⟩ x y) ((41, .rowN 1) :: B5) (a11.put (some 41) (.slice (some ⟨b12, x12, none⟩) v.n cap12)) :=
        slotVcons ⟨cap12, put_same (by rw [z11]; omega), hown12.le⟩ (moveB (slotted_put (tailV s11) (by decide)))
      have kn12 : ∀ F, Known (envO (sumSig v ⟨b12, x12, v.n, v.at_⟩ x y) F) KO := fun F => known_O hby hfew hby hfew
      refine ops_stepV (E := envO (sumSig v ⟨b12, x12, v.n, v.at_⟩ x y) []) (kn12 _) (num_O fnil) (o_j _) (by rw [O8_size]; omega) (by rw [put_size, z11]) (by rw [put_defers, d11]) s12 (lies_O hv12 u12 hL12) fun a13 W13 o13 s13 z13 d13 => ?_
      have u13 := u12.on o13
      have hown13 := hown12.on o13
      have o13 := o12.trans o13
      have hv13 := hv.on o13
      have hL13 := lies_on hL o13
      show (Code.seq _ _).wpIn _ _ _ _ a13 W13
      rw [R9]
      refine wpIn_seq (region_parts O9_size ?_)
      show wpOpsIn _ _ _ _ _ (List.range' 0 12 ++ (12 :: [])) a13 W13
      have hi := idx_val (v := v) (u := ⟨b12, x12, v.n, v.at_⟩) (x := x) (y := y) hx (by show 0 < v.n; omega) (by show v.n ≤ 100000; omega)
      have hnv := new_val (v := v) (u := ⟨b12, x12, v.n, v.at_⟩) (x := x) (y := y) hby hx hy (by show 0 < v.n; omega) (by show v.n ≤ 100000; omega)
      dsimp only at hi hnv
      have hmod : x % v.n < v.n := Nat.mod_lt _ (by omega)
      refine ops_stepV (E := envO (sumSig v ⟨b12, x12, v.n, v.at_⟩ x y) [⟨false, .len 1, .lit 0, false⟩, ⟨true, idxIE, .lit 0, false⟩, ⟨true, idxIE, .len 1, true⟩]) (kn12 _)
        (num_O (fcons (eqF (by simp only [IE.val, sumSig, sigO]; omega)) (fcons (ltF (by rw [hi]; simp only [IE.val]; omega)) (fcons (ltT (by rw [hi]; simp only [IE.val, sumSig, sigO]; omega)) fnil)))) (o_k _) (by rw [O9_size]; omega) z13 d13 s13 (lies_O hv13 u13 hL13) fun a14 W14 o14 s14 z14 d14 => ?_
      have hown14 := hown13.on o14
      have o14 := o13.trans o14
      have s53 := s14 (53, .rptr 1 idxIE) (by simp)
      have s52 := s14 (52, .num .u8 newIE) (by simp)
      have s8' := s14 (8, .rowN 1) (by simp)
      simp only [wantIsV] at s53 s52
      obtain ⟨-, -, e53⟩ := s53
      have hse : (envO (sumSig v ⟨b12, x12, v.n, v.at_⟩ x y) [⟨false, .len 1, .lit 0, false⟩, ⟨true, idxIE, .lit 0, false⟩, ⟨true, idxIE, .len 1, true⟩]).sig = sumSig v ⟨b12, x12, v.n, v.at_⟩ x y := rfl
      rw [hse] at e53 s52
      rw [hi] at e53
      rw [hnv] at s52
      have hz256 : v.at_ (x % v.n) ^^^ max y 1 < 256 := Nat.xor_lt_two_pow (n := 8) (hby _) (by omega)
      refine store_step store9 hown14 hmod (z := v.at_ (x % v.n) ^^^ max y 1) ?_ s52 fun W15 hown15 ob15 => ?_
      · rw [e53]
        simp [sumSig, sigO]
      have o15 : On W W15 := OnBut.on o14 ob15 hf12
      have hv15 := hv.on o15
      have hL15 := lies_on hL o15
      have u15 := hown15.fits (fun i => by
        split
        · exact hz256
        · exact hby i) hfew
      have hne : crc (Bts.mk b12 x12 v.n (fun i => if i = x % v.n then v.at_ (x % v.n) ^^^ max y 1 else v.at_ i)).list ≠ crc v.list := changed hby hmod hz256 fun h => by
        have h0 := congrArg (fun z => v.at_ (x % v.n) ^^^ z) h
        simp only [← Nat.xor_assoc, Nat.xor_self, Nat.zero_xor] at h0
        omega
      generalize hU2 : Bts.mk b12 x12 v.n (fun i => if i = x % v.n then v.at_ (x % v.n) ^^^ max y 1 else v.at_ i) = u2 at hne u15
      have s15 : SlottedV (sumSig v u2 x y) ((8, .rowN 1) :: B5) a14 := by
        refine slotVcons ?_ (moveB (tailV (tailV (tailV s14))))
        obtain ⟨c8, e8, h8⟩ := s8'
        refine ⟨c8, ?_, ?_⟩
        · rw [e8, ← hU2]; rfl
        · rw [← hU2]; exact h8
      show (pcs Tryz.f5 [true, true, true, true, true, true, true]).wpIn _ _ _ _ a14 W15
      refine piece_stepV (E := envO (sumSig v u2 x y) [⟨false, .var 4, .var 3, false⟩]) (known_O hby hfew u15.byte u15.few) (num_O (fcons (eqF (by simp only [IE.val, sumSig, sigO]; omega)) fnil)) (o_l _) z14 d14 s15 (lies_O hv15 u15 hL15) fun a16 W16 o16 s16 z16 d16 => ?_
      exact fin (u15.on o16) (o15.trans o16) s16 z16 d16

theorem one_calls {s : Value} {x y : Nat} (hx : x < 65536) (hy : y < 256) {W : World} (hv : s = .slice none 0 0 ∨ ∃ (u : Bts) (cap : Nat), s = .slice (some ⟨u.b, u.x, none⟩) u.n cap ∧ u.n ≤ cap ∧ u.Fits W) (h : ∀ σ, Lies (env σ) W) :
    Calls Tryz.prog 5 #[s, .int .u16 (x : Int), .int .u8 (y : Int)] W fun e w' => e = .returned (.bool true) ∧ On W w' := by
  rcases hv with rfl | ⟨u, cap, rfl, hc, hu⟩
  · obtain ⟨S', hr⟩ := isBool_some (one_nil ⟨fun j => match j with | 0 => x | 1 => y | _ => 0, fun _ _ => 0, fun _ => (0, 0, 0, 0), fun _ _ _ => .bool false⟩)
    exact run_bool (known_N _) hr (vals := [.slice none 0 0, .int .u16 (x : Int), .int .u8 (y : Int)]) (.cons .nilslice (.cons (by
      have := VRel.sint (ρ := .nil ⟨fun j => match j with | 0 => x | 1 => y | _ => 0, fun _ _ => 0, fun _ => (0, 0, 0, 0), fun _ _ _ => .bool false⟩) .u16 (.var 0)
      exact this) (.cons (by
      have := VRel.sint (ρ := .nil ⟨fun j => match j with | 0 => x | 1 => y | _ => 0, fun _ _ => 0, fun _ => (0, 0, 0, 0), fun _ _ _ => .bool false⟩) .u8 (.var 1)
      exact this) .nil))) (num_nothing rfl rfl rfl) ⟨(h _).cells, (h _).rows⟩
  · exact one_row hu h hc hx hy
end Go.Proofs.YtbimieobgjehkaaGreatDoor
