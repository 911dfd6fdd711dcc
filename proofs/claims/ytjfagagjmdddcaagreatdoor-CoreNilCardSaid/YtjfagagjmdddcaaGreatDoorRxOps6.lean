/- Fields, indices, slices, loads, look-ups, conversions that write nothing. -/
import Derived.Test.YtjfagagjmdddcaaGreatDoorRxOps5
set_option linter.all false
namespace Go.RX
open Sym
section
variable {E : Env} {cx : Cx} {o : Oper} {k : KOp}

theorem nthF_eq : ∀ (l : List Field) (i : Nat), nthF l i = l[i]?
  | [], i => by simp [nthF]
  | c :: l, 0 => by simp [nthF]
  | c :: l, i + 1 => by simp [nthF, nthF_eq l i]

theorem optOpd_sound {ρ : Ren} {e fr : List SV} {a : Act} {x : Option Operand} {f : Option Opd} (h : optOpd cx x = some f) (hg : ∀ y, x = some y → Good ρ cx e fr a y) : ORelV ρ (Opd.opt f e fr) (x.map a.eval) := by
  cases x with
  | none => simp [optOpd] at h; subst h; exact .none
  | some y =>
    simp only [optOpd] at h
    split at h
    · rename_i f' hf
      simp only [Option.some.injEq] at h; subst h
      obtain ⟨f'⟩ := f'
      exact .some (opd_sound hf (hg y rfl))
    · cases h

theorem cutRow_sound {t e : TypeId} {size : Nat} {ρ : Ren} {a : Nat} {r : SV} {lo hi : Option SV} {v : Value} {lo' hi' : Option Value} (hd : E.P.underlying t = some (.slice e)) (hsz : sliceElem E (.slice e) = some size) (hE : EOk E ρ)
    (h : Sym.cutRow E a lo hi = some r) (hx : VRel ρ (.row a) v) (hlo : ORelV ρ lo lo') (hhi : ORelV ρ hi hi') : ∃ u, VRel ρ r u ∧ ∀ w, (Instr.sliceAt t v lo' hi' none).run E.P w = .ok u w := by
  unfold Sym.cutRow at h
  split at h
  · rename_i y
    split at h
    · rename_i k ie hie
      split at h
      · rename_i a' hpre
        simp only [Option.some.injEq] at h; subst h
        obtain ⟨b, x, sz, n, m, e1, e2, e3, e4⟩ := hE.pre _ _ _ hpre
        cases hhi with
        | some hy =>
          have hy' := toIE_val hie hy
          rw [hE.sig, e3] at hy'
          subst hy'
          cases hx with
          | row hrow hcap =>
            rename_i bb xx ss nn cap
            rw [hE.sig, e1] at hrow
            simp only [Prod.mk.injEq] at hrow
            obtain ⟨rfl, rfl, rfl, rfl⟩ := hrow
            have hm : m ≤ cap := by omega
            have b1 : Nat.ble m cap = true := Nat.ble_eq_true_of_le hm
            have b2 : Nat.ble 0 m = true := Nat.ble_eq_true_of_le (Nat.zero_le m)
            have hcut : cutAt (some (.int k (Int.ofNat m))) none n cap (fun h l => some (.ptr h l)) = some (.ptr m 0) := by
              simp [cutAt, bound, asNat, b1, b2]
            obtain ⟨h', l, hk, h1, h2, hrun⟩ := cutAt_run (E := E) (ρ := ρ) (cap := cap) hcut (.some (.int k (Int.ofNat m))) hlo (Nat.le_refl _)
            simp only [Option.some.injEq, SV.ptr.injEq] at hk
            obtain ⟨rfl, rfl⟩ := hk
            have hs := sizeOf_run hsz
            refine ⟨.slice (some ⟨b, x, none⟩) h' cap, .row (by rw [hE.sig]; exact e2) hm, fun w => ?_⟩
            simp only [Instr.sliceAt, Instr.slice, Sem.run_bind, run_underlying hd, Result.andThen_ok]
            have hrun' := hrun true w
            simp only [Int.ofNat_eq_natCast] at hrun'
            simp only [hrun', Result.andThen_ok, hs]
            by_cases hn : cap = 0
            · subst hn; simp
            · simp [hn, add_win]
      · cases h
    · cases h
  · cases h

theorem cut3_run {ρ : Ren} {hi mx : SV} {lo : Option SV} {hv mv : Value} {lo' : Option Value} {m cap : Nat} {k : Nat → Nat → Option SV} {r : SV} (h : cutAt (some hi) lo 0 m k = some r) (hm : asNat mx = some m) (hmx : VRel ρ mx mv) (hhi : VRel ρ hi hv) (hlo : ORelV ρ lo lo') (hc : m ≤ cap) :
    ∃ h' l, k h' l = some r ∧ l ≤ h' ∧ h' ≤ m ∧ ∀ isSlice dflt w, (Instr.sliceBounds isSlice dflt cap lo' (some hv) (some mv)).run E.P w = .ok (l, h', m) w := by
  obtain ⟨k0, e0⟩ := asNat_rel hm hmx
  unfold cutAt at h
  split at h
  · rename_i h' l hb1 hb2
    split at h
    · rename_i c1 c2
      have c1 := Nat.le_of_ble_eq_true c1
      have c2 := Nat.le_of_ble_eq_true c2
      refine ⟨h', l, h, c2, c1, fun isSlice dflt w => ?_⟩
      simp only [bound] at hb1
      obtain ⟨k1, e1⟩ := asNat_rel hb1 hhi
      cases hlo with
      | none =>
        simp only [bound, Option.some.injEq] at hb2
        subst hb2
        simp only [Instr.sliceBounds, Sem.run_bind, Sem.run_pure, Result.andThen_ok]
        rw [sliceBound_run e0 hc]
        simp only [Result.andThen_ok]
        rw [sliceBound_run e1 c1]
        rfl
      | some hv2 =>
        simp only [bound] at hb2
        obtain ⟨k2, e2⟩ := asNat_rel hb2 hv2
        simp only [Instr.sliceBounds, Sem.run_bind, Sem.run_pure, Result.andThen_ok]
        rw [sliceBound_run e0 hc]
        simp only [Result.andThen_ok]
        rw [sliceBound_run e1 c1]
        simp only [Result.andThen_ok]
        rw [sliceBound_run e2 c2]
        rfl
    · cases h
  · cases h

theorem slice3V_sound {t : TypeId} {d : TypeDesc} {size : Nat} {x r mx : SV} {lo hi : Option SV} {ρ : Ren} {v mv : Value} {lo' hi' : Option Value} (hd : E.P.underlying t = some d)
    (hsz : sliceElem E d = some size) (h : slice3V d (some size) x lo hi (some mx) = some r) (hx : VRel ρ x v) (hmx : VRel ρ mx mv) (hlo : ORelV ρ lo lo') (hhi : ORelV ρ hi hi') :
    ∃ u, VRel ρ r u ∧ ∀ w, (Instr.sliceAt t v lo' hi' (some mv)).run E.P w = .ok u w := by
  unfold slice3V at h
  split at h
  · rename_i el id off len cap size' m hi0 e1 e2
    simp only [Option.some.injEq] at e1 e2
    subst e1; subst e2
    cases hhi with
    | some hhi =>
      cases hx with
      | sliceE hp =>
        split at h
        · rename_i m' hm
          split at h
          · rename_i hb
            have hb := Nat.le_of_ble_eq_true hb
            obtain ⟨h', l, hk, h1, h2, hrun⟩ := cut3_run (E := E) h hm hmx hhi hlo hb
            simp only [force_eq, Option.some.injEq] at hk; subst hk
            have hs := sizeOf_run hsz
            refine ⟨_, .sliceE hp, fun w => ?_⟩
            simp only [Instr.sliceAt, Instr.slice, Sem.run_bind, run_underlying hd, Result.andThen_ok, hrun, hs]
            rw [nbeq_eq]
            by_cases hn : m' = l
            · subst hn; simp
            · simp [hn, add_win]; omega
          · cases h
        · cases h
  · rename_i el id off len sz least size' m hi0 e1 e2
    simp only [Option.some.injEq] at e1 e2
    subst e1; subst e2
    cases hhi with
    | some hhi =>
      cases hx with
      | sliceT hp ht hl hcap hxx =>
        rename_i bb oo tt xx cap
        split at h
        · rename_i hm
          obtain ⟨h', l, hk, h1, h2, hrun⟩ := cut3_run (E := E) (cap := cap) h hm hmx hhi hlo (Nat.zero_le _)
          simp only [Option.some.injEq] at hk; subst hk
          have hs := sizeOf_run hsz
          refine ⟨.slice (some (if 0 = l then ⟨bb, xx, none⟩ else (⟨bb, xx, none⟩ : Addr).add (l * size))) (h' - l) (0 - l), .blur _ rfl, fun w => ?_⟩
          simp only [Instr.sliceAt, Instr.slice, Sem.run_bind, run_underlying hd, Result.andThen_ok, hrun, hs]
          by_cases hn : 0 = l
          · subst hn; simp
          · simp [hn]
        · rename_i m' hno hm
          split at h
          · rename_i hb
            have hb := Nat.le_of_ble_eq_true hb
            obtain ⟨h', l, hk, h1, h2, hrun⟩ := cut3_run (E := E) (cap := cap) h hm hmx hhi hlo (by omega)
            simp only [force_eq, Option.some.injEq] at hk; subst hk
            have hs := sizeOf_run hsz
            have hm0 : m' ≠ 0 := fun e => by subst e; exact hno rfl
            have hxx' : xx = oo + off := by rcases hxx with e | e; exact e; omega
            subst hxx'
            refine ⟨_, .sliceE hp, fun w => ?_⟩
            simp only [Instr.sliceAt, Instr.slice, Sem.run_bind, run_underlying hd, Result.andThen_ok, hrun, hs]
            rw [nbeq_eq]
            by_cases hn : m' = l
            · subst hn; simp
            · simp [hn, add_win]; omega
          · cases h
        · cases h
  · rename_i el size' m hi0 e1 e2
    simp only [Option.some.injEq] at e1 e2
    subst e1; subst e2
    cases hhi with
    | some hhi =>
      cases hx
      split at h
      · rename_i hm
        obtain ⟨h', l, hk, h1, h2, hrun⟩ := cut3_run (E := E) (cap := 0) h hm hmx hhi hlo (Nat.zero_le _)
        simp only [Option.some.injEq] at hk; subst hk
        have : h' = 0 ∧ l = 0 := by omega
        obtain ⟨rfl, rfl⟩ := this
        have hs := sizeOf_run hsz
        refine ⟨_, .nilslice, fun w => ?_⟩
        simp only [Instr.sliceAt, Instr.slice, Sem.run_bind, run_underlying hd, Result.andThen_ok, hrun, hs]
        rfl
      · cases h
  · cases h

theorem kop_slice {t : TypeId} {x : Operand} {lo hi mx : Option Operand} (h : kop0 E cx o = some k) (ho : o.op = .slice t x lo hi mx) : k.Sound E cx o := by
  simp only [kop0, ho] at h
  split at h
  · rename_i f lo' hi' d hf hlo hhi hd
    have hg1 : ∀ {ρ e fr a}, Goods ρ cx e fr a o → Good ρ cx e fr a x := fun hg => hg x (by simp [ho, Op.operands])
    have hg2 : ∀ {ρ e fr a}, Goods ρ cx e fr a o → ∀ y, lo = some y → Good ρ cx e fr a y := fun hg y e1 => hg y (by simp [ho, Op.operands, e1])
    have hg3 : ∀ {ρ e fr a}, Goods ρ cx e fr a o → ∀ y, hi = some y → Good ρ cx e fr a y := fun hg y e1 => hg y (by simp [ho, Op.operands, e1])
    split at h
    · simp only [Option.some.injEq] at h; subst h
      intro ρ e fr a r hE hg hr
      dsimp only at hr
      obtain ⟨u, h1, h2⟩ := sliceV_sound hd (by intro n hn; cases hn) hr (opd_sound hf (hg1 hg)) (optOpd_sound hlo (hg2 hg)) (optOpd_sound hhi (hg3 hg))
      exact ⟨u, h1, fun w => by simp only [execOp, ho]; exact run_v (h2 w)⟩
    · split at h
      · rename_i n hn
        simp only [Option.some.injEq] at h; subst h
        intro ρ e fr a r hE hg hr
        dsimp only at hr
        have hx := opd_sound hf (hg1 hg)
        have h3 := optOpd_sound hlo (hg2 hg)
        have h4 := optOpd_sound hhi (hg3 hg)
        split at hr
        · rename_i el ra hra hno
          rw [hra] at hx
          obtain ⟨u, h1, h2⟩ := cutRow_sound hd hn hE hr hx h3 h4
          exact ⟨u, h1, fun w => by simp only [execOp, ho]; exact run_v (h2 w)⟩
        · obtain ⟨u, h1, h2⟩ := sliceV_sound hd (by intro m hm; cases hm; exact hn) hr hx h3 h4
          exact ⟨u, h1, fun w => by simp only [execOp, ho]; exact run_v (h2 w)⟩
      · cases h
  · rename_i f lo' hi' mx' d hf hlo hhi hd
    have hg1 : ∀ {ρ e fr a}, Goods ρ cx e fr a o → Good ρ cx e fr a x := fun hg => hg x (by simp [ho, Op.operands])
    have hg2 : ∀ {ρ e fr a}, Goods ρ cx e fr a o → ∀ y, lo = some y → Good ρ cx e fr a y := fun hg y e1 => hg y (by simp [ho, Op.operands, e1])
    have hg3 : ∀ {ρ e fr a}, Goods ρ cx e fr a o → ∀ y, hi = some y → Good ρ cx e fr a y := fun hg y e1 => hg y (by simp [ho, Op.operands, e1])
    have hg4 : ∀ {ρ e fr a}, Goods ρ cx e fr a o → Good ρ cx e fr a mx' := fun hg => hg mx' (by simp [ho, Op.operands])
    split at h
    · rename_i g n hmx hn
      simp only [Option.some.injEq] at h; subst h
      intro ρ e fr a r hE hg hr
      dsimp only at hr
      obtain ⟨u, h1, h2⟩ := slice3V_sound hd hn hr (opd_sound hf (hg1 hg)) (opd_sound hmx (hg4 hg)) (optOpd_sound hlo (hg2 hg)) (optOpd_sound hhi (hg3 hg))
      exact ⟨u, h1, fun w => by simp only [execOp, ho]; exact run_v (h2 w)⟩
    · cases h
  · cases h

theorem kop_fieldAddr {t : TypeId} {x : Operand} {fld : Nat} (h : kop0 E cx o = some k) (ho : o.op = .fieldAddr t x fld) : k.Sound E cx o := by
  simp only [kop0, ho] at h
  split at h
  · rename_i f fields hf hd
    split at h
    · rename_i fd hfd
      split at h
      · rename_i m hs
        rw [force_eq] at h
        simp only [Option.some.injEq] at h; subst h
        rw [nthF_eq] at hfd
        have hfd' : fields[fld]? = some fd := by simpa using hfd
        have key : ∀ (b : Nat) (off : Nat) (v : Value) (w : World), v = .pointer (some ⟨b, off, none⟩) → (Instr.fieldAt t v fld).run E.P w = .ok (.pointer (some ⟨b, off + fd.offset, none⟩)) w := by
          intro b off v w hv
          subst hv
          simp [Instr.fieldAt, run_underlying hd, hfd', Instr.sureAddr, fieldPlace, sizeOf_run hs, add_win]
        intro ρ e fr a r hE hg hr
        dsimp only at hr
        have h1 := opd_sound hf (hg x (by simp [ho, Op.operands]))
        split at hr
        · rename_i id off e1; rw [e1] at h1
          simp only [force_eq, Option.some.injEq] at hr; subst hr
          generalize hb : a.eval x = b at h1
          cases h1 with
          | ptr hp => exact ⟨_, .ptr hp, fun w => by simp only [execOp, ho, hb]; rw [← Nat.add_assoc]; exact run_v (key _ _ _ w rfl)⟩
        · rename_i id off e1; rw [e1] at h1
          simp only [force_eq, Option.some.injEq] at hr; subst hr
          generalize hb : a.eval x = b at h1
          cases h1
          exact ⟨_, .gptr _ _, fun w => by simp only [execOp, ho, hb]; exact run_v (key _ _ _ w rfl)⟩
        · rename_i ra ri off e1; rw [e1] at h1
          simp only [force_eq, Option.some.injEq] at hr; subst hr
          generalize hb : a.eval x = b at h1
          cases h1 with
          | rptr hrow h0 hlt => exact ⟨_, .rptr hrow h0 hlt, fun w => by simp only [execOp, ho, hb]; rw [← Nat.add_assoc]; exact run_v (key _ _ _ w rfl)⟩
        · cases hr
      · cases h
    · cases h
  · cases h

theorem kop_field {t : TypeId} {x : Operand} {fld : Nat} (h : kop0 E cx o = some k) (ho : o.op = .field t x fld) : k.Sound E cx o := by
  simp only [kop0, ho] at h
  split at h
  · rename_i f fields hf hd
    split at h
    · rename_i fd hfd
      split at h
      · rename_i wd hwd
        simp only [Option.some.injEq] at h; subst h
        rw [nthF_eq] at hfd
        have hfd' : fields[fld]? = some fd := by simpa using hfd
        intro ρ e fr a r hE hg hr
        dsimp only at hr
        have h1 := opd_sound hf (hg x (by simp [ho, Op.operands]))
        split at hr
        · rename_i cs e1; rw [e1] at h1
          generalize hb : a.eval x = b at h1
          cases h1 with
          | agg hcs =>
            obtain ⟨u, hu1, hu2⟩ := pick_part (vs := _) hwd hr (by simpa using hcs)
            refine ⟨u, hu1, fun w => ?_⟩
            simp only [execOp, ho, hb]
            refine run_v ?_
            simp only [Instr.field, Sem.run_bind, run_underlying hd, Result.andThen_ok, hfd', asAgg, Sem.run_pure]
            simpa using hu2 w
        · cases hr
      · cases h
    · cases h
  · cases h

theorem indexV_some {n len : Nat} {i : SV} {kk : Nat → Option SV} {r : SV} (h : indexV n len i kk = some r) : ∃ j, asNat i = some j ∧ j < len ∧ kk (j * n) = some r := by
  unfold indexV at h
  split at h
  · rename_i j hj
    split at h
    · rename_i hb
      rw [force_eq] at h
      exact ⟨j, hj, Nat.le_of_ble_eq_true hb, h⟩
    · cases h
  · cases h

theorem kop_indexAddr {t : TypeId} {x i : Operand} (h : kop0 E cx o = some k) (ho : o.op = .indexAddr t x i) : k.Sound E cx o := by
  simp only [kop0, ho] at h
  split at h
  · rename_i f g d hf hg' hd
    split at h
    · rename_i len elem
      split at h
      · rename_i n hn
        simp only [Option.some.injEq] at h; subst h
        intro ρ e fr a r hE hg hr
        dsimp only at hr
        have h1 := opd_sound hf (hg x (by simp [ho, Op.operands]))
        have h2 := opd_sound hg' (hg i (by simp [ho, Op.operands]))
        have key : ∀ (b off j : Nat) (v vi : Value) (w : World) (kk : IntKind), v = .pointer (some ⟨b, off, none⟩) → vi = .int kk (j : Int) → j < len → (Instr.indexAt t v vi).run E.P w = .ok (.pointer (some ⟨b, off + j * n, none⟩)) w := by
          intro b off j v vi w kk hv hvi hj
          subst hv; subst hvi
          simp [Instr.indexAt, asIntOf, run_underlying hd, Instr.sureAddr, hj, sizeOf_run hn, add_win]
        split at hr
        · rename_i id off e1; rw [e1] at h1
          obtain ⟨j, hj1, hj2, hj3⟩ := indexV_some hr
          obtain ⟨kk, hkk⟩ := asNat_rel hj1 h2
          simp only [force_eq, Option.some.injEq] at hj3; subst hj3
          generalize hb : a.eval x = b at h1
          cases h1 with
          | ptr hp => exact ⟨_, .ptr hp, fun w => by simp only [execOp, ho, hb]; rw [← Nat.add_assoc]; exact run_v (key _ _ _ _ _ w kk rfl hkk hj2)⟩
        · rename_i id off e1; rw [e1] at h1
          obtain ⟨j, hj1, hj2, hj3⟩ := indexV_some hr
          obtain ⟨kk, hkk⟩ := asNat_rel hj1 h2
          simp only [force_eq, Option.some.injEq] at hj3; subst hj3
          generalize hb : a.eval x = b at h1
          cases h1
          exact ⟨_, .gptr _ _, fun w => by simp only [execOp, ho, hb]; exact run_v (key _ _ _ _ _ w kk rfl hkk hj2)⟩
        · cases hr
      · cases h
    · rename_i elem
      split at h
      · rename_i n hn
        simp only [Option.some.injEq] at h; subst h
        intro ρ e fr a r hE hg hr
        dsimp only at hr
        have h1 := opd_sound hf (hg x (by simp [ho, Op.operands]))
        have h2 := opd_sound hg' (hg i (by simp [ho, Op.operands]))
        have key : ∀ (b off j len cap : Nat) (v vi : Value) (w : World) (kk : IntKind), v = .slice (some ⟨b, off, none⟩) len cap → vi = .int kk (j : Int) → j < len → (Instr.indexAt t v vi).run E.P w = .ok (.pointer (some ⟨b, off + j * n, none⟩)) w := by
          intro b off j len cap v vi w kk hv hvi hj
          subst hv; subst hvi
          simp [Instr.indexAt, asIntOf, run_underlying hd, hj, sizeOf_run hn, add_win]
        split at hr
        · rename_i id off len c e1; rw [e1] at h1
          obtain ⟨j, hj1, hj2, hj3⟩ := indexV_some hr
          obtain ⟨kk, hkk⟩ := asNat_rel hj1 h2
          simp only [force_eq, Option.some.injEq] at hj3; subst hj3
          generalize hb : a.eval x = b at h1
          cases h1 with
          | sliceE hp => exact ⟨_, .ptr hp, fun w => by simp only [execOp, ho, hb]; rw [← Nat.add_assoc]; exact run_v (key _ _ _ _ _ _ _ w kk rfl hkk hj2)⟩
          | sliceT hp ht hl hcap hxx =>
            rcases hxx with rfl | h0
            · exact ⟨_, .ptr hp, fun w => by simp only [execOp, ho, hb]; rw [← Nat.add_assoc]; exact run_v (key _ _ _ _ _ _ _ w kk rfl hkk hj2)⟩
            · omega
        · rename_i ra e1; rw [e1] at h1
          unfold Sym.rowAt at hr
          split at hr
          · rename_i kk ei ks hie hks
            split at hr
            · rename_i hlen hl0 hln
              simp only [Option.some.injEq] at hr; subst hr
              have hlen := Nat.eq_of_beq_eq_true hlen
              have h3 := toIE_val hie h2
              have g0 := hE.lt _ _ _ hl0
              have g1 := hE.lt _ _ _ hln
              rw [ltb_eq] at g0 g1
              have g0 := of_decide_eq_false g0
              have g1 := of_decide_eq_true g1
              simp only [IE.val] at g0 g1
              have hsz := hE.rows _ _ hks
              generalize hb : a.eval x = b at h1
              cases h1 with
              | row hrow hcap =>
                rename_i bb xx sz nn cap
                rw [hE.sig] at hrow h3
                rw [hrow] at hsz g1
                simp only at g1 hsz
                have g0' : 0 ≤ IE.val E.sig ei := by
                  have : ¬ (IE.val E.sig ei < Int.ofNat 0) := g0
                  simpa using this
                obtain ⟨j, hj⟩ := Int.eq_ofNat_of_zero_le g0'
                refine ⟨.pointer (some ⟨bb, xx + (IE.val ρ.sig ei).toNat * sz + 0, none⟩), VRel.rptr (n := nn) (by rw [hE.sig]; exact hrow) (by rw [hE.sig]; exact g0') (by rw [hE.sig]; exact g1), fun w => ?_⟩
                simp only [execOp, ho, hb]
                rw [hE.sig, hj, Nat.add_zero, Int.toNat_natCast, hsz, hlen]
                rw [hj] at h3 g1
                exact run_v (key _ _ j _ _ _ _ w kk rfl h3 (by omega))
            · cases hr
          · cases hr
        · cases hr
      · cases h
    · cases h
  · cases h

theorem kop_index {t : TypeId} {x i : Operand} (h : kop0 E cx o = some k) (ho : o.op = .index t x i) : k.Sound E cx o := by
  simp only [kop0, ho] at h
  split at h
  · rename_i f g d hf hg' hd
    split at h
    · rename_i len elem
      split at h
      · rename_i n wd hn hwd
        simp only [Option.some.injEq] at h; subst h
        intro ρ e fr a r hE hg hr
        dsimp only at hr
        have h1 := opd_sound hf (hg x (by simp [ho, Op.operands]))
        have h2 := opd_sound hg' (hg i (by simp [ho, Op.operands]))
        split at hr
        · rename_i cs e1; rw [e1] at h1
          obtain ⟨j, hj1, hj2, hj3⟩ := indexV_some hr
          obtain ⟨kk, hkk⟩ := asNat_rel hj1 h2
          generalize hb : a.eval x = b at h1
          cases h1 with
          | agg hcs =>
            obtain ⟨u, hu1, hu2⟩ := pick_part (vs := _) hwd hj3 (by simpa using hcs)
            refine ⟨u, hu1, fun w => ?_⟩
            simp only [execOp, ho, hb, hkk]
            refine run_v ?_
            have := hu2 w
            simp [Instr.index, asIntOf, run_underlying hd, hj2, sizeOf_run hn, this]
        · cases hr
      · cases h
    · simp only [Option.some.injEq] at h; subst h
      intro ρ e fr a r hE hg hr
      dsimp only at hr
      have h1 := opd_sound hf (hg x (by simp [ho, Op.operands]))
      have h2 := opd_sound hg' (hg i (by simp [ho, Op.operands]))
      split at hr
      · rename_i s j e1 hj1; rw [e1] at h1
        obtain ⟨kk, hkk⟩ := asNat_rel hj1 h2
        split at hr
        · rename_i b hb1
          simp only [Option.some.injEq] at hr; subst hr
          generalize hb : a.eval x = bb at h1
          cases h1
          refine ⟨_, .int _ _, fun w => ?_⟩
          simp only [execOp, ho, hb, hkk]
          refine run_v ?_
          rw [nth_eq] at hb1
          have : s[j]? = some b := by
            have h3 : s.data[j]? = some b := by simpa using hb1
            rw [← h3]; rfl
          simp [Instr.index, asIntOf, run_underlying hd, this]
        · cases hr
      · cases hr
    · cases h
  · cases h
end
end Go.RX
