import Derived.Test.YtcbkglclienegaaGreatDoorRxB
set_option linter.all false
/- Fields, indices, slices, loads, look-ups, conversions that write nothing. -/
namespace Go.RX
open Sym
section
variable {E : Env} {cx : Cx} {o : Oper} {k : KOp}

theorem nthF_eq : ∀ (l : List Field) (i : Nat), nthF l i = l[i]?
  | [], i => by simp [nthF]
  | c :: l, 0 => by simp [nthF]
  | c :: l, i + 1 => by simp [nthF, nthF_eq l i]

theorem optOpd_sound {ρ : Ren} {e fr : List SV} {a : Act} {x : Option Operand} {f : Option Opd} (h : optOpd cx x = some f) (hg : ∀ y, x = some y → Good ρ cx e fr a y) : ORelV ρ (Opd.opt f e fr) (x.map a.eval) := by
  cases x with
  | none => simp [optOpd] at h; subst h; exact .none
  | some y =>
    simp only [optOpd] at h
    split at h
    · rename_i f' hf
      simp only [Option.some.injEq] at h; subst h
      obtain ⟨f'⟩ := f'
      exact .some (opd_sound hf (hg y rfl))
    · cases h

/-- A row cut out of a row, where the bounds are as they are to be. -/
theorem cutWin {t e : TypeId} {size : Nat} {ρ : Ren} {a a' : Nat} {v : Value} {lo' hi' : Option Value} (hd : E.P.underlying t = some (.slice e)) (hsz : sliceElem E (.slice e) = some size) (hs : ρ.sig = E.sig) {b x sz n l m : Nat} (e1 : E.sig.row a = (b, x, sz, n)) (e4 : l ≤ m) (e6 : m ≤ n) (e7 : E.sig.row a' = (b, x + l * sz, sz, m - l)) (hsz' : sz = size)
    (hx : VRel ρ (.row a) v) (hrun : ∀ cap, n ≤ cap → ∀ w, (Instr.sliceBounds true n cap lo' hi' none).run E.P w = .ok (l, m, cap) w) : ∃ u, VRel ρ (.row a') u ∧ ∀ w, (Instr.sliceAt t v lo' hi' none).run E.P w = .ok u w := by
  have hsr := sizeOf_run hsz
  subst hsz'
  cases hx with
  | row hrow hcap =>
    rename_i bb xx ss nn cap
    rw [hs, e1] at hrow
    simp only [Prod.mk.injEq] at hrow
    obtain ⟨rfl, rfl, rfl, rfl⟩ := hrow
    have hrun := hrun cap hcap
    by_cases hn : cap = l
    · subst hn
      obtain rfl : m = cap := by omega
      refine ⟨.slice (some ⟨b, x, none⟩) 0 0, .rowE (by rw [hs, e7, Nat.sub_self]), fun w => ?_⟩
      simp only [Instr.sliceAt, Instr.slice, Sem.run_bind, run_underlying hd, Result.andThen_ok, hrun, hsr]
      simp
    · refine ⟨.slice (some ⟨b, x + l * sz, none⟩) (m - l) (cap - l), .row (by rw [hs]; exact e7) (by omega), fun w => ?_⟩
      simp only [Instr.sliceAt, Instr.slice, Sem.run_bind, run_underlying hd, Result.andThen_ok, hrun, hsr]
      simp [hn, add_win]
  | rowE hrow =>
    rename_i bb xx ss pp
    rw [hs, e1] at hrow
    simp only [Prod.mk.injEq] at hrow
    obtain ⟨rfl, rfl, rfl, rfl⟩ := hrow
    have hrun := hrun 0 (Nat.le_refl _)
    obtain rfl : m = 0 := by omega
    obtain rfl : l = 0 := by omega
    refine ⟨.slice (some pp) 0 0, .rowE (by rw [hs]; exact e7), fun w => ?_⟩
    simp only [Instr.sliceAt, Instr.slice, Sem.run_bind, run_underlying hd, Result.andThen_ok, hrun, hsr]
    simp
theorem cutRow_sound {t e : TypeId} {size : Nat} {ρ : Ren} {a : Nat} {r : SV} {lo hi : Option SV} {v : Value} {lo' hi' : Option Value} (hd : E.P.underlying t = some (.slice e)) (hsz : sliceElem E (.slice e) = some size) (hE : EOk E ρ)
    (h : Sym.cutRow E size a lo hi = some r) (hx : VRel ρ (.row a) v) (hlo : ORelV ρ lo lo') (hhi : ORelV ρ hi hi') : ∃ u, VRel ρ r u ∧ ∀ w, (Instr.sliceAt t v lo' hi' none).run E.P w = .ok u w := by
  unfold Sym.cutRow at h
  split at h
  · rename_i y
    split at h
    · rename_i k ie hie
      split at h
      · rename_i a' hpre
        simp only [Option.some.injEq] at h; subst h
        obtain ⟨b, x, sz, n, m, e1, e2, e3, e4⟩ := hE.pre _ _ _ hpre
        cases hhi with
        | some hy =>
          have hy' := toIE_val hie hy
          rw [hE.sig, e3] at hy'
          subst hy'
          cases hx with
          | row hrow hcap =>
            rename_i bb xx ss nn cap
            rw [hE.sig, e1] at hrow
            simp only [Prod.mk.injEq] at hrow
            obtain ⟨rfl, rfl, rfl, rfl⟩ := hrow
            have hm : m ≤ cap := by omega
            have b1 : Nat.ble m cap = true := Nat.ble_eq_true_of_le hm
            have b2 : Nat.ble 0 m = true := Nat.ble_eq_true_of_le (Nat.zero_le m)
            have hcut : cutAt (some (.int k (Int.ofNat m))) none n cap (fun h l => some (.ptr h l)) = some (.ptr m 0) := by
              simp [cutAt, bound, asNat, b1, b2]
            obtain ⟨h', l, hk, h1, h2, hrun⟩ := cutAt_run (E := E) (ρ := ρ) (cap := cap) hcut (.some (.int k (Int.ofNat m))) hlo (Nat.le_refl _)
            simp only [Option.some.injEq, SV.ptr.injEq] at hk
            obtain ⟨rfl, rfl⟩ := hk
            have hs := sizeOf_run hsz
            refine ⟨.slice (some ⟨b, x, none⟩) h' cap, .row (by rw [hE.sig]; exact e2) hm, fun w => ?_⟩
            simp only [Instr.sliceAt, Instr.slice, Sem.run_bind, run_underlying hd, Result.andThen_ok]
            have hrun' := hrun true w
            simp only [Int.ofNat_eq_natCast] at hrun'
            simp only [hrun', Result.andThen_ok, hs]
            by_cases hn : cap = 0
            · subst hn; simp
            · simp [hn, add_win]
          | rowE hrow =>
            rename_i bb xx ss pp
            rw [hE.sig, e1] at hrow
            simp only [Prod.mk.injEq] at hrow
            obtain ⟨rfl, rfl, rfl, rfl⟩ := hrow
            obtain rfl : m = 0 := by omega
            have hcut : cutAt (some (.int k (Int.ofNat 0))) none 0 0 (fun h l => some (.ptr h l)) = some (.ptr 0 0) := by
              simp [cutAt, bound, asNat, Nat.ble]
            obtain ⟨h', l, hk, h1, h2, hrun⟩ := cutAt_run (E := E) (ρ := ρ) (cap := 0) hcut (.some (.int k (Int.ofNat 0))) hlo (Nat.le_refl _)
            simp only [Option.some.injEq, SV.ptr.injEq] at hk
            obtain ⟨rfl, rfl⟩ := hk
            have hs := sizeOf_run hsz
            refine ⟨.slice (some pp) 0 0, .rowE (by rw [hE.sig]; exact e2), fun w => ?_⟩
            simp only [Instr.sliceAt, Instr.slice, Sem.run_bind, run_underlying hd, Result.andThen_ok]
            have hrun' := hrun true w
            simp only [Int.ofNat_eq_natCast] at hrun'
            simp only [hrun', Result.andThen_ok, hs]
            simp
      · cases h
    · cases h
  · rename_i y
    split at h
    · rename_i k ie ks hie hks
      split at h
      · rename_i a' hsz' hsub
        simp only [Option.some.injEq] at h; subst h
        have hsz' := Nat.eq_of_beq_eq_true hsz'
        have e5 := hE.rows _ _ hks
        obtain ⟨b, x, sz, n, l, m, e1, e2, e3, e4, e6, e7⟩ := hE.maps.sub _ _ _ _ hsub
        cases hhi
        cases hlo with
        | some hy =>
          have hy' := toIE_val hie hy
          rw [hE.sig, e2] at hy'
          subst hy'
          have e3 : (n : Int) = m := e3
          obtain rfl : n = m := by omega
          refine cutWin hd hsz hE.sig e1 e4 e6 e7 (by rw [e1] at e5; rw [← hsz']; exact e5) hx (hi' := none) (lo' := some (.int k l)) (fun cap hc => ?_)
          have b1 : Nat.ble n cap = true := Nat.ble_eq_true_of_le hc
          have b2 : Nat.ble l n = true := Nat.ble_eq_true_of_le e4
          have hcut : cutAt none (some (.int k (Int.ofNat l))) n cap (fun h l => some (.ptr h l)) = some (.ptr n l) := by
            simp [cutAt, bound, asNat, b1, b2]
          obtain ⟨h', l', hk, h1, h2, hrun⟩ := cutAt_run (E := E) (ρ := ρ) (cap := cap) hcut .none (.some (.int k (Int.ofNat l))) (Nat.le_refl _)
          simp only [Option.some.injEq, SV.ptr.injEq] at hk
          obtain ⟨rfl, rfl⟩ := hk
          exact fun w => hrun true w
      · cases h
    · cases h
  · rename_i y z
    split at h
    · rename_i k ie k2 ie2 ks hie hie2 hks
      split at h
      · rename_i a' hsz' hsub
        simp only [Option.some.injEq] at h; subst h
        have hsz' := Nat.eq_of_beq_eq_true hsz'
        have e5 := hE.rows _ _ hks
        obtain ⟨b, x, sz, n, l, m, e1, e2, e3, e4, e6, e7⟩ := hE.maps.sub _ _ _ _ hsub
        cases hhi with
        | some hz =>
        cases hlo with
        | some hy =>
          have hy' := toIE_val hie hy
          rw [hE.sig, e2] at hy'
          subst hy'
          have hz' := toIE_val hie2 hz
          have e3 : ie2.val E.sig = m := e3
          rw [hE.sig, e3] at hz'
          subst hz'
          refine cutWin hd hsz hE.sig e1 e4 e6 e7 (by rw [e1] at e5; rw [← hsz']; exact e5) hx (hi' := some (.int k2 m)) (lo' := some (.int k l)) (fun cap hc => ?_)
          have b1 : Nat.ble m cap = true := Nat.ble_eq_true_of_le (by omega)
          have b2 : Nat.ble l m = true := Nat.ble_eq_true_of_le e4
          have hcut : cutAt (some (.int k2 (Int.ofNat m))) (some (.int k (Int.ofNat l))) n cap (fun h l => some (.ptr h l)) = some (.ptr m l) := by
            simp [cutAt, bound, asNat, b1, b2]
          obtain ⟨h', l', hk, h1, h2, hrun⟩ := cutAt_run (E := E) (ρ := ρ) (cap := cap) hcut (.some (.int k2 (Int.ofNat m))) (.some (.int k (Int.ofNat l))) (Nat.le_refl _)
          simp only [Option.some.injEq, SV.ptr.injEq] at hk
          obtain ⟨rfl, rfl⟩ := hk
          exact fun w => hrun true w
      · cases h
    · cases h
  · cases h

theorem cut3_run {ρ : Ren} {hi mx : SV} {lo : Option SV} {hv mv : Value} {lo' : Option Value} {m cap : Nat} {k : Nat → Nat → Option SV} {r : SV} (h : cutAt (some hi) lo 0 m k = some r) (hm : asNat mx = some m) (hmx : VRel ρ mx mv) (hhi : VRel ρ hi hv) (hlo : ORelV ρ lo lo') (hc : m ≤ cap) :
    ∃ h' l, k h' l = some r ∧ l ≤ h' ∧ h' ≤ m ∧ ∀ isSlice dflt w, (Instr.sliceBounds isSlice dflt cap lo' (some hv) (some mv)).run E.P w = .ok (l, h', m) w := by
  obtain ⟨k0, e0⟩ := asNat_rel hm hmx
  unfold cutAt at h
  split at h
  · rename_i h' l hb1 hb2
    split at h
    · rename_i c1 c2
      have c1 := Nat.le_of_ble_eq_true c1
      have c2 := Nat.le_of_ble_eq_true c2
      refine ⟨h', l, h, c2, c1, fun isSlice dflt w => ?_⟩
      simp only [bound] at hb1
      obtain ⟨k1, e1⟩ := asNat_rel hb1 hhi
      cases hlo with
      | none =>
        simp only [bound, Option.some.injEq] at hb2
        subst hb2
        simp only [Instr.sliceBounds, Sem.run_bind, Sem.run_pure, Result.andThen_ok]
        rw [sliceBound_run e0 hc]
        simp only [Result.andThen_ok]
        rw [sliceBound_run e1 c1]
        rfl
      | some hv2 =>
        simp only [bound] at hb2
        obtain ⟨k2, e2⟩ := asNat_rel hb2 hv2
        simp only [Instr.sliceBounds, Sem.run_bind, Sem.run_pure, Result.andThen_ok]
        rw [sliceBound_run e0 hc]
        simp only [Result.andThen_ok]
        rw [sliceBound_run e1 c1]
        simp only [Result.andThen_ok]
        rw [sliceBound_run e2 c2]
        rfl
    · cases h
  · cases h

theorem slice3V_sound {t : TypeId} {d : TypeDesc} {size : Nat} {x r mx : SV} {lo hi : Option SV} {ρ : Ren} {v mv : Value} {lo' hi' : Option Value} (hd : E.P.underlying t = some d)
    (hsz : sliceElem E d = some size) (h : slice3V d (some size) x lo hi (some mx) = some r) (hx : VRel ρ x v) (hmx : VRel ρ mx mv) (hlo : ORelV ρ lo lo') (hhi : ORelV ρ hi hi') :
    ∃ u, VRel ρ r u ∧ ∀ w, (Instr.sliceAt t v lo' hi' (some mv)).run E.P w = .ok u w := by
  unfold slice3V at h
  split at h
  · rename_i el id off len cap size' m hi0 e1 e2
    simp only [Option.some.injEq] at e1 e2
    subst e1; subst e2
    cases hhi with
    | some hhi =>
      cases hx with
      | sliceE hp =>
        split at h
        · rename_i m' hm
          split at h
          · rename_i hb
            have hb := Nat.le_of_ble_eq_true hb
            obtain ⟨h', l, hk, h1, h2, hrun⟩ := cut3_run (E := E) h hm hmx hhi hlo hb
            simp only [force_eq, Option.some.injEq] at hk; subst hk
            have hs := sizeOf_run hsz
            refine ⟨_, .sliceE hp, fun w => ?_⟩
            simp only [Instr.sliceAt, Instr.slice, Sem.run_bind, run_underlying hd, Result.andThen_ok, hrun, hs]
            rw [nbeq_eq]
            by_cases hn : m' = l
            · subst hn; simp
            · simp [hn, add_win]; omega
          · cases h
        · cases h
  · rename_i el id off len sz least size' m hi0 e1 e2
    simp only [Option.some.injEq] at e1 e2
    subst e1; subst e2
    cases hhi with
    | some hhi =>
      cases hx with
      | sliceT hp ht hl hcap hxx =>
        rename_i bb oo tt xx cap
        split at h
        · rename_i hm
          obtain ⟨h', l, hk, h1, h2, hrun⟩ := cut3_run (E := E) (cap := cap) h hm hmx hhi hlo (Nat.zero_le _)
          simp only [Option.some.injEq] at hk; subst hk
          have hs := sizeOf_run hsz
          refine ⟨.slice (some (if 0 = l then ⟨bb, xx, none⟩ else (⟨bb, xx, none⟩ : Addr).add (l * size))) (h' - l) (0 - l), .blur _ rfl, fun w => ?_⟩
          simp only [Instr.sliceAt, Instr.slice, Sem.run_bind, run_underlying hd, Result.andThen_ok, hrun, hs]
          by_cases hn : 0 = l
          · subst hn; simp
          · simp [hn]
        · rename_i m' hno hm
          split at h
          · rename_i hb
            have hb := Nat.le_of_ble_eq_true hb
            obtain ⟨h', l, hk, h1, h2, hrun⟩ := cut3_run (E := E) (cap := cap) h hm hmx hhi hlo (by omega)
            simp only [force_eq, Option.some.injEq] at hk; subst hk
            have hs := sizeOf_run hsz
            have hm0 : m' ≠ 0 := fun e => by subst e; exact hno rfl
            have hxx' : xx = oo + off := by rcases hxx with e | e; exact e; omega
            subst hxx'
            refine ⟨_, .sliceE hp, fun w => ?_⟩
            simp only [Instr.sliceAt, Instr.slice, Sem.run_bind, run_underlying hd, Result.andThen_ok, hrun, hs]
            rw [nbeq_eq]
            by_cases hn : m' = l
            · subst hn; simp
            · simp [hn, add_win]; omega
          · cases h
        · cases h
  · rename_i el size' m hi0 e1 e2
    simp only [Option.some.injEq] at e1 e2
    subst e1; subst e2
    cases hhi with
    | some hhi =>
      cases hx
      split at h
      · rename_i hm
        obtain ⟨h', l, hk, h1, h2, hrun⟩ := cut3_run (E := E) (cap := 0) h hm hmx hhi hlo (Nat.zero_le _)
        simp only [Option.some.injEq] at hk; subst hk
        have : h' = 0 ∧ l = 0 := by omega
        obtain ⟨rfl, rfl⟩ := this
        have hs := sizeOf_run hsz
        refine ⟨_, .nilslice, fun w => ?_⟩
        simp only [Instr.sliceAt, Instr.slice, Sem.run_bind, run_underlying hd, Result.andThen_ok, hrun, hs]
        rfl
      · cases h
  · cases h

theorem kop_slice {t : TypeId} {x : Operand} {lo hi mx : Option Operand} (h : kop0 E cx o = some k) (ho : o.op = .slice t x lo hi mx) : k.Sound E cx o := by
  simp only [kop0, ho] at h
  split at h
  · rename_i f lo' hi' d hf hlo hhi hd
    have hg1 : ∀ {ρ e fr a}, Goods ρ cx e fr a o → Good ρ cx e fr a x := fun hg => hg x (by simp [ho, Op.operands])
    have hg2 : ∀ {ρ e fr a}, Goods ρ cx e fr a o → ∀ y, lo = some y → Good ρ cx e fr a y := fun hg y e1 => hg y (by simp [ho, Op.operands, e1])
    have hg3 : ∀ {ρ e fr a}, Goods ρ cx e fr a o → ∀ y, hi = some y → Good ρ cx e fr a y := fun hg y e1 => hg y (by simp [ho, Op.operands, e1])
    split at h
    · simp only [Option.some.injEq] at h; subst h
      intro ρ e fr a r hE hg hr
      dsimp only at hr
      obtain ⟨u, h1, h2⟩ := sliceV_sound hd (by intro n hn; cases hn) hr (opd_sound hf (hg1 hg)) (optOpd_sound hlo (hg2 hg)) (optOpd_sound hhi (hg3 hg))
      exact ⟨u, h1, fun w => by simp only [execOp, ho]; exact run_v (h2 w)⟩
    · split at h
      · rename_i n hn
        simp only [Option.some.injEq] at h; subst h
        intro ρ e fr a r hE hg hr
        dsimp only at hr
        have hx := opd_sound hf (hg1 hg)
        have h3 := optOpd_sound hlo (hg2 hg)
        have h4 := optOpd_sound hhi (hg3 hg)
        split at hr
        · rename_i el ra hra hno
          rw [hra] at hx
          obtain ⟨u, h1, h2⟩ := cutRow_sound hd hn hE hr hx h3 h4
          exact ⟨u, h1, fun w => by simp only [execOp, ho]; exact run_v (h2 w)⟩
        · obtain ⟨u, h1, h2⟩ := sliceV_sound hd (by intro m hm; cases hm; exact hn) hr hx h3 h4
          exact ⟨u, h1, fun w => by simp only [execOp, ho]; exact run_v (h2 w)⟩
      · cases h
  · rename_i f lo' hi' mx' d hf hlo hhi hd
    have hg1 : ∀ {ρ e fr a}, Goods ρ cx e fr a o → Good ρ cx e fr a x := fun hg => hg x (by simp [ho, Op.operands])
    have hg2 : ∀ {ρ e fr a}, Goods ρ cx e fr a o → ∀ y, lo = some y → Good ρ cx e fr a y := fun hg y e1 => hg y (by simp [ho, Op.operands, e1])
    have hg3 : ∀ {ρ e fr a}, Goods ρ cx e fr a o → ∀ y, hi = some y → Good ρ cx e fr a y := fun hg y e1 => hg y (by simp [ho, Op.operands, e1])
    have hg4 : ∀ {ρ e fr a}, Goods ρ cx e fr a o → Good ρ cx e fr a mx' := fun hg => hg mx' (by simp [ho, Op.operands])
    split at h
    · rename_i g n hmx hn
      simp only [Option.some.injEq] at h; subst h
      intro ρ e fr a r hE hg hr
      dsimp only at hr
      obtain ⟨u, h1, h2⟩ := slice3V_sound hd hn hr (opd_sound hf (hg1 hg)) (opd_sound hmx (hg4 hg)) (optOpd_sound hlo (hg2 hg)) (optOpd_sound hhi (hg3 hg))
      exact ⟨u, h1, fun w => by simp only [execOp, ho]; exact run_v (h2 w)⟩
    · cases h
  · cases h

theorem kop_fieldAddr {t : TypeId} {x : Operand} {fld : Nat} (h : kop0 E cx o = some k) (ho : o.op = .fieldAddr t x fld) : k.Sound E cx o := by
  simp only [kop0, ho] at h
  split at h
  · rename_i f fields hf hd
    split at h
    · rename_i fd hfd
      split at h
      · rename_i m hs
        rw [force_eq] at h
        simp only [Option.some.injEq] at h; subst h
        rw [nthF_eq] at hfd
        have hfd' : fields[fld]? = some fd := by simpa using hfd
        have key : ∀ (b : Nat) (off : Nat) (v : Value) (w : World), v = .pointer (some ⟨b, off, none⟩) → (Instr.fieldAt t v fld).run E.P w = .ok (.pointer (some ⟨b, off + fd.offset, none⟩)) w := by
          intro b off v w hv
          subst hv
          simp [Instr.fieldAt, run_underlying hd, hfd', Instr.sureAddr, fieldPlace, sizeOf_run hs, add_win]
        intro ρ e fr a r hE hg hr
        dsimp only at hr
        have h1 := opd_sound hf (hg x (by simp [ho, Op.operands]))
        split at hr
        · rename_i id off e1; rw [e1] at h1
          simp only [force_eq, Option.some.injEq] at hr; subst hr
          generalize hb : a.eval x = b at h1
          cases h1 with
          | ptr hp => exact ⟨_, .ptr hp, fun w => by simp only [execOp, ho, hb]; rw [← Nat.add_assoc]; exact run_v (key _ _ _ w rfl)⟩
        · rename_i id off e1; rw [e1] at h1
          simp only [force_eq, Option.some.injEq] at hr; subst hr
          generalize hb : a.eval x = b at h1
          cases h1
          exact ⟨_, .gptr _ _, fun w => by simp only [execOp, ho, hb]; exact run_v (key _ _ _ w rfl)⟩
        · rename_i ra ri off e1; rw [e1] at h1
          simp only [force_eq, Option.some.injEq] at hr; subst hr
          generalize hb : a.eval x = b at h1
          cases h1 with
          | rptr hrow h0 hlt => exact ⟨_, .rptr hrow h0 hlt, fun w => by simp only [execOp, ho, hb]; rw [← Nat.add_assoc]; exact run_v (key _ _ _ w rfl)⟩
        · rename_i e1; rw [e1] at h1
          simp only [force_eq, Option.some.injEq] at hr; subst hr
          generalize hb : a.eval x = b at h1
          cases h1 with
          | eptrO hp ha h0 hlt => exact ⟨_, .eptrO hp ha h0 hlt, fun w => by simp only [execOp, ho, hb]; rw [← Nat.add_assoc]; exact run_v (key _ _ _ w rfl)⟩
          | eptrT hp ha => exact ⟨_, .eptrT hp ha, fun w => by simp only [execOp, ho, hb]; rw [← Nat.add_assoc]; exact run_v (key _ _ _ w rfl)⟩
        · cases hr
      · cases h
    · cases h
  · cases h

theorem kop_field {t : TypeId} {x : Operand} {fld : Nat} (h : kop0 E cx o = some k) (ho : o.op = .field t x fld) : k.Sound E cx o := by
  simp only [kop0, ho] at h
  split at h
  · rename_i f fields hf hd
    split at h
    · rename_i fd hfd
      split at h
      · rename_i wd hwd
        simp only [Option.some.injEq] at h; subst h
        rw [nthF_eq] at hfd
        have hfd' : fields[fld]? = some fd := by simpa using hfd
        intro ρ e fr a r hE hg hr
        dsimp only at hr
        have h1 := opd_sound hf (hg x (by simp [ho, Op.operands]))
        split at hr
        · rename_i cs e1; rw [e1] at h1
          generalize hb : a.eval x = b at h1
          cases h1 with
          | agg hcs =>
            obtain ⟨u, hu1, hu2⟩ := pick_part (vs := _) hwd hr (by simpa using hcs)
            refine ⟨u, hu1, fun w => ?_⟩
            simp only [execOp, ho, hb]
            refine run_v ?_
            simp only [Instr.field, Sem.run_bind, run_underlying hd, Result.andThen_ok, hfd', asAgg, Sem.run_pure]
            simpa using hu2 w
        · cases hr
      · cases h
    · cases h
  · cases h

theorem indexV_some {n len : Nat} {i : SV} {kk : Nat → Option SV} {r : SV} (h : indexV n len i kk = some r) : ∃ j, asNat i = some j ∧ j < len ∧ kk (j * n) = some r := by
  unfold indexV at h
  split at h
  · rename_i j hj
    split at h
    · rename_i hb
      rw [force_eq] at h
      exact ⟨j, hj, Nat.le_of_ble_eq_true hb, h⟩
    · cases h
  · cases h

theorem olen_val' {σ : Sig} {a k b x sz n : Nat} (h : σ.row a = (b, x, sz, n)) (hn : n ≤ 1000000) (hk : k ≤ 100000) : (olen a k).val σ = ((n + k : Nat) : Int) := by
  cases k with
  | zero => simp [olen, IE.val, h]
  | succ k =>
    simp only [olen, IE.val, h]
    have e : (IntKind.i64).wrap ((n : Int) + (Int.ofNat (k + 1))) = (n : Int) + (Int.ofNat (k + 1)) := by
      have : Int.ofNat (k + 1) = ((k + 1 : Nat) : Int) := rfl
      rw [this]
      simp only [IntKind.wrap, IntKind.bits, IntKind.signed]
      simp
      omega
    rw [opVal_int (op := .add) (k := .i64) (n := (n : Int) + (Int.ofNat (k + 1))) (by simp) (by simp) (by simp only [Sym.intOp]; rw [wrapped_eq, show Int.add (n : Int) (Int.ofNat (k + 1)) = (n : Int) + Int.ofNat (k + 1) from rfl, e])]
    rfl
theorem tailAt_some {a : Nat} {e : IE} : ∀ {k j : Nat}, tailAt E a e k = some j → j < k ∧ E.eq e (olen a j) = some true
  | 0, j, h => by cases h
  | k + 1, j, h => by
    simp only [tailAt] at h
    split at h
    · rename_i he
      simp only [Option.some.injEq] at h
      subst h
      exact ⟨Nat.lt_succ_self _, he⟩
    · obtain ⟨h1, h2⟩ := tailAt_some h
      exact ⟨by omega, h2⟩
theorem kop_indexAddr {t : TypeId} {x i : Operand} (h : kop0 E cx o = some k) (ho : o.op = .indexAddr t x i) : k.Sound E cx o := by
  simp only [kop0, ho] at h
  split at h
  · rename_i f g d hf hg' hd
    split at h
    · rename_i len elem
      split at h
      · rename_i n hn
        simp only [Option.some.injEq] at h; subst h
        intro ρ e fr a r hE hg hr
        dsimp only at hr
        have h1 := opd_sound hf (hg x (by simp [ho, Op.operands]))
        have h2 := opd_sound hg' (hg i (by simp [ho, Op.operands]))
        have key : ∀ (b off j : Nat) (v vi : Value) (w : World) (kk : IntKind), v = .pointer (some ⟨b, off, none⟩) → vi = .int kk (j : Int) → j < len → (Instr.indexAt t v vi).run E.P w = .ok (.pointer (some ⟨b, off + j * n, none⟩)) w := by
          intro b off j v vi w kk hv hvi hj
          subst hv; subst hvi
          simp [Instr.indexAt, asIntOf, run_underlying hd, Instr.sureAddr, hj, sizeOf_run hn, add_win]
        split at hr
        · rename_i id off e1; rw [e1] at h1
          obtain ⟨j, hj1, hj2, hj3⟩ := indexV_some hr
          obtain ⟨kk, hkk⟩ := asNat_rel hj1 h2
          simp only [force_eq, Option.some.injEq] at hj3; subst hj3
          generalize hb : a.eval x = b at h1
          cases h1 with
          | ptr hp => exact ⟨_, .ptr hp, fun w => by simp only [execOp, ho, hb]; rw [← Nat.add_assoc]; exact run_v (key _ _ _ _ _ w kk rfl hkk hj2)⟩
        · rename_i id off e1; rw [e1] at h1
          obtain ⟨j, hj1, hj2, hj3⟩ := indexV_some hr
          obtain ⟨kk, hkk⟩ := asNat_rel hj1 h2
          simp only [force_eq, Option.some.injEq] at hj3; subst hj3
          generalize hb : a.eval x = b at h1
          cases h1
          exact ⟨_, .gptr _ _, fun w => by simp only [execOp, ho, hb]; exact run_v (key _ _ _ _ _ w kk rfl hkk hj2)⟩
        · cases hr
      · cases h
    · rename_i elem
      split at h
      · rename_i n hn
        simp only [Option.some.injEq] at h; subst h
        intro ρ e fr a r hE hg hr
        dsimp only at hr
        have h1 := opd_sound hf (hg x (by simp [ho, Op.operands]))
        have h2 := opd_sound hg' (hg i (by simp [ho, Op.operands]))
        have key : ∀ (b off j len cap : Nat) (v vi : Value) (w : World) (kk : IntKind), v = .slice (some ⟨b, off, none⟩) len cap → vi = .int kk (j : Int) → j < len → (Instr.indexAt t v vi).run E.P w = .ok (.pointer (some ⟨b, off + j * n, none⟩)) w := by
          intro b off j len cap v vi w kk hv hvi hj
          subst hv; subst hvi
          simp [Instr.indexAt, asIntOf, run_underlying hd, hj, sizeOf_run hn, add_win]
        split at hr
        · rename_i id off len c e1; rw [e1] at h1
          obtain ⟨j, hj1, hj2, hj3⟩ := indexV_some hr
          obtain ⟨kk, hkk⟩ := asNat_rel hj1 h2
          simp only [force_eq, Option.some.injEq] at hj3; subst hj3
          generalize hb : a.eval x = b at h1
          cases h1 with
          | sliceE hp => exact ⟨_, .ptr hp, fun w => by simp only [execOp, ho, hb]; rw [← Nat.add_assoc]; exact run_v (key _ _ _ _ _ _ _ w kk rfl hkk hj2)⟩
          | sliceT hp ht hl hcap hxx =>
            rcases hxx with rfl | h0
            · exact ⟨_, .ptr hp, fun w => by simp only [execOp, ho, hb]; rw [← Nat.add_assoc]; exact run_v (key _ _ _ _ _ _ _ w kk rfl hkk hj2)⟩
            · omega
        · rename_i ra e1; rw [e1] at h1
          unfold Sym.rowAt at hr
          split at hr
          · rename_i kk ei ks hie hks
            split at hr
            · rename_i hlen hl0 hln
              simp only [Option.some.injEq] at hr; subst hr
              have hlen := Nat.eq_of_beq_eq_true hlen
              have h3 := toIE_val hie h2
              have g0 := hE.lt _ _ _ hl0
              have g1 := hE.lt _ _ _ hln
              rw [ltb_eq] at g0 g1
              have g0 := of_decide_eq_false g0
              have g1 := of_decide_eq_true g1
              simp only [IE.val] at g0 g1
              have hsz := hE.rows _ _ hks
              generalize hb : a.eval x = b at h1
              cases h1 with
              | row hrow hcap =>
                rename_i bb xx sz nn cap
                rw [hE.sig] at hrow h3
                rw [hrow] at hsz g1
                simp only at g1 hsz
                have g0' : 0 ≤ IE.val E.sig ei := by
                  have : ¬ (IE.val E.sig ei < Int.ofNat 0) := g0
                  simpa using this
                obtain ⟨j, hj⟩ := Int.eq_ofNat_of_zero_le g0'
                refine ⟨.pointer (some ⟨bb, xx + (IE.val ρ.sig ei).toNat * sz + 0, none⟩), VRel.rptr (n := nn) (by rw [hE.sig]; exact hrow) (by rw [hE.sig]; exact g0') (by rw [hE.sig]; exact g1), fun w => ?_⟩
                simp only [execOp, ho, hb]
                rw [hE.sig, hj, Nat.add_zero, Int.toNat_natCast, hsz, hlen]
                rw [hj] at h3 g1
                exact run_v (key _ _ j _ _ _ _ w kk rfl h3 (by omega))
              | rowE hrow =>
                rw [hE.sig] at hrow
                rw [hrow] at g1
                simp only at g1
                have g0' : 0 ≤ IE.val E.sig ei := by
                  have : ¬ (IE.val E.sig ei < Int.ofNat 0) := g0
                  simpa using this
                omega
            · cases hr
          · cases hr
        · rename_i oid oa ok oz e1; rw [e1] at h1
          generalize hb : a.eval x = b at h1
          cases h1 with
          | oslice hp ha hc ht hnn hkk =>
            rename_i bb oo tt b0 x0 nn cap
            unfold Sym.ownAt at hr
            split at hr
            · rename_i kk ei hie
              have h3 := toIE_val hie h2
              split at hr
              · rename_i hz
                have hz := Nat.eq_of_beq_eq_true hz
                subst hz
                have fin : ∀ (q : SV) (i : Nat), i < nn + ok → IE.val ρ.sig ei = (i : Int) → VRel ρ q (.pointer (some ⟨bb, oo + i * oz + 0, none⟩)) → ∃ v, VRel ρ q v ∧ ∀ w, (execOp a.eval o).run E.P w = .ok (.value v) w := fun q i hi hv hq => by
                  refine ⟨_, hq, fun w => ?_⟩
                  simp only [execOp, ho, hb]
                  rw [hv] at h3
                  exact run_v (key _ _ i _ _ _ _ w kk rfl h3 hi)
                have tl : (match tailAt E oa ei ok with | some j => some (SV.eptr oid oa oz (some j) ei 0) | none => none) = some r → ∃ v, VRel ρ r v ∧ ∀ w, (execOp a.eval o).run E.P w = .ok (.value v) w := fun hr => by
                  split at hr
                  · rename_i j hj
                    simp only [Option.some.injEq] at hr
                    subst hr
                    obtain ⟨hj1, hj2⟩ := tailAt_some hj
                    have g := hE.eq _ _ _ hj2
                    rw [eqb_eq] at g
                    have g := of_decide_eq_true g
                    rw [← hE.sig, olen_val' ha hnn (by omega)] at g
                    exact fin _ (nn + j) (by omega) g (.eptrT hp ha)
                  · cases hr
                split at hr
                · rename_i hl0 hln
                  simp only [Option.some.injEq] at hr; subst hr
                  have g0 := hE.lt _ _ _ hl0
                  have g1 := hE.lt _ _ _ hln
                  rw [ltb_eq] at g0 g1
                  have g0 := of_decide_eq_false g0
                  have g1 := of_decide_eq_true g1
                  rw [← hE.sig] at g0 g1
                  simp only [IE.val, ha] at g0 g1
                  have g0' : 0 ≤ IE.val ρ.sig ei := by
                    have : ¬ (IE.val ρ.sig ei < Int.ofNat 0) := g0
                    simpa using this
                  obtain ⟨j, hj⟩ := Int.eq_ofNat_of_zero_le g0'
                  have hq := VRel.eptrO (off := 0) (i := ei) hp ha g0' g1
                  rw [hj, Int.toNat_natCast] at hq
                  exact fin _ j (by omega) hj hq
                · exact tl hr
              · cases hr
            · cases hr
        · cases hr
      · cases h
    · cases h
  · cases h

theorem kop_index {t : TypeId} {x i : Operand} (h : kop0 E cx o = some k) (ho : o.op = .index t x i) : k.Sound E cx o := by
  simp only [kop0, ho] at h
  split at h
  · rename_i f g d hf hg' hd
    split at h
    · rename_i len elem
      split at h
      · rename_i n wd hn hwd
        simp only [Option.some.injEq] at h; subst h
        intro ρ e fr a r hE hg hr
        dsimp only at hr
        have h1 := opd_sound hf (hg x (by simp [ho, Op.operands]))
        have h2 := opd_sound hg' (hg i (by simp [ho, Op.operands]))
        split at hr
        · rename_i cs e1; rw [e1] at h1
          obtain ⟨j, hj1, hj2, hj3⟩ := indexV_some hr
          obtain ⟨kk, hkk⟩ := asNat_rel hj1 h2
          generalize hb : a.eval x = b at h1
          cases h1 with
          | agg hcs =>
            obtain ⟨u, hu1, hu2⟩ := pick_part (vs := _) hwd hj3 (by simpa using hcs)
            refine ⟨u, hu1, fun w => ?_⟩
            simp only [execOp, ho, hb, hkk]
            refine run_v ?_
            have := hu2 w
            simp [Instr.index, asIntOf, run_underlying hd, hj2, sizeOf_run hn, this]
        · cases hr
      · cases h
    · simp only [Option.some.injEq] at h; subst h
      intro ρ e fr a r hE hg hr
      dsimp only at hr
      have h1 := opd_sound hf (hg x (by simp [ho, Op.operands]))
      have h2 := opd_sound hg' (hg i (by simp [ho, Op.operands]))
      split at hr
      · rename_i s e1; rw [e1] at h1
        split at hr
        · rename_i j hj1
          obtain ⟨kk, hkk⟩ := asNat_rel hj1 h2
          split at hr
          · rename_i b hb1
            simp only [Option.some.injEq] at hr; subst hr
            generalize hb : a.eval x = bb at h1
            cases h1
            refine ⟨_, .int _ _, fun w => ?_⟩
            simp only [execOp, ho, hb, hkk]
            refine run_v ?_
            rw [nth_eq] at hb1
            have : s[j]? = some b := by
              have h3 : s.data[j]? = some b := by simpa using hb1
              rw [← h3]; rfl
            simp [Instr.index, asIntOf, run_underlying hd, this]
          · cases hr
        · cases hr
      · rename_i sa e1; rw [e1] at h1
        unfold byteAt at hr
        split at hr
        · rename_i kk ee hie
          split at hr
          · rename_i q1 q2
            simp only [Option.some.injEq] at hr; subst hr
            have q1 := hE.lt _ _ _ q1
            have q2 := hE.lt _ _ _ q2
            rw [← hE.sig] at q1 q2
            rw [ltb_eq] at q1 q2
            have q1 := of_decide_eq_false q1
            have q2 := of_decide_eq_true q2
            have hi := toIE_val hie h2
            generalize hb : a.eval x = bb at h1
            cases h1 with
            | xstr hs hc =>
              rename_i b0 x0 s0
              have e0 : IE.val ρ.sig (.len sa) = (s0.size : Int) := by
                show ((ρ.sig.row sa).2.2.2 : Int) = _
                rw [hs]
              rw [e0] at q2
              have q1 : ¬ IE.val ρ.sig ee < 0 := q1
              obtain ⟨j, hj⟩ := Int.eq_ofNat_of_zero_le (show 0 ≤ IE.val ρ.sig ee by omega)
              have hjs : j < s0.size := by omega
              have hy : s0[j]? = some s0[j] := by
                show s0.data[j]? = _
                rw [Array.getElem?_eq_getElem hjs]; rfl
              have hv := VRel.sint (ρ := ρ) .u8 (.sel sa ee 0)
              have ev : IE.val ρ.sig (.sel sa ee 0) = s0[j].toNat := by
                show (match ρ.sig.cell sa (IE.val ρ.sig ee).toNat 0 with | .int _ n => n | _ => 0) = _
                rw [hj, Int.toNat_natCast, hc j _ hy]
              rw [ev] at hv
              refine ⟨_, hv, fun w => ?_⟩
              simp only [execOp, ho, hb, hi, hj]
              refine run_v ?_
              simp [Instr.index, asIntOf, run_underlying hd, hy]
          · cases hr
        · cases hr
      · cases hr
    · cases h
  · cases h
end
end Go.RX

/- Loads, look-ups, lengths: what reads memory and writes nothing. -/
namespace Go.RX
open Sym

/-- What a window of a block holds. -/
abbrev Holds (ρ : Ren) (cs : List SV) (o : Nat) (arr : Array Value) : Prop := ∀ (k : Nat) (x : SV), cs[k]? = some x → ∃ v, arr[o + k]? = some v ∧ VRel ρ x v

theorem Holds.mono {ρ ρ' : Ren} (hle : ρ.le ρ') {cs : List SV} {o : Nat} {arr : Array Value} (h : Holds ρ cs o arr) : Holds ρ' cs o arr := fun k x e => let ⟨v, h1, h2⟩ := h k x e; ⟨v, h1, h2.mono hle⟩

theorem Holds.seg {ρ : Ren} {cs l : List SV} {o m n : Nat} {arr : Array Value} (h : Holds ρ cs o arr) (hs : Go.RX.seg cs m n = some l) :
    ∃ vs : List Value, vs.length = n ∧ VRels ρ l vs ∧ ∀ k v, vs[k]? = some v → arr[o + m + k]? = some v := by
  obtain ⟨h1, -, h3⟩ := seg_some _ _ _ _ hs
  have hget := fun k (hk : k < n) => seg_get hs k hk
  have hex : ∀ k, k < n → ∃ v, arr[o + (m + k)]? = some v ∧ ∀ x, l[k]? = some x → VRel ρ x v := fun k hk => by
    have hlt : m + k < cs.length := by omega
    obtain ⟨v, hv, hr⟩ := h (m + k) cs[m + k] (by simp [hlt])
    refine ⟨v, hv, fun x hx => ?_⟩
    rw [hget k hk] at hx
    have : cs[m + k]? = some cs[m + k] := by simp [hlt]
    rw [this] at hx; cases hx; exact hr
  have hsize : ∀ k, k < n → o + m + k < arr.size := fun k hk => by
    obtain ⟨v, hv, -⟩ := hex k hk
    have := (Array.getElem?_eq_some_iff.1 hv).1
    omega
  have hvs : ∀ k, ((arr.toList.drop (o + m)).take n)[k]? = if k < n then arr[o + (m + k)]? else none := fun k => by
    rw [List.getElem?_take]
    by_cases hk : k < n
    · rw [if_pos hk, if_pos hk, List.getElem?_drop, Array.getElem?_toList]; congr 1; omega
    · rw [if_neg hk, if_neg hk]
  have hlen : ((arr.toList.drop (o + m)).take n).length = n := by
    rw [List.length_take, List.length_drop, Array.length_toList]
    rcases Nat.eq_zero_or_pos n with rfl | hp
    · simp
    · have := hsize (n - 1) (by omega)
      omega
  refine ⟨(arr.toList.drop (o + m)).take n, hlen, VRels.of_get (by rw [hlen, h3]) fun k x v hx hv => ?_, fun k v hv => ?_⟩
  · rw [hvs] at hv
    by_cases hk : k < n
    · rw [if_pos hk] at hv
      obtain ⟨v', hv', hr⟩ := hex k hk
      rw [hv'] at hv; cases hv; exact hr x hx
    · rw [if_neg hk] at hv; cases hv
  · rw [hvs] at hv
    by_cases hk : k < n
    · rw [if_pos hk] at hv; rw [← hv]; congr 1; omega
    · rw [if_neg hk] at hv; cases hv

section
variable {E : Env} {cx : Cx} {o : Oper} {k : KOp}

theorem loadVar_win {ρ : Ren} {cs : List SV} {b ofs off : Nat} {arr : Array Value} {el : TypeId} {fz : Nat × Nat} {w : World} {t : TypeId} {wd : Option Nat} {r : SV} (hb : w.heap[b]? = some (.cells arr el fz)) (h : Holds ρ cs ofs arr)
    (hw : wide E t = some wd) (hp : pick cs off wd = some r) : ∃ u, VRel ρ r u ∧ (loadVar t ⟨b, ofs + off, none⟩).run E.P w = .ok u w := by
  rcases wide_run hw with ⟨rfl, hg⟩ | ⟨n, rfl, hg, hn⟩
  · simp only [pick, nth_eq] at hp
    obtain ⟨v, h1, h2⟩ := h _ _ hp
    refine ⟨v, h2, ?_⟩
    simp [loadVar, hg, cell_at hb, h1]
  · simp only [pick] at hp
    split at hp
    · rename_i l hl
      simp only [Option.some.injEq] at hp; subst hp
      obtain ⟨vs, h1, h2, h3⟩ := h.seg hl
      refine ⟨_, .agg h2, ?_⟩
      simp only [loadVar, Sem.run_bind, hg, Result.andThen_ok, if_true, hn]
      rw [← h1, run_loadCells_win E.P hb vs h3]
      rfl
    · cases hp

/-- All cells of an element of a row. -/
def rowFrom (E : Env) (a : Nat) (i : IE) : Nat → List (Option IntKind) → List SV
  | _, [] => []
  | c, k :: ks => rowCell E a i c k :: rowFrom E a i (c + 1) ks
def rowAll (E : Env) (a : Nat) (i : IE) (ks : List (Option IntKind)) : List SV := rowFrom E a i 0 ks

theorem rowFrom_get {a : Nat} {i : IE} : ∀ {ks : List (Option IntKind)} {c k : Nat} {y : SV}, (rowFrom E a i c ks)[k]? = some y → ∃ kd, ks[k]? = some kd ∧ y = rowCell E a i (c + k) kd
  | [], _, _, _, h => by simp [rowFrom] at h
  | kd :: ks, c, 0, y, h => by simp [rowFrom] at h; exact ⟨kd, rfl, h.symm⟩
  | kd :: ks, c, k + 1, y, h => by
    simp [rowFrom] at h
    obtain ⟨kd', h1, h2⟩ := rowFrom_get h
    exact ⟨kd', by simpa using h1, by rw [h2]; congr 1; omega⟩
theorem rowAll_get {a : Nat} {i : IE} {ks : List (Option IntKind)} {k : Nat} {y : SV} (h : (rowAll E a i ks)[k]? = some y) : ∃ kd, ks[k]? = some kd ∧ y = (match kd with | some kd => SV.sint kd (.sel a i k) | none => (match E.cells a i k with | some x => x | none => .cellv a i k)) := by
  obtain ⟨kd, h1, h2⟩ := rowFrom_get h
  refine ⟨kd, h1, ?_⟩
  rw [h2, Nat.zero_add]
  cases kd <;> rfl
theorem rowFrom_len (E : Env) (a : Nat) (i : IE) : ∀ (ks : List (Option IntKind)) (c : Nat), (rowFrom E a i c ks).length = ks.length
  | [], _ => rfl
  | _ :: ks, c => by simp [rowFrom, rowFrom_len E a i ks]
theorem rowFrom_drop (E : Env) (a : Nat) (i : IE) : ∀ (ks : List (Option IntKind)) (c d : Nat), (rowFrom E a i c ks).drop d = rowFrom E a i (c + d) (ks.drop d)
  | [], c, d => by simp [rowFrom]
  | _ :: ks, c, 0 => by simp
  | _ :: ks, c, d + 1 => by
    simp only [rowFrom, List.drop_succ_cons]
    rw [rowFrom_drop E a i ks (c + 1) d]; congr 1; omega
theorem rowCells_take (E : Env) (a : Nat) (i : IE) : ∀ (n c : Nat) (ks : List (Option IntKind)) (l : List SV), rowCells E a i n c ks = some l → n ≤ ks.length ∧ l = (rowFrom E a i c ks).take n
  | 0, c, ks, l, h => by simp only [rowCells, Option.some.injEq] at h; subst h; simp
  | n + 1, c, [], l, h => by simp [rowCells] at h
  | n + 1, c, k :: ks, l, h => by
    simp only [rowCells] at h
    split at h
    · rename_i l' hl
      simp only [Option.some.injEq] at h; subst h
      obtain ⟨h1, h2⟩ := rowCells_take E a i n (c + 1) ks l' hl
      exact ⟨by simpa using h1, by simp [rowFrom, h2]⟩
    · cases h
theorem seg_of {α : Type} {l : List α} {m n : Nat} (h : m + n ≤ l.length) : seg l m n = some ((l.drop m).take n) := by
  induction l generalizing m with
  | nil =>
    have : m = 0 ∧ n = 0 := by simp at h; omega
    obtain ⟨rfl, rfl⟩ := this
    rfl
  | cons c l ih =>
    cases m with
    | zero =>
      rw [seg_zero]
      have key : ∀ (l : List α) (n : Nat), n ≤ l.length → takeN l n = some (l.take n) := by
        intro l
        induction l with
        | nil => intro n hn; have : n = 0 := by simpa using hn
                 subst this; rfl
        | cons c l ih2 =>
          intro n hn
          cases n with
          | zero => rfl
          | succ n => rw [takeN_cons_succ, ih2 n (by simpa using hn)]; rfl
      simpa using key (c :: l) n (by simpa using h)
    | succ m => rw [seg_cons_succ, ih (by simp at h; omega)]; rfl
theorem pickRow_pick {a : Nat} {i : IE} {off : Nat} {ks : List (Option IntKind)} {wd : Option Nat} {r : SV} (h : pickRow E a i off ks wd = some r) : pick (rowAll E a i ks) off wd = some r := by
  cases wd with
  | none =>
    simp only [pickRow] at h
    split at h
    · rename_i k hk
      simp only [Option.some.injEq] at h; subst h
      rw [nth_eq] at hk
      simp only [pick, nth_eq]
      have hlen : off < (rowAll E a i ks).length := by
        rw [rowAll, rowFrom_len]; exact (List.getElem?_eq_some_iff.1 hk).1
      obtain ⟨y, hy⟩ : ∃ y, (rowAll E a i ks)[off]? = some y := ⟨_, List.getElem?_eq_getElem hlen⟩
      obtain ⟨kd, h1, h2⟩ := rowFrom_get hy
      rw [hy, h2, Nat.zero_add]
      rw [hk] at h1; cases h1; rfl
    · cases h
  | some n =>
    simp only [pickRow] at h
    split at h
    · rename_i l hb hl
      have h0 := Nat.le_of_ble_eq_true hb
      simp only [Option.some.injEq] at h; subst h
      obtain ⟨h1, h2⟩ := rowCells_take E a i n off (ks.drop off) l hl
      simp only [pick]
      rw [seg_of (by rw [rowAll, rowFrom_len]; exact h0), rowAll, rowFrom_drop, Nat.zero_add, ← h2]
    · cases h

theorem ownCells_some {a : Nat} {i : IE} : ∀ {n c : Nat} {l : List SV}, ownCells E a i n c = some l → l.length = n ∧ ∀ k y, l[k]? = some y → E.cells a i (c + k) = some y
  | 0, c, l, h => by
    simp only [ownCells, Option.some.injEq] at h
    subst h
    exact ⟨rfl, fun k y e => by simp at e⟩
  | n + 1, c, l, h => by
    simp only [ownCells] at h
    split at h
    · rename_i x l' hx hl
      simp only [Option.some.injEq] at h; subst h
      obtain ⟨h1, h2⟩ := ownCells_some hl
      refine ⟨by simp [h1], fun k y e => ?_⟩
      cases k with
      | zero => simp at e; subst e; exact hx
      | succ k =>
        have := h2 k y (by simpa using e)
        rw [← this]; congr 1; omega
    · cases h
theorem loadW_sound {ρ : Ren} {S : SW} {w : World} {t : TypeId} {wd : Option Nat} {a r : SV} {v : Value} (hok : Ok E ρ S w) (hw : wide E t = some wd) (h : loadW E S wd a = some r) (ha : VRel ρ a v) :
    ∃ u, VRel ρ r u ∧ (Instr.loadAt t v).run E.P w = .ok u w := by
  unfold loadW at h
  split at h
  · cases ha with
    | ptr hp =>
      split at h
      · rename_i id off b oo tt x1 cs el hobj
        obtain ⟨ob, ho1, ho2⟩ := hok.wrel.obj id _ _ hobj hp
        cases ho2 with
        | cells arr _ fz ht hlen hfz hmk hwh hc =>
          obtain ⟨u, h1, h2⟩ := loadVar_win ho1 hc hw h
          exact ⟨u, h1, by simp only [Instr.loadAt, Instr.sureAddr, Sem.run_bind, Sem.run_pure, Result.andThen_ok]; exact h2⟩
      · cases h
  · cases ha
    split at h
    · rename_i g off x1 cs hcs
      obtain ⟨arr, el, fz, h1, h2⟩ := hok.glob.lies.cells _ _ hcs
      have hh : Holds ρ cs 0 arr := fun k x e => by
        obtain ⟨v, e1, e2⟩ := h2 k x e
        exact ⟨v, by rw [Nat.zero_add]; exact e1, e2.mono ⟨fun _ _ e => (by cases e), hok.num.sig.symm⟩⟩
      obtain ⟨u, h3, h4⟩ := loadVar_win h1 hh hw h
      rw [Nat.zero_add] at h4
      exact ⟨u, h3, by simp only [Instr.loadAt, Instr.sureAddr, Sem.run_bind, Sem.run_pure, Result.andThen_ok]; exact h4⟩
    · cases h
  · split at h
    · rename_i a i off x1 ks hks
      obtain ⟨b, xx, n, arr, el, fz, h1, h2, h3⟩ := hok.glob.lies.rows _ _ hks
      cases ha with
      | rptr hr h0 hlt =>
        rw [hok.num.sig, h1] at hr
        simp only [Prod.mk.injEq] at hr
        obtain ⟨rfl, rfl, rfl, rfl⟩ := hr
        have hh : Holds ρ (rowAll E a i ks) (xx + (i.val ρ.sig).toNat * ks.length) arr := fun k y e => by
          obtain ⟨kd, q1, q2⟩ := rowAll_get e
          obtain ⟨g1, g2⟩ := h3 (i.val ρ.sig).toNat k kd (by omega) q1
          refine ⟨_, g1, ?_⟩
          subst q2
          cases kd with
          | none =>
            dsimp only
            split
            · rename_i y hy
              have hs := hok.num.sig
              have := hok.num.cells a i k y hy (by rw [h1, ← hs]; exact hlt) (by rw [← hs]; exact h0)
              rw [hs]
              exact this.mono ⟨fun _ _ e => (by cases e), hs.symm⟩
            · exact .cellv (by rw [hok.num.sig]) g2
          | some kd =>
            obtain ⟨z, hz⟩ := g2
            have := VRel.sint (ρ := ρ) kd (.sel a i k)
            have hv : IE.val ρ.sig (.sel a i k) = z := by simp only [IE.val]; rw [hok.num.sig] at hz ⊢; rw [hz]
            rw [hv] at this
            rw [hok.num.sig] at hz
            rw [hok.num.sig, hz]
            exact this
        obtain ⟨u, h4, h5⟩ := loadVar_win h2 hh hw (pickRow_pick h)
        exact ⟨u, h4, by simp only [Instr.loadAt, Instr.sureAddr, Sem.run_bind, Sem.run_pure, Result.andThen_ok]; exact h5⟩
    · cases h
  · rename_i id ra sz jj ri off
    split at h
    · rename_i a' cs hobj
      split at h
      · rename_i hra
        have hra := Nat.eq_of_beq_eq_true hra
        subst hra
        split at h
        · rename_i j
          cases ha with
          | eptrT hp hr =>
            rename_i b oo tt b0 x0 n
            obtain ⟨ob, ho1, ho2⟩ := hok.wrel.obj id _ _ hobj hp
            cases ho2 with
            | own arr el' fz ht hr2 hlen hfz hb hc =>
              rw [hr] at hr2
              simp only [Prod.mk.injEq] at hr2
              obtain ⟨rfl, rfl, rfl, rfl⟩ := hr2
              obtain ⟨u, h4, h5⟩ := loadVar_win (ofs := oo + n * sz) ho1 hc hw h
              refine ⟨u, h4, ?_⟩
              have e : oo + n * sz + (Nat.mul j sz).add off = oo + (n + j) * sz + off := by
                have : Nat.add (Nat.mul j sz) off = j * sz + off := rfl
                rw [this, Nat.add_mul]; omega
              rw [e] at h5
              simp only [Instr.loadAt, Instr.sureAddr, Sem.run_bind, Sem.run_pure, Result.andThen_ok]; exact h5
        · cases ha with
          | eptrO hp hr h0 hlt =>
            rename_i b oo tt b0 x0 n
            obtain ⟨ob, ho1, ho2⟩ := hok.wrel.obj id _ _ hobj hp
            cases ho2 with
            | own arr el' fz ht hr2 hlen hfz hb hc =>
              rw [hr] at hr2
              simp only [Prod.mk.injEq] at hr2
              obtain ⟨rfl, rfl, rfl, rfl⟩ := hr2
              have hs := hok.num.sig
              have cell : ∀ c y, c < sz → E.cells ra ri c = some y → ∃ v, arr[oo + (ri.val ρ.sig).toNat * sz + c]? = some v ∧ VRel ρ y v := fun c y hc hy => by
                refine ⟨_, hb _ c (by omega) hc, ?_⟩
                have := hok.num.cells ra ri c y hy (by rw [← hs, hr]; exact hlt) (by rw [← hs]; exact h0)
                rw [hs]
                exact this.mono ⟨fun _ _ e => (by cases e), hs.symm⟩
              have fin : ∀ l, Holds ρ l (oo + (ri.val ρ.sig).toNat * sz + off) arr → pick l 0 wd = some r → ∃ u, VRel ρ r u ∧ (Instr.loadAt t (.pointer (some ⟨b, oo + (ri.val ρ.sig).toNat * sz + off, none⟩))).run E.P w = .ok u w := fun l hh hp => by
                obtain ⟨u, h4, h5⟩ := loadVar_win ho1 hh hw hp
                rw [Nat.add_zero] at h5
                exact ⟨u, h4, by simp only [Instr.loadAt, Instr.sureAddr, Sem.run_bind, Sem.run_pure, Result.andThen_ok]; exact h5⟩
              cases wd with
              | none =>
                simp only [pickOwn] at h
                split at h
                · rename_i hle
                  have hle := Nat.le_of_ble_eq_true hle
                  refine fin [r] (fun k y e => ?_) (by simp [pick, nth_eq])
                  cases k with
                  | succ k => simp at e
                  | zero =>
                    simp at e
                    subst e
                    exact cell off _ (by omega) h
                · cases h
              | some m =>
                simp only [pickOwn] at h
                split at h
                · rename_i l hle hl
                  have hle : off + m ≤ sz := Nat.le_of_ble_eq_true hle
                  simp only [Option.some.injEq] at h; subst h
                  obtain ⟨q1, q2⟩ := ownCells_some hl
                  refine fin l (fun k y e => ?_) (by simp only [pick]; rw [seg_of (by omega)]; simp [← q1])
                  have hk := (List.getElem?_eq_some_iff.1 e).1
                  rw [Nat.add_assoc]
                  exact cell (off + k) _ (by omega) (q2 k y e)
                · cases h
      · cases h
    · cases h
  · cases h

theorem kop_load {t : TypeId} {x : Operand} (h : kop0 E cx o = some k) (ho : o.op = .load t x) : k.Sound E cx o := by
  simp only [kop0, ho] at h
  split at h
  · rename_i f wd hf hwd
    simp only [Option.some.injEq] at h; subst h
    intro ρ e fr a r S w hg hok hr
    dsimp only at hr
    obtain ⟨u, h1, h2⟩ := loadW_sound hok hwd hr (opd_sound hf (hg x (by simp [ho, Op.operands])))
    exact ⟨u, h1, by simp only [execOp, ho]; exact run_v h2⟩
  · cases h

/-! ### Maps -/
theorem run_getObj_map (P : Program) {w : World} {r : Nat} {es : Array MapEntry} {c : Nat} (h : w.heap[r]? = some (.map es c)) : (getObj r).run P w = .ok (.map es c) w := by
  simp only [getObj, Sem.run, h]

theorem entries_sound {ρ : Ren} {S : SW} {w : World} {x : SV} {es : List (SV × SV × Nat)} {v : Value} (hok : Ok E ρ S w) (h : entries S x = some es) (hv : VRel ρ x v) :
    (v = .map none ∧ es = []) ∨ ∃ r arr c, v = .map (some r) ∧ w.heap[r]? = some (.map arr c) ∧ ERel ρ es arr.toList := by
  unfold entries at h
  split at h
  · cases hv
    simp only [Option.some.injEq] at h; subst h
    exact .inl ⟨rfl, rfl⟩
  · cases hv with
    | map hp =>
      split at h
      · rename_i id b x1 es' c hobj
        simp only [Option.some.injEq] at h; subst h
        obtain ⟨ob, ho1, ho2⟩ := hok.wrel.obj id _ _ hobj hp
        cases ho2 with
        | map arr c hh => exact .inr ⟨_, arr, c, rfl, ho1, hh⟩
      · cases h
  · cases h

theorem ERel.length {ρ : Ren} : ∀ {xs : List (SV × SV × Nat)} {es : List MapEntry}, ERel ρ xs es → xs.length = es.length
  | _, _, .nil => rfl
  | _, _, .cons _ _ _ hs => by simp [ERel.length hs]

theorem sameNow_sound {d : TypeDesc} (hd : keyKind d = true) {k k' : SV} {b : Bool} {ρ : Ren} {v v' : Value} (h : eqScalar d k k' = some b) (hk : VRel ρ k v) (hk' : VRel ρ k' v') :
    Instr.sameNow d v v' = some b ∧ (b = true → k = k') := by
  unfold eqScalar at h
  split at h <;> first | (cases h; done) | (simp [keyKind] at hd; done) | skip
  · cases hk; cases hk'
    simp only [Option.some.injEq] at h; subst h
    exact ⟨rfl, fun e => by simp at e; rw [e]⟩
  · cases hk; cases hk'
    rename_i ik1 k1 a1 k2 a2
    rw [kindEq_eq] at h
    by_cases e : k1 = k2
    · simp [e, eqb_eq] at h; subst h
      refine ⟨by simp [Instr.sameNow, e]; rfl, fun e2 => by simp at e2; rw [e2, e]⟩
    · simp [e] at h
  · cases hk; cases hk'
    simp only [Option.some.injEq, strEq_beq] at h; subst h
    refine ⟨rfl, fun e => ?_⟩
    rename_i a1 b1
    rw [beq_toListBytes, ByteArray.toList_eq, ByteArray.toList_eq] at e
    have h2 : a1.data.toList = b1.data.toList := by simpa using e
    have : a1 = b1 := ByteArray.ext (Array.ext' h2)
    rw [this]

theorem findKey_sound {d : TypeDesc} (hd : keyKind d = true) {k : SV} {ρ : Ren} {kv : Value} (hk : VRel ρ k kv) : ∀ {es : List (SV × SV × Nat)} {fs : List MapEntry} {r : Option SV} (i : Nat), findKey d k es = some r → ERel ρ es fs →
    (r = none ∧ Instr.findNow d kv fs i = some none) ∨ ∃ x v j, r = some x ∧ VRel ρ x v ∧ Instr.findNow d kv fs i = some (some (j, v)) ∧ i ≤ j ∧ j < i + fs.length
  | [], _, r, i, h, .nil => by
    simp [Sym.findKey] at h; subst h
    exact .inl ⟨rfl, rfl⟩
  | (k', x', n) :: es, _, r, i, h, .cons (e := e) (es := fs) hk' hv' hn hs => by
    simp only [Sym.findKey] at h
    split at h
    · rename_i he
      simp only [Option.some.injEq] at h; subst h
      obtain ⟨h1, -⟩ := sameNow_sound hd he hk hk'
      refine .inr ⟨x', e.val, i, rfl, hv', ?_, Nat.le_refl _, by simp⟩
      simp [Instr.findNow, h1]
    · rename_i he
      obtain ⟨h1, -⟩ := sameNow_sound hd he hk hk'
      rcases findKey_sound hd hk (i + 1) h hs with ⟨e1, e2⟩ | ⟨x, v, j, e1, e2, e3, e4, e5⟩
      · exact .inl ⟨e1, by simp [Instr.findNow, h1, e2]⟩
      · exact .inr ⟨x, v, j, e1, e2, by simp [Instr.findNow, h1, e3], by omega, by simp; omega⟩
    · cases h

theorem checkKey_run {t : TypeId} {d : TypeDesc} (ht : E.P.underlying t = some d) (hd : keyKind d = true) (b : Bool) (v : Value) (w : World) : (Instr.checkKey b 10000 t v).run E.P w = .ok () w := by
  have key : ∀ n, (Instr.checkKey b (n + 1) t v).run E.P w = .ok () w := fun n => by
    simp only [Instr.checkKey, Sem.run_bind, run_underlying ht, Result.andThen_ok]
    cases d <;> simp [keyKind] at hd <;> rfl
  exact key 9999

theorem findKey_run {t : TypeId} {d : TypeDesc} (ht : E.P.underlying t = some d) {k : Value} {es : List MapEntry} {r : Option (Nat × Value)} (h : Instr.findNow d k es 0 = some r) (w : World) : (Instr.findKey t k es).run E.P w = .ok r w := by
  simp only [Instr.findKey, Sem.run_bind, run_underlying ht, Result.andThen_ok, h]
  rfl

theorem keyEq_sound {d : TypeDesc} (hd : keyKind d = true) {k k' : SV} {b : Bool} {ρ : Ren} {v v' : Value} (hq : EqOk E ρ.sig) (h : keyEq E d k k' = some b) (hk : VRel ρ k v) (hk' : VRel ρ k' v') :
    Instr.sameNow d v v' = some b := by
  unfold keyEq at h
  split at h
  · cases hk; cases hk'
    split at h
    · rename_i k1 a k2 n hke
      rw [kindEq_eq] at hke
      have hke := of_decide_eq_true hke
      subst hke
      have := hq.eq _ _ _ h
      rw [eqb_eq] at this
      rw [← this]
      simp [Instr.sameNow]; rfl
    · cases h
  · exact (sameNow_sound hd h hk hk').1

theorem findS_sound {d : TypeDesc} (hd : keyKind d = true) {k : SV} {ρ : Ren} {kv : Value} (hq : EqOk E ρ.sig) (hk : VRel ρ k kv) : ∀ {es : List (SV × SV × Nat)} {fs : List MapEntry} {r : Option SV} (i : Nat), findS E d k es = some r → ERel ρ es fs →
    (r = none ∧ Instr.findNow d kv fs i = some none) ∨ ∃ x v j, r = some x ∧ VRel ρ x v ∧ Instr.findNow d kv fs i = some (some (j, v)) ∧ i ≤ j ∧ j < i + fs.length
  | [], _, r, i, h, .nil => by
    simp [Sym.findS] at h; subst h
    exact .inl ⟨rfl, rfl⟩
  | (k', x', n) :: es, _, r, i, h, .cons (e := e) (es := fs) hk' hv' hn hs => by
    simp only [Sym.findS] at h
    split at h
    · rename_i he
      simp only [Option.some.injEq] at h; subst h
      have h1 := keyEq_sound hd hq he hk hk'
      refine .inr ⟨x', e.val, i, rfl, hv', ?_, Nat.le_refl _, by simp⟩
      simp [Instr.findNow, h1]
    · rename_i he
      have h1 := keyEq_sound hd hq he hk hk'
      rcases findS_sound hd hq hk (i + 1) h hs with ⟨e1, e2⟩ | ⟨x, v, j, e1, e2, e3, e4, e5⟩
      · exact .inl ⟨e1, by simp [Instr.findNow, h1, e2]⟩
      · exact .inr ⟨x, v, j, e1, e2, by simp [Instr.findNow, h1, e3], by omega, by simp; omega⟩
    · cases h

theorem kop_lookup {t : TypeId} {x i : Operand} {ok : Bool} (h : kop0 E cx o = some k) (ho : o.op = .lookup t x i ok) : k.Sound E cx o := by
  simp only [kop0, ho] at h
  split at h
  · rename_i f g key elem hf hg' hd
    split at h
    · rename_i kd z hkd hz
      split at h
      · rename_i hkk
        simp only [Option.some.injEq] at h; subst h
        intro ρ e fr a r S w hg hok hr
        dsimp only at hr
        have h1 := opd_sound hf (hg x (by simp [ho, Op.operands]))
        have h2 := opd_sound hg' (hg i (by simp [ho, Op.operands]))
        obtain ⟨zv, hzv, hzr⟩ := zero_run hz ρ
        unfold lookupV at hr
        split at hr
        · rename_i es hes
          have fin : ∀ (arr : Array MapEntry), ERel ρ es arr.toList → ∃ v, VRel ρ r v ∧ ((do
              Instr.checkKey arr.isEmpty 10000 key (a.eval i)
              let (v, okv) ← match ← Instr.findKey key (a.eval i) arr.toList with
                | some (_, v) => pure (v, true)
                | none => pure (← zeroValue elem, false)
              pure (if ok then .tuple #[v, .bool okv] else v) : Sem Value)).run E.P w = .ok v w := by
            intro arr her
            have hck := checkKey_run hkd hkk arr.isEmpty (a.eval i) w
            split at hr
            · rename_i xv hfk
              simp only [Option.some.injEq] at hr
              rcases findS_sound hkk hok.num.eqs h2 0 hfk her with ⟨e1, -⟩ | ⟨x', v', j, e1, e2, e3, -, -⟩
              · cases e1
              · cases e1
                have hfr := findKey_run hkd e3 w
                cases ok with
                | true =>
                  subst hr
                  refine ⟨_, .tuple (.cons e2 (.cons (.bool true) .nil)), ?_⟩
                  simp only [Sem.run_bind, hck, Result.andThen_ok, hfr]
                  rfl
                | false =>
                  subst hr
                  refine ⟨_, e2, ?_⟩
                  simp only [Sem.run_bind, hck, Result.andThen_ok, hfr]
                  rfl
            · rename_i hfk
              simp only [Option.some.injEq] at hr
              rcases findS_sound hkk hok.num.eqs h2 0 hfk her with ⟨-, e1⟩ | ⟨x', v', j, e1, -⟩
              · have hfr := findKey_run hkd e1 w
                cases ok with
                | true =>
                  subst hr
                  refine ⟨_, .tuple (.cons hzv (.cons (.bool false) .nil)), ?_⟩
                  simp only [Sem.run_bind, hck, Result.andThen_ok, hfr, hzr]
                  rfl
                | false =>
                  subst hr
                  refine ⟨_, hzv, ?_⟩
                  simp only [Sem.run_bind, hck, Result.andThen_ok, hfr, hzr]
                  rfl
              · cases e1
            · cases hr
          rcases entries_sound hok hes h1 with ⟨hm, rfl⟩ | ⟨rr, arr, c, hm, hb, her⟩
          · obtain ⟨v, hv, hrun⟩ := fin #[] .nil
            refine ⟨v, hv, ?_⟩
            simp only [execOp, ho, hm]
            refine run_v ?_
            simp only [Instr.lookup, Sem.run_bind, run_underlying hd, Result.andThen_ok, Sem.run_pure] at hrun ⊢
            exact hrun
          · obtain ⟨v, hv, hrun⟩ := fin arr her
            refine ⟨v, hv, ?_⟩
            simp only [execOp, ho, hm]
            refine run_v ?_
            simp only [Instr.lookup, Sem.run_bind, run_underlying hd, Result.andThen_ok, Sem.run_pure, run_getObj_map E.P hb] at hrun ⊢
            exact hrun
        · split at hr
          · rename_i ab hab
            unfold blobAt at hab
            split at hab
            · rename_i fx id he2
              split at hab
              · rename_i ab' hobj
                simp only [Option.some.injEq] at hab
                subst hab
                rw [he2] at h1
                generalize hax : a.eval x = ax at h1
                cases h1 with
                | map hp =>
                  obtain ⟨ob, ho1, ho2⟩ := hok.wrel.obj id _ _ hobj hp
                  generalize hbo : SObj.blob ab' = bo at ho2
                  cases ho2 <;> first | (cases hbo; done) | skip
                  rename_i bb aa hprop
                  cases hbo
                  rw [hok.num.sig] at hprop
                  cases hmg : E.mget kd ab' (g e fr) with
                  | none => rw [hmg] at hr; cases hr
                  | some ro =>
                    obtain ⟨arr, c, rfl, hfind⟩ := hok.num.maps.get _ _ _ _ hmg ρ _ _ hok.num.sig h2 hprop
                    have hck := checkKey_run hkd hkk arr.isEmpty (a.eval i) w
                    rw [hmg] at hr
                    have hnil : ∀ {x v}, VRel (.nil E.sig) x v → VRel ρ x v := fun {x v} h => h.mono ⟨fun i p hp => (by cases hp), hok.num.sig.symm⟩
                    rcases hfind with ⟨rfl, e1⟩ | ⟨xv, v', j, rfl, e2, e3⟩
                    · have hfr := findKey_run hkd e1 w
                      simp only [Option.some.injEq] at hr
                      cases ok with
                      | true =>
                        subst hr
                        refine ⟨_, .tuple (.cons hzv (.cons (.bool false) .nil)), ?_⟩
                        simp only [execOp, ho, hax]
                        refine run_v ?_
                        simp only [Instr.lookup, Sem.run_bind, run_underlying hd, Result.andThen_ok, Sem.run_pure, run_getObj_map E.P ho1, hck, hfr, hzr]
                        rfl
                      | false =>
                        subst hr
                        refine ⟨_, hzv, ?_⟩
                        simp only [execOp, ho, hax]
                        refine run_v ?_
                        simp only [Instr.lookup, Sem.run_bind, run_underlying hd, Result.andThen_ok, Sem.run_pure, run_getObj_map E.P ho1, hck, hfr, hzr]
                        rfl
                    · have hfr := findKey_run hkd e3 w
                      simp only [Option.some.injEq] at hr
                      cases ok with
                      | true =>
                        subst hr
                        refine ⟨_, .tuple (.cons (hnil e2) (.cons (.bool true) .nil)), ?_⟩
                        simp only [execOp, ho, hax]
                        refine run_v ?_
                        simp only [Instr.lookup, Sem.run_bind, run_underlying hd, Result.andThen_ok, Sem.run_pure, run_getObj_map E.P ho1, hck, hfr]
                        rfl
                      | false =>
                        subst hr
                        refine ⟨_, hnil e2, ?_⟩
                        simp only [execOp, ho, hax]
                        refine run_v ?_
                        simp only [Instr.lookup, Sem.run_bind, run_underlying hd, Result.andThen_ok, Sem.run_pure, run_getObj_map E.P ho1, hck, hfr]
                        rfl
              · cases hab
            · cases hab
          · cases hr
      · cases h
    · cases h
  · cases h
end
end Go.RX

/- Builtins and conversions that write nothing. -/
namespace Go.RX
open Sym
section
variable {E : Env} {cx : Cx} {o : Oper} {k : KOp} {c : Call}

theorem run_builtin (ho : o.op = .call c) {b : Builtin} (hc : c.callee = .builtin b) (a : Act) : ∃ consts, ∀ w, (execOp a.eval o).run E.P w = (builtin b c.argTypes o.type consts (c.args.map a.eval)).run E.P w := by
  refine ⟨c.args.map fun | .const _ => true | _ => false, fun w => ?_⟩
  simp only [execOp, ho, resolve, hc, Sem.run_bind, Sem.run_pure, Result.andThen_ok, invoke]
  rfl

theorem call_operands (ho : o.op = .call c) {x : Operand} (hx : x ∈ c.args.toList) : x ∈ o.op.operands.toList := by
  rw [ho]
  simp only [Op.operands, Call.operands, Array.toList_append]
  exact List.mem_append_right _ hx

theorem map_args1 {a : Act} {x : Operand} (h : c.args.toList = [x]) : c.args.map a.eval = #[a.eval x] := by
  apply Array.ext'; simp [h]
theorem map_args2 {a : Act} {x y : Operand} (h : c.args.toList = [x, y]) : c.args.map a.eval = #[a.eval x, a.eval y] := by
  apply Array.ext'; simp [h]
theorem types1 {t : TypeId} {ts : List TypeId} (h : c.argTypes.toList = t :: ts) : c.argTypes[0]? = some t := by
  rw [← Array.getElem?_toList, h]; rfl

theorem olen_val {σ : Sig} {a k b x sz n : Nat} (h : σ.row a = (b, x, sz, n)) (hn : n ≤ 1000000) (hk : k ≤ 100000) : (olen a k).val σ = ((n + k : Nat) : Int) := by
  cases k with
  | zero => simp [olen, IE.val, h]
  | succ k =>
    simp only [olen, IE.val, h]
    have e : (IntKind.i64).wrap ((n : Int) + (Int.ofNat (k + 1))) = (n : Int) + (Int.ofNat (k + 1)) := by
      have : Int.ofNat (k + 1) = ((k + 1 : Nat) : Int) := rfl
      rw [this]
      simp only [IntKind.wrap, IntKind.bits, IntKind.signed]
      simp
      omega
    rw [opVal_int (op := .add) (k := .i64) (n := (n : Int) + (Int.ofNat (k + 1))) (by simp) (by simp) (by simp only [Sym.intOp]; rw [wrapped_eq, show Int.add (n : Int) (Int.ofNat (k + 1)) = (n : Int) + Int.ofNat (k + 1) from rfl, e])]
    rfl

theorem len_sound {x : Operand} (h : builtinK E cx .len c.argTypes [x] = some k) (ho : o.op = .call c) (hc : c.callee = .builtin .len) (ha : c.args.toList = [x]) : k.Sound E cx o := by
  simp only [builtinK] at h
  split at h
  · rename_i f t0 ts hf hts
    have hG : ∀ {ρ e fr a}, Goods ρ cx e fr a o → Good ρ cx e fr a x := fun hg => hg x (call_operands ho (by simp [ha]))
    have hrun : ∀ (a : Act) (v : Value) (w w' : World), (Builtin.len_ c.argTypes o.type #[a.eval x]).run E.P w = .ok v w' → (execOp a.eval o).run E.P w = .ok (.value v) w' := by
      intro a v w w' hl
      obtain ⟨cs, hr⟩ := run_builtin (E := E) ho hc a
      rw [hr, map_args1 ha]
      exact run_v hl
    split at h
    · rename_i hd
      simp only [Option.some.injEq] at h; subst h
      intro ρ e fr a r hE hg hr
      dsimp only at hr
      have h1 := opd_sound hf (hG hg)
      split at hr
      · rename_i s e1; rw [e1] at h1
        rw [int_eq] at hr
        simp only [Option.some.injEq] at hr; subst hr
        generalize hb : a.eval x = b at h1
        cases h1
        refine ⟨_, .int _ _, fun w => hrun a _ w w ?_⟩
        rw [hb]
        simp [Builtin.len_, types1 hts, run_underlying hd, goInt]
      · rename_i sa e1; rw [e1] at h1
        simp only [Option.some.injEq] at hr; subst hr
        generalize hb : a.eval x = b at h1
        cases h1 with
        | sstr hs =>
          have hq := VRel.sint (ρ := ρ) .i64 (.var sa)
          simp only [IE.val, ← hs] at hq
          exact ⟨_, hq, fun w => hrun a _ w w (by rw [hb]; simp [Builtin.len_, types1 hts, run_underlying hd, goInt])⟩
      · rename_i sa e1; rw [e1] at h1
        simp only [Option.some.injEq] at hr; subst hr
        generalize hb : a.eval x = b at h1
        cases h1 with
        | xstr hs hc =>
          have hq := VRel.sint (ρ := ρ) .i64 (.len sa)
          simp only [IE.val, hs] at hq
          exact ⟨_, hq, fun w => hrun a _ w w (by rw [hb]; simp [Builtin.len_, types1 hts, run_underlying hd, goInt])⟩
      · cases hr
    · rename_i el hd
      simp only [Option.some.injEq] at h; subst h
      intro ρ e fr a r hE hg hr
      dsimp only at hr
      have h1 := opd_sound hf (hG hg)
      split at hr
      · rename_i i1 o1 n1 c1 e1; rw [e1] at h1
        rw [int_eq] at hr
        simp only [Option.some.injEq] at hr; subst hr
        generalize hb : a.eval x = b at h1
        cases h1 <;> exact ⟨_, .int _ _, fun w => hrun a _ w w (by rw [hb]; simp [Builtin.len_, types1 hts, run_underlying hd, goInt])⟩
      · rename_i e1; rw [e1] at h1
        simp only [Option.some.injEq] at hr; subst hr
        generalize hb : a.eval x = b at h1
        cases h1
        exact ⟨_, .int _ _, fun w => hrun a _ w w (by rw [hb]; simp [Builtin.len_, types1 hts, run_underlying hd, goInt])⟩
      · rename_i ra e1; rw [e1] at h1
        simp only [Option.some.injEq] at hr; subst hr
        generalize hb : a.eval x = b at h1
        cases h1 with
        | row hrow hcap =>
          have hs := VRel.sint (ρ := ρ) .i64 (.len ra)
          simp only [IE.val, hrow] at hs
          exact ⟨_, hs, fun w => hrun a _ w w (by rw [hb]; simp [Builtin.len_, types1 hts, run_underlying hd, goInt])⟩
        | rowE hrow =>
          have hs := VRel.sint (ρ := ρ) .i64 (.len ra)
          simp only [IE.val, hrow] at hs
          exact ⟨_, hs, fun w => hrun a _ w w (by rw [hb]; simp [Builtin.len_, types1 hts, run_underlying hd, goInt])⟩
      · rename_i id1 ra k1 z1 e1; rw [e1] at h1
        simp only [Option.some.injEq] at hr; subst hr
        generalize hb : a.eval x = b at h1
        cases h1 with
        | oslice hp hrow hc1 ht1 hn1 hk1 =>
          have hs := VRel.sint (ρ := ρ) .i64 (olen ra k1)
          rw [olen_val hrow hn1 hk1] at hs
          exact ⟨_, hs, fun w => hrun a _ w w (by rw [hb]; simp [Builtin.len_, types1 hts, run_underlying hd, goInt])⟩
      · cases hr
    · rename_i n el hd
      simp only [Option.some.injEq] at h; subst h
      intro ρ e fr a r hE hg hr
      dsimp only at hr
      rw [int_eq] at hr
      simp only [Option.some.injEq] at hr; subst hr
      exact ⟨_, .int _ _, fun w => hrun a _ w w (by simp [Builtin.len_, types1 hts, run_underlying hd, goInt])⟩
    · rename_i kt et hd
      simp only [Option.some.injEq] at h; subst h
      intro ρ e fr a r S w hg hok hr
      dsimp only at hr
      have h1 := opd_sound hf (hG hg)
      split at hr
      · rename_i es hes
        rw [int_eq] at hr
        simp only [Option.some.injEq] at hr; subst hr
        rcases entries_sound hok hes h1 with ⟨hm, rfl⟩ | ⟨rr, arr, cl, hm, hb, her⟩
        · exact ⟨_, .int _ _, hrun a _ w w (by rw [hm]; simp [Builtin.len_, types1 hts, run_underlying hd, goInt])⟩
        · refine ⟨_, .int _ _, hrun a _ w w ?_⟩
          rw [hm]
          have hl := her.length
          simp [Builtin.len_, types1 hts, run_underlying hd, goInt, run_getObj_map E.P hb, hl]
      · cases hr
    · cases h
  · cases h

theorem cap_sound {x : Operand} (h : builtinK E cx .cap c.argTypes [x] = some k) (ho : o.op = .call c) (hc : c.callee = .builtin .cap) (ha : c.args.toList = [x]) : k.Sound E cx o := by
  simp only [builtinK] at h
  split at h
  · rename_i f t0 ts hf hts
    have hG : ∀ {ρ e fr a}, Goods ρ cx e fr a o → Good ρ cx e fr a x := fun hg => hg x (call_operands ho (by simp [ha]))
    have hrun : ∀ (a : Act) (v : Value) (w w' : World), (Builtin.cap_ c.argTypes o.type #[a.eval x]).run E.P w = .ok v w' → (execOp a.eval o).run E.P w = .ok (.value v) w' := by
      intro a v w w' hl
      obtain ⟨cs, hr⟩ := run_builtin (E := E) ho hc a
      rw [hr, map_args1 ha]
      exact run_v hl
    split at h
    · rename_i el hd
      simp only [Option.some.injEq] at h; subst h
      intro ρ e fr a r hE hg hr
      dsimp only at hr
      have h1 := opd_sound hf (hG hg)
      split at hr
      · rename_i i1 o1 n1 c1 e1; rw [e1] at h1
        rw [int_eq] at hr
        simp only [Option.some.injEq] at hr; subst hr
        generalize hb : a.eval x = b at h1
        cases h1
        exact ⟨_, .int _ _, fun w => hrun a _ w w (by rw [hb]; simp [Builtin.cap_, types1 hts, run_underlying hd, goInt])⟩
      · rename_i i1 o1 n1 sz1 least e1; rw [e1] at h1
        simp only [Option.some.injEq] at hr; subst hr
        generalize hb : a.eval x = b at h1
        cases h1 with
        | sliceT hp ht hl hk hxx => exact ⟨_, .atLeast hk, fun w => hrun a _ w w (by rw [hb]; simp [Builtin.cap_, types1 hts, run_underlying hd, goInt])⟩
      · rename_i e1; rw [e1] at h1
        simp only [Option.some.injEq] at hr; subst hr
        generalize hb : a.eval x = b at h1
        cases h1
        exact ⟨_, .int _ _, fun w => hrun a _ w w (by rw [hb]; simp [Builtin.cap_, types1 hts, run_underlying hd, goInt])⟩
      · cases hr
    · rename_i n el hd
      simp only [Option.some.injEq] at h; subst h
      intro ρ e fr a r hE hg hr
      dsimp only at hr
      rw [int_eq] at hr
      simp only [Option.some.injEq] at hr; subst hr
      exact ⟨_, .int _ _, fun w => hrun a _ w w (by simp [Builtin.cap_, types1 hts, run_underlying hd, goInt])⟩
    · cases h
  · cases h

theorem min_fold {ρ : Ren} : ∀ {xs : List SV} {vs : List Value} {x r : SV} {v : Value}, minMax true x xs = some r → VRel ρ x v → VRels ρ xs vs → ∃ u, VRel ρ r u ∧ ∀ w, (vs.foldlM Builtin.min2 v).run E.P w = .ok u w
  | [], _, x, r, v, h, hx, .nil => by
    simp [minMax] at h; subst h
    exact ⟨v, hx, fun w => rfl⟩
  | y :: ys, _, x, r, v, h, hx, .cons (v := v2) hy hs => by
    unfold minMax at h
    split at h
    · rename_i heq; cases heq
    · rename_i k1 a1 k2 b1 rest heq
      cases heq
      cases hx; cases hy
      simp only [ltb_eq] at h
      have hstep : ∀ w, (Builtin.min2 (.int k1 a1) (.int k2 b1)).run E.P w = .ok (.int k1 (if b1 < a1 then b1 else a1)) w := fun w => rfl
      by_cases hlt : b1 < a1
      · simp [hlt] at h
        obtain ⟨u, h1, h2⟩ := min_fold h (.int k1 b1) hs
        exact ⟨u, h1, fun w => by simp only [List.foldlM_cons, Sem.run_bind, hstep, Result.andThen_ok, if_pos hlt]; exact h2 w⟩
      · simp [hlt] at h
        obtain ⟨u, h1, h2⟩ := min_fold h (.int k1 a1) hs
        exact ⟨u, h1, fun w => by simp only [List.foldlM_cons, Sem.run_bind, hstep, Result.andThen_ok, if_neg hlt]; exact h2 w⟩
    · rename_i x0 y0 ys0 n1 heq
      cases heq
      split at h
      · rename_i k1 a1 k2 b1 e1 e2
        have g1 := toIE_val e1 hx
        have g2 := toIE_val e2 hy
        subst g1; subst g2
        simp only at h
        have hs1 := VRel.sint (ρ := ρ) k1 (.min a1 b1)
        simp only [IE.val] at hs1
        obtain ⟨u, h1, h2⟩ := min_fold h hs1 hs
        refine ⟨u, h1, fun w => ?_⟩
        have hstep : (Builtin.min2 (.int k1 (a1.val ρ.sig)) (.int k2 (b1.val ρ.sig))).run E.P w = .ok (.int k1 (if b1.val ρ.sig < a1.val ρ.sig then b1.val ρ.sig else a1.val ρ.sig)) w := rfl
        simp only [List.foldlM_cons, Sem.run_bind, hstep, Result.andThen_ok]
        exact h2 w
      · cases h

theorem max_fold {ρ : Ren} : ∀ {xs : List SV} {vs : List Value} {x r : SV} {v : Value}, minMax false x xs = some r → VRel ρ x v → VRels ρ xs vs → ∃ u, VRel ρ r u ∧ ∀ w, (vs.foldlM Builtin.max2 v).run E.P w = .ok u w
  | [], _, x, r, v, h, hx, .nil => by
    simp [minMax] at h; subst h
    exact ⟨v, hx, fun w => rfl⟩
  | y :: ys, _, x, r, v, h, hx, .cons (v := v2) hy hs => by
    unfold minMax at h
    split at h
    · rename_i heq; cases heq
    · rename_i k1 a1 k2 b1 rest heq
      cases heq
      cases hx; cases hy
      simp only [ltb_eq] at h
      have hstep : ∀ w, (Builtin.max2 (.int k1 a1) (.int k2 b1)).run E.P w = .ok (.int k1 (if b1 > a1 then b1 else a1)) w := fun w => rfl
      by_cases hlt : a1 < b1
      · simp [hlt] at h
        obtain ⟨u, h1, h2⟩ := max_fold h (.int k1 b1) hs
        exact ⟨u, h1, fun w => by simp only [List.foldlM_cons, Sem.run_bind, hstep, Result.andThen_ok, if_pos (show b1 > a1 from hlt)]; exact h2 w⟩
      · simp [hlt] at h
        obtain ⟨u, h1, h2⟩ := max_fold h (.int k1 a1) hs
        exact ⟨u, h1, fun w => by simp only [List.foldlM_cons, Sem.run_bind, hstep, Result.andThen_ok, if_neg (show ¬ b1 > a1 from hlt)]; exact h2 w⟩
    · rename_i x0 y0 ys0 n1 heq
      cases heq
      split at h
      · rename_i k1 a1 k2 b1 e1 e2
        have g1 := toIE_val e1 hx
        have g2 := toIE_val e2 hy
        subst g1; subst g2
        simp only at h
        have hs1 := VRel.sint (ρ := ρ) k1 (.max a1 b1)
        simp only [IE.val] at hs1
        obtain ⟨u, h1, h2⟩ := max_fold h hs1 hs
        refine ⟨u, h1, fun w => ?_⟩
        have hstep : (Builtin.max2 (.int k1 (a1.val ρ.sig)) (.int k2 (b1.val ρ.sig))).run E.P w = .ok (.int k1 (if a1.val ρ.sig < b1.val ρ.sig then b1.val ρ.sig else a1.val ρ.sig)) w := rfl
        simp only [List.foldlM_cons, Sem.run_bind, hstep, Result.andThen_ok]
        exact h2 w
      · cases h

theorem min_sound {x : Operand} {rest : List Operand} (h : builtinK E cx .min c.argTypes (x :: rest) = some k) (ho : o.op = .call c) (hc : c.callee = .builtin .min) (ha : c.args.toList = x :: rest) : k.Sound E cx o := by
  simp only [builtinK] at h
  split at h
  · rename_i f g hf hg'
    simp only [Option.some.injEq] at h; subst h
    intro ρ e fr a r hE hg hr
    dsimp only at hr
    have h1 := opd_sound hf (hg x (call_operands ho (by simp [ha])))
    have h2 := opds_sound hg' (fun q hq => hg q (call_operands ho (by simp [ha, hq])))
    obtain ⟨u, hu1, hu2⟩ := min_fold (E := E) hr h1 h2
    refine ⟨u, hu1, fun w => ?_⟩
    obtain ⟨cs, hrn⟩ := run_builtin (E := E) ho hc a
    rw [hrn]
    refine run_v ?_
    have : (c.args.map a.eval).toList = a.eval x :: rest.map a.eval := by simp [ha]
    simp only [Builtin.min_, this]
    exact hu2 w
  · cases h

theorem max_sound {x : Operand} {rest : List Operand} (h : builtinK E cx .max c.argTypes (x :: rest) = some k) (ho : o.op = .call c) (hc : c.callee = .builtin .max) (ha : c.args.toList = x :: rest) : k.Sound E cx o := by
  simp only [builtinK] at h
  split at h
  · rename_i f g hf hg'
    simp only [Option.some.injEq] at h; subst h
    intro ρ e fr a r hE hg hr
    dsimp only at hr
    have h1 := opd_sound hf (hg x (call_operands ho (by simp [ha])))
    have h2 := opds_sound hg' (fun q hq => hg q (call_operands ho (by simp [ha, hq])))
    obtain ⟨u, hu1, hu2⟩ := max_fold (E := E) hr h1 h2
    refine ⟨u, hu1, fun w => ?_⟩
    obtain ⟨cs, hrn⟩ := run_builtin (E := E) ho hc a
    rw [hrn]
    refine run_v ?_
    have : (c.args.map a.eval).toList = a.eval x :: rest.map a.eval := by simp [ha]
    simp only [Builtin.max_, this]
    exact hu2 w
  · cases h
end
end Go.RX

/- Operations that write: new objects, stores, conversions. -/
namespace Go.RX
open Sym
section
variable {E : Env} {cx : Cx} {o : Oper} {k : KOp}

theorem Fresh.one {ρ : Ren} {S S' : SW} {x : SObj} {id : Nat} (h : Sym.new S x = some (id, S')) (hf : Fresh ρ S.next S'.next) : ρ S.next = none := by
  obtain ⟨-, hn, -, -⟩ := new_some h
  exact hf S.next (Nat.le_refl _) (by omega)

theorem wholeMark_eq (t : Nat) : wholeMark t = 2 * t + 2 := rfl
theorem rowsMark_eq (t : Nat) : rowsMark t = 2 * t + 3 := rfl
theorem whole_ok {t n m : Nat} (h : n = m) : (∀ u : Nat, wholeMark t = 2 * u + 2 → t = u ∧ n = m) ∧ ∀ u : Nat, wholeMark t = 2 * u + 3 → t = u :=
  ⟨fun u hu => ⟨by rw [wholeMark_eq] at hu; omega, h⟩, fun u hu => by rw [wholeMark_eq] at hu; omega⟩
theorem rows_ok {t n m : Nat} : (∀ u : Nat, rowsMark t = 2 * u + 2 → t = u ∧ n = m) ∧ ∀ u : Nat, rowsMark t = 2 * u + 3 → t = u :=
  ⟨fun u hu => by rw [rowsMark_eq] at hu; omega, fun u hu => by rw [rowsMark_eq] at hu; omega⟩
/-- A row that has grown: its mark. -/
def GrowMark (elem m : Nat) : Prop := (∀ t : Nat, m ≠ 2 * t + 2) ∧ ∀ t : Nat, m = 2 * t + 3 → elem = t
theorem growMark_rows (elem : Nat) : GrowMark elem (rowsMark elem) := ⟨fun t h => by rw [rowsMark_eq] at h; omega, fun t h => by rw [rowsMark_eq] at h; omega⟩
theorem elAt_grow (elem : Nat) (S : SW) (id off : Nat) : GrowMark elem (elAt elem S id off) := by
  unfold elAt
  split
  · split
    · exact ⟨fun t h => by omega, fun t h => by omega⟩
    · exact growMark_rows elem
    · exact ⟨fun t h => by omega, fun t h => by omega⟩
  · exact ⟨fun t h => by omega, fun t h => by omega⟩

theorem nomark (k : Nat) : ¬ (((0, 0) : Nat × Nat).1 ≤ k ∧ k < ((0, 0) : Nat × Nat).2) := fun h => by simp at h

theorem new_cells' {ρ : Ren} {S S' : SW} {w : World} {cs : List SV} {el : Nat} {id : Nat} (hok : Ok E ρ S w) (h : Sym.new S (.cells cs el) = some (id, S')) (hf : Fresh ρ S.next S'.next) (el2 : TypeId) (arr : Array Value) (fz : Nat × Nat)
    (hfz : ∀ k, k < arr.size → ¬ (fz.1 ≤ k ∧ k < fz.2)) (hlen : cs.length ≤ arr.size) (hc : Holds ρ cs 0 arr) (hmk : el ≠ 0 → fz.1 = fz.2 := by exact fun _ => rfl) (hwh : (∀ t : Nat, el = 2 * t + 2 → el2 = t ∧ arr.size = cs.length) ∧ ∀ t : Nat, el = 2 * t + 3 → el2 = t := by exact ⟨fun t h => absurd h (by omega), fun t h => absurd h (by omega)⟩) :
    ∃ ρ', Ext ρ S w ρ' S' (w.alloc (.cells arr el2 fz)) ∧ ρ' id = some (w.heap.size, 0, arr.size) := by
  have h0 := Fresh.one h hf
  obtain ⟨rfl, -⟩ := new_some h
  refine ⟨ρ.set S.next (w.heap.size, 0, arr.size), ext_new hok.wrel hok.tidy h0 h rfl ?_, Ren.set_same _ _ _⟩
  exact .cells arr el2 fz rfl (by omega) hfz hmk ⟨fun t ht => ⟨(hwh.1 t ht).1, rfl, (hwh.1 t ht).2⟩, fun t ht => ⟨hwh.2 t ht, rfl⟩⟩ fun k x e => by
    obtain ⟨v, h1, h2⟩ := hc k x e
    exact ⟨v, h1, h2.mono (Ren.le_set h0)⟩

theorem new_cells {ρ : Ren} {S S' : SW} {w : World} {cs : List SV} {el : Nat} {id : Nat} (hok : Ok E ρ S w) (h : Sym.new S (.cells cs el) = some (id, S')) (hf : Fresh ρ S.next S'.next) (arr : Array Value) (fz : Nat × Nat) (el2 : TypeId)
    (hfz : ∀ k, k < arr.size → ¬ (fz.1 ≤ k ∧ k < fz.2)) (hlen : cs.length ≤ arr.size) (hc : Holds ρ cs 0 arr) (hmk : el ≠ 0 → fz.1 = fz.2 := by exact fun _ => rfl) (hwh : (∀ t : Nat, el = 2 * t + 2 → el2 = t ∧ arr.size = cs.length) ∧ ∀ t : Nat, el = 2 * t + 3 → el2 = t := by exact ⟨fun t h => absurd h (by omega), fun t h => absurd h (by omega)⟩) :
    ∃ ρ', Ext ρ S w ρ' S' (w.alloc (.cells arr el2 fz)) ∧ ρ' id = some (w.heap.size, 0, arr.size) := new_cells' hok h hf el2 arr fz hfz hlen hc hmk hwh

theorem VRels.holds {ρ : Ren} {cs : List SV} {arr : Array Value} (h : VRels ρ cs arr.toList) : Holds ρ cs 0 arr := fun k x e => by
  obtain ⟨v, h1, h2⟩ := h.get e
  exact ⟨v, by rw [Nat.zero_add]; simpa using h1, h2⟩

theorem nofz (arr : Array Value) : ∀ k, k < arr.size → ¬ ((0, 0) : Nat × Nat).1 ≤ k ∨ ¬ k < ((0, 0) : Nat × Nat).2 := fun k _ => .inr (by simp)
theorem nofz' (arr : Array Value) : ∀ k, k < arr.size → ¬ (((0, 0) : Nat × Nat).1 ≤ k ∧ k < ((0, 0) : Nat × Nat).2) := fun k _ h => by simp at h

theorem kop_alloc {t : TypeId} (h : kop0 E cx o = some k) (ho : o.op = .alloc t) : k.Sound E cx o := by
  simp only [kop0, ho] at h
  split at h
  · rename_i z hz
    split at h
    · simp only [Option.some.injEq] at h; subst h
      intro ρ e fr a r S S' w hg hok hr hf
      dsimp only at hr
      unfold ptrTo at hr
      split at hr
      · rename_i id S1 hn
        simp only [Option.some.injEq, Prod.mk.injEq] at hr
        obtain ⟨rfl, rfl⟩ := hr
        obtain ⟨zv, hzv, hzr⟩ := zero_run hz ρ
        have hcv := hzv.cells (zero_known hz)
        obtain ⟨ρ', hext, hid⟩ := new_cells hok hn hf zv.cells (0, 0) t (nofz' _) (by simpa using Nat.le_of_eq hcv.length) hcv.holds (fun _ => rfl) (whole_ok (by simpa using hcv.length.symm))
        refine ⟨ρ', _, _, hext, .ptr hid, .inl ?_⟩
        simp only [execOp, ho]
        refine run_v ?_
        simp only [Instr.alloc, Sem.run_bind, hzr, Result.andThen_ok, newVar, newRow, run_newObj_alloc, Sem.run_pure]
      · cases hr
    · cases h
  · cases h

theorem allScalar_known {x : SV} (h : allScalar x.cells = true) : x ≠ .unknown := fun e => by
  subst e; simp [SV.cells, allScalar, SV.scalar] at h

theorem allScalar_mem : ∀ {xs : List SV} {vs : List Value} {ρ : Ren}, allScalar xs = true → VRels ρ xs vs → ∀ v ∈ vs, v.oneCell' = true
  | _, _, _, _, .nil, v, hv => by simp at hv
  | x :: xs, _, ρ, h, .cons hx hs, v, hv => by
    simp only [allScalar] at h
    split at h
    · rename_i hsc
      rcases List.mem_cons.1 hv with rfl | hv
      · exact hx.scalar hsc
      · exact allScalar_mem h hs v hv
    · cases h

theorem kop_box {t : TypeId} {x : Operand} (h : kop0 E cx o = some k) (ho : o.op = .box t x) : k.Sound E cx o := by
  simp only [kop0, ho] at h
  split at h
  · rename_i f hf0
    simp only [Option.some.injEq] at h; subst h
    intro ρ e fr a r S S' w hg hok hr hf
    dsimp only at hr
    have h1 := opd_sound hf0 (hg x (by simp [ho, Op.operands]))
    split at hr
    · rename_i hsc
      unfold ptrTo at hr
      split at hr
      · rename_i id S1 hn
        simp only [Option.some.injEq, Prod.mk.injEq] at hr
        obtain ⟨rfl, rfl⟩ := hr
        have hcv := h1.cells (allScalar_known hsc)
        obtain ⟨ρ', hext, hid⟩ := new_cells hok hn hf (a.eval x).cells (0, 0) t (nofz' _) (by simpa using Nat.le_of_eq hcv.length) hcv.holds (fun _ => rfl) (whole_ok (by simpa using hcv.length.symm))
        refine ⟨ρ', _, _, hext, .ptr hid, .inl ?_⟩
        simp only [execOp, ho]
        refine run_v ?_
        simp only [Instr.box, Sem.run_bind, Result.andThen_ok, newVar, newRow, run_newObj_alloc, Sem.run_pure]
      · cases hr
    · cases hr
  · cases h

/-! ### Rows -/
theorem copies_length (z : List SV) : ∀ n, (copies z n).length = n * z.length
  | 0 => by simp [copies]
  | n + 1 => by simp [copies, copies_length z n, Nat.succ_mul]; omega

theorem copies_get (z : List SV) : ∀ n k, (copies z n)[k]? = if k < n * z.length then z[k % z.length]? else none
  | 0, k => by simp [copies]
  | n + 1, k => by
    simp only [copies]
    by_cases hk : k < z.length
    · rw [List.getElem?_append_left hk, if_pos (by rw [Nat.succ_mul]; omega), Nat.mod_eq_of_lt hk]
    · rw [List.getElem?_append_right (by omega), copies_get z n]
      by_cases h2 : k - z.length < n * z.length
      · rw [if_pos h2, if_pos (by rw [Nat.succ_mul]; omega), Nat.mod_eq_sub_mod (show k ≥ z.length by omega)]
      · rw [if_neg h2, if_neg (by rw [Nat.succ_mul]; omega)]

theorem copies_rel {ρ : Ren} {z : List SV} {zv : Array Value} (h : VRels ρ z zv.toList) (n m : Nat) (hm : m = n * zv.size) : VRels ρ (copies z n) (madeCells zv m).toList := by
  have hl := h.length
  simp only [Array.length_toList] at hl
  refine VRels.of_get (by simp [copies_length, size_madeCells, hl, hm]) fun k x v hx hv => ?_
  rw [copies_get] at hx
  by_cases hk : k < n * z.length
  · rw [if_pos hk] at hx
    obtain ⟨u, hu1, hu2⟩ := h.get hx
    have hk2 : k < m := by rw [hm, ← hl]; exact hk
    have : (madeCells zv m).toList[k]? = some (zv[k % zv.size]!) := by simp [madeCells, hk2]
    rw [this] at hv
    have e2 : zv[k % zv.size]? = some u := by rw [← hl]; simpa using hu1
    have : zv[k % zv.size]! = u := by
      rw [getElem!_def, e2]
    rw [this] at hv; cases hv; exact hu2
  · rw [if_neg hk] at hx; cases hx

theorem kop_makeSlice {t : TypeId} {l c : Operand} (h : kop0 E cx o = some k) (ho : o.op = .makeSlice t l c) : k.Sound E cx o := by
  simp only [kop0, ho] at h
  split at h
  · rename_i f g elem hf0 hg0 hd
    split at h
    · rename_i i z hi hz
      split at h
      · rename_i hsz hsc
        simp only [Option.some.injEq] at h; subst h
        intro ρ e fr a r S S' w hg hok hr hf
        dsimp only at hr
        have h1 := opd_sound hf0 (hg l (by simp [ho, Op.operands]))
        have h2 := opd_sound hg0 (hg c (by simp [ho, Op.operands]))
        split at hr
        · rename_i ln cn hl hc
          obtain ⟨k1, e1⟩ := asNat_rel hl h1
          obtain ⟨k2, e2⟩ := asNat_rel hc h2
          split at hr
          · rename_i hb1 hb2
            have hb1 := Nat.le_of_ble_eq_true hb1
            have hb2 := Nat.le_of_ble_eq_true hb2
            have hsz := Nat.eq_of_beq_eq_true hsz
            split at hr
            · rename_i id S1 hn
              simp only [Option.some.injEq, Prod.mk.injEq] at hr
              obtain ⟨rfl, rfl⟩ := hr
              obtain ⟨zv, hzv, hzr⟩ := zero_run hz ρ
              have hiz : i.zero = some zv := by
                have := hzr w
                simp only [zeroValue, typeInfo, Sem.run_bind, run_program, Result.andThen_ok, hi, Sem.run_pure] at this
                split at this
                · rename_i q hq; simp only [Sem.run_pure, Result.ok.injEq] at this; rw [hq, this.1]
                · cases this
              have hcv := hzv.cells (zero_known hz)
              have hzs : zv.cells.size = i.size := by rw [← hsz, hcv.length]; simp
              have hrel := copies_rel hcv cn (cn * i.size) (by rw [hzs])
              obtain ⟨ρ', hext, hid⟩ := new_cells hok hn hf (madeCells zv.cells (cn * i.size)) (0, 0) elem (nofz' _) (by simpa using Nat.le_of_eq hrel.length) hrel.holds (fun _ => rfl) rows_ok
              refine ⟨ρ', _, _, hext, .sliceE hid, .inl ?_⟩
              simp only [execOp, ho, e1, e2]
              refine run_v ?_
              have hmul : i.bytes * cn ≤ 281474976710656 := Nat.le_trans (Nat.mul_le_mul_right _ (Nat.le_succ _)) hb2
              have hcn : cn ≤ 281474976710656 := Nat.le_trans (Nat.le_mul_of_pos_left cn (Nat.succ_pos i.bytes)) hb2
              have h9 : ((i.bytes * cn : Nat) : Int) ≤ 281474976710656 := by omega
              have h10 : (i.bytes : Int) * (cn : Int) ≤ 281474976710656 := by rwa [Int.natCast_mul] at h9
              have hrun := run_make (P := E.P) w t elem i zv hd hi hiz k1 k2 (ln : Int) (cn : Int) (by omega) (by omega) h10 (by omega)
              simp only [Int.toNat_natCast] at hrun
              exact hrun
            · cases hr
          · cases hr
        · cases hr
      · cases h
    · cases h
  · cases h
end
end Go.RX
