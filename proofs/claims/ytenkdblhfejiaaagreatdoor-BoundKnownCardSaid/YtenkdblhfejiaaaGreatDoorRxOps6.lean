/- Fields, indices, slices, loads, look-ups, conversions that write nothing. -/
import Derived.Test.YtenkdblhfejiaaaGreatDoorRxOps5
set_option linter.all false
namespace Go.RX
open Sym
section
variable {E : Env} {cx : Cx} {o : Oper} {k : KOp}

theorem nthF_eq : ∀ (l : List Field) (i : Nat), nthF l i = l[i]?
  | [], i => by simp [nthF]
  | c :: l, 0 => by simp [nthF]
  | c :: l, i + 1 => by simp [nthF, nthF_eq l i]

theorem optOpd_sound {ρ : Ren} {e fr : List SV} {a : Act} {x : Option Operand} {f : Option Opd} (h : optOpd cx x = some f) (hg : ∀ y, x = some y → Good ρ cx e fr a y) : ORelV ρ (Opd.opt f e fr) (x.map a.eval) := by
  cases x with
  | none => simp [optOpd] at h; subst h; exact .none
  | some y =>
    simp only [optOpd] at h
    split at h
    · rename_i f' hf
      simp only [Option.some.injEq] at h; subst h
      obtain ⟨f'⟩ := f'
      exact .some (opd_sound hf (hg y rfl))
    · cases h

theorem kop_slice {t : TypeId} {x : Operand} {lo hi mx : Option Operand} (h : kop E cx o = some k) (ho : o.op = .slice t x lo hi mx) : k.Sound E cx o := by
  simp only [kop, ho] at h
  split at h
  · rename_i f lo' hi' d hf hlo hhi hd
    have hg1 : ∀ {ρ e fr a}, Goods ρ cx e fr a o → Good ρ cx e fr a x := fun hg => hg x (by simp [ho, Op.operands])
    have hg2 : ∀ {ρ e fr a}, Goods ρ cx e fr a o → ∀ y, lo = some y → Good ρ cx e fr a y := fun hg y e1 => hg y (by simp [ho, Op.operands, e1])
    have hg3 : ∀ {ρ e fr a}, Goods ρ cx e fr a o → ∀ y, hi = some y → Good ρ cx e fr a y := fun hg y e1 => hg y (by simp [ho, Op.operands, e1])
    split at h
    · simp only [Option.some.injEq] at h; subst h
      intro ρ e fr a r hE hg hr
      dsimp only at hr
      obtain ⟨u, h1, h2⟩ := sliceV_sound hd (by intro n hn; cases hn) hr (opd_sound hf (hg1 hg)) (optOpd_sound hlo (hg2 hg)) (optOpd_sound hhi (hg3 hg))
      exact ⟨u, h1, fun w => by simp only [execOp, ho]; exact run_v (h2 w)⟩
    · split at h
      · rename_i n hn
        simp only [Option.some.injEq] at h; subst h
        intro ρ e fr a r hE hg hr
        dsimp only at hr
        obtain ⟨u, h1, h2⟩ := sliceV_sound hd (by intro m hm; cases hm; exact hn) hr (opd_sound hf (hg1 hg)) (optOpd_sound hlo (hg2 hg)) (optOpd_sound hhi (hg3 hg))
        exact ⟨u, h1, fun w => by simp only [execOp, ho]; exact run_v (h2 w)⟩
      · cases h
  · cases h

theorem kop_fieldAddr {t : TypeId} {x : Operand} {fld : Nat} (h : kop E cx o = some k) (ho : o.op = .fieldAddr t x fld) : k.Sound E cx o := by
  simp only [kop, ho] at h
  split at h
  · rename_i f fields hf hd
    split at h
    · rename_i fd hfd
      split at h
      · rename_i m hs
        rw [force_eq] at h
        simp only [Option.some.injEq] at h; subst h
        rw [nthF_eq] at hfd
        have hfd' : fields[fld]? = some fd := by simpa using hfd
        have key : ∀ (b : Nat) (off : Nat) (v : Value) (w : World), v = .pointer (some ⟨b, off, none⟩) → (Instr.fieldAt t v fld).run E.P w = .ok (.pointer (some ⟨b, off + fd.offset, none⟩)) w := by
          intro b off v w hv
          subst hv
          simp [Instr.fieldAt, run_underlying hd, hfd', Instr.sureAddr, fieldPlace, sizeOf_run hs, add_win]
        intro ρ e fr a r hE hg hr
        dsimp only at hr
        have h1 := opd_sound hf (hg x (by simp [ho, Op.operands]))
        split at hr
        · rename_i id off e1; rw [e1] at h1
          simp only [force_eq, Option.some.injEq] at hr; subst hr
          generalize hb : a.eval x = b at h1
          cases h1 with
          | ptr hp => exact ⟨_, .ptr hp, fun w => by simp only [execOp, ho, hb]; rw [← Nat.add_assoc]; exact run_v (key _ _ _ w rfl)⟩
        · rename_i id off e1; rw [e1] at h1
          simp only [force_eq, Option.some.injEq] at hr; subst hr
          generalize hb : a.eval x = b at h1
          cases h1
          exact ⟨_, .gptr _ _, fun w => by simp only [execOp, ho, hb]; exact run_v (key _ _ _ w rfl)⟩
        · rename_i ra ri off e1; rw [e1] at h1
          simp only [force_eq, Option.some.injEq] at hr; subst hr
          generalize hb : a.eval x = b at h1
          cases h1 with
          | rptr hrow h0 hlt => exact ⟨_, .rptr hrow h0 hlt, fun w => by simp only [execOp, ho, hb]; rw [← Nat.add_assoc]; exact run_v (key _ _ _ w rfl)⟩
        · cases hr
      · cases h
    · cases h
  · cases h

theorem kop_field {t : TypeId} {x : Operand} {fld : Nat} (h : kop E cx o = some k) (ho : o.op = .field t x fld) : k.Sound E cx o := by
  simp only [kop, ho] at h
  split at h
  · rename_i f fields hf hd
    split at h
    · rename_i fd hfd
      split at h
      · rename_i wd hwd
        simp only [Option.some.injEq] at h; subst h
        rw [nthF_eq] at hfd
        have hfd' : fields[fld]? = some fd := by simpa using hfd
        intro ρ e fr a r hE hg hr
        dsimp only at hr
        have h1 := opd_sound hf (hg x (by simp [ho, Op.operands]))
        split at hr
        · rename_i cs e1; rw [e1] at h1
          generalize hb : a.eval x = b at h1
          cases h1 with
          | agg hcs =>
            obtain ⟨u, hu1, hu2⟩ := pick_part (vs := _) hwd hr (by simpa using hcs)
            refine ⟨u, hu1, fun w => ?_⟩
            simp only [execOp, ho, hb]
            refine run_v ?_
            simp only [Instr.field, Sem.run_bind, run_underlying hd, Result.andThen_ok, hfd', asAgg, Sem.run_pure]
            simpa using hu2 w
        · cases hr
      · cases h
    · cases h
  · cases h

theorem indexV_some {n len : Nat} {i : SV} {kk : Nat → Option SV} {r : SV} (h : indexV n len i kk = some r) : ∃ j, asNat i = some j ∧ j < len ∧ kk (j * n) = some r := by
  unfold indexV at h
  split at h
  · rename_i j hj
    split at h
    · rename_i hb
      rw [force_eq] at h
      exact ⟨j, hj, Nat.le_of_ble_eq_true hb, h⟩
    · cases h
  · cases h

theorem kop_indexAddr {t : TypeId} {x i : Operand} (h : kop E cx o = some k) (ho : o.op = .indexAddr t x i) : k.Sound E cx o := by
  simp only [kop, ho] at h
  split at h
  · rename_i f g d hf hg' hd
    split at h
    · rename_i len elem
      split at h
      · rename_i n hn
        simp only [Option.some.injEq] at h; subst h
        intro ρ e fr a r hE hg hr
        dsimp only at hr
        have h1 := opd_sound hf (hg x (by simp [ho, Op.operands]))
        have h2 := opd_sound hg' (hg i (by simp [ho, Op.operands]))
        have key : ∀ (b off j : Nat) (v vi : Value) (w : World) (kk : IntKind), v = .pointer (some ⟨b, off, none⟩) → vi = .int kk (j : Int) → j < len → (Instr.indexAt t v vi).run E.P w = .ok (.pointer (some ⟨b, off + j * n, none⟩)) w := by
          intro b off j v vi w kk hv hvi hj
          subst hv; subst hvi
          simp [Instr.indexAt, asIntOf, run_underlying hd, Instr.sureAddr, hj, sizeOf_run hn, add_win]
        split at hr
        · rename_i id off e1; rw [e1] at h1
          obtain ⟨j, hj1, hj2, hj3⟩ := indexV_some hr
          obtain ⟨kk, hkk⟩ := asNat_rel hj1 h2
          simp only [force_eq, Option.some.injEq] at hj3; subst hj3
          generalize hb : a.eval x = b at h1
          cases h1 with
          | ptr hp => exact ⟨_, .ptr hp, fun w => by simp only [execOp, ho, hb]; rw [← Nat.add_assoc]; exact run_v (key _ _ _ _ _ w kk rfl hkk hj2)⟩
        · rename_i id off e1; rw [e1] at h1
          obtain ⟨j, hj1, hj2, hj3⟩ := indexV_some hr
          obtain ⟨kk, hkk⟩ := asNat_rel hj1 h2
          simp only [force_eq, Option.some.injEq] at hj3; subst hj3
          generalize hb : a.eval x = b at h1
          cases h1
          exact ⟨_, .gptr _ _, fun w => by simp only [execOp, ho, hb]; exact run_v (key _ _ _ _ _ w kk rfl hkk hj2)⟩
        · cases hr
      · cases h
    · rename_i elem
      split at h
      · rename_i n hn
        simp only [Option.some.injEq] at h; subst h
        intro ρ e fr a r hE hg hr
        dsimp only at hr
        have h1 := opd_sound hf (hg x (by simp [ho, Op.operands]))
        have h2 := opd_sound hg' (hg i (by simp [ho, Op.operands]))
        have key : ∀ (b off j len cap : Nat) (v vi : Value) (w : World) (kk : IntKind), v = .slice (some ⟨b, off, none⟩) len cap → vi = .int kk (j : Int) → j < len → (Instr.indexAt t v vi).run E.P w = .ok (.pointer (some ⟨b, off + j * n, none⟩)) w := by
          intro b off j len cap v vi w kk hv hvi hj
          subst hv; subst hvi
          simp [Instr.indexAt, asIntOf, run_underlying hd, hj, sizeOf_run hn, add_win]
        split at hr
        · rename_i id off len c e1; rw [e1] at h1
          obtain ⟨j, hj1, hj2, hj3⟩ := indexV_some hr
          obtain ⟨kk, hkk⟩ := asNat_rel hj1 h2
          simp only [force_eq, Option.some.injEq] at hj3; subst hj3
          generalize hb : a.eval x = b at h1
          cases h1 with
          | sliceE hp => exact ⟨_, .ptr hp, fun w => by simp only [execOp, ho, hb]; rw [← Nat.add_assoc]; exact run_v (key _ _ _ _ _ _ _ w kk rfl hkk hj2)⟩
          | sliceT hp ht hl hcap hxx =>
            rcases hxx with rfl | h0
            · exact ⟨_, .ptr hp, fun w => by simp only [execOp, ho, hb]; rw [← Nat.add_assoc]; exact run_v (key _ _ _ _ _ _ _ w kk rfl hkk hj2)⟩
            · omega
        · rename_i ra e1; rw [e1] at h1
          unfold Sym.rowAt at hr
          split at hr
          · rename_i kk ei ks hie hks
            split at hr
            · rename_i hlen hl0 hln
              simp only [Option.some.injEq] at hr; subst hr
              have hlen := Nat.eq_of_beq_eq_true hlen
              have h3 := toIE_val hie h2
              have g0 := hE.lt _ _ _ hl0
              have g1 := hE.lt _ _ _ hln
              rw [ltb_eq] at g0 g1
              have g0 := of_decide_eq_false g0
              have g1 := of_decide_eq_true g1
              simp only [IE.val] at g0 g1
              have hsz := hE.rows _ _ hks
              generalize hb : a.eval x = b at h1
              cases h1 with
              | row hrow =>
                rename_i bb xx sz nn cap
                rw [hE.sig] at hrow h3
                rw [hrow] at hsz g1
                simp only at g1 hsz
                have g0' : 0 ≤ IE.val E.sig ei := by
                  have : ¬ (IE.val E.sig ei < Int.ofNat 0) := g0
                  simpa using this
                obtain ⟨j, hj⟩ := Int.eq_ofNat_of_zero_le g0'
                refine ⟨.pointer (some ⟨bb, xx + (IE.val ρ.sig ei).toNat * sz + 0, none⟩), VRel.rptr (n := nn) (by rw [hE.sig]; exact hrow) (by rw [hE.sig]; exact g0') (by rw [hE.sig]; exact g1), fun w => ?_⟩
                simp only [execOp, ho, hb]
                rw [hE.sig, hj, Nat.add_zero, Int.toNat_natCast, hsz, hlen]
                rw [hj] at h3 g1
                exact run_v (key _ _ j _ _ _ _ w kk rfl h3 (by omega))
            · cases hr
          · cases hr
        · cases hr
      · cases h
    · cases h
  · cases h

theorem kop_index {t : TypeId} {x i : Operand} (h : kop E cx o = some k) (ho : o.op = .index t x i) : k.Sound E cx o := by
  simp only [kop, ho] at h
  split at h
  · rename_i f g d hf hg' hd
    split at h
    · rename_i len elem
      split at h
      · rename_i n wd hn hwd
        simp only [Option.some.injEq] at h; subst h
        intro ρ e fr a r hE hg hr
        dsimp only at hr
        have h1 := opd_sound hf (hg x (by simp [ho, Op.operands]))
        have h2 := opd_sound hg' (hg i (by simp [ho, Op.operands]))
        split at hr
        · rename_i cs e1; rw [e1] at h1
          obtain ⟨j, hj1, hj2, hj3⟩ := indexV_some hr
          obtain ⟨kk, hkk⟩ := asNat_rel hj1 h2
          generalize hb : a.eval x = b at h1
          cases h1 with
          | agg hcs =>
            obtain ⟨u, hu1, hu2⟩ := pick_part (vs := _) hwd hj3 (by simpa using hcs)
            refine ⟨u, hu1, fun w => ?_⟩
            simp only [execOp, ho, hb, hkk]
            refine run_v ?_
            have := hu2 w
            simp [Instr.index, asIntOf, run_underlying hd, hj2, sizeOf_run hn, this]
        · cases hr
      · cases h
    · simp only [Option.some.injEq] at h; subst h
      intro ρ e fr a r hE hg hr
      dsimp only at hr
      have h1 := opd_sound hf (hg x (by simp [ho, Op.operands]))
      have h2 := opd_sound hg' (hg i (by simp [ho, Op.operands]))
      split at hr
      · rename_i s j e1 hj1; rw [e1] at h1
        obtain ⟨kk, hkk⟩ := asNat_rel hj1 h2
        split at hr
        · rename_i b hb1
          simp only [Option.some.injEq] at hr; subst hr
          generalize hb : a.eval x = bb at h1
          cases h1
          refine ⟨_, .int _ _, fun w => ?_⟩
          simp only [execOp, ho, hb, hkk]
          refine run_v ?_
          rw [nth_eq] at hb1
          have : s[j]? = some b := by
            have h3 : s.data[j]? = some b := by simpa using hb1
            rw [← h3]; rfl
          simp [Instr.index, asIntOf, run_underlying hd, this]
        · cases hr
      · cases hr
    · cases h
  · cases h
end
end Go.RX
