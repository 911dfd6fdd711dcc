/- copy and append. -/
import Derived.Test.YtjfagagjmdddcaaGreatDoorRxOps11
set_option linter.all false
namespace Go.RX
open Sym
section
variable {E : Env} {cx : Cx} {o : Oper} {k : KOp} {c : Call}

theorem firstCells_len {S : SW} {size n : Nat} {x : SV} {cs : List SV} {m : Nat} (h : Sym.firstCells S size n x = some cs) (hm : rowLen x = some m) (hn : n ≤ m) (hs : (∃ s, x = .string s) → size = 1) (h0 : x = .nilslice → n = 0) : cs.length = n * size := by
  unfold Sym.firstCells at h
  split at h
  · split at h
    · exact (seg_some _ _ _ _ h).2.2
    · cases h
  · simp only [Option.some.injEq] at h; subst h
    rw [h0 rfl]; simp
  · rename_i s
    simp only [Option.some.injEq] at h; subst h
    simp only [rowLen, Option.some.injEq] at hm
    rw [hs ⟨s, rfl⟩]
    simp only [List.length_map, List.length_take, Array.length_toList]
    have : s.data.size = s.size := rfl
    omega
  · cases h

theorem withW_some {S : SW} {r : Option SV} {x : SV} {S' : SW} (h : withW S r = some (x, S')) : r = some x ∧ S' = S := by
  unfold withW at h
  split at h
  · simp only [Option.some.injEq, Prod.mk.injEq] at h; obtain ⟨rfl, rfl⟩ := h; exact ⟨rfl, rfl⟩
  · cases h

theorem arr2_0 (a b : Value) : (#[a, b] : Array Value)[0]? = some a := rfl
theorem arr2_1 (a b : Value) : (#[a, b] : Array Value)[1]? = some b := rfl

theorem copyV_sound {ρ : Ren} {S S' : SW} {w : World} {size : Nat} {x y r : SV} {xv yv : Value} {t0 t1 ty elem : TypeId} {ts : Array TypeId} (hts : ts[0]? = some t0) (hd : E.P.underlying t0 = some (.slice elem)) (hsz : Sym.sizeOf E elem = some size)
    (hok : Ok E ρ S w) (h : copyV size S x y = some (r, S')) (hx : VRel ρ x xv) (hy : VRel ρ y yv) :
    ∃ v w', Ext ρ S w ρ S' w' ∧ VRel ρ r v ∧ (Builtin.copy_ ts ty #[xv, yv]).run E.P w = .ok v w' := by
  unfold copyV at h
  split at h
  · cases h
  · rename_i m hm
    have hl := rowLen_run (E := E) hm hy
    split at h
    · cases hx
      simp only [Option.some.injEq, Prod.mk.injEq] at h
      obtain ⟨rfl, rfl⟩ := h
      refine ⟨_, w, hok.refl_ext, .int _ _, ?_⟩
      have hf0 : ∀ w, ∃ a, (Builtin.firstCells size 0 yv).run E.P w = .ok a w := by
        intro w
        unfold rowLen at hm
        split at hm
        · cases hy; exact ⟨_, rfl⟩
        · obtain ⟨b, ofs, tt, xa, cap, hp, rfl, hadr⟩ := slice_addr hy
          simp only [Builtin.firstCells, Nat.zero_mul]
          exact ⟨_, rfl⟩
        · cases hy; exact ⟨_, rfl⟩
        · cases hm
      obtain ⟨a, ha⟩ := hf0 w
      have hm0 : Nat.min m 0 = 0 := Nat.min_zero m
      simp only [Builtin.copy_, hts, arr2_0, arr2_1, Sem.run_bind, run_underlying hd, Result.andThen_ok, hl, sizeOf_run hsz, hm0]
      show ((Builtin.firstCells size 0 yv).run E.P w).andThen _ = _
      rw [ha]
      rfl
    · rename_i id off len cp
      obtain ⟨b, ofs, tt, xa, cap, hp, rfl, hadr⟩ := slice_addr hx
      split at h
      · rename_i cs hcs
        obtain ⟨vs, hvs, hrun⟩ := firstCells_sound hok hcs hy hm (Nat.min_le_left _ _)
        split at h
        · rename_i S1 hst
          obtain ⟨hr, rfl⟩ := withW_some h
          rw [int_eq] at hr
          simp only [Option.some.injEq] at hr; subst hr
          obtain ⟨w', h1, h2, -⟩ := storeAt_sound hok hst hp hvs
          have hstore : (storeCells ⟨b, xa, none⟩ vs).run E.P w = .ok () w' := by
            by_cases h0 : vs = []
            · subst h0
              exact h1
            · rw [hadr ?_]
              · exact h1
              · intro hlen
                subst hlen
                rw [Nat.min_zero] at hcs
                apply h0
                apply List.eq_nil_of_length_eq_zero
                rw [← hvs.length]
                unfold Sym.firstCells at hcs
                split at hcs
                · split at hcs
                  · rw [(seg_some _ _ _ _ hcs).2.2]; simp
                  · cases hcs
                · simp only [Option.some.injEq] at hcs; subst hcs; rfl
                · simp only [Option.some.injEq] at hcs; subst hcs; rfl
                · cases hcs
          refine ⟨_, w', h2, .int _ _, ?_⟩
          simp only [Builtin.copy_, hts, arr2_0, arr2_1, Sem.run_bind, run_underlying hd, Result.andThen_ok, hl, sizeOf_run hsz]
          show ((Builtin.firstCells size (min m len) yv).run E.P w).andThen _ = _
          rw [hrun]
          simp only [Result.andThen_ok, hstore]
          rfl
        · cases h
      · cases h
    · cases h

theorem copy_sound {x y : Operand} (h : builtinK E cx .copy c.argTypes [x, y] = some k) (ho : o.op = .call c) (hc : c.callee = .builtin .copy) (ha : c.args.toList = [x, y]) : k.Sound E cx o := by
  simp only [builtinK] at h
  split at h
  · rename_i f g t0 ts hf0 hg0 hts
    split at h
    · rename_i elem hd
      split at h
      · rename_i size hsz
        simp only [Option.some.injEq] at h; subst h
        intro ρ e fr a r S S' w hg hok hr hf
        dsimp only at hr
        obtain ⟨v, w', h1, h2, h3⟩ := copyV_sound (ty := o.type) (t1 := t0) (types1 hts) hd hsz hok hr (opd_sound hf0 (hg x (call_operands ho (by simp [ha])))) (opd_sound hg0 (hg y (call_operands ho (by simp [ha]))))
        obtain ⟨cs, hrn⟩ := run_builtin (E := E) ho hc a
        refine ⟨ρ, v, w', h1, h2, .inl ?_⟩
        rw [hrn, map_args2 ha]
        exact run_v h3
      · cases h
    · cases h
  · cases h

/-! ### clear, delete -/
theorem clear_sound {x : Operand} (h : builtinK E cx .clear c.argTypes [x] = some k) (ho : o.op = .call c) (hc : c.callee = .builtin .clear) (ha : c.args.toList = [x]) : k.Sound E cx o := by
  simp only [builtinK] at h
  split at h
  · rename_i f t0 ts hf0 hts
    split at h
    · rename_i elem hd
      split at h
      · rename_i z hz
        simp only [Option.some.injEq] at h; subst h
        intro ρ e fr a r S S' w hg hok hr hf
        dsimp only at hr
        obtain ⟨cs, hrn⟩ := run_builtin (E := E) ho hc a
        have h1 := opd_sound hf0 (hg x (call_operands ho (by simp [ha])))
        obtain ⟨zv, hzv, hzr⟩ := zero_run hz ρ
        have hcv := hzv.cells (zero_known hz)
        have arg0 : (#[a.eval x] : Array Value)[0]? = some (a.eval x) := rfl
        unfold done at hr
        split at hr
        · rename_i S1 hst
          simp only [Option.some.injEq, Prod.mk.injEq] at hr
          obtain ⟨rfl, rfl⟩ := hr
          suffices ∃ w', Ext ρ S w ρ S1 w' ∧ (Builtin.clear_ c.argTypes o.type #[a.eval x]).run E.P w = .ok (.tuple #[]) w' by
            obtain ⟨w', k1, k2⟩ := this
            refine ⟨ρ, _, w', k1, .tuple .nil, .inl ?_⟩
            rw [hrn, map_args1 ha]
            exact run_v k2
          unfold clearV at hst
          split at hst
          · rename_i e1; rw [e1] at h1
            simp only [Option.some.injEq] at hst; subst hst
            generalize hb : a.eval x = b at h1 arg0 ⊢
            cases h1
            refine ⟨w, hok.refl_ext, ?_⟩
            simp only [Builtin.clear_, types1 hts, arg0, Sem.run_bind, run_underlying hd, Result.andThen_ok, Sem.run_pure]
          · rename_i id off len cc e1; rw [e1] at h1
            generalize hb : a.eval x = b at h1 arg0 ⊢
            obtain ⟨bb, ofs, tt, xa, cap, hp, rfl, hadr⟩ := slice_addr h1
            split at hst
            · simp only [Option.some.injEq] at hst; subst hst
              refine ⟨w, hok.refl_ext, ?_⟩
              simp only [Builtin.clear_, types1 hts, arg0, Sem.run_bind, run_underlying hd, Result.andThen_ok, Sem.run_pure]
            · rename_i len
              have := hadr (by omega)
              subst this
              obtain ⟨w', hrun, hext, -⟩ := storeAt_sound hok hst hp (copies_rel hcv (len + 1) ((len + 1) * zv.cells.size) rfl)
              refine ⟨w', hext, ?_⟩
              have hz2 : (Builtin.zeroCells zv.cells (len + 1)).toList = (madeCells zv.cells ((len + 1) * zv.cells.size)).toList := rfl
              simp only [Builtin.clear_, types1 hts, arg0, Sem.run_bind, run_underlying hd, Result.andThen_ok, Sem.run_pure, hzr, hz2, hrun]
          · cases hst
        · cases hr
      · cases h
    · cases h
  · cases h

theorem delete_sound {x y : Operand} (h : builtinK E cx .delete c.argTypes [x, y] = some k) (ho : o.op = .call c) (hc : c.callee = .builtin .delete) (ha : c.args.toList = [x, y]) : k.Sound E cx o := by
  simp only [builtinK] at h
  split at h
  · rename_i f g t0 ts hf0 hg0 hts
    split at h
    · rename_i key elem hd
      split at h
      · rename_i kd hkd
        split at h
        · rename_i hkk
          simp only [Option.some.injEq] at h; subst h
          intro ρ e fr a r S S' w hg hok hr hf
          dsimp only at hr
          unfold done at hr
          split at hr
          · rename_i S1 hst
            simp only [Option.some.injEq, Prod.mk.injEq] at hr
            obtain ⟨rfl, rfl⟩ := hr
            obtain ⟨w', h1, h2⟩ := deleteV_sound (ty := o.type) (types1 hts) hd hkd hkk hok hst (opd_sound hf0 (hg x (call_operands ho (by simp [ha])))) (opd_sound hg0 (hg y (call_operands ho (by simp [ha]))))
            obtain ⟨cs, hrn⟩ := run_builtin (E := E) ho hc a
            refine ⟨ρ, _, w', h1, .tuple .nil, .inl ?_⟩
            rw [hrn, map_args2 ha]
            exact run_v h2
          · cases hr
        · cases h
      · cases h
    · cases h
  · cases h

/-! ### append -/
section
variable {t0 t1 ty elem : TypeId} {u : TypeDesc} {i : TypeInfo} {z : Value} {ts : Array TypeId}

theorem run_append_room' (h0 : ts[0]? = some t0) (h1 : ts[1]? = some t1) (hd : E.P.underlying t0 = some (.slice elem)) (hu : E.P.underlying t1 = some u) (hi : E.P.info? elem = some i) (hnu : ∀ k, u ≠ .int k)
    {base : Option Addr} {len cap n : Nat} {xv : Value} {new : Array Value} {w w' : World} (hl : (Builtin.lenOf xv).run E.P w = .ok n w) (hroom : len + n ≤ cap) (hnew : (Builtin.firstCells i.size n xv).run E.P w = .ok new w)
    (hst : (match base with | some a => storeCells (a.add (len * i.size)) new.toList | none => pure () : Sem Unit).run E.P w = .ok () w') :
    (Builtin.append_ ts ty #[.slice base len cap, xv]).run E.P w = .ok (.slice base (len + n) cap) w' := by
  have hz : (match u with | .int _ => true | _ => false) = false := by cases u <;> first | rfl | exact absurd rfl (hnu _)
  have hsz : ∀ w, (Go.sizeOf elem).run E.P w = .ok i.size w := fun w => by simp [Go.sizeOf, typeInfo, hi]
  cases base with
  | none =>
    simp only [Builtin.append_, h0, h1, arr2_0, arr2_1, Sem.run_bind, run_underlying hd, run_underlying hu, Result.andThen_ok, Sem.run_pure, hsz, hz, Bool.false_eq_true, if_false, hl, if_pos hroom, Bool.not_false, if_true, hnew]
    simp only [Sem.run_pure, Result.ok.injEq] at hst
    rw [hst.2]
  | some a =>
    simp only [Builtin.append_, h0, h1, arr2_0, arr2_1, Sem.run_bind, run_underlying hd, run_underlying hu, Result.andThen_ok, Sem.run_pure, hsz, hz, Bool.false_eq_true, if_false, hl, if_pos hroom, Bool.not_false, if_true, hnew]
    simp only at hst
    rw [hst]
    rfl

theorem run_append_grow' (h0 : ts[0]? = some t0) (h1 : ts[1]? = some t1) (hd : E.P.underlying t0 = some (.slice elem)) (hu : E.P.underlying t1 = some u) (hi : E.P.info? elem = some i) (hzr : i.zero = some z) (hnu : ∀ k, u ≠ .int k)
    {base : Option Addr} {len cap n : Nat} {xv : Value} {old new : Array Value} {w : World} (hl : (Builtin.lenOf xv).run E.P w = .ok n w) (hgrow : cap < len + n) (hbound : (len + n + len + len + 1024) * (i.bytes + 1) ≤ 140737488355328) (hb1 : 1 ≤ i.bytes ∨ True)
    (hold : (Builtin.firstCells i.size len (.slice base len cap)).run E.P w.drew = .ok old w.drew) (hnew : (Builtin.firstCells i.size n xv).run E.P w.drew = .ok new w.drew) :
    (Builtin.append_ ts ty #[.slice base len cap, xv]).run E.P w =
      .ok (.slice (some ⟨w.heap.size, 0, none⟩) (len + n) (grownCap w (len + n) cap elem)) (w.drew.alloc (.cells (old ++ new ++ Builtin.zeroCells z.cells (grownCap w (len + n) cap elem - (len + n))) elem)) := by
  have hz : (match u with | .int _ => true | _ => false) = false := by cases u <;> first | rfl | exact absurd rfl (hnu _)
  have hsz : ∀ w, (Go.sizeOf elem).run E.P w = .ok i.size w := fun w => by simp [Go.sizeOf, typeInfo, hi]
  have hti : ∀ w, (typeInfo elem).run E.P w = .ok i w := fun w => by simp [typeInfo, hi]
  have hzv : ∀ w, (zeroValue elem).run E.P w = .ok z w := fun w => by simp [zeroValue, typeInfo, hi, hzr]
  have hnr : ¬ (len + n ≤ cap) := by omega
  have hmax : IntKind.i64.max = 9223372036854775807 := rfl
  have hsmall : len + n + len + len + 1024 ≤ 140737488355328 := Nat.le_trans (Nat.le_mul_of_pos_right _ (Nat.succ_pos i.bytes)) hbound
  have h63 : ¬ (((len + n : Nat) : Int) > IntKind.i64.max ∧ (False ∨ i.bytes = 0)) := by rw [hmax]; omega
  have h48 : ¬ (Builtin.nextslicecap (len + n) cap * i.bytes > 281474976710656) := by
    have h2 : Builtin.nextslicecap (len + n) cap * i.bytes ≤ 2 * (len + n) * i.bytes := Nat.mul_le_mul_right _ (nextslicecap_le hgrow)
    have h3 : (len + n) * i.bytes ≤ (len + n + len + len + 1024) * (i.bytes + 1) := Nat.mul_le_mul (by omega) (by omega)
    rw [Nat.mul_assoc] at h2
    omega
  have hpow : (2 : Nat) ^ 48 = 281474976710656 := by decide
  simp only [Builtin.append_, h0, h1, arr2_0, arr2_1, Sem.run_bind, run_underlying hd, run_underlying hu, Result.andThen_ok, Sem.run_pure, hsz, hz, Bool.false_eq_true, if_false, hl, if_neg hnr, hti, if_neg h63, hpow, if_neg h48,
    run_choose_drew, Question.forced, run_askRoom, hold, Bool.not_false, if_true, hnew, hzv, newRow, run_newObj_alloc]
  rfl

theorem firstCells0 {ρ : Ren} {y : SV} {yv : Value} (hm : rowLen y = some 0) (hy : VRel ρ y yv) (size : Nat) (w : World) : (Builtin.firstCells size 0 yv).run E.P w = .ok #[] w := by
  unfold rowLen at hm
  split at hm
  · rename_i s
    cases hy
    simp only [Builtin.firstCells]
    show Result.ok _ w = _
    congr 1
    apply Array.ext'
    simp [ByteArray.extract, ByteArray.copySlice]
  · obtain ⟨b, ofs, tt, xa, cap, hp, rfl, hadr⟩ := slice_addr hy
    simp only [Builtin.firstCells, Nat.zero_mul]
    rfl
  · cases hy; rfl
  · cases hm

theorem grow_ext {ρ : Ren} {S S' : SW} {w : World} {elS : TypeId} {size bytes len n : Nat} {old added : List SV} {r : SV} (h : Sym.grow elS size bytes S old len added n = some (r, S')) (hok : Ok E ρ S w) (hf : Fresh ρ S.next S'.next)
    {oldv newv : List Value} (ho : VRels ρ old oldv) (hn : VRels ρ added newv) (hol : oldv.length = len * size) (hnl : newv.length = n * size) (hzs : z.cells.size = size) (cap : Nat) (hc : len + n ≤ cap) :
    (len + n + len + len + 1024) * (bytes + 1) ≤ 140737488355328 ∧
    ∃ ρ', Ext ρ S w ρ' S' (w.drew.alloc (.cells (oldv.toArray ++ newv.toArray ++ Builtin.zeroCells z.cells (cap - (len + n))) elem)) ∧ VRel ρ' r (.slice (some ⟨w.heap.size, 0, none⟩) (len + n) cap) := by
  unfold Sym.grow at h
  split at h
  · rename_i hb hsc
    have hb := Nat.le_of_ble_eq_true hb
    split at h
    · rename_i id S1 hnew
      rw [force_eq] at h
      simp only [Option.some.injEq, Prod.mk.injEq] at h
      obtain ⟨rfl, rfl⟩ := h
      have hd := ext_drew hok.wrel hok.tidy
      have hok2 := hok.ext hd
      have hrel := ho.append hn
      have hsz : (oldv.toArray ++ newv.toArray ++ Builtin.zeroCells z.cells (cap - (len + n))).size = cap * size := by
        simp only [Array.size_append, List.size_toArray, hol, hnl, size_zeroCells, hzs]
        have e1 : len + n + (cap - (len + n)) = cap := by omega
        rw [← Nat.add_mul, ← Nat.add_mul, e1]
      have hh : Holds ρ (old ++ added) 0 (oldv.toArray ++ newv.toArray ++ Builtin.zeroCells z.cells (cap - (len + n))) := fun k x e => by
        obtain ⟨v, h1, h2⟩ := hrel.get e
        have hlt := (List.getElem?_eq_some_iff.1 h1).1
        refine ⟨v, ?_, h2⟩
        rw [Nat.zero_add, ← Array.getElem?_toList]
        simp only [Array.toList_append, List.toList_toArray]
        rw [List.getElem?_append_left hlt]
        exact h1
      obtain ⟨ρ', hext, hid⟩ := new_cells' hok2 hnew hf elem _ (0, 0) (nofz' _) (by rw [hsz, hrel.length, List.length_append, hol, hnl, ← Nat.add_mul]; exact Nat.mul_le_mul_right _ hc) hh
      refine ⟨hb, ρ', hd.trans hext, ?_⟩
      rw [hsz] at hid
      exact .sliceT hid (by simp) hc hc (.inl rfl)
    · cases h
  · cases h

theorem SameBut.eq_of {b : Nat} {w w' : World} (h : w' = w) : SameBut b w w' := h ▸ .refl b w

theorem appendV_sound {ρ : Ren} {S S' : SW} {w : World} {size bytes : Nat} {x y r zs : SV} {xv yv : Value} (h0 : ts[0]? = some t0) (h1 : ts[1]? = some t1) (hd : E.P.underlying t0 = some (.slice elem)) (hu : E.P.underlying t1 = some u) (hi : E.P.info? elem = some i) (hz : Sym.zero E elem = some zs) (hzl : zs.cells.length = i.size) (hnu : ∀ k, u ≠ .int k)
    (hsize : i.size = size) (hbytes : i.bytes = bytes) (hpos : 1 ≤ size) (hok : Ok E ρ S w) (h : appendV elem size bytes S x y = some (r, S')) (hf : Fresh ρ S.next S'.next) (hx : VRel ρ x xv) (hy : VRel ρ y yv) :
    ∃ ρ' v w', Ext ρ S w ρ' S' w' ∧ VRel ρ' r v ∧ (Builtin.append_ ts ty #[xv, yv]).run E.P w = .ok v w' := by
  subst hsize; subst hbytes
  obtain ⟨zv, hzv, hzr⟩ := zero_run hz ρ
  have hiz : i.zero = some zv := by
    have := hzr w
    simp only [zeroValue, typeInfo, Sem.run_bind, run_program, Result.andThen_ok, hi, Sem.run_pure] at this
    split at this
    · rename_i q hq; simp only [Sem.run_pure, Result.ok.injEq] at this; rw [hq, this.1]
    · cases this
  have hzs : zv.cells.size = i.size := by rw [← hzl, (hzv.cells (zero_known hz)).length]; simp
  unfold appendV at h
  split at h
  · cases h
  · rename_i hm
    have hl := rowLen_run (E := E) hm hy w
    have hfc := firstCells0 (E := E) hm hy i.size w
    split at h
    · cases hx
      simp only [Option.some.injEq, Prod.mk.injEq] at h
      obtain ⟨rfl, rfl⟩ := h
      exact ⟨ρ, _, w, hok.refl_ext, .nilslice, run_append_room' (base := none) h0 h1 hd hu hi hnu hl (by omega) hfc rfl⟩
    · rename_i id off len cap
      split at h
      · rename_i hb
        have hb := Nat.le_of_ble_eq_true hb
        simp only [Option.some.injEq, Prod.mk.injEq] at h
        obtain ⟨rfl, rfl⟩ := h
        cases hx with
        | sliceE hp => exact ⟨ρ, _, w, hok.refl_ext, .sliceE hp, run_append_room' (base := some _) h0 h1 hd hu hi hnu hl (by omega) hfc rfl⟩
      · cases h
    · rename_i id off len sz least
      simp only [Option.some.injEq, Prod.mk.injEq] at h
      obtain ⟨rfl, rfl⟩ := h
      cases hx with
      | sliceT hp ht hl2 hk hxx => exact ⟨ρ, _, w, hok.refl_ext, .sliceT hp ht hl2 hk hxx, run_append_room' (base := some _) h0 h1 hd hu hi hnu hl (by omega) hfc rfl⟩
    · cases h
  · rename_i n hm
    have hl := rowLen_run (E := E) hm hy w
    split at h
    · rename_i added hadd hrow
      have hok2 := hok.ext (ext_drew hok.wrel hok.tidy)
      have hstr : (∃ s, y = .string s) → i.size = 1 := fun ⟨s, hs⟩ => by
        subst hs; exact Nat.eq_of_beq_eq_true hrow
      have hlen1 := firstCells_len hadd hm (Nat.le_refl _) hstr (fun hy0 => by subst hy0; simp [rowLen] at hm)
      obtain ⟨newv, hnv, hnr⟩ := firstCells_sound hok hadd hy hm (Nat.le_refl _)
      obtain ⟨newv2, hnv2, hnr2⟩ := firstCells_sound hok2 hadd hy hm (Nat.le_refl _)
      have hnl : newv.length = (n + 1) * i.size := by rw [← hnv.length, hlen1]
      have hnl2 : newv2.length = (n + 1) * i.size := by rw [← hnv2.length, hlen1]
      split at h
      · cases hx
        obtain ⟨hb, ρ', hext, hv⟩ := grow_ext (oldv := []) h hok hf .nil hnv2 (by simp) hnl2 hzs (grownCap w (0 + (n + 1)) 0 elem) (grownCap_ge _ _ _ _)
        exact ⟨ρ', _, _, hext, hv, run_append_grow' h0 h1 hd hu hi hiz hnu hl (by omega) hb (.inr trivial) rfl hnr2⟩
      · rename_i id off len cap
        split at h
        · rename_i hb
          have hb := Nat.le_of_ble_eq_true hb
          split at h
          · rename_i S1 hst
            rw [force_eq] at h
            simp only [Option.some.injEq, Prod.mk.injEq] at h
            obtain ⟨rfl, rfl⟩ := h
            cases hx with
            | sliceE hp =>
              obtain ⟨w', hrun, hext, -⟩ := storeAt_sound hok hst hp hnv
              refine ⟨ρ, _, w', hext, .sliceE hp, run_append_room' (base := some _) h0 h1 hd hu hi hnu hl hb hnr ?_⟩
              simp only [add_win, List.toList_toArray]
              rw [Nat.add_assoc]; exact hrun
          · cases h
        · rename_i hb
          have hb : ¬ (len + (n + 1) ≤ cap) := fun hle => by rw [Nat.ble_eq_true_of_le hle] at hb; cases hb
          split at h
          · rename_i old hold
            obtain ⟨oldv, hov, hor⟩ := firstCells_sound (E := E) hok2 hold hx rfl (Nat.le_refl _)
            have hol : oldv.length = len * i.size := by rw [← hov.length]; exact firstCells_len hold rfl (Nat.le_refl _) (by rintro ⟨s, hs⟩; cases hs) (by intro h; cases h)
            cases hx with
            | sliceE hp =>
              obtain ⟨hb2, ρ', hext, hv⟩ := grow_ext h hok hf hov hnv2 hol hnl2 hzs (grownCap w (len + (n + 1)) cap elem) (grownCap_ge _ _ _ _)
              exact ⟨ρ', _, _, hext, hv, run_append_grow' h0 h1 hd hu hi hiz hnu hl (by omega) hb2 (.inr trivial) hor hnr2⟩
          · cases h
      · rename_i id off len sz least
        split at h
        · rename_i hb1 hb
          have hb1 := Nat.eq_of_beq_eq_true hb1
          have hb := Nat.le_of_ble_eq_true hb
          subst hb1
          split at h
          · rename_i S1 hst
            rw [force_eq] at h
            simp only [Option.some.injEq, Prod.mk.injEq] at h
            obtain ⟨rfl, rfl⟩ := h
            cases hx with
            | sliceT hp ht hl2 hk hxx =>
              obtain ⟨w', hrun, hext, -⟩ := storeAt_sound hok hst hp hnv
              refine ⟨ρ, _, w', hext, .sliceT hp ht (by omega) hk hxx, run_append_room' (base := some _) h0 h1 hd hu hi hnu hl (by omega) hnr ?_⟩
              rcases hxx with rfl | h00
              · simp only [add_win, List.toList_toArray]
                rw [Nat.add_assoc]; exact hrun
              · omega
          · cases h
        · rename_i hb1 hb
          have hb1 := Nat.eq_of_beq_eq_true hb1
          subst hb1
          split at h
          · rename_i old S1 hold hkill
            have hnext : S1.next = S.next := (put_some hkill).1
            cases hx with
            | sliceT hp ht hl2 hk hxx =>
              rename_i b ofs tt xx cap
              by_cases hroom : len + (n + 1) ≤ cap
              · have hxx : xx = ofs + off := by rcases hxx with h9 | h9 <;> omega
                subst hxx
                simp only [Sym.firstCells] at hold
                split at hold
                · rename_i cs0 el0 hobj
                  obtain ⟨ob, ho1, ho2⟩ := hok.wrel.obj _ _ _ hobj hp
                  cases ho2 with
                  | cells arr el2 fz hts hlen hfz hmk hc =>
                    obtain ⟨oldv, ho1', ho2', ho3'⟩ := Holds.seg (show Holds ρ cs0 ofs arr from hc) hold
                    unfold Sym.grow at h
                    split at h
                    · rename_i hb2 hsc
                      split at h
                      · rename_i id2 S2 hnew
                        rw [force_eq] at h
                        simp only [Option.some.injEq, Prod.mk.injEq] at h
                        obtain ⟨rfl, rfl⟩ := h
                        have hfit : (len + (n + 1)) * i.size ≤ cap * i.size := Nat.mul_le_mul_right _ hroom
                        rw [Nat.add_mul] at hfit
                        obtain ⟨w', hrun, hsame, arr', hb', hs', hk'⟩ := run_storeCells_win E.P b (ofs + off + len * i.size) el2 fz newv 0 arr w ho1 hfz (by omega) (allScalar_mem hsc hnv)
                        have hf1 : ρ S.next = none := by
                          have h9 := Fresh.one hnew (by rw [hnext]; exact hf)
                          rwa [hnext] at h9
                        have hHold : Holds ρ (old ++ added) (ofs + off) arr' := fun k x e => by
                          by_cases hko : k < old.length
                          · rw [List.getElem?_append_left hko] at e
                            obtain ⟨v, g1, g2⟩ := ho2'.get e
                            refine ⟨v, ?_, g2⟩
                            rw [hk', if_neg (by have := ho2'.length; omega)]
                            exact ho3' k v g1
                          · rw [List.getElem?_append_right (by omega)] at e
                            obtain ⟨v, g1, g2⟩ := hnv.get e
                            have := (List.getElem?_eq_some_iff.1 g1).1
                            have hl9 := ho2'.length
                            refine ⟨v, ?_, g2⟩
                            rw [hk', if_pos (by omega), ← g1, show ofs + off + k - (ofs + off + len * i.size + 0) = k - old.length from by omega]
                        obtain ⟨hext, rfl⟩ := ext_move (q := (b, ofs + off, tt)) (o' := .cells arr' el2 fz) hok.wrel hok.tidy hf1 hobj hp hkill hnew hsame rfl hb' (.cells arr' el2 fz (by rw [hs', hts]) (by rw [List.length_append, ho2'.length, ho1', hlen1]; omega) (by rw [hs']; exact hfz) (by rw [elAt, hobj]; exact hmk) (fun k x e => by
                          obtain ⟨v, g1, g2⟩ := hHold k x e
                          exact ⟨v, g1, g2.mono (Ren.le_set hf1)⟩))
                        refine ⟨_, _, w', hext, .sliceT (Ren.set_same _ _ _) (by omega) hroom hroom (.inl rfl), run_append_room' (base := some _) h0 h1 hd hu hi hnu hl hroom hnr ?_⟩
                        simp only [add_win, List.toList_toArray]
                        exact hrun
                      · cases h
                    · cases h
                · cases hold
              · have hx' : VRel ρ (.slice id off len (.toEnd i.size least)) (.slice (some ⟨b, xx, none⟩) len cap) := .sliceT hp ht hl2 hk hxx
                obtain ⟨oldv, hov, hor⟩ := firstCells_sound (E := E) hok2 hold hx' rfl (Nat.le_refl _)
                have hol : oldv.length = len * i.size := by rw [← hov.length]; exact firstCells_len hold rfl (Nat.le_refl _) (by rintro ⟨s, hs⟩; cases hs) (by intro h; cases h)
                have hkx := ext_kill hok.wrel hok.tidy hkill
                obtain ⟨hb2, ρ', hext, hv⟩ := grow_ext h (hok.ext hkx) (by rw [hnext]; exact hf) hov hnv2 hol hnl2 hzs (grownCap w (len + (n + 1)) cap elem) (grownCap_ge _ _ _ _)
                exact ⟨ρ', _, _, hkx.trans hext, hv, run_append_grow' h0 h1 hd hu hi hiz hnu hl (by omega) hb2 (.inr trivial) hor hnr2⟩
          · cases h
        · cases h
      · cases h
    · cases h
end

theorem run_append_zeros {t0 t1 ty elem : TypeId} {ts : Array TypeId} {i : TypeInfo} {z : Value} {ki kx : IntKind} (h0 : ts[0]? = some t0) (h1 : ts[1]? = some t1) (hd : E.P.underlying t0 = some (.slice elem)) (hu : E.P.underlying t1 = some (.int ki)) (hi : E.P.info? elem = some i) (hzr : i.zero = some z) (hzs : z.cells.size = i.size)
    {base : Option Addr} {len cap n : Nat} {old : Array Value} {w : World} (hgrow : cap < len + n) (hbound : (len + n + len + len + 1024) * (i.bytes + 1) ≤ 140737488355328)
    (hold : (Builtin.firstCells i.size len (.slice base len cap)).run E.P w.drew = .ok old w.drew) :
    (Builtin.append_ ts ty #[.slice base len cap, .int kx n]).run E.P w =
      .ok (.slice (some ⟨w.heap.size, 0, none⟩) (len + n) (grownCap w (len + n) cap elem)) (w.drew.alloc (.cells (old ++ Builtin.zeroCells z.cells n ++ Builtin.zeroCells z.cells (grownCap w (len + n) cap elem - (len + n))) elem)) := by
  have hsz : ∀ w, (Go.sizeOf elem).run E.P w = .ok i.size w := fun w => by simp [Go.sizeOf, typeInfo, hi]
  have hti : ∀ w, (typeInfo elem).run E.P w = .ok i w := fun w => by simp [typeInfo, hi]
  have hzv : ∀ w, (zeroValue elem).run E.P w = .ok z w := fun w => by simp [zeroValue, typeInfo, hi, hzr]
  have hnr : ¬ (len + n ≤ cap) := by omega
  have hmax : IntKind.i64.max = 9223372036854775807 := rfl
  have hsmall : len + n + len + len + 1024 ≤ 140737488355328 := Nat.le_trans (Nat.le_mul_of_pos_right _ (Nat.succ_pos i.bytes)) hbound
  have hw : IntKind.i64.wrap (n : Int) = (n : Int) := by rw [IntKind.wrap_i64]; omega
  have hneg : ¬ ((n : Int) < 0) := by omega
  have hpow : (2 : Nat) ^ 48 = 281474976710656 := by decide
  have hpowi : (2 : Int) ^ 48 = 281474976710656 := by decide
  have h3 : (len + n) * i.bytes ≤ (len + n + len + len + 1024) * (i.bytes + 1) := Nat.mul_le_mul (by omega) (by omega)
  have h48i : ¬ ((n : Int) * (i.bytes : Int) > 281474976710656) := by
    have h4 : n * i.bytes ≤ (len + n) * i.bytes := Nat.mul_le_mul_right _ (by omega)
    have h5 : (n : Int) * (i.bytes : Int) = ((n * i.bytes : Nat) : Int) := by simp
    rw [h5]; omega
  have h63 : ¬ (((len + n : Nat) : Int) > IntKind.i64.max) := by rw [hmax]; omega
  have h48 : ¬ (Builtin.nextslicecap (len + n) cap * i.bytes > 281474976710656) := by
    have h2 : Builtin.nextslicecap (len + n) cap * i.bytes ≤ 2 * (len + n) * i.bytes := Nat.mul_le_mul_right _ (nextslicecap_le hgrow)
    rw [Nat.mul_assoc] at h2
    omega
  have hz0 : n * i.size = 0 → Builtin.zeroCells z.cells n = #[] := fun h => by
    have : (Builtin.zeroCells z.cells n).size = 0 := by rw [size_zeroCells, hzs, h]
    exact Array.eq_empty_of_size_eq_zero this
  have hnew : ∀ w : World, ((if n * i.size = 0 then pure #[] else (do pure (Builtin.zeroCells (← zeroValue elem).cells n)) : Sem (Array Value))).run E.P w = .ok (Builtin.zeroCells z.cells n) w := fun w => by
    by_cases hc : n * i.size = 0
    · rw [if_pos hc, hz0 hc]; rfl
    · rw [if_neg hc]; simp only [Sem.run_bind, hzv, Result.andThen_ok, Sem.run_pure]
  have hb : (match TypeDesc.int ki with | .int _ => true | _ => false) = true := rfl
  simp only [Builtin.append_, h0, h1, arr2_0, arr2_1, Sem.run_bind, run_underlying hd, run_underlying hu, Result.andThen_ok, Sem.run_pure, hsz, hb, if_true, asInt, asIntOf, hw, if_neg hneg, hti, hpowi, if_neg h48i, Int.toNat_natCast, if_neg hnr, h63, false_and, if_false, hpow, if_neg h48,
    run_choose_drew, Question.forced, run_askRoom, hold, Bool.not_true, Bool.false_eq_true, hnew, hzv, newRow, run_newObj_alloc]
  rfl

theorem appendZ_sound {t0 t1 ty elem : TypeId} {ts : Array TypeId} {i : TypeInfo} {ki : IntKind} {ρ : Ren} {S S' : SW} {w : World} {x y r zs : SV} {xv yv : Value} (h0 : ts[0]? = some t0) (h1 : ts[1]? = some t1) (hd : E.P.underlying t0 = some (.slice elem)) (hu : E.P.underlying t1 = some (.int ki)) (hi : E.P.info? elem = some i) (hz : Sym.zero E elem = some zs) (hzl : zs.cells.length = i.size)
    (hok : Ok E ρ S w) (h : appendZ elem i.size i.bytes zs.cells S x y = some (r, S')) (hf : Fresh ρ S.next S'.next) (hx : VRel ρ x xv) (hy : VRel ρ y yv) :
    ∃ ρ' v w', Ext ρ S w ρ' S' w' ∧ VRel ρ' r v ∧ (Builtin.append_ ts ty #[xv, yv]).run E.P w = .ok v w' := by
  obtain ⟨zv, hzv, hzr⟩ := zero_run hz ρ
  have hiz : i.zero = some zv := by
    have := hzr w
    simp only [zeroValue, typeInfo, Sem.run_bind, run_program, Result.andThen_ok, hi, Sem.run_pure] at this
    split at this
    · rename_i q hq; simp only [Sem.run_pure, Result.ok.injEq] at this; rw [hq, this.1]
    · cases this
  have hcv := hzv.cells (zero_known hz)
  have hzs : zv.cells.size = i.size := by rw [← hzl, hcv.length]; simp
  unfold appendZ at h
  split at h
  · rename_i id off len cap n hn
    obtain ⟨kx, rfl⟩ := asNat_rel hn hy
    split at h
    · cases h
    · rename_i hb
      have hgrow : cap < len + n := by
        apply Nat.lt_of_not_le
        intro hle
        rw [Nat.ble_eq_true_of_le hle] at hb; cases hb
      split at h
      · rename_i old hold
        cases hx with
        | sliceE hp =>
          have hd2 := ext_drew hok.wrel hok.tidy
          have hok2 := hok.ext hd2
          have hx' : VRel ρ (.slice id off len (.exact cap)) (.slice (some ⟨_, _ + off, none⟩) len cap) := .sliceE hp
          obtain ⟨oldv, hov, hor⟩ := firstCells_sound (E := E) hok2 hold hx' rfl (Nat.le_refl _)
          have hol : oldv.length = len * i.size := by rw [← hov.length]; exact firstCells_len hold rfl (Nat.le_refl _) (by rintro ⟨s, hs⟩; cases hs) (by intro h; cases h)
          have hcr := copies_rel hcv n (n * zv.cells.size) rfl
          have hzz : (Builtin.zeroCells zv.cells n) = madeCells zv.cells (n * zv.cells.size) := rfl
          obtain ⟨hb2, ρ', hext, hv⟩ := grow_ext (elem := elem) h hok hf hov hcr hol (by simp [size_madeCells, hzs]) hzs (grownCap w (len + n) cap elem) (grownCap_ge _ _ _ _)
          refine ⟨ρ', _, _, hext, hv, ?_⟩
          have := run_append_zeros (ty := ty) (kx := kx) h0 h1 hd hu hi hiz hzs hgrow hb2 hor
          rw [hzz] at this
          simpa using this
      · cases h
  · cases h

theorem append_sound {x y : Operand} (h : builtinK E cx .append c.argTypes [x, y] = some k) (ho : o.op = .call c) (hc : c.callee = .builtin .append) (ha : c.args.toList = [x, y]) : k.Sound E cx o := by
  simp only [builtinK] at h
  split at h
  · rename_i f g t0 t1 hf0 hg0 hts
    have ht1 : c.argTypes[1]? = some t1 := by rw [← Array.getElem?_toList, hts]; rfl
    split at h
    · rename_i elem u hd hu
      split at h
      · rename_i ki
        split at h
        · rename_i i z hi hz
          split at h
          · rename_i hb1 hb2
            have hb2 := Nat.eq_of_beq_eq_true hb2
            rw [force_eq, force_eq] at h
            simp only [Option.some.injEq] at h; subst h
            intro ρ e fr a r S S' w hg hok hr hf
            dsimp only at hr
            obtain ⟨ρ', v, w', h1, h2, h3⟩ := appendZ_sound (ty := o.type) (types1 hts) ht1 hd hu hi hz hb2 hok hr hf (opd_sound hf0 (hg x (call_operands ho (by simp [ha])))) (opd_sound hg0 (hg y (call_operands ho (by simp [ha]))))
            obtain ⟨cs, hrn⟩ := run_builtin (E := E) ho hc a
            refine ⟨ρ', v, w', h1, h2, .inl ?_⟩
            rw [hrn, map_args2 ha]
            exact run_v h3
          · cases h
        · cases h
      · rename_i hnu
        split at h
        · rename_i i z hi hz
          split at h
          · rename_i hb1 hb2
            have hb1 := Nat.le_of_ble_eq_true hb1
            have hb2 := Nat.eq_of_beq_eq_true hb2
            rw [force_eq, force_eq] at h
            simp only [Option.some.injEq] at h; subst h
            intro ρ e fr a r S S' w hg hok hr hf
            dsimp only at hr
            obtain ⟨ρ', v, w', h1, h2, h3⟩ := appendV_sound (ty := o.type) (types1 hts) ht1 hd hu hi hz hb2 (fun k hk => hnu k hk) rfl rfl hb1 hok hr hf (opd_sound hf0 (hg x (call_operands ho (by simp [ha])))) (opd_sound hg0 (hg y (call_operands ho (by simp [ha]))))
            obtain ⟨cs, hrn⟩ := run_builtin (E := E) ho hc a
            refine ⟨ρ', v, w', h1, h2, .inl ?_⟩
            rw [hrn, map_args2 ha]
            exact run_v h3
          · cases h
        · cases h
    · cases h
  · cases h
end
end Go.RX
