/- Conversions, calls, and all operations. -/
import Derived.Test.YtjfagagjmdddcaaGreatDoorRxOps12
set_option linter.all false
namespace Go.RX
open Sym
section
variable {E : Env} {cx : Cx} {o : Oper} {k : KOp} {c : Call}

theorem bytesOf_rel {ρ : Ren} : ∀ {l : List SV} {b : List UInt8} {vs : List Value}, bytesOf l = some b → VRels ρ l vs → ∃ ns : List Int, vs = ns.map (Value.int .u8) ∧ b = ns.map fun n => UInt8.ofNat n.toNat
  | [], b, _, h, .nil => by
    simp [bytesOf] at h; subst h
    exact ⟨[], rfl, rfl⟩
  | x :: l, b, _, h, .cons hx hs => by
    unfold bytesOf at h
    split at h
    · rename_i heq; cases heq
    · rename_i n vs heq
      cases heq
      cases hx
      split at h
      · rename_i l' hl
        simp only [Option.some.injEq] at h; subst h
        obtain ⟨ns, h1, h2⟩ := bytesOf_rel hl hs
        exact ⟨n :: ns, by simp [h1], by simp [h2]⟩
      · cases h
    · cases h

theorem fold_push : ∀ (ns : List Int) (s : ByteArray), ns.foldl (fun r n => r.push (UInt8.ofNat n.toNat)) s = ⟨s.data ++ (ns.map fun n => UInt8.ofNat n.toNat).toArray⟩
  | [], s => by simp
  | n :: ns, s => by
    simp only [List.foldl_cons]
    rw [fold_push ns]
    congr 1
    apply Array.ext'
    simp [ByteArray.push]

theorem freeze_alloc (w : World) (arr : Array Value) (el : TypeId) : (w.alloc (.cells arr el)).freeze ⟨w.heap.size, arr.size, none⟩ 1 = w.alloc (.cells arr el (arr.size, arr.size + 1)) := by
  simp only [World.freeze, World.alloc]
  rw [if_neg (by omega)]
  congr 1
  apply Array.ext
  · simp
  · intro i h1 h2
    rw [Array.getElem_modify]
    by_cases hi : w.heap.size = i
    · subst hi; simp
    · rw [if_neg hi]
      have : i < w.heap.size := by simp at h2; omega
      rw [Array.getElem_push_lt this, Array.getElem_push_lt this]

theorem bytes_rel (ρ : Ren) : ∀ l : List UInt8, VRels ρ (l.map fun b => SV.int .u8 b.toNat) (l.map fun b => Value.int .u8 b.toNat)
  | [] => .nil
  | b :: l => .cons (.int _ _) (bytes_rel ρ l)

theorem kop_convert {src dst : TypeId} {x : Operand} (h : kop0 E cx o = some k) (ho : o.op = .convert src dst x) : k.Sound E cx o := by
  simp only [kop0, ho] at h
  split at h
  · rename_i f hf0
    have hG : ∀ {ρ e fr a}, Goods ρ cx e fr a o → VRel ρ (f e fr) (a.eval x) := fun hg => opd_sound hf0 (hg x (by simp [ho, Op.operands]))
    unfold convertK at h
    split at h
    · rename_i us ud hus hud
      split at h
      · simp only [Option.some.injEq] at h; subst h
        intro ρ e fr a r hE hg hr
        dsimp only at hr
        have h1 := hG hg
        split at hr
        · rename_i j n e1; rw [e1] at h1
          rw [wrapped_eq] at hr
          simp only [Option.some.injEq] at hr; subst hr
          generalize hb : a.eval x = b at h1
          cases h1
          refine ⟨_, .int _ _, fun w => ?_⟩
          simp only [execOp, ho, hb]
          refine run_v ?_
          simp [convert, run_underlying hus, run_underlying hud, Conv.intToInt]
        · rename_i k1 e0 e1; rw [e1] at h1
          simp only [Option.some.injEq] at hr; subst hr
          generalize hb : a.eval x = b at h1
          cases h1
          refine ⟨_, .sint _ _, fun w => ?_⟩
          simp only [execOp, ho, hb, IE.val]
          refine run_v ?_
          simp [convert, run_underlying hus, run_underlying hud, Conv.intToInt]
        · cases hr
      · split at h
        · rename_i el
          split at h
          · rename_i hel
            simp only [Option.some.injEq] at h; subst h
            intro ρ e fr a r S w hg hok hr
            dsimp only at hr
            have h1 := hG hg
            split at hr
            · rename_i e1; rw [e1] at h1
              simp only [Option.some.injEq] at hr; subst hr
              generalize hb : a.eval x = b at h1
              cases h1
              refine ⟨_, .string _, ?_⟩
              simp only [execOp, ho, hb]
              refine run_v ?_
              rw [run_convert_bytes_string w src dst el none 0 0 hus hel hud]
              rfl
            · rename_i id off len cp e1; rw [e1] at h1
              unfold cellsAt at hr
              split at hr
              · rename_i cs ee hca
                split at hca
                · rename_i cs' e' hobj
                  simp only [Option.some.injEq, Prod.mk.injEq] at hca
                  obtain ⟨rfl, rfl⟩ := hca
                  split at hr
                  · rename_i l hl
                    split at hr
                    · rename_i b hb9
                      simp only [Option.some.injEq] at hr; subst hr
                      obtain ⟨bb, ofs, tt, xa, cap, hp, hve, hadr⟩ := slice_addr h1
                      obtain ⟨ob, ho1, ho2⟩ := hok.wrel.obj _ _ _ hobj hp
                      cases ho2 with
                      | cells arr el2 fz ht hlen hfz hmk hc =>
                        obtain ⟨vs, g1, g2, g3⟩ := Holds.seg (show Holds ρ cs' ofs arr from hc) hl
                        obtain ⟨ns, hns, hbn⟩ := bytesOf_rel hb9 g2
                        refine ⟨_, .string _, ?_⟩
                        simp only [execOp, ho, hve]
                        refine run_v ?_
                        rw [run_convert_bytes_string w src dst el _ _ _ hus hel hud]
                        have hload : (loadCells ⟨bb, xa, none⟩ len).run E.P w = .ok (ns.map (Value.int .u8)).toArray w := by
                          rw [← hns]
                          by_cases h0 : len = 0
                          · subst h0
                            have : vs = [] := List.eq_nil_of_length_eq_zero g1
                            subst this
                            rfl
                          · rw [hadr h0, ← g1]
                            exact run_loadCells_win E.P ho1 vs g3
                        rw [run_bytesToString w _ len cap ns hload, fold_push, hbn]
                        congr 3
                        apply Array.ext'
                        simp
                    · cases hr
                  · cases hr
                · cases hca
              · cases hr
            · cases hr
          · cases h
        · simp only [Option.some.injEq] at h; subst h
          intro ρ e fr a r hE hg hr
          dsimp only at hr
          have h1 := hG hg
          split at hr
          · rename_i s e1; rw [e1] at h1
            simp only [Option.some.injEq] at hr; subst hr
            generalize hb : a.eval x = b at h1
            cases h1
            refine ⟨_, .string _, fun w => ?_⟩
            simp only [execOp, ho, hb]
            refine run_v ?_
            simp [convert, run_underlying hus, run_underlying hud]
          · cases hr
      · rename_i el
        split at h
        · rename_i hel
          simp only [Option.some.injEq] at h; subst h
          intro ρ e fr a r S S' w hg hok hr hf
          dsimp only at hr
          have h1 := hG hg
          split at hr
          · rename_i s e1; rw [e1] at h1
            split at hr
            · rename_i id S1 hnew
              rw [force_eq] at hr
              simp only [Option.some.injEq, Prod.mk.injEq] at hr
              obtain ⟨rfl, rfl⟩ := hr
              generalize hb : a.eval x = b at h1
              cases h1
              have hd := ext_drew hok.wrel hok.tidy
              have hok2 := hok.ext hd
              let arr : Array Value := s.data.map (fun b => Value.int .u8 b.toNat) ++ Array.replicate (grownCap w s.size 0 el - s.size) (.int .u8 0)
              have hge : s.size ≤ grownCap w s.size 0 el := grownCap_ge _ _ _ _
              have hds : s.data.size = s.size := rfl
              have hsz : arr.size = grownCap w s.size 0 el := by
                simp only [arr, Array.size_append, Array.size_map, Array.size_replicate, hds]
                omega
              have hh : Holds ρ (s.data.toList.map fun b => SV.int .u8 b.toNat) 0 arr := fun k x e => by
                obtain ⟨v, g1, g2⟩ := (bytes_rel ρ s.data.toList).get e
                have hlt := (List.getElem?_eq_some_iff.1 g1).1
                refine ⟨v, ?_, g2⟩
                rw [Nat.zero_add, ← Array.getElem?_toList]
                simp only [arr, Array.toList_append, Array.toList_map]
                rw [List.getElem?_append_left (by simpa using hlt)]
                exact g1
              obtain ⟨ρ', hext, hid⟩ := new_cells' hok2 hnew hf el arr (arr.size, arr.size + 1) (fun k hk hk2 => by simp at hk2; omega) (by rw [hsz]; simp [hds]; exact hge) hh (fun h => absurd rfl h)
              rw [hsz] at hid
              refine ⟨ρ', _, _, hd.trans hext, .sliceT (x := 0) (cap := grownCap w s.size 0 el) hid (by simp) hge hge (.inl rfl), .inl ?_⟩
              simp only [execOp, ho, hb]
              refine run_v ?_
              have hconv : (convert src dst (.string s)).run E.P w = (Conv.stringToBytes el s).run E.P w := by
                simp [convert, run_underlying hus, run_underlying hud, run_underlying hel]
              rw [hconv]
              have hsh : (w.drew.alloc (.cells arr el)).shape? w.heap.size = some (el, arr.size) := by
                have := heap_alloc_new w.drew (.cells arr el)
                simp only [World.shape?]
                have h9 : w.drew.heap.size = w.heap.size := rfl
                rw [h9] at this
                rw [this]
              have hfz := freeze_alloc w.drew arr el
              simp only [World.size_drew] at hfz
              simp only [Conv.stringToBytes, Sem.run_bind, run_choose_drew, Question.forced, Bool.false_eq_true, if_false, Result.andThen_ok, newRow, run_newObj_alloc, Sem.run_pure, markStringish, run_shape, World.size_drew]
              have hcut : (Question.appendCap s.size 0 el).cut (w.tape w.drawn (.appendCap s.size 0 el)) = grownCap w s.size 0 el := rfl
              rw [hcut]
              show ((match (w.drew.alloc (.cells arr el)).shape? w.heap.size with | some (_, n) => freeze { block := w.heap.size, off := n } 1 | _ => pure () : Sem Unit).run E.P (w.drew.alloc (.cells arr el))).andThen _ = _
              rw [hsh]
              simp only [run_freeze, Result.andThen_ok, hfz]
            · cases hr
          · cases hr
        · cases h
      · cases h
    · cases h
  · cases h

theorem run_value_call (ho : o.op = .call c) {f : Operand} (hc : c.callee = .value f) (a : Act) (w : World) :
    (execOp a.eval o).run E.P w = ((do let d ← Deferred.ofValue (a.eval f) (c.args.map a.eval); invoke d.target d.args : Sem Next)).run E.P w := by
  simp only [execOp, ho, resolve, hc]

theorem memNat_mem {t : Nat} : ∀ {l : List Nat}, memNat t l = true → t ∈ l
  | [], h => by cases h
  | x :: l, h => by
    simp only [memNat] at h
    split at h
    · rename_i hb; rw [Nat.eq_of_beq_eq_true hb]; exact List.mem_cons_self
    · exact List.mem_cons_of_mem _ (memNat_mem h)

theorem overlapV_sound {ρ : Ren} {S : SW} {w : World} {args : List SV} {vals : List Value} {x : SV} {f : FuncId} (hok : Ok E ρ S w) (hf : OverOk E.P f) (hv : VRels ρ args vals) (h : overlapV S args = some x) :
    ∃ v, VRel ρ x v ∧ (callFunc f vals.toArray).run E.P w = .ok (.value v) w := by
  unfold overlapV at h
  split at h
  · rename_i a o1 n1 c1 b o2 n2 c2
    split at h
    · rename_i cs el d ds el2 ha hb hne
      split at h
      · rename_i hel
        simp only [Option.some.injEq] at h; subst h
        cases hv with
        | cons h1 hs =>
          cases hs with
          | cons h2 hs =>
            cases hs
            obtain ⟨ba, oa, ta, xa, ca, hpa, rfl, -⟩ := slice_addr h1
            obtain ⟨bb, ob, tb, xb, cb, hpb, rfl, -⟩ := slice_addr h2
            obtain ⟨oba, ka1, ka2⟩ := hok.wrel.obj _ _ _ ha hpa
            obtain ⟨obb, kb1, kb2⟩ := hok.wrel.obj _ _ _ hb hpb
            cases ka2 with
            | cells arr elw fz hts hlen hfz hmk hc =>
              cases kb2 with
              | cells arr2 elw2 fz2 hts2 hlen2 hfz2 hmk2 hc2 =>
                have hel0 : el ≠ 0 := fun e => by subst e; simp at hel
                have hnb : ba ≠ bb := fun e => by
                  have := hok.wrel.inj a b _ _ (by rw [← hget_eq, ha]; simp) (by rw [← hget_eq, hb]; simp) hpa hpb e
                  subst this
                  simp at hne
                have hfa : ∀ x, w.frozen? ⟨ba, x, none⟩ = false := fun x => by
                  have := hmk hel0 x
                  obtain ⟨lo, hi⟩ := fz
                  simp only [World.frozen?, ka1]
                  simp at this ⊢
                  exact this
                refine ⟨_, .bool false, hf w ba xa n1 ca bb xb n2 cb elw elw2 arr.size arr2.size hnb (by simp [World.shape?, ka1]) (by simp [World.shape?, kb1]) (by simp at hlen2; omega) (hfa _) (hfa _)⟩
      · cases h
    · cases h
  · cases h

theorem kop_call (h : kop0 E cx o = some k) (ho : o.op = .call c) : k.Sound E cx o := by
  simp only [kop0, ho] at h
  split at h
  · rename_i g hg0
    have hA : ∀ {ρ e fr a}, Goods ρ cx e fr a o → VRels ρ (g e fr) (c.args.toList.map a.eval) := fun hg => opds_sound hg0 fun q hq => hg q (call_operands ho hq)
    split at h
    · rename_i b hc
      unfold builtinK at h
      split at h
      · rename_i x ha
        exact len_sound (x := x) (by simpa only [builtinK] using h) ho hc ha
      · rename_i x ha
        exact cap_sound (x := x) (by simpa only [builtinK] using h) ho hc ha
      · rename_i x y ha
        exact append_sound (x := x) (y := y) (by simpa only [builtinK] using h) ho hc ha
      · rename_i x y ha
        exact copy_sound (x := x) (y := y) (by simpa only [builtinK] using h) ho hc ha
      · rename_i x ha
        exact clear_sound (x := x) (by simpa only [builtinK] using h) ho hc ha
      · rename_i x y ha
        exact delete_sound (x := x) (y := y) (by simpa only [builtinK] using h) ho hc ha
      · rename_i x rest ha
        exact min_sound (x := x) (rest := rest) (by simpa only [builtinK] using h) ho hc ha
      · rename_i x rest ha
        exact max_sound (x := x) (rest := rest) (by simpa only [builtinK] using h) ho hc ha
      · cases h
    · rename_i f hc
      split at h
      · rename_i f'
        split at h
        · rename_i hov
          simp only [Option.some.injEq] at h; subst h
          intro ρ e fr a x S w hg hok hr
          dsimp only at hr
          obtain ⟨v, h1, h2⟩ := overlapV_sound hok (hok.num.overs f' (memNat_mem hov)) (hA hg) hr
          refine ⟨v, h1, ?_⟩
          rw [run_value_call ho hc]
          simp only [Act.eval, Deferred.ofValue, Sem.run_bind, Sem.run_pure, Result.andThen_ok, invoke]
          rw [← h2]
          congr 2
          apply Array.ext'
          simp
        · simp only [Option.some.injEq] at h; subst h
          intro ρ e fr a C x S S' w hg hr
          dsimp only at hr
          refine ⟨g e fr, c.args.toList.map a.eval, hA hg, .inl ⟨f', hr, ?_⟩⟩
          rw [run_value_call ho hc]
          simp only [Act.eval, Deferred.ofValue, Sem.run_bind, Sem.run_pure, Result.andThen_ok, invoke]
          congr 2
          apply Array.ext'
          simp
      · split at h
        · rename_i hh hf0
          simp only [Option.some.injEq] at h; subst h
          intro ρ e fr a C x S S' w hg hr
          dsimp only at hr
          have h1 := opd_sound hf0 (hg f (by rw [ho]; simp [Op.operands, Call.operands, hc]))
          split at hr
          · rename_i fn fi cap e1; rw [e1] at h1
            generalize hb : a.eval f = b at h1
            cases h1 with
            | func _ hfi hcap =>
              refine ⟨_, _, hfi.append ((hA hg).append hcap), .inl ⟨fn, hr, ?_⟩⟩
              rw [run_value_call ho hc, hb]
              simp only [Deferred.ofValue, Sem.run_bind, Sem.run_pure, Result.andThen_ok, invoke]
              congr 2
              apply Array.ext'
              simp
          · rename_i l e1; rw [e1] at h1
            generalize hb : a.eval f = b at h1
            cases h1 with
            | yield hp =>
              refine ⟨_, _, hA hg, .inr ⟨l, _, hr, hp, ?_⟩⟩
              rw [run_value_call ho hc, hb]
              simp only [Deferred.ofValue, Sem.run_bind, Sem.run_pure, Result.andThen_ok, invoke]
              congr 2
              apply Array.ext'
              simp
          · cases hr
        · cases h
    · cases h
  · cases h

theorem kop0_sound (h : kop0 E cx o = some k) : k.Sound E cx o := by
  cases ho : o.op with
  | move x => exact kop_move h ho
  | assign x => exact kop_assign h ho
  | pick a b c => exact kop_pick h ho
  | alloc t => exact kop_alloc h ho
  | box t x => exact kop_box h ho
  | build t ps => exact kop_build h ho
  | buildSlice t l ps => exact kop_buildSlice h ho
  | insert t m x y => exact kop_insert h ho
  | load t a => exact kop_load h ho
  | store t a v => exact kop_store h ho
  | nilCheck x => exact kop_nilCheck h ho
  | binOp op t x y t' => exact kop_binOp h ho
  | unOp op t x => exact kop_unOp h ho
  | convert a b x => exact kop_convert h ho
  | makeInterface t x => exact kop_makeInterface h ho
  | makeFunc f a b => exact kop_makeFunc h ho
  | makeMap t r => exact kop_makeMap h ho
  | makeSlice t a b => exact kop_makeSlice h ho
  | slice t x a b c => exact kop_slice h ho
  | fieldAddr t x f => exact kop_fieldAddr h ho
  | field t x f => exact kop_field h ho
  | indexAddr t x i => exact kop_indexAddr h ho
  | index t x i => exact kop_index h ho
  | lookup t x i b => exact kop_lookup h ho
  | mapUpdate t m x y => exact kop_mapUpdate h ho
  | range t x => exact kop_range h ho
  | next x b => exact kop_next h ho
  | extract x i => exact kop_extract h ho
  | mapEntry t x y => exact kop_mapEntry h ho
  | entryStore t x y z => exact kop_entryStore h ho
  | call c => exact kop_call h ho
  | _ => simp [kop0, ho] at h

theorem kop_some (h : kop E cx o = some k) : kop0 E cx o = some k ∨ (k = .full fun _ _ _ => none) := by
  unfold kop at h
  split at h
  · rename_i k' hk
    simp only [Option.some.injEq] at h; subst h
    exact .inl hk
  · split at h
    · cases h
    · simp only [Option.some.injEq] at h; subst h
      exact .inr rfl

theorem kop_sound (h : kop E cx o = some k) : k.Sound E cx o := by
  rcases kop_some h with h | rfl
  · exact kop0_sound h
  · intro ρ e fr a x S S' w _ _ hr
    cases hr
end
end Go.RX
