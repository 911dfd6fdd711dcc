/- Operations that write: composite rows, maps, stores, iterators, conversions. -/
import Derived.Test.YtjfagagjmdddcaaGreatDoorRxOps9
set_option linter.all false
namespace Go.RX
open Sym
section
variable {E : Env} {cx : Cx} {o : Oper} {k : KOp}

theorem kop_buildSlice {t : TypeId} {len : Nat} {ps : Array (Nat × Operand)} (h : kop0 E cx o = some k) (ho : o.op = .buildSlice t len ps) : k.Sound E cx o := by
  simp only [kop0, ho] at h
  split at h
  · rename_i g elem hp hd
    split at h
    · rename_i size z hsize hz
      split at h
      · rename_i hb1 hb2 hsc
        have hb1 := Nat.le_of_ble_eq_true hb1
        have hb2 := Nat.eq_of_beq_eq_true hb2
        simp only [Option.some.injEq] at h; subst h
        intro ρ e fr a r S S' w hg hok hr hf
        dsimp only at hr
        have hps := parts_sound hp (fun q hq => hg q.2 (by simp only [ho, Op.operands]; simpa using ⟨q.1, by simpa using hq⟩))
        obtain ⟨zv, hzv, hzr⟩ := zero_run hz ρ
        have hcv := hzv.cells (zero_known hz)
        have hzs : zv.cells.size = size := by rw [← hb2, hcv.length]; simp
        have hrel := copies_rel hcv len (len * size) (by rw [hzs])
        split at hr
        · rename_i cs hfill
          obtain ⟨cs', hf1, hf2⟩ := fill_sound _ hfill hps hrel
          split at hr
          · split at hr
            · rename_i id S1 hn
              simp only [Option.some.injEq, Prod.mk.injEq] at hr
              obtain ⟨rfl, rfl⟩ := hr
              obtain ⟨ρ', hext, hid⟩ := new_cells hok hn hf cs' (0, 0) (nofz' _) (by simpa using Nat.le_of_eq hf2.length) hf2.holds
              refine ⟨ρ', _, _, hext, .sliceE hid, .inl ?_⟩
              simp only [execOp, ho]
              refine run_v ?_
              have hno : ¬ (len * size > 16777216) := by omega
              have hpow : (2 : Nat) ^ 24 = 16777216 := by decide
              simp only [Instr.buildSlice, Sem.run_bind, run_underlying hd, sizeOf_run hsize, Result.andThen_ok, hpow, if_neg hno, Sem.run_ite, Array.toList_map]
              by_cases h0 : len * size = 0
              · rw [if_pos h0]
                simp only [Sem.run_pure, Result.andThen_ok]
                have : (Array.range (len * size)).map (fun x => (#[] : Array Value)[x % (#[] : Array Value).size]!) = madeCells zv.cells (len * size) := by
                  rw [h0]; simp [madeCells]
                rw [this, hf1]
                rfl
              · rw [if_neg h0]
                simp only [hzr, Sem.run_pure, Result.andThen_ok]
                have : (Array.range (len * size)).map (fun x => zv.cells[x % zv.cells.size]!) = madeCells zv.cells (len * size) := rfl
                rw [this, hf1]
                rfl
            · cases hr
          · cases hr
        · cases hr
      · cases h
    · cases h
  · cases h

/-! ### Objects that are no cells -/
theorem new_obj {ρ : Ren} {S S' : SW} {w : World} {x : SObj} {ob : Obj} {id : Nat} (hok : Ok E ρ S w) (h : Sym.new S x = some (id, S')) (hf : Fresh ρ S.next S'.next)
    (ho : ∀ ρ', ρ.le ρ' → ORel ρ' x (w.heap.size, 0, 0) ob) : ∃ ρ', Ext ρ S w ρ' S' (w.alloc ob) ∧ ρ' id = some (w.heap.size, 0, 0) := by
  have h0 := Fresh.one h hf
  obtain ⟨rfl, -⟩ := new_some h
  exact ⟨ρ.set S.next (w.heap.size, 0, 0), ext_new hok.wrel hok.tidy h0 h rfl (ho _ (Ren.le_set h0)), Ren.set_same _ _ _⟩

theorem kop_makeMap {t : TypeId} {hint : Option Operand} (h : kop0 E cx o = some k) (ho : o.op = .makeMap t hint) : k.Sound E cx o := by
  simp only [kop0, ho] at h
  split at h
  · simp only [Option.some.injEq] at h; subst h
    intro ρ e fr a r S S' w hg hok hr hf
    dsimp only at hr
    split at hr
    · rename_i id S1 hn
      simp only [Option.some.injEq, Prod.mk.injEq] at hr
      obtain ⟨rfl, rfl⟩ := hr
      obtain ⟨ρ', hext, hid⟩ := new_obj (ob := .map #[] 0) hok hn hf (fun ρ' _ => .map #[] 0 .nil)
      refine ⟨ρ', _, _, hext, .map hid, .inl ?_⟩
      simp only [execOp, ho]
      exact run_v rfl
    · cases hr
  · split at h
    · rename_i hh f x1 x2 hf0 hd
      simp only [Option.some.injEq] at h; subst h
      intro ρ e fr a r S S' w hg hok hr hf
      dsimp only at hr
      have h1 := opd_sound hf0 (hg _ (by simp [ho, Op.operands]))
      split at hr
      · rename_i n hn0
        obtain ⟨kk, hkk⟩ := asNat_rel hn0 h1
        split at hr
        · rename_i id S1 hn
          simp only [Option.some.injEq, Prod.mk.injEq] at hr
          obtain ⟨rfl, rfl⟩ := hr
          obtain ⟨ρ', hext, hid⟩ := new_obj (ob := .map #[] 0) hok hn hf (fun ρ' _ => .map #[] 0 .nil)
          refine ⟨ρ', _, _, hext, .map hid, .inl ?_⟩
          simp only [execOp, ho, Option.map_some, hkk]
          refine run_v ?_
          simp only [Instr.makeMap, Sem.run_bind, run_underlying hd, Result.andThen_ok, asInt, asIntOf, Sem.run_pure, run_newObj_alloc]
        · cases hr
      · cases hr
    · cases h

/-- A block's object is another. -/
def setBlock (w : World) (b : Nat) (ob : Obj) : World := { w with heap := w.heap.setIfInBounds b ob }
theorem setBlock_same (w : World) (b : Nat) (ob : Obj) : SameBut b w (setBlock w b ob) :=
  ⟨rfl, rfl, rfl, by simp [setBlock], fun k hk => by simp only [setBlock]; rw [Array.getElem?_setIfInBounds_ne (fun h => hk h.symm)]⟩
theorem setBlock_at {w : World} {b : Nat} {ob ob' : Obj} (h : w.heap[b]? = some ob') : (setBlock w b ob).heap[b]? = some ob := by
  have := (Array.getElem?_eq_some_iff.1 h).1
  simp [setBlock, this]
theorem run_setObj {P : Program} {w : World} {b : Nat} {ob ob' : Obj} (h : w.heap[b]? = some ob') (hc : ∀ c e f, ob' ≠ .cells c e f) : (setObj b ob).run P w = .ok () (setBlock w b ob) := by
  simp only [setObj, Sem.run, h]
  cases ob' <;> first | rfl | exact absurd rfl (hc _ _ _)
theorem run_getObj {P : Program} {w : World} {b : Nat} {ob : Obj} (h : w.heap[b]? = some ob) (hc : ∀ c e f, ob ≠ .cells c e f) : (getObj b).run P w = .ok ob w := by
  unfold getObj
  simp only [Sem.run]
  rw [h]
  cases ob <;> first | rfl | exact absurd rfl (hc _ _ _)

theorem kop_range {t : TypeId} {x : Operand} (h : kop0 E cx o = some k) (ho : o.op = .range t x) : k.Sound E cx o := by
  simp only [kop0, ho] at h
  split at h
  · rename_i f hf0 hd
    simp only [Option.some.injEq] at h; subst h
    intro ρ e fr a r S S' w hg hok hr hf
    dsimp only at hr
    have h1 := opd_sound hf0 (hg x (by simp [ho, Op.operands]))
    split at hr
    · rename_i s e1; rw [e1] at h1
      unfold ptrTo at hr
      split at hr
      · rename_i id S1 hn
        simp only [Option.some.injEq, Prod.mk.injEq] at hr
        obtain ⟨rfl, rfl⟩ := hr
        obtain ⟨ρ', hext, hid⟩ := new_obj (ob := .stringIter s 0) hok hn hf (fun ρ' _ => .strIter s 0)
        generalize hb : a.eval x = b at h1
        cases h1
        refine ⟨ρ', _, _, hext, .ptr hid, .inl ?_⟩
        simp only [execOp, ho, hb]
        refine run_v ?_
        simp only [Instr.range, Sem.run_bind, run_underlying hd, Result.andThen_ok, Sem.run_pure, run_newObj_alloc]
      · cases hr
    · cases hr
  · rename_i f kt et hf0 hd
    simp only [Option.some.injEq] at h; subst h
    intro ρ e fr a r S S' w hg hok hr hf
    dsimp only at hr
    have h1 := opd_sound hf0 (hg x (by simp [ho, Op.operands]))
    split at hr
    · rename_i e1; rw [e1] at h1
      unfold ptrTo at hr
      split at hr
      · rename_i id S1 hn
        simp only [Option.some.injEq, Prod.mk.injEq] at hr
        obtain ⟨rfl, rfl⟩ := hr
        obtain ⟨ρ', hext, hid⟩ := new_obj (ob := .mapIter none 0 #[] 0) hok hn hf (fun ρ' _ => .mapIterNil 0 [] 0)
        generalize hb : a.eval x = b at h1
        cases h1
        refine ⟨ρ', _, _, hext, .ptr hid, .inl ?_⟩
        simp only [execOp, ho, hb]
        refine run_v ?_
        simp only [Instr.range, Sem.run_bind, run_underlying hd, Result.andThen_ok, Sem.run_pure, run_newObj_alloc]
      · cases hr
    · rename_i m e1; rw [e1] at h1
      generalize hb : a.eval x = b at h1
      cases h1 with
      | map hp =>
        split at hr
        · rename_i es c hobj
          obtain ⟨ob, ho1, ho2⟩ := hok.wrel.obj _ _ _ hobj hp
          cases ho2 with
          | map arr c her =>
            have hgo := run_getObj (P := E.P) ho1 (by simp)
            unfold ptrTo at hr
            split at hr
            · rename_i id S1 hn
              simp only [Option.some.injEq, Prod.mk.injEq] at hr
              obtain ⟨rfl, rfl⟩ := hr
              obtain ⟨ρ', hext, hid⟩ := new_obj (ob := .mapIter (some _) c #[] c) hok hn hf (fun ρ' hle => .mapIter c [] c (hle _ _ hp))
              refine ⟨ρ', _, _, hext, .ptr hid, .inl ?_⟩
              simp only [execOp, ho, hb]
              refine run_v ?_
              simp only [Instr.range, Sem.run_bind, run_underlying hd, Result.andThen_ok, Sem.run_pure, hgo, run_newObj_alloc]
            · cases hr
        · cases hr
    · cases hr
  · cases h

theorem nextM_sound {ρ : Ren} {S S' : SW} {w : World} {x r : SV} {xv : Value} (hok : Ok E ρ S w) (h : nextM S x = some (r, S')) (hx : VRel ρ x xv) (ty : TypeId) :
    ∃ v w', Ext ρ S w ρ S' w' ∧ VRel ρ r v ∧ (Instr.next xv false ty).run E.P w = .ok v w' := by
  unfold nextM at h
  split at h
  · rename_i id
    cases hx with
    | ptr hp =>
      split at h
      · rename_i s0 l0 la0 hobj
        simp only [Option.some.injEq, Prod.mk.injEq] at h
        obtain ⟨rfl, rfl⟩ := h
        obtain ⟨ob, ho1, ho2⟩ := hok.wrel.obj id _ _ hobj hp
        cases ho2 with
        | mapIterNil =>
          have hgo := run_getObj (P := E.P) ho1 (by simp)
          exact ⟨_, w, hok.refl_ext, .tuple (.cons (.bool false) .nil), by simp only [Instr.next, Sem.run_bind, hgo, Result.andThen_ok, Sem.run_pure]⟩
      · rename_i m since seen last hobj
        obtain ⟨ob, ho1, ho2⟩ := hok.wrel.obj id _ _ hobj hp
        cases ho2 with
        | @mapIter _ _ rr _ _ _ hm =>
          have hgo := run_getObj (P := E.P) ho1 (by simp)
          split at h
          · rename_i es clock hmap
            obtain ⟨ob2, hm1, hm2⟩ := hok.wrel.obj m _ _ hmap hm
            cases hm2 with
            | map arr clock her =>
              have hgm := run_getObj (P := E.P) hm1 (by simp)
              split at h
              · simp only [Option.some.injEq, Prod.mk.injEq] at h
                obtain ⟨rfl, rfl⟩ := h
                have harr : arr = #[] := by
                  cases hl : arr.toList with
                  | nil => exact Array.toList_eq_nil_iff.1 hl
                  | cons e es' => rw [hl] at her; cases her
                subst harr
                refine ⟨_, w, hok.refl_ext, .tuple (.cons (.bool false) .nil), ?_⟩
                simp [Instr.next, hgo, hgm, Question.forced]
              · rename_i k v n
                split at h
                · rename_i hb
                  have hb := Nat.le_of_ble_eq_true hb
                  split at h
                  · rename_i S1 hput
                    simp only [Option.some.injEq, Prod.mk.injEq] at h
                    obtain ⟨rfl, rfl⟩ := h
                    have hso := run_setObj (P := E.P) (ob := .mapIter (some rr) since #[n] clock) ho1 (by simp)
                    cases hl : arr.toList with
                    | nil => rw [hl] at her; cases her
                    | cons e es' =>
                      rw [hl] at her
                      cases her with
                      | cons hk hv hn hs =>
                        cases hs
                        have harr : arr = #[e] := by
                          apply Array.ext'; simp [hl]
                        subst harr
                        subst hn
                        refine ⟨_, _, ext_put hok.wrel hok.tidy hobj hp hput (setBlock_same w _ _) (setBlock_at ho1) (.mapIter since [e.born] clock hm), .tuple (.cons (.bool true) (.cons hk (.cons hv .nil))), ?_⟩
                        have h1 : e.born < since := by omega
                        have h2 : ¬ (since ≤ e.born) := by omega
                        simp [Instr.next, hgo, hgm, Question.forced, h1, h2, hso]
                  · cases h
                · cases h
              · rename_i k v n n'
                split at h
                · rename_i hb1 hb2
                  have hb1 := Nat.eq_of_beq_eq_true hb1
                  have hb2 := Nat.le_of_ble_eq_true hb2
                  simp only [Option.some.injEq, Prod.mk.injEq] at h
                  obtain ⟨rfl, rfl⟩ := h
                  subst hb1
                  cases hl : arr.toList with
                  | nil => rw [hl] at her; cases her
                  | cons e es' =>
                    rw [hl] at her
                    cases her with
                    | cons hk hv hn hs =>
                      cases hs
                      have harr : arr = #[e] := by
                        apply Array.ext'; simp [hl]
                      subst harr
                      subst hn
                      refine ⟨_, w, hok.refl_ext, .tuple (.cons (.bool false) .nil), ?_⟩
                      have h1 : ¬ (last ≤ e.born) := by omega
                      simp [Instr.next, hgo, hgm, Question.forced, h1]
                · cases h
              · cases h
          · cases h
      · cases h
  · cases h

theorem kop_next {x : Operand} {isString : Bool} (h : kop0 E cx o = some k) (ho : o.op = .next x isString) : k.Sound E cx o := by
  simp only [kop0, ho] at h
  split at h
  · rename_i f hf0
    simp only [Option.some.injEq] at h; subst h
    intro ρ e fr a r S S' w hg hok hr hf
    dsimp only at hr
    have h1 := opd_sound hf0 (hg x (by simp [ho, Op.operands]))
    unfold nextV at hr
    split at hr
    · rename_i id e1; rw [e1] at h1
      generalize hb : a.eval x = b at h1
      cases h1 with
      | ptr hp =>
        split at hr
        · rename_i s pos hobj
          obtain ⟨ob, ho1, ho2⟩ := hok.wrel.obj id _ _ hobj hp
          cases ho2 with
          | strIter =>
            have hgo := run_getObj (P := E.P) ho1 (by simp)
            split at hr
            · rename_i hlt
              have hlt := Nat.le_of_ble_eq_true hlt
              rw [force_eq] at hr
              split at hr
              · rename_i S1 hput
                simp only [Option.some.injEq, Prod.mk.injEq] at hr
                obtain ⟨rfl, rfl⟩ := hr
                have hso := run_setObj (P := E.P) (ob := .stringIter s (pos + (Utf8.decode s pos).2)) ho1 (by simp)
                refine ⟨ρ, _, _, ext_put hok.wrel hok.tidy hobj hp hput (setBlock_same w _ _) (setBlock_at ho1) (.strIter s _), .tuple (.cons (.bool true) (.cons (.int _ _) (.cons (.int _ _) .nil))), .inl ?_⟩
                simp only [execOp, ho, hb]
                refine run_v ?_
                simp only [Instr.next, Sem.run_bind, hgo, Result.andThen_ok, Sem.run_ite, if_pos (show pos < s.size from hlt), hso, Sem.run_pure]
                rfl
              · cases hr
            · rename_i hlt
              have hlt : ¬ pos < s.size := fun hl => by rw [Nat.ble_eq_true_of_le (show pos + 1 ≤ s.size from hl)] at hlt; cases hlt
              simp only [Option.some.injEq, Prod.mk.injEq] at hr
              obtain ⟨rfl, rfl⟩ := hr
              refine ⟨ρ, _, _, hok.refl_ext, .tuple (.cons (.bool false) .nil), .inl ?_⟩
              simp only [execOp, ho, hb]
              refine run_v ?_
              simp only [Instr.next, Sem.run_bind, hgo, Result.andThen_ok, Sem.run_ite, if_neg hlt, Sem.run_pure]
        · cases hr
    · cases hr
  · rename_i f hf0
    simp only [Option.some.injEq] at h; subst h
    intro ρ e fr a r S S' w hg hok hr hf
    dsimp only at hr
    have h1 := opd_sound hf0 (hg x (by simp [ho, Op.operands]))
    obtain ⟨v, w', k1, k2, k3⟩ := nextM_sound hok hr h1 o.type
    exact ⟨ρ, v, w', k1, k2, .inl (by simp only [execOp, ho]; exact run_v k3)⟩
  · cases h

/-! ### Stores -/
theorem storeAt_sound {ρ : Ren} {S S' : SW} {w : World} {id off : Nat} {xs : List SV} {vs : List Value} {b ofs tt : Nat} (hok : Ok E ρ S w) (h : storeAt S id off xs = some S') (hp : ρ id = some (b, ofs, tt)) (hv : VRels ρ xs vs) :
    ∃ w', (storeCells ⟨b, ofs + off, none⟩ vs).run E.P w = .ok () w' ∧ Ext ρ S w ρ S' w' ∧ SameBut b w w' := by
  unfold storeAt at h
  split at h
  · rename_i cs el hobj
    split at h
    · rename_i hsc
      split at h
      · rename_i cs' hsp
        obtain ⟨ob, ho1, ho2⟩ := hok.wrel.obj id _ _ hobj hp
        cases ho2 with
        | cells arr el2 fz ht hlen hfz hmk hc =>
          obtain ⟨hb, -⟩ := splice_some _ _ _ _ hsp
          have hvl := hv.length
          obtain ⟨w', hrun, hsame, arr', hb', hs', hk'⟩ := run_storeCells_win E.P b (ofs + off) el2 fz vs 0 arr w ho1 hfz (by omega) (allScalar_mem hsc hv)
          refine ⟨w', hrun, ext_put hok.wrel hok.tidy hobj hp h hsame hb' (.cells arr' el2 fz (by rw [hs', ht]) (by rw [splice_length hsp]; exact hlen) (by rw [hs']; exact hfz) hmk fun k x hx => ?_), hsame⟩
          rw [splice_get hsp] at hx
          rw [hk']
          by_cases hin : off ≤ k ∧ k < off + xs.length
          · rw [if_pos hin] at hx
            rw [if_pos (by omega)]
            obtain ⟨u, hu1, hu2⟩ := hv.get hx
            exact ⟨u, by rw [show ofs + k - (ofs + off + 0) = k - off from by omega]; exact hu1, hu2⟩
          · rw [if_neg hin] at hx
            rw [if_neg (by omega)]
            exact hc k x hx
      · cases h
    · cases h
  · cases h

theorem kop_store {t : TypeId} {x y : Operand} (h : kop0 E cx o = some k) (ho : o.op = .store t x y) : k.Sound E cx o := by
  simp only [kop0, ho] at h
  split at h
  · rename_i f g n hf0 hg0 hn
    simp only [Option.some.injEq] at h; subst h
    intro ρ e fr a r S S' w hg hok hr hf
    dsimp only at hr
    have h1 := opd_sound hf0 (hg x (by simp [ho, Op.operands]))
    have h2 := opd_sound hg0 (hg y (by simp [ho, Op.operands]))
    unfold done at hr
    split at hr
    · rename_i S1 hst
      simp only [Option.some.injEq, Prod.mk.injEq] at hr
      obtain ⟨rfl, rfl⟩ := hr
      unfold storeW at hst
      split at hst
      · rename_i id off e1; rw [e1] at h1
        split at hst
        · rename_i hsz
          have hsz := Nat.eq_of_beq_eq_true hsz
          generalize hb : a.eval x = b at h1
          cases h1 with
          | ptr hp =>
            have hne : g e fr ≠ .unknown := by
              intro he
              rw [he] at hst
              unfold storeAt at hst
              split at hst
              · simp [SV.cells, allScalar, SV.scalar] at hst
              · cases hst
            have hcv := h2.cells hne
            obtain ⟨w', hrun, hext, -⟩ := storeAt_sound hok hst hp hcv
            have hlen := hcv.length
            simp only [Array.length_toList] at hlen
            refine ⟨ρ, undef, w', hext, .tuple .nil, .inr ⟨?_, rfl⟩⟩
            simp only [execOp, ho, hb]
            refine run_u ?_
            simp only [Instr.storeAt, Instr.sureAddr, Sem.run_bind, Sem.run_pure, Result.andThen_ok, storeVar, sizeOf_run hn]
            rw [if_neg (by omega)]
            exact hrun
        · cases hst
      · cases hst
    · cases hr
  · cases h
end
end Go.RX
