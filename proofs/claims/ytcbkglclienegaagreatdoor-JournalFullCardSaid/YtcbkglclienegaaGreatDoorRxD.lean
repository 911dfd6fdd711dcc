import Derived.Test.YtcbkglclienegaaGreatDoorRxC
import Derived.Lib.Builder
import Derived.Lib.UnsafeStr
set_option linter.all false
/- Operations that write: composite rows, maps, stores, iterators, conversions. -/
namespace Go.RX
open Sym
section
variable {E : Env} {cx : Cx} {o : Oper} {k : KOp}

theorem kop_buildSlice {t : TypeId} {len : Nat} {ps : Array (Nat × Operand)} (h : kop0 E cx o = some k) (ho : o.op = .buildSlice t len ps) : k.Sound E cx o := by
  simp only [kop0, ho] at h
  split at h
  · rename_i g elem hp hd
    split at h
    · rename_i size z hsize hz
      split at h
      · rename_i hb1 hb2 hsc
        have hb1 := Nat.le_of_ble_eq_true hb1
        have hb2 := Nat.eq_of_beq_eq_true hb2
        simp only [Option.some.injEq] at h; subst h
        intro ρ e fr a r S S' w hg hok hr hf
        dsimp only at hr
        have hps := parts_sound hp (fun q hq => hg q.2 (by simp only [ho, Op.operands]; simpa using ⟨q.1, by simpa using hq⟩))
        obtain ⟨zv, hzv, hzr⟩ := zero_run hz ρ
        have hcv := hzv.cells (zero_known hz)
        have hzs : zv.cells.size = size := by rw [← hb2, hcv.length]; simp
        have hrel := copies_rel hcv len (len * size) (by rw [hzs])
        split at hr
        · rename_i cs hfill
          obtain ⟨cs', hf1, hf2⟩ := fill_sound _ hfill hps hrel
          split at hr
          · split at hr
            · rename_i id S1 hn
              simp only [Option.some.injEq, Prod.mk.injEq] at hr
              obtain ⟨rfl, rfl⟩ := hr
              obtain ⟨ρ', hext, hid⟩ := new_cells hok hn hf cs' (0, 0) elem (nofz' _) (by simpa using Nat.le_of_eq hf2.length) hf2.holds (fun _ => rfl) rows_ok
              refine ⟨ρ', _, _, hext, .sliceE hid, .inl ?_⟩
              simp only [execOp, ho]
              refine run_v ?_
              have hno : ¬ (len * size > 16777216) := by omega
              have hpow : (2 : Nat) ^ 24 = 16777216 := by decide
              simp only [Instr.buildSlice, Sem.run_bind, run_underlying hd, sizeOf_run hsize, Result.andThen_ok, hpow, if_neg hno, Sem.run_ite, Array.toList_map]
              by_cases h0 : len * size = 0
              · rw [if_pos h0]
                simp only [Sem.run_pure, Result.andThen_ok]
                have : (Array.range (len * size)).map (fun x => (#[] : Array Value)[x % (#[] : Array Value).size]!) = madeCells zv.cells (len * size) := by
                  rw [h0]; simp [madeCells]
                rw [this, hf1]
                rfl
              · rw [if_neg h0]
                simp only [hzr, Sem.run_pure, Result.andThen_ok]
                have : (Array.range (len * size)).map (fun x => zv.cells[x % zv.cells.size]!) = madeCells zv.cells (len * size) := rfl
                rw [this, hf1]
                rfl
            · cases hr
          · cases hr
        · cases hr
      · cases h
    · cases h
  · cases h

/-! ### Objects that are no cells -/
theorem new_obj {ρ : Ren} {S S' : SW} {w : World} {x : SObj} {ob : Obj} {id : Nat} (hok : Ok E ρ S w) (h : Sym.new S x = some (id, S')) (hf : Fresh ρ S.next S'.next)
    (ho : ∀ ρ', ρ.le ρ' → ORel ρ' x (w.heap.size, 0, 0) ob) : ∃ ρ', Ext ρ S w ρ' S' (w.alloc ob) ∧ ρ' id = some (w.heap.size, 0, 0) := by
  have h0 := Fresh.one h hf
  obtain ⟨rfl, -⟩ := new_some h
  exact ⟨ρ.set S.next (w.heap.size, 0, 0), ext_new hok.wrel hok.tidy h0 h rfl (ho _ (Ren.le_set h0)), Ren.set_same _ _ _⟩

theorem kop_makeMap {t : TypeId} {hint : Option Operand} (h : kop0 E cx o = some k) (ho : o.op = .makeMap t hint) : k.Sound E cx o := by
  simp only [kop0, ho] at h
  split at h
  · simp only [Option.some.injEq] at h; subst h
    intro ρ e fr a r S S' w hg hok hr hf
    dsimp only at hr
    split at hr
    · rename_i id S1 hn
      simp only [Option.some.injEq, Prod.mk.injEq] at hr
      obtain ⟨rfl, rfl⟩ := hr
      obtain ⟨ρ', hext, hid⟩ := new_obj (ob := .map #[] 0) hok hn hf (fun ρ' _ => .map #[] 0 .nil)
      refine ⟨ρ', _, _, hext, .map hid, .inl ?_⟩
      simp only [execOp, ho]
      exact run_v rfl
    · cases hr
  · split at h
    · rename_i hh f x1 x2 hf0 hd
      simp only [Option.some.injEq] at h; subst h
      intro ρ e fr a r S S' w hg hok hr hf
      dsimp only at hr
      have h1 := opd_sound hf0 (hg _ (by simp [ho, Op.operands]))
      split at hr
      · rename_i n hn0
        obtain ⟨kk, hkk⟩ := asNat_rel hn0 h1
        split at hr
        · rename_i id S1 hn
          simp only [Option.some.injEq, Prod.mk.injEq] at hr
          obtain ⟨rfl, rfl⟩ := hr
          obtain ⟨ρ', hext, hid⟩ := new_obj (ob := .map #[] 0) hok hn hf (fun ρ' _ => .map #[] 0 .nil)
          refine ⟨ρ', _, _, hext, .map hid, .inl ?_⟩
          simp only [execOp, ho, Option.map_some, hkk]
          refine run_v ?_
          simp only [Instr.makeMap, Sem.run_bind, run_underlying hd, Result.andThen_ok, asInt, asIntOf, Sem.run_pure, run_newObj_alloc]
        · cases hr
      · cases hr
    · cases h

/-- A block's object is another. -/
def setBlock (w : World) (b : Nat) (ob : Obj) : World := { w with heap := w.heap.setIfInBounds b ob }
theorem setBlock_same (w : World) (b : Nat) (ob : Obj) : SameBut b w (setBlock w b ob) :=
  ⟨rfl, rfl, rfl, by simp [setBlock], fun k hk => by simp only [setBlock]; rw [Array.getElem?_setIfInBounds_ne (fun h => hk h.symm)]⟩
theorem setBlock_at {w : World} {b : Nat} {ob ob' : Obj} (h : w.heap[b]? = some ob') : (setBlock w b ob).heap[b]? = some ob := by
  have := (Array.getElem?_eq_some_iff.1 h).1
  simp [setBlock, this]
theorem run_setObj {P : Program} {w : World} {b : Nat} {ob ob' : Obj} (h : w.heap[b]? = some ob') (hc : ∀ c e f, ob' ≠ .cells c e f) : (setObj b ob).run P w = .ok () (setBlock w b ob) := by
  simp only [setObj, Sem.run, h]
  cases ob' <;> first | rfl | exact absurd rfl (hc _ _ _)
theorem run_getObj {P : Program} {w : World} {b : Nat} {ob : Obj} (h : w.heap[b]? = some ob) (hc : ∀ c e f, ob ≠ .cells c e f) : (getObj b).run P w = .ok ob w := by
  unfold getObj
  simp only [Sem.run]
  rw [h]
  cases ob <;> first | rfl | exact absurd rfl (hc _ _ _)

theorem kop_range {t : TypeId} {x : Operand} (h : kop0 E cx o = some k) (ho : o.op = .range t x) : k.Sound E cx o := by
  simp only [kop0, ho] at h
  split at h
  · rename_i f hf0 hd
    simp only [Option.some.injEq] at h; subst h
    intro ρ e fr a r S S' w hg hok hr hf
    dsimp only at hr
    have h1 := opd_sound hf0 (hg x (by simp [ho, Op.operands]))
    split at hr
    · rename_i s e1; rw [e1] at h1
      unfold ptrTo at hr
      split at hr
      · rename_i id S1 hn
        simp only [Option.some.injEq, Prod.mk.injEq] at hr
        obtain ⟨rfl, rfl⟩ := hr
        obtain ⟨ρ', hext, hid⟩ := new_obj (ob := .stringIter s 0) hok hn hf (fun ρ' _ => .strIter s 0)
        generalize hb : a.eval x = b at h1
        cases h1
        refine ⟨ρ', _, _, hext, .ptr hid, .inl ?_⟩
        simp only [execOp, ho, hb]
        refine run_v ?_
        simp only [Instr.range, Sem.run_bind, run_underlying hd, Result.andThen_ok, Sem.run_pure, run_newObj_alloc]
      · cases hr
    · cases hr
  · rename_i f kt et hf0 hd
    simp only [Option.some.injEq] at h; subst h
    intro ρ e fr a r S S' w hg hok hr hf
    dsimp only at hr
    have h1 := opd_sound hf0 (hg x (by simp [ho, Op.operands]))
    split at hr
    · rename_i e1; rw [e1] at h1
      unfold ptrTo at hr
      split at hr
      · rename_i id S1 hn
        simp only [Option.some.injEq, Prod.mk.injEq] at hr
        obtain ⟨rfl, rfl⟩ := hr
        obtain ⟨ρ', hext, hid⟩ := new_obj (ob := .mapIter none 0 #[] 0) hok hn hf (fun ρ' _ => .mapIterNil 0 [] 0)
        generalize hb : a.eval x = b at h1
        cases h1
        refine ⟨ρ', _, _, hext, .ptr hid, .inl ?_⟩
        simp only [execOp, ho, hb]
        refine run_v ?_
        simp only [Instr.range, Sem.run_bind, run_underlying hd, Result.andThen_ok, Sem.run_pure, run_newObj_alloc]
      · cases hr
    · rename_i m e1; rw [e1] at h1
      generalize hb : a.eval x = b at h1
      cases h1 with
      | map hp =>
        split at hr
        · rename_i es c hobj
          obtain ⟨ob, ho1, ho2⟩ := hok.wrel.obj _ _ _ hobj hp
          cases ho2 with
          | map arr c her =>
            have hgo := run_getObj (P := E.P) ho1 (by simp)
            unfold ptrTo at hr
            split at hr
            · rename_i id S1 hn
              simp only [Option.some.injEq, Prod.mk.injEq] at hr
              obtain ⟨rfl, rfl⟩ := hr
              obtain ⟨ρ', hext, hid⟩ := new_obj (ob := .mapIter (some _) c #[] c) hok hn hf (fun ρ' hle => .mapIter c [] c (hle _ _ hp))
              refine ⟨ρ', _, _, hext, .ptr hid, .inl ?_⟩
              simp only [execOp, ho, hb]
              refine run_v ?_
              simp only [Instr.range, Sem.run_bind, run_underlying hd, Result.andThen_ok, Sem.run_pure, hgo, run_newObj_alloc]
            · cases hr
        · cases hr
    · cases hr
  · cases h

theorem lastN_eq : ∀ l : List Nat, lastN l = l.getLast?
  | [] => rfl
  | [n] => rfl
  | a :: b :: l => by
    show lastN (b :: l) = _
    rw [lastN_eq (b :: l)]
    simp

theorem bornAt_find {ρ : Ren} {n : Nat} {r : SV} {es : List (SV × SV × Nat)} {fs : List MapEntry} (h : ERel ρ es fs) (hb : bornAt n es = some r) : ∃ e, fs.find? (fun e => e.born == n) = some e ∧ VRel ρ r (.tuple #[e.key, e.val]) := by
  induction h with
  | nil => cases hb
  | @cons k v m e xs es hk hv hn hs ih =>
    simp only [bornAt] at hb
    split at hb
    · rename_i hm
      have hm := Nat.eq_of_beq_eq_true hm
      simp only [Option.some.injEq] at hb; subst hb
      refine ⟨e, ?_, .tuple (.cons hk (.cons hv .nil))⟩
      rw [List.find?_cons]
      simp [hn, hm]
    · rename_i hm
      obtain ⟨e', h1, h2⟩ := ih hb
      refine ⟨e', ?_, h2⟩
      rw [List.find?_cons]
      have : (e.born == n) = false := by
        rw [hn]
        simp only [beq_eq_false_iff_ne]
        intro e0
        subst e0
        rw [Nat.beq_refl] at hm
        cases hm
      rw [this]
      exact h1

theorem standsAt_sound {ρ : Ren} {S : SW} {w : World} {x r : SV} {xv : Value} (hok : Ok E ρ S w) (h : standsAt S x = some r) (hx : VRel ρ x xv) : ∃ v, VRel ρ r v ∧ (Instr.entry xv).run E.P w = .ok v w := by
  unfold standsAt at h
  split at h
  · rename_i id
    cases hx with
    | ptr hp =>
      split at h
      · rename_i m since seen last hobj
        obtain ⟨ob, ho1, ho2⟩ := hok.wrel.obj id _ _ hobj hp
        cases ho2 with
        | @mapIter _ _ rr _ _ _ hm =>
          have hgo := run_getObj (P := E.P) ho1 (by simp)
          split at h
          · rename_i es c n hmap hlast
            obtain ⟨ob2, hm1, hm2⟩ := hok.wrel.obj m _ _ hmap hm
            cases hm2 with
            | map arr clock her =>
              have hgm := run_getObj (P := E.P) hm1 (by simp)
              split at h
              · rename_i hc
                have hc := Nat.eq_of_beq_eq_true hc
                subst hc
                obtain ⟨e, h1, h2⟩ := bornAt_find her h
                rw [lastN_eq] at hlast
                refine ⟨_, h2, ?_⟩
                have h1' : arr.find? (fun e => e.born == n) = some e := by rw [← Array.find?_toList]; exact h1
                have hb : seen.toArray.back? = some n := by simpa using hlast
                simp [Instr.entry, hgo, hgm, hb, h1']
              · cases h
          · cases h
      · cases h
  · cases h

theorem kop_entry {x : Operand} (h : kop0 E cx o = some k) (ho : o.op = .entry x) : k.Sound E cx o := by
  simp only [kop0, ho] at h
  split at h
  · rename_i f hf
    simp only [Option.some.injEq] at h; subst h
    intro ρ e fr a r S w hg hok hr
    dsimp only at hr
    have h1 := opd_sound hf (hg x (by simp [ho, Op.operands]))
    obtain ⟨v, h2, h3⟩ := standsAt_sound hok hr h1
    refine ⟨v, h2, ?_⟩
    simp only [execOp, ho]
    exact run_v h3
  · cases h

theorem nextM_sound {ρ : Ren} {S S' : SW} {w : World} {x r : SV} {xv : Value} (hok : Ok E ρ S w) (h : nextM S x = some (r, S')) (hx : VRel ρ x xv) (ty : TypeId) :
    ∃ v w', Ext ρ S w ρ S' w' ∧ VRel ρ r v ∧ (Instr.next xv false ty).run E.P w = .ok v w' := by
  unfold nextM at h
  split at h
  · rename_i id
    cases hx with
    | ptr hp =>
      split at h
      · rename_i s0 l0 la0 hobj
        simp only [Option.some.injEq, Prod.mk.injEq] at h
        obtain ⟨rfl, rfl⟩ := h
        obtain ⟨ob, ho1, ho2⟩ := hok.wrel.obj id _ _ hobj hp
        cases ho2 with
        | mapIterNil =>
          have hgo := run_getObj (P := E.P) ho1 (by simp)
          exact ⟨_, w, hok.refl_ext, .tuple (.cons (.bool false) .nil), by simp only [Instr.next, Sem.run_bind, hgo, Result.andThen_ok, Sem.run_pure]⟩
      · rename_i m since seen last hobj
        obtain ⟨ob, ho1, ho2⟩ := hok.wrel.obj id _ _ hobj hp
        cases ho2 with
        | @mapIter _ _ rr _ _ _ hm =>
          have hgo := run_getObj (P := E.P) ho1 (by simp)
          split at h
          · rename_i es clock hmap
            obtain ⟨ob2, hm1, hm2⟩ := hok.wrel.obj m _ _ hmap hm
            cases hm2 with
            | map arr clock her =>
              have hgm := run_getObj (P := E.P) hm1 (by simp)
              split at h
              · simp only [Option.some.injEq, Prod.mk.injEq] at h
                obtain ⟨rfl, rfl⟩ := h
                have harr : arr = #[] := by
                  cases hl : arr.toList with
                  | nil => exact Array.toList_eq_nil_iff.1 hl
                  | cons e es' => rw [hl] at her; cases her
                subst harr
                refine ⟨_, w, hok.refl_ext, .tuple (.cons (.bool false) .nil), ?_⟩
                simp [Instr.next, hgo, hgm, Question.forced]
              · rename_i k v n
                split at h
                · rename_i hb
                  have hb := Nat.le_of_ble_eq_true hb
                  split at h
                  · rename_i S1 hput
                    simp only [Option.some.injEq, Prod.mk.injEq] at h
                    obtain ⟨rfl, rfl⟩ := h
                    have hso := run_setObj (P := E.P) (ob := .mapIter (some rr) since #[n] clock) ho1 (by simp)
                    cases hl : arr.toList with
                    | nil => rw [hl] at her; cases her
                    | cons e es' =>
                      rw [hl] at her
                      cases her with
                      | cons hk hv hn hs =>
                        cases hs
                        have harr : arr = #[e] := by
                          apply Array.ext'; simp [hl]
                        subst harr
                        subst hn
                        refine ⟨_, _, ext_put hok.wrel hok.tidy hobj hp hput (setBlock_same w _ _) (setBlock_at ho1) (.mapIter since [e.born] clock hm), .tuple (.cons (.bool true) (.cons hk (.cons hv .nil))), ?_⟩
                        have h1 : e.born < since := by omega
                        have h2 : ¬ (since ≤ e.born) := by omega
                        simp [Instr.next, hgo, hgm, Question.forced, h1, h2, hso]
                  · cases h
                · cases h
              · rename_i k v n n'
                split at h
                · rename_i hb1 hb2
                  have hb1 := Nat.eq_of_beq_eq_true hb1
                  have hb2 := Nat.le_of_ble_eq_true hb2
                  simp only [Option.some.injEq, Prod.mk.injEq] at h
                  obtain ⟨rfl, rfl⟩ := h
                  subst hb1
                  cases hl : arr.toList with
                  | nil => rw [hl] at her; cases her
                  | cons e es' =>
                    rw [hl] at her
                    cases her with
                    | cons hk hv hn hs =>
                      cases hs
                      have harr : arr = #[e] := by
                        apply Array.ext'; simp [hl]
                      subst harr
                      subst hn
                      refine ⟨_, w, hok.refl_ext, .tuple (.cons (.bool false) .nil), ?_⟩
                      have h1 : ¬ (last ≤ e.born) := by omega
                      simp [Instr.next, hgo, hgm, Question.forced, h1]
                · cases h
              · cases h
          · cases h
      · cases h
  · cases h

theorem kop_next {x : Operand} {isString : Bool} (h : kop0 E cx o = some k) (ho : o.op = .next x isString) : k.Sound E cx o := by
  simp only [kop0, ho] at h
  split at h
  · rename_i f hf0
    simp only [Option.some.injEq] at h; subst h
    intro ρ e fr a r S S' w hg hok hr hf
    dsimp only at hr
    have h1 := opd_sound hf0 (hg x (by simp [ho, Op.operands]))
    unfold nextV at hr
    split at hr
    · rename_i id e1; rw [e1] at h1
      generalize hb : a.eval x = b at h1
      cases h1 with
      | ptr hp =>
        split at hr
        · rename_i s pos hobj
          obtain ⟨ob, ho1, ho2⟩ := hok.wrel.obj id _ _ hobj hp
          cases ho2 with
          | strIter =>
            have hgo := run_getObj (P := E.P) ho1 (by simp)
            split at hr
            · rename_i hlt
              have hlt := Nat.le_of_ble_eq_true hlt
              rw [force_eq] at hr
              split at hr
              · rename_i S1 hput
                simp only [Option.some.injEq, Prod.mk.injEq] at hr
                obtain ⟨rfl, rfl⟩ := hr
                have hso := run_setObj (P := E.P) (ob := .stringIter s (pos + (Utf8.decode s pos).2)) ho1 (by simp)
                refine ⟨ρ, _, _, ext_put hok.wrel hok.tidy hobj hp hput (setBlock_same w _ _) (setBlock_at ho1) (.strIter s _), .tuple (.cons (.bool true) (.cons (.int _ _) (.cons (.int _ _) .nil))), .inl ?_⟩
                simp only [execOp, ho, hb]
                refine run_v ?_
                simp only [Instr.next, Sem.run_bind, hgo, Result.andThen_ok, Sem.run_ite, if_pos (show pos < s.size from hlt), hso, Sem.run_pure]
                rfl
              · cases hr
            · rename_i hlt
              have hlt : ¬ pos < s.size := fun hl => by rw [Nat.ble_eq_true_of_le (show pos + 1 ≤ s.size from hl)] at hlt; cases hlt
              simp only [Option.some.injEq, Prod.mk.injEq] at hr
              obtain ⟨rfl, rfl⟩ := hr
              refine ⟨ρ, _, _, hok.refl_ext, .tuple (.cons (.bool false) .nil), .inl ?_⟩
              simp only [execOp, ho, hb]
              refine run_v ?_
              simp only [Instr.next, Sem.run_bind, hgo, Result.andThen_ok, Sem.run_ite, if_neg hlt, Sem.run_pure]
        · cases hr
    · cases hr
  · rename_i f hf0
    simp only [Option.some.injEq] at h; subst h
    intro ρ e fr a r S S' w hg hok hr hf
    dsimp only at hr
    have h1 := opd_sound hf0 (hg x (by simp [ho, Op.operands]))
    obtain ⟨v, w', k1, k2, k3⟩ := nextM_sound hok hr h1 o.type
    exact ⟨ρ, v, w', k1, k2, .inl (by simp only [execOp, ho]; exact run_v k3)⟩
  · cases h

/-! ### Stores -/
theorem storeAt_sound {ρ : Ren} {S S' : SW} {w : World} {id off : Nat} {xs : List SV} {vs : List Value} {b ofs tt : Nat} (hok : Ok E ρ S w) (h : storeAt S id off xs = some S') (hp : ρ id = some (b, ofs, tt)) (hv : VRels ρ xs vs) :
    ∃ w', (storeCells ⟨b, ofs + off, none⟩ vs).run E.P w = .ok () w' ∧ Ext ρ S w ρ S' w' ∧ SameBut b w w' := by
  unfold storeAt at h
  split at h
  · rename_i cs el hobj
    split at h
    · rename_i hsc
      split at h
      · rename_i cs' hsp
        obtain ⟨ob, ho1, ho2⟩ := hok.wrel.obj id _ _ hobj hp
        cases ho2 with
        | cells arr el2 fz ht hlen hfz hmk hwh hc =>
          obtain ⟨hb, -⟩ := splice_some _ _ _ _ hsp
          have hvl := hv.length
          obtain ⟨w', hrun, hsame, arr', hb', hs', hk'⟩ := run_storeCells_win E.P b (ofs + off) el2 fz vs 0 arr w ho1 hfz (by omega) (allScalar_mem hsc hv)
          refine ⟨w', hrun, ext_put hok.wrel hok.tidy hobj hp h hsame hb' (.cells arr' el2 fz (by rw [hs', ht]) (by rw [splice_length hsp]; exact hlen) (by rw [hs']; exact hfz) hmk ⟨fun t ht => ⟨(hwh.1 t ht).1, (hwh.1 t ht).2.1, by rw [hs', splice_length hsp]; exact (hwh.1 t ht).2.2⟩, hwh.2⟩ fun k x hx => ?_), hsame⟩
          rw [splice_get hsp] at hx
          rw [hk']
          by_cases hin : off ≤ k ∧ k < off + xs.length
          · rw [if_pos hin] at hx
            rw [if_pos (by omega)]
            obtain ⟨u, hu1, hu2⟩ := hv.get hx
            exact ⟨u, by rw [show ofs + k - (ofs + off + 0) = k - off from by omega]; exact hu1, hu2⟩
          · rw [if_neg hin] at hx
            rw [if_neg (by omega)]
            exact hc k x hx
      · cases h
    · cases h
  · cases h

theorem kop_store {t : TypeId} {x y : Operand} (h : kop0 E cx o = some k) (ho : o.op = .store t x y) : k.Sound E cx o := by
  simp only [kop0, ho] at h
  split at h
  · rename_i f g n hf0 hg0 hn
    simp only [Option.some.injEq] at h; subst h
    intro ρ e fr a r S S' w hg hok hr hf
    dsimp only at hr
    have h1 := opd_sound hf0 (hg x (by simp [ho, Op.operands]))
    have h2 := opd_sound hg0 (hg y (by simp [ho, Op.operands]))
    unfold done at hr
    split at hr
    · rename_i S1 hst
      simp only [Option.some.injEq, Prod.mk.injEq] at hr
      obtain ⟨rfl, rfl⟩ := hr
      unfold storeW at hst
      split at hst
      · rename_i id off e1; rw [e1] at h1
        split at hst
        · rename_i hsz
          have hsz := Nat.eq_of_beq_eq_true hsz
          generalize hb : a.eval x = b at h1
          cases h1 with
          | ptr hp =>
            have hne : g e fr ≠ .unknown := by
              intro he
              rw [he] at hst
              unfold storeAt at hst
              split at hst
              · simp [SV.cells, allScalar, SV.scalar] at hst
              · cases hst
            have hcv := h2.cells hne
            obtain ⟨w', hrun, hext, -⟩ := storeAt_sound hok hst hp hcv
            have hlen := hcv.length
            simp only [Array.length_toList] at hlen
            refine ⟨ρ, undef, w', hext, .tuple .nil, .inr ⟨?_, rfl⟩⟩
            simp only [execOp, ho, hb]
            refine run_u ?_
            simp only [Instr.storeAt, Instr.sureAddr, Sem.run_bind, Sem.run_pure, Result.andThen_ok, storeVar, sizeOf_run hn]
            rw [if_neg (by omega)]
            exact hrun
        · cases hst
      · cases hst
    · cases hr
  · cases h
end
end Go.RX

/- Maps written; copy and append. -/
namespace Go.RX
open Sym
section
variable {E : Env} {cx : Cx} {o : Oper} {k : KOp}

/-! ### Maps -/
theorem sameBits_of (n : Nat) {d : TypeDesc} (hd : keyKind d = true) {v v' : Value} (h : Instr.sameNow d v v' = some true) : Instr.sameBits n v' v = true := by
  cases d <;> simp [keyKind] at hd <;> cases v <;> cases v' <;> simp [Instr.sameNow] at h
  · subst h; cases n <;> simp [Instr.sameBits]
  · obtain ⟨rfl, rfl⟩ := h; cases n <;> simp [Instr.sameBits]
  · cases n <;> simp [Instr.sameBits] <;> (rw [beq_toListBytes] at h ⊢; simp at h ⊢; exact h.symm)

theorem setKey_sound {d : TypeDesc} (hd : keyKind d = true) {k v : SV} {ρ : Ren} {kv vv : Value} (hk : VRel ρ k kv) (hv : VRel ρ v vv) : ∀ {es es' : List (SV × SV × Nat)} {fs : List MapEntry} (i : Nat), setKey d k v es = some es' → ERel ρ es fs →
    ∃ j u old, Instr.findNow d kv fs i = some (some (i + j, u)) ∧ fs[j]? = some old ∧ Instr.sameNow d kv old.key = some true ∧ ERel ρ es' (fs.modify j fun e => { e with key := kv, val := vv })
  | [], es', _, i, h, .nil => by simp [setKey] at h
  | (k', x', n) :: es, es', _, i, h, .cons (e := e) (es := fs) hk' hv' hn hs => by
    simp only [setKey] at h
    split at h
    · rename_i he
      simp only [Option.some.injEq] at h; subst h
      obtain ⟨h1, h2⟩ := sameNow_sound hd he hk hk'
      have := h2 rfl
      subst this
      refine ⟨0, e.val, e, by simp [Instr.findNow, h1], rfl, h1, ?_⟩
      simp only [List.modify_zero_cons]
      exact .cons hk hv hn hs
    · rename_i he
      obtain ⟨h1, -⟩ := sameNow_sound hd he hk hk'
      split at h
      · rename_i r hr
        simp only [Option.some.injEq] at h; subst h
        obtain ⟨j, u, old, e1, e2, e3, e4⟩ := setKey_sound hd hk hv (i + 1) hr hs
        refine ⟨j + 1, u, old, ?_, by simpa using e2, e3, ?_⟩
        · simp [Instr.findNow, h1, e1]; omega
        · simp only [List.modify_succ_cons]
          exact .cons hk' hv' hn e4
      · cases h
    · cases h

theorem ERel.push {ρ : Ren} {k v : SV} {kv vv : Value} (hk : VRel ρ k kv) (hv : VRel ρ v vv) (n : Nat) : ∀ {es : List (SV × SV × Nat)} {fs : List MapEntry}, ERel ρ es fs → ERel ρ (es ++ [(k, v, n)]) (fs ++ [{ key := kv, val := vv, born := n }])
  | _, _, .nil => .cons hk hv rfl .nil
  | _, _, .cons a b c d => .cons a b c (ERel.push hk hv n d)

theorem updateV_sound {t key elem : TypeId} {kd : TypeDesc} {ρ : Ren} {S S' : SW} {w : World} {x y z : SV} {xv yv zv : Value} (ht : E.P.underlying t = some (.map key elem)) (hkd : E.P.underlying key = some kd) (hkk : keyKind kd = true)
    (hok : Ok E ρ S w) (h : updateV E kd S x y z = some S') (hx : VRel ρ x xv) (hy : VRel ρ y yv) (hz : VRel ρ z zv) :
    ∃ w', Ext ρ S w ρ S' w' ∧ (Instr.mapUpdate t xv yv zv).run E.P w = .ok () w' := by
  unfold updateV at h
  split at h
  · cases hx with
    | map hp =>
      split at h
      · rename_i id b x1 es c hobj
        obtain ⟨ob, ho1, ho2⟩ := hok.wrel.obj id _ _ hobj hp
        cases ho2 with
        | map arr c her =>
          have hgo := run_getObj (P := E.P) ho1 (by simp)
          have hck := checkKey_run hkd hkk false yv w
          split at h
          · rename_i xo hfk
            split at h
            · rename_i es' hsk
              obtain ⟨j, u, old, e1, e2, e3, e4⟩ := setKey_sound hkk hy hz 0 hsk her
              rw [Nat.zero_add] at e1
              have hfr := findKey_run hkd e1 w
              have hbits := sameBits_of 10000 hkk e3
              have e2' : arr[j]? = some old := by simpa using e2
              have hso := run_setObj (P := E.P) (ob := .map (arr.modify j fun e => { e with key := yv, val := zv }) c) ho1 (by simp)
              refine ⟨_, ext_put hok.wrel hok.tidy hobj hp h (setBlock_same w _ _) (setBlock_at ho1) (.map (arr.modify j fun e => { e with key := yv, val := zv }) c (by simpa using e4)), ?_⟩
              simp only [Instr.mapUpdate, Sem.run_bind, run_underlying ht, hgo, Result.andThen_ok, hck, hfr, e2', Option.map_some, Option.getD_some, Instr.keyThatStays, hbits, if_true, Sem.run_pure]
              exact hso
            · cases h
          · rename_i hfk
            rw [force_eq] at h
            rcases findKey_sound hkk hy 0 hfk her with ⟨-, e1⟩ | ⟨_, _, _, e1, -⟩
            · have hfr := findKey_run hkd e1 w
              have hso := run_setObj (P := E.P) (ob := .map (arr.push { key := yv, val := zv, born := c }) (c + 1)) ho1 (by simp)
              refine ⟨_, ext_put hok.wrel hok.tidy hobj hp h (setBlock_same w _ _) (setBlock_at ho1) (.map (arr.push { key := yv, val := zv, born := c }) (c + 1) (by simpa using her.push hy hz c)), ?_⟩
              simp only [Instr.mapUpdate, Sem.run_bind, run_underlying ht, hgo, Result.andThen_ok, hck, hfr, Sem.run_pure]
              exact hso
            · cases e1
          · cases h
      · rename_i id b x1 ab hobj
        obtain ⟨ob, ho1, ho2⟩ := hok.wrel.obj id _ _ hobj hp
        generalize hbo : SObj.blob ab = bo at ho2
        cases ho2 <;> first | (cases hbo; done) | skip
        rename_i bb aa hprop
        cases hbo
        rw [hok.num.sig] at hprop
        split at h
        · rename_i a' hms
          obtain ⟨arr, c, rfl, hset⟩ := hok.num.maps.set _ _ _ _ _ hms ρ _ _ _ hok.num.sig hy hz hprop
          have hgo := run_getObj (P := E.P) ho1 (by simp)
          have hck := checkKey_run hkd hkk false yv w
          rcases hset with ⟨e1, hp'⟩ | ⟨j, u, old, e1, e2, e3, hp'⟩
          · have hfr := findKey_run hkd e1 w
            have hso := run_setObj (P := E.P) (ob := .map (arr.push { key := yv, val := zv, born := c }) (c + 1)) ho1 (by simp)
            refine ⟨_, ext_put hok.wrel hok.tidy hobj hp h (setBlock_same w _ _) (setBlock_at ho1) (.blob _ (by rw [hok.num.sig]; exact hp')), ?_⟩
            simp only [Instr.mapUpdate, Sem.run_bind, run_underlying ht, hgo, Result.andThen_ok, hck, hfr, Sem.run_pure]
            exact hso
          · have hfr := findKey_run hkd e1 w
            have hbits := sameBits_of 10000 hkk e3
            have hso := run_setObj (P := E.P) (ob := .map (arr.modify j fun e => { e with key := yv, val := zv }) c) ho1 (by simp)
            refine ⟨_, ext_put hok.wrel hok.tidy hobj hp h (setBlock_same w _ _) (setBlock_at ho1) (.blob _ (by rw [hok.num.sig]; exact hp')), ?_⟩
            simp only [Instr.mapUpdate, Sem.run_bind, run_underlying ht, hgo, Result.andThen_ok, hck, hfr, e2, Option.map_some, Option.getD_some, Instr.keyThatStays, hbits, if_true, Sem.run_pure]
            exact hso
        · cases h
      · cases h
  · cases h

theorem kop_mapUpdate {t : TypeId} {x y z : Operand} (h : kop0 E cx o = some k) (ho : o.op = .mapUpdate t x y z) : k.Sound E cx o := by
  simp only [kop0, ho] at h
  split at h
  · rename_i f g hh key el hf0 hg0 hh0 hd
    split at h
    · rename_i kd hkd
      split at h
      · rename_i hkk
        simp only [Option.some.injEq] at h; subst h
        intro ρ e fr a r S S' w hg hok hr hf
        dsimp only at hr
        unfold done at hr
        split at hr
        · rename_i S1 hst
          simp only [Option.some.injEq, Prod.mk.injEq] at hr
          obtain ⟨rfl, rfl⟩ := hr
          obtain ⟨w', h1, h2⟩ := updateV_sound hd hkd hkk hok hst (opd_sound hf0 (hg x (by simp [ho, Op.operands]))) (opd_sound hg0 (hg y (by simp [ho, Op.operands]))) (opd_sound hh0 (hg z (by simp [ho, Op.operands])))
          exact ⟨ρ, undef, w', h1, .tuple .nil, .inr ⟨by simp only [execOp, ho]; exact run_u h2, rfl⟩⟩
        · cases hr
      · cases h
    · cases h
  · cases h
theorem kop_insert {t : TypeId} {x y z : Operand} (h : kop0 E cx o = some k) (ho : o.op = .insert t x y z) : k.Sound E cx o := by
  simp only [kop0, ho] at h
  split at h
  · rename_i f g hh key el hf0 hg0 hh0 hd
    split at h
    · rename_i kd hkd
      split at h
      · rename_i hkk
        simp only [Option.some.injEq] at h; subst h
        intro ρ e fr a r S S' w hg hok hr hf
        dsimp only at hr
        unfold done at hr
        split at hr
        · rename_i S1 hst
          simp only [Option.some.injEq, Prod.mk.injEq] at hr
          obtain ⟨rfl, rfl⟩ := hr
          obtain ⟨w', h1, h2⟩ := updateV_sound hd hkd hkk hok hst (opd_sound hf0 (hg x (by simp [ho, Op.operands]))) (opd_sound hg0 (hg y (by simp [ho, Op.operands]))) (opd_sound hh0 (hg z (by simp [ho, Op.operands])))
          exact ⟨ρ, undef, w', h1, .tuple .nil, .inr ⟨by simp only [execOp, ho]; exact run_u h2, rfl⟩⟩
        · cases hr
      · cases h
    · cases h
  · cases h

/-! ### Entries of a map -/
theorem findE_sound {d : TypeDesc} (hd : keyKind d = true) {k : SV} {ρ : Ren} {kv : Value} (hk : VRel ρ k kv) : ∀ {es : List (SV × SV × Nat)} {fs : List MapEntry} {r : Option (SV × Nat)} (i : Nat), findE d k es = some r → ERel ρ es fs →
    (r = none ∧ Instr.findNow d kv fs i = some none) ∨ ∃ x n j old, r = some (x, n) ∧ VRel ρ x old.val ∧ Instr.findNow d kv fs i = some (some (i + j, old.val)) ∧ fs[j]? = some old ∧ old.born = n ∧ Instr.sameNow d kv old.key = some true ∧ ERel ρ es (fs.modify j fun e => { e with key := kv })
  | [], _, r, i, h, .nil => by
    simp [findE] at h; subst h
    exact .inl ⟨rfl, rfl⟩
  | (k', x', n) :: es, _, r, i, h, .cons (e := e) (es := fs) hk' hv' hn hs => by
    simp only [findE] at h
    split at h
    · rename_i he
      simp only [Option.some.injEq] at h; subst h
      obtain ⟨h1, h2⟩ := sameNow_sound hd he hk hk'
      have := h2 rfl
      subst this
      refine .inr ⟨x', n, 0, e, rfl, hv', by simp [Instr.findNow, h1], rfl, hn, h1, ?_⟩
      simp only [List.modify_zero_cons]
      exact .cons hk hv' hn hs
    · rename_i he
      obtain ⟨h1, -⟩ := sameNow_sound hd he hk hk'
      rcases findE_sound hd hk (i + 1) h hs with ⟨e1, e2⟩ | ⟨x, m, j, old, e1, e2, e3, e4, e5, e6, e7⟩
      · exact .inl ⟨e1, by simp [Instr.findNow, h1, e2]⟩
      · refine .inr ⟨x, m, j + 1, old, e1, e2, ?_, by simpa using e4, e5, e6, ?_⟩
        · simp [Instr.findNow, h1, e3]; omega
        · simp only [List.modify_succ_cons]
          exact .cons hk' hv' hn e7
    · cases h

theorem entryV_sound {t key elem : TypeId} {kd : TypeDesc} {ρ : Ren} {S S' : SW} {w : World} {x y z r : SV} {xv yv : Value} (ht : E.P.underlying t = some (.map key elem)) (hkd : E.P.underlying key = some kd) (hkk : keyKind kd = true) (hz : Sym.zero E elem = some z)
    (hok : Ok E ρ S w) (h : entryV kd z S x y = some (r, S')) (hx : VRel ρ x xv) (hy : VRel ρ y yv) :
    ∃ v w', Ext ρ S w ρ S' w' ∧ VRel ρ r v ∧ (Instr.mapEntry t xv yv).run E.P w = .ok v w' := by
  unfold entryV at h
  split at h
  · cases hx with
    | map hp =>
      split at h
      · rename_i id b x1 es c hobj
        obtain ⟨ob, ho1, ho2⟩ := hok.wrel.obj id _ _ hobj hp
        cases ho2 with
        | map arr c her =>
          have hgo := run_getObj (P := E.P) ho1 (by simp)
          have hck := checkKey_run hkd hkk false yv w
          split at h
          · rename_i v n hfk
            split at h
            · rename_i S1 hput
              simp only [Option.some.injEq, Prod.mk.injEq] at h
              obtain ⟨rfl, rfl⟩ := h
              rcases findE_sound hkk hy 0 hfk her with ⟨e1, -⟩ | ⟨x', n', j, old, e1, e2, e3, e4, e5, e6, e7⟩
              · cases e1
              · cases e1
                rw [Nat.zero_add] at e3
                have hfr := findKey_run hkd e3 w
                have hbits := sameBits_of 10000 hkk e6
                have e4' : arr[j]? = some old := by simpa using e4
                have hso := run_setObj (P := E.P) (ob := .map (arr.modify j fun e => { e with key := yv }) c) ho1 (by simp)
                refine ⟨_, _, ext_put hok.wrel hok.tidy hobj hp hput (setBlock_same w _ _) (setBlock_at ho1) (.map (arr.modify j fun e => { e with key := yv }) c (by simpa using e7)), .tuple (.cons e2 (.cons (.int _ _) .nil)), ?_⟩
                simp only [Instr.mapEntry, Sem.run_bind, run_underlying ht, hgo, Result.andThen_ok, hck, hfr, e4', Option.map_some, Option.getD_some, Instr.keyThatStays, hbits, if_true, Sem.run_pure, hso, e5, goInt]
                rfl
            · cases h
          · rename_i hfk
            rw [force_eq] at h
            split at h
            · rename_i S1 hput
              simp only [Option.some.injEq, Prod.mk.injEq] at h
              obtain ⟨rfl, rfl⟩ := h
              obtain ⟨zv, hzv, hzr⟩ := zero_run hz ρ
              rcases findE_sound hkk hy 0 hfk her with ⟨-, e1⟩ | ⟨_, _, _, _, e1, -⟩
              · have hfr := findKey_run hkd e1 w
                have hso := run_setObj (P := E.P) (ob := .map (arr.push { key := yv, val := zv, born := c }) (c + 1)) ho1 (by simp)
                refine ⟨_, _, ext_put hok.wrel hok.tidy hobj hp hput (setBlock_same w _ _) (setBlock_at ho1) (.map (arr.push { key := yv, val := zv, born := c }) (c + 1) (by simpa using her.push hy hzv c)), .tuple (.cons hzv (.cons (.int _ _) .nil)), ?_⟩
                simp only [Instr.mapEntry, Sem.run_bind, run_underlying ht, hgo, Result.andThen_ok, hck, hfr, Sem.run_pure, hzr, hso, goInt]
                rfl
              · cases e1
            · cases h
          · cases h
      · cases h
  · cases h

theorem kop_mapEntry {t : TypeId} {x y : Operand} (h : kop0 E cx o = some k) (ho : o.op = .mapEntry t x y) : k.Sound E cx o := by
  simp only [kop0, ho] at h
  split at h
  · rename_i f g key el hf0 hg0 hd
    split at h
    · rename_i kd z hkd hz
      split at h
      · rename_i hkk
        simp only [Option.some.injEq] at h; subst h
        intro ρ e fr a r S S' w hg hok hr hf
        dsimp only at hr
        obtain ⟨v, w', h1, h2, h3⟩ := entryV_sound hd hkd hkk hz hok hr (opd_sound hf0 (hg x (by simp [ho, Op.operands]))) (opd_sound hg0 (hg y (by simp [ho, Op.operands])))
        exact ⟨ρ, v, w', h1, h2, .inl (by simp only [execOp, ho]; exact run_v h3)⟩
      · cases h
    · cases h
  · cases h

theorem setBorn_sound {n : Nat} {v : SV} {ρ : Ren} {vv : Value} (hv : VRel ρ v vv) : ∀ {es es' : List (SV × SV × Nat)} {fs : List MapEntry}, setBorn n v es = some es' → ERel ρ es fs →
    ∃ j, fs.findIdx? (fun e => (e.born : Int) == (n : Int)) = some j ∧ ERel ρ es' (fs.modify j fun e => { e with val := vv })
  | [], es', _, h, .nil => by simp [setBorn] at h
  | (k', x', m) :: es, es', _, h, .cons (e := e) (es := fs) hk' hv' hn hs => by
    simp only [setBorn] at h
    split at h
    · rename_i he
      have he := Nat.eq_of_beq_eq_true he
      simp only [Option.some.injEq] at h; subst h
      refine ⟨0, by simp [List.findIdx?_cons, hn, he], ?_⟩
      simp only [List.modify_zero_cons]
      exact .cons hk' hv hn hs
    · rename_i he
      have hne : m ≠ n := fun e2 => by subst e2; simp at he
      split at h
      · rename_i r hr
        simp only [Option.some.injEq] at h; subst h
        obtain ⟨j, e1, e2⟩ := setBorn_sound hv hr hs
        refine ⟨j + 1, ?_, ?_⟩
        · have : ((e.born : Int) == (n : Int)) = false := by simp; omega
          simp [List.findIdx?_cons, this, e1]
        · simp only [List.modify_succ_cons]
          exact .cons hk' hv' hn e2
      · cases h

theorem estoreV_sound {t : TypeId} {ρ : Ren} {S S' : SW} {w : World} {x y z : SV} {xv yv zv : Value}
    (hok : Ok E ρ S w) (h : estoreV S x y z = some S') (hx : VRel ρ x xv) (hy : VRel ρ y yv) (hz : VRel ρ z zv) :
    ∃ w', Ext ρ S w ρ S' w' ∧ (Instr.entryStore t xv yv zv).run E.P w = .ok () w' := by
  unfold estoreV at h
  split at h
  · cases hx with
    | map hp =>
      split at h
      · rename_i id b x1 x2 es c n hobj hn
        obtain ⟨ob, ho1, ho2⟩ := hok.wrel.obj id _ _ hobj hp
        cases ho2 with
        | map arr c her =>
          have hgo := run_getObj (P := E.P) ho1 (by simp)
          obtain ⟨kk, rfl⟩ := asNat_rel hn hy
          split at h
          · rename_i es' hsb
            obtain ⟨j, e1, e2⟩ := setBorn_sound hz hsb her
            have e1' : arr.findIdx? (fun e => (e.born : Int) == (n : Int)) = some j := by
              cases arr; simpa using e1
            have hso := run_setObj (P := E.P) (ob := .map (arr.modify j fun e => { e with val := zv }) c) ho1 (by simp)
            refine ⟨_, ext_put hok.wrel hok.tidy hobj hp h (setBlock_same w _ _) (setBlock_at ho1) (.map (arr.modify j fun e => { e with val := zv }) c (by simpa using e2)), ?_⟩
            simp only [Instr.entryStore, Sem.run_bind, hgo, Result.andThen_ok, asInt, asIntOf, Sem.run_pure, e1']
            exact hso
          · cases h
      · cases h
  · cases h

theorem kop_entryStore {t : TypeId} {x y z : Operand} (h : kop0 E cx o = some k) (ho : o.op = .entryStore t x y z) : k.Sound E cx o := by
  simp only [kop0, ho] at h
  split at h
  · rename_i f g hh hf0 hg0 hh0
    simp only [Option.some.injEq] at h; subst h
    intro ρ e fr a r S S' w hg hok hr hf
    dsimp only at hr
    unfold done at hr
    split at hr
    · rename_i S1 hst
      simp only [Option.some.injEq, Prod.mk.injEq] at hr
      obtain ⟨rfl, rfl⟩ := hr
      obtain ⟨w', h1, h2⟩ := estoreV_sound (t := t) hok hst (opd_sound hf0 (hg x (by simp [ho, Op.operands]))) (opd_sound hg0 (hg y (by simp [ho, Op.operands]))) (opd_sound hh0 (hg z (by simp [ho, Op.operands])))
      exact ⟨ρ, undef, w', h1, .tuple .nil, .inr ⟨by simp only [execOp, ho]; exact run_u h2, rfl⟩⟩
    · cases hr
  · cases h

theorem remKey_sound {d : TypeDesc} (hd : keyKind d = true) {k : SV} {ρ : Ren} {kv : Value} (hk : VRel ρ k kv) : ∀ {es es' : List (SV × SV × Nat)} {fs : List MapEntry} (i : Nat), remKey d k es = some es' → ERel ρ es fs →
    (Instr.findNow d kv fs i = some none ∧ es' = es) ∨ ∃ j u, Instr.findNow d kv fs i = some (some (i + j, u)) ∧ ERel ρ es' (fs.eraseIdx j)
  | [], es', _, i, h, .nil => by
    simp only [remKey, Option.some.injEq] at h; subst h
    exact .inl ⟨rfl, rfl⟩
  | (k', x', n) :: es, es', _, i, h, .cons (e := e) (es := fs) hk' hv' hn hs => by
    simp only [remKey] at h
    split at h
    · rename_i he
      simp only [Option.some.injEq] at h; subst h
      obtain ⟨h1, -⟩ := sameNow_sound hd he hk hk'
      exact .inr ⟨0, e.val, by simp [Instr.findNow, h1], by simpa using hs⟩
    · rename_i he
      obtain ⟨h1, -⟩ := sameNow_sound hd he hk hk'
      split at h
      · rename_i r hr
        simp only [Option.some.injEq] at h; subst h
        rcases remKey_sound hd hk (i + 1) hr hs with ⟨e1, e2⟩ | ⟨j, u, e1, e2⟩
        · exact .inl ⟨by simp [Instr.findNow, h1, e1], by rw [e2]⟩
        · refine .inr ⟨j + 1, u, by simp [Instr.findNow, h1, e1]; omega, ?_⟩
          simp only [List.eraseIdx_cons_succ]
          exact .cons hk' hv' hn e2
      · cases h
    · cases h

theorem deleteV_sound {t key elem ty : TypeId} {ts : Array TypeId} {kd : TypeDesc} {ρ : Ren} {S S' : SW} {w : World} {x y : SV} {xv yv : Value} (h0 : ts[0]? = some t) (ht : E.P.underlying t = some (.map key elem)) (hkd : E.P.underlying key = some kd) (hkk : keyKind kd = true)
    (hok : Ok E ρ S w) (h : deleteV E kd S x y = some S') (hx : VRel ρ x xv) (hy : VRel ρ y yv) :
    ∃ w', Ext ρ S w ρ S' w' ∧ (Builtin.delete_ ts ty #[xv, yv]).run E.P w = .ok (.tuple #[]) w' := by
  unfold deleteV at h
  have a0 : (#[xv, yv] : Array Value)[0]? = some xv := rfl
  have a1 : (#[xv, yv] : Array Value)[1]? = some yv := rfl
  split at h
  · simp only [Option.some.injEq] at h; subst h
    cases hx
    have hck := checkKey_run hkd hkk true yv w
    refine ⟨w, hok.refl_ext, ?_⟩
    simp only [Builtin.delete_, h0, a0, a1, Sem.run_bind, run_underlying ht, Result.andThen_ok, hck, Sem.run_pure]
  · cases hx with
    | map hp =>
      split at h
      · rename_i id b x1 es c hobj
        obtain ⟨ob, ho1, ho2⟩ := hok.wrel.obj id _ _ hobj hp
        cases ho2 with
        | map arr c her =>
          have hgo := run_getObj (P := E.P) ho1 (by simp)
          have hck := checkKey_run hkd hkk arr.isEmpty yv w
          split at h
          · rename_i es' hrk
            rcases remKey_sound hkk hy 0 hrk her with ⟨e1, rfl⟩ | ⟨j, u, e1, e2⟩
            · have hfr := findKey_run hkd e1 w
              have hso := run_setObj (P := E.P) (ob := .map arr c) ho1 (by simp)
              refine ⟨_, ext_put hok.wrel hok.tidy hobj hp h (setBlock_same w _ _) (setBlock_at ho1) (.map arr c her), ?_⟩
              simp only [Builtin.delete_, h0, a0, a1, Sem.run_bind, run_underlying ht, Result.andThen_ok, hgo, hck, hfr, hso, Sem.run_pure]
            · rw [Nat.zero_add] at e1
              have hfr := findKey_run hkd e1 w
              have hso := run_setObj (P := E.P) (ob := .map (arr.eraseIdxIfInBounds j) c) ho1 (by simp)
              refine ⟨_, ext_put hok.wrel hok.tidy hobj hp h (setBlock_same w _ _) (setBlock_at ho1) (.map (arr.eraseIdxIfInBounds j) c (by simpa using e2)), ?_⟩
              simp only [Builtin.delete_, h0, a0, a1, Sem.run_bind, run_underlying ht, Result.andThen_ok, hgo, hck, hfr, hso, Sem.run_pure]
          · cases h
      · rename_i id b x1 ab hobj
        obtain ⟨ob, ho1, ho2⟩ := hok.wrel.obj id _ _ hobj hp
        generalize hbo : SObj.blob ab = bo at ho2
        cases ho2 <;> first | (cases hbo; done) | skip
        rename_i bb aa hprop
        cases hbo
        rw [hok.num.sig] at hprop
        split at h
        · rename_i a' hms
          obtain ⟨arr, c, rfl, hdel⟩ := hok.num.maps.del _ _ _ _ hms ρ _ _ hok.num.sig hy hprop
          have hgo := run_getObj (P := E.P) ho1 (by simp)
          have hck := checkKey_run hkd hkk arr.isEmpty yv w
          rcases hdel with ⟨e1, hp'⟩ | ⟨j, u, e1, hp'⟩
          · have hfr := findKey_run hkd e1 w
            have hso := run_setObj (P := E.P) (ob := .map arr c) ho1 (by simp)
            refine ⟨_, ext_put hok.wrel hok.tidy hobj hp h (setBlock_same w _ _) (setBlock_at ho1) (.blob _ (by rw [hok.num.sig]; exact hp')), ?_⟩
            simp only [Builtin.delete_, h0, a0, a1, Sem.run_bind, run_underlying ht, Result.andThen_ok, hgo, hck, hfr, hso, Sem.run_pure]
          · have hfr := findKey_run hkd e1 w
            have hso := run_setObj (P := E.P) (ob := .map (arr.eraseIdxIfInBounds j) c) ho1 (by simp)
            refine ⟨_, ext_put hok.wrel hok.tidy hobj hp h (setBlock_same w _ _) (setBlock_at ho1) (.blob _ (by rw [hok.num.sig]; exact hp')), ?_⟩
            simp only [Builtin.delete_, h0, a0, a1, Sem.run_bind, run_underlying ht, Result.andThen_ok, hgo, hck, hfr, hso, Sem.run_pure]
        · cases h
      · cases h
  · cases h

/-! ### Rows: their first cells -/
theorem rowLen_run {ρ : Ren} {x : SV} {v : Value} {m : Nat} (h : rowLen x = some m) (hx : VRel ρ x v) (w : World) : (Builtin.lenOf v).run E.P w = .ok m w := by
  unfold rowLen at h
  split at h
  · cases hx; simp only [Option.some.injEq] at h; subst h; rfl
  · simp only [Option.some.injEq] at h; subst h; cases hx <;> rfl
  · cases hx; simp only [Option.some.injEq] at h; subst h; rfl
  · cases h

theorem slice_addr {ρ : Ren} {id off len : Nat} {c : SCap} {v : Value} (h : VRel ρ (.slice id off len c) v) : ∃ b ofs tt x cap, ρ id = some (b, ofs, tt) ∧ v = .slice (some ⟨b, x, none⟩) len cap ∧ (len ≠ 0 → x = ofs + off) := by
  cases h with
  | sliceE hp => exact ⟨_, _, _, _, _, hp, rfl, fun _ => rfl⟩
  | sliceT hp ht hl hk hx => exact ⟨_, _, _, _, _, hp, rfl, fun hne => by rcases hx with rfl | h0; rfl; omega⟩

theorem firstCells_sound {ρ : Ren} {S : SW} {w : World} {size n m : Nat} {x : SV} {v : Value} {cs : List SV} (hok : Ok E ρ S w) (h : Sym.firstCells S size n x = some cs) (hx : VRel ρ x v) (hm : rowLen x = some m) (hn : n ≤ m) :
    ∃ vs : List Value, VRels ρ cs vs ∧ (Builtin.firstCells size n v).run E.P w = .ok vs.toArray w := by
  unfold Sym.firstCells at h
  split at h
  · rename_i id off len c
    obtain ⟨b, ofs, tt, xa, cap, hp, rfl, hadr⟩ := slice_addr hx
    simp only [rowLen, Option.some.injEq] at hm
    subst hm
    split at h
    · rename_i cs0 el hobj
      obtain ⟨ob, ho1, ho2⟩ := hok.wrel.obj id _ _ hobj hp
      cases ho2 with
      | cells arr _ fz ht hlen hfz hmk hwh hc =>
        obtain ⟨vs, h1, h2, h3⟩ := Holds.seg (show Holds ρ cs0 ofs arr from hc) h
        refine ⟨vs, h2, ?_⟩
        simp only [Builtin.firstCells]
        by_cases h0 : n = 0
        · subst h0
          have : vs = [] := by apply List.eq_nil_of_length_eq_zero; rw [h1]; simp
          subst this
          simp only [Nat.zero_mul]
          rfl
        · rw [hadr (by omega), ← h1]
          exact run_loadCells_win E.P ho1 vs h3
    · cases h
  · simp only [Option.some.injEq] at h; subst h
    cases hx
    exact ⟨[], .nil, rfl⟩
  · rename_i s
    simp only [Option.some.injEq] at h; subst h
    cases hx
    refine ⟨((s.data.toList.take n).map fun b => Value.int .u8 b.toNat), ?_, ?_⟩
    · generalize s.data.toList.take n = l
      induction l with
      | nil => exact .nil
      | cons b l ih => exact .cons (.int _ _) ih
    · simp only [Builtin.firstCells]
      show Result.ok _ w = _
      congr 1
      apply Array.ext'
      simp [ByteArray.extract, ByteArray.copySlice]
  · cases h
end
end Go.RX

/- copy and append. -/
namespace Go.RX
open Sym
section
variable {E : Env} {cx : Cx} {o : Oper} {k : KOp} {c : Call}

theorem firstCells_len {S : SW} {size n : Nat} {x : SV} {cs : List SV} {m : Nat} (h : Sym.firstCells S size n x = some cs) (hm : rowLen x = some m) (hn : n ≤ m) (hs : (∃ s, x = .string s) → size = 1) (h0 : x = .nilslice → n = 0) : cs.length = n * size := by
  unfold Sym.firstCells at h
  split at h
  · split at h
    · exact (seg_some _ _ _ _ h).2.2
    · cases h
  · simp only [Option.some.injEq] at h; subst h
    rw [h0 rfl]; simp
  · rename_i s
    simp only [Option.some.injEq] at h; subst h
    simp only [rowLen, Option.some.injEq] at hm
    rw [hs ⟨s, rfl⟩]
    simp only [List.length_map, List.length_take, Array.length_toList]
    have : s.data.size = s.size := rfl
    omega
  · cases h

theorem withW_some {S : SW} {r : Option SV} {x : SV} {S' : SW} (h : withW S r = some (x, S')) : r = some x ∧ S' = S := by
  unfold withW at h
  split at h
  · simp only [Option.some.injEq, Prod.mk.injEq] at h; obtain ⟨rfl, rfl⟩ := h; exact ⟨rfl, rfl⟩
  · cases h

theorem arr2_0 (a b : Value) : (#[a, b] : Array Value)[0]? = some a := rfl
theorem arr2_1 (a b : Value) : (#[a, b] : Array Value)[1]? = some b := rfl

theorem copyV_sound {ρ : Ren} {S S' : SW} {w : World} {size : Nat} {x y r : SV} {xv yv : Value} {t0 t1 ty elem : TypeId} {ts : Array TypeId} (hts : ts[0]? = some t0) (hd : E.P.underlying t0 = some (.slice elem)) (hsz : Sym.sizeOf E elem = some size)
    (hok : Ok E ρ S w) (h : copyV size S x y = some (r, S')) (hx : VRel ρ x xv) (hy : VRel ρ y yv) :
    ∃ v w', Ext ρ S w ρ S' w' ∧ VRel ρ r v ∧ (Builtin.copy_ ts ty #[xv, yv]).run E.P w = .ok v w' := by
  unfold copyV at h
  split at h
  · cases h
  · rename_i m hm
    have hl := rowLen_run (E := E) hm hy
    split at h
    · cases hx
      simp only [Option.some.injEq, Prod.mk.injEq] at h
      obtain ⟨rfl, rfl⟩ := h
      refine ⟨_, w, hok.refl_ext, .int _ _, ?_⟩
      have hf0 : ∀ w, ∃ a, (Builtin.firstCells size 0 yv).run E.P w = .ok a w := by
        intro w
        unfold rowLen at hm
        split at hm
        · cases hy; exact ⟨_, rfl⟩
        · obtain ⟨b, ofs, tt, xa, cap, hp, rfl, hadr⟩ := slice_addr hy
          simp only [Builtin.firstCells, Nat.zero_mul]
          exact ⟨_, rfl⟩
        · cases hy; exact ⟨_, rfl⟩
        · cases hm
      obtain ⟨a, ha⟩ := hf0 w
      have hm0 : Nat.min m 0 = 0 := Nat.min_zero m
      simp only [Builtin.copy_, hts, arr2_0, arr2_1, Sem.run_bind, run_underlying hd, Result.andThen_ok, hl, sizeOf_run hsz, hm0]
      show ((Builtin.firstCells size 0 yv).run E.P w).andThen _ = _
      rw [ha]
      rfl
    · rename_i id off len cp
      obtain ⟨b, ofs, tt, xa, cap, hp, rfl, hadr⟩ := slice_addr hx
      split at h
      · rename_i cs hcs
        obtain ⟨vs, hvs, hrun⟩ := firstCells_sound hok hcs hy hm (Nat.min_le_left _ _)
        split at h
        · rename_i S1 hst
          obtain ⟨hr, rfl⟩ := withW_some h
          rw [int_eq] at hr
          simp only [Option.some.injEq] at hr; subst hr
          obtain ⟨w', h1, h2, -⟩ := storeAt_sound hok hst hp hvs
          have hstore : (storeCells ⟨b, xa, none⟩ vs).run E.P w = .ok () w' := by
            by_cases h0 : vs = []
            · subst h0
              exact h1
            · rw [hadr ?_]
              · exact h1
              · intro hlen
                subst hlen
                rw [Nat.min_zero] at hcs
                apply h0
                apply List.eq_nil_of_length_eq_zero
                rw [← hvs.length]
                unfold Sym.firstCells at hcs
                split at hcs
                · split at hcs
                  · rw [(seg_some _ _ _ _ hcs).2.2]; simp
                  · cases hcs
                · simp only [Option.some.injEq] at hcs; subst hcs; rfl
                · simp only [Option.some.injEq] at hcs; subst hcs; rfl
                · cases hcs
          refine ⟨_, w', h2, .int _ _, ?_⟩
          simp only [Builtin.copy_, hts, arr2_0, arr2_1, Sem.run_bind, run_underlying hd, Result.andThen_ok, hl, sizeOf_run hsz]
          show ((Builtin.firstCells size (min m len) yv).run E.P w).andThen _ = _
          rw [hrun]
          simp only [Result.andThen_ok, hstore]
          rfl
        · cases h
      · cases h
    · cases h

theorem copy_sound {x y : Operand} (h : builtinK E cx .copy c.argTypes [x, y] = some k) (ho : o.op = .call c) (hc : c.callee = .builtin .copy) (ha : c.args.toList = [x, y]) : k.Sound E cx o := by
  simp only [builtinK] at h
  split at h
  · rename_i f g t0 ts hf0 hg0 hts
    split at h
    · rename_i elem hd
      split at h
      · rename_i size hsz
        simp only [Option.some.injEq] at h; subst h
        intro ρ e fr a r S S' w hg hok hr hf
        dsimp only at hr
        obtain ⟨v, w', h1, h2, h3⟩ := copyV_sound (ty := o.type) (t1 := t0) (types1 hts) hd hsz hok hr (opd_sound hf0 (hg x (call_operands ho (by simp [ha])))) (opd_sound hg0 (hg y (call_operands ho (by simp [ha]))))
        obtain ⟨cs, hrn⟩ := run_builtin (E := E) ho hc a
        refine ⟨ρ, v, w', h1, h2, .inl ?_⟩
        rw [hrn, map_args2 ha]
        exact run_v h3
      · cases h
    · cases h
  · cases h

/-! ### clear, delete -/
theorem clear_sound {x : Operand} (h : builtinK E cx .clear c.argTypes [x] = some k) (ho : o.op = .call c) (hc : c.callee = .builtin .clear) (ha : c.args.toList = [x]) : k.Sound E cx o := by
  simp only [builtinK] at h
  split at h
  · rename_i f t0 ts hf0 hts
    split at h
    · rename_i elem hd
      split at h
      · rename_i z hz
        simp only [Option.some.injEq] at h; subst h
        intro ρ e fr a r S S' w hg hok hr hf
        dsimp only at hr
        obtain ⟨cs, hrn⟩ := run_builtin (E := E) ho hc a
        have h1 := opd_sound hf0 (hg x (call_operands ho (by simp [ha])))
        obtain ⟨zv, hzv, hzr⟩ := zero_run hz ρ
        have hcv := hzv.cells (zero_known hz)
        have arg0 : (#[a.eval x] : Array Value)[0]? = some (a.eval x) := rfl
        unfold done at hr
        split at hr
        · rename_i S1 hst
          simp only [Option.some.injEq, Prod.mk.injEq] at hr
          obtain ⟨rfl, rfl⟩ := hr
          suffices ∃ w', Ext ρ S w ρ S1 w' ∧ (Builtin.clear_ c.argTypes o.type #[a.eval x]).run E.P w = .ok (.tuple #[]) w' by
            obtain ⟨w', k1, k2⟩ := this
            refine ⟨ρ, _, w', k1, .tuple .nil, .inl ?_⟩
            rw [hrn, map_args1 ha]
            exact run_v k2
          unfold clearV at hst
          split at hst
          · rename_i e1; rw [e1] at h1
            simp only [Option.some.injEq] at hst; subst hst
            generalize hb : a.eval x = b at h1 arg0 ⊢
            cases h1
            refine ⟨w, hok.refl_ext, ?_⟩
            simp only [Builtin.clear_, types1 hts, arg0, Sem.run_bind, run_underlying hd, Result.andThen_ok, Sem.run_pure]
          · rename_i id off len cc e1; rw [e1] at h1
            generalize hb : a.eval x = b at h1 arg0 ⊢
            obtain ⟨bb, ofs, tt, xa, cap, hp, rfl, hadr⟩ := slice_addr h1
            split at hst
            · simp only [Option.some.injEq] at hst; subst hst
              refine ⟨w, hok.refl_ext, ?_⟩
              simp only [Builtin.clear_, types1 hts, arg0, Sem.run_bind, run_underlying hd, Result.andThen_ok, Sem.run_pure]
            · rename_i len
              have := hadr (by omega)
              subst this
              obtain ⟨w', hrun, hext, -⟩ := storeAt_sound hok hst hp (copies_rel hcv (len + 1) ((len + 1) * zv.cells.size) rfl)
              refine ⟨w', hext, ?_⟩
              have hz2 : (Builtin.zeroCells zv.cells (len + 1)).toList = (madeCells zv.cells ((len + 1) * zv.cells.size)).toList := rfl
              simp only [Builtin.clear_, types1 hts, arg0, Sem.run_bind, run_underlying hd, Result.andThen_ok, Sem.run_pure, hzr, hz2, hrun]
          · cases hst
        · cases hr
      · cases h
    · cases h
  · cases h

theorem delete_sound {x y : Operand} (h : builtinK E cx .delete c.argTypes [x, y] = some k) (ho : o.op = .call c) (hc : c.callee = .builtin .delete) (ha : c.args.toList = [x, y]) : k.Sound E cx o := by
  simp only [builtinK] at h
  split at h
  · rename_i f g t0 ts hf0 hg0 hts
    split at h
    · rename_i key elem hd
      split at h
      · rename_i kd hkd
        split at h
        · rename_i hkk
          simp only [Option.some.injEq] at h; subst h
          intro ρ e fr a r S S' w hg hok hr hf
          dsimp only at hr
          unfold done at hr
          split at hr
          · rename_i S1 hst
            simp only [Option.some.injEq, Prod.mk.injEq] at hr
            obtain ⟨rfl, rfl⟩ := hr
            obtain ⟨w', h1, h2⟩ := deleteV_sound (ty := o.type) (types1 hts) hd hkd hkk hok hst (opd_sound hf0 (hg x (call_operands ho (by simp [ha])))) (opd_sound hg0 (hg y (call_operands ho (by simp [ha]))))
            obtain ⟨cs, hrn⟩ := run_builtin (E := E) ho hc a
            refine ⟨ρ, _, w', h1, .tuple .nil, .inl ?_⟩
            rw [hrn, map_args2 ha]
            exact run_v h2
          · cases hr
        · cases h
      · cases h
    · cases h
  · cases h

/-! ### append -/
section
variable {t0 t1 ty elem : TypeId} {u : TypeDesc} {i : TypeInfo} {z : Value} {ts : Array TypeId}

theorem run_append_room' (h0 : ts[0]? = some t0) (h1 : ts[1]? = some t1) (hd : E.P.underlying t0 = some (.slice elem)) (hu : E.P.underlying t1 = some u) (hi : E.P.info? elem = some i) (hnu : ∀ k, u ≠ .int k)
    {base : Option Addr} {len cap n : Nat} {xv : Value} {new : Array Value} {w w' : World} (hl : (Builtin.lenOf xv).run E.P w = .ok n w) (hroom : len + n ≤ cap) (hnew : (Builtin.firstCells i.size n xv).run E.P w = .ok new w)
    (hst : (match base with | some a => storeCells (a.add (len * i.size)) new.toList | none => pure () : Sem Unit).run E.P w = .ok () w') :
    (Builtin.append_ ts ty #[.slice base len cap, xv]).run E.P w = .ok (.slice base (len + n) cap) w' := by
  have hz : (match u with | .int _ => true | _ => false) = false := by cases u <;> first | rfl | exact absurd rfl (hnu _)
  have hsz : ∀ w, (Go.sizeOf elem).run E.P w = .ok i.size w := fun w => by simp [Go.sizeOf, typeInfo, hi]
  cases base with
  | none =>
    simp only [Builtin.append_, h0, h1, arr2_0, arr2_1, Sem.run_bind, run_underlying hd, run_underlying hu, Result.andThen_ok, Sem.run_pure, hsz, hz, Bool.false_eq_true, if_false, hl, if_pos hroom, Bool.not_false, if_true, hnew]
    simp only [Sem.run_pure, Result.ok.injEq] at hst
    rw [hst.2]
  | some a =>
    simp only [Builtin.append_, h0, h1, arr2_0, arr2_1, Sem.run_bind, run_underlying hd, run_underlying hu, Result.andThen_ok, Sem.run_pure, hsz, hz, Bool.false_eq_true, if_false, hl, if_pos hroom, Bool.not_false, if_true, hnew]
    simp only at hst
    rw [hst]
    rfl

theorem run_append_grow' (h0 : ts[0]? = some t0) (h1 : ts[1]? = some t1) (hd : E.P.underlying t0 = some (.slice elem)) (hu : E.P.underlying t1 = some u) (hi : E.P.info? elem = some i) (hzr : i.zero = some z) (hnu : ∀ k, u ≠ .int k)
    {base : Option Addr} {len cap n : Nat} {xv : Value} {old new : Array Value} {w : World} (hl : (Builtin.lenOf xv).run E.P w = .ok n w) (hgrow : cap < len + n) (hbound : (len + n + len + len + 1024) * (i.bytes + 1) ≤ 140737488355328) (hb1 : 1 ≤ i.bytes ∨ True)
    (hold : (Builtin.firstCells i.size len (.slice base len cap)).run E.P w.drew = .ok old w.drew) (hnew : (Builtin.firstCells i.size n xv).run E.P w.drew = .ok new w.drew) :
    (Builtin.append_ ts ty #[.slice base len cap, xv]).run E.P w =
      .ok (.slice (some ⟨w.heap.size, 0, none⟩) (len + n) (grownCap w (len + n) cap elem)) (w.drew.alloc (.cells (old ++ new ++ Builtin.zeroCells z.cells (grownCap w (len + n) cap elem - (len + n))) elem)) := by
  have hz : (match u with | .int _ => true | _ => false) = false := by cases u <;> first | rfl | exact absurd rfl (hnu _)
  have hsz : ∀ w, (Go.sizeOf elem).run E.P w = .ok i.size w := fun w => by simp [Go.sizeOf, typeInfo, hi]
  have hti : ∀ w, (typeInfo elem).run E.P w = .ok i w := fun w => by simp [typeInfo, hi]
  have hzv : ∀ w, (zeroValue elem).run E.P w = .ok z w := fun w => by simp [zeroValue, typeInfo, hi, hzr]
  have hnr : ¬ (len + n ≤ cap) := by omega
  have hmax : IntKind.i64.max = 9223372036854775807 := rfl
  have hsmall : len + n + len + len + 1024 ≤ 140737488355328 := Nat.le_trans (Nat.le_mul_of_pos_right _ (Nat.succ_pos i.bytes)) hbound
  have h63 : ¬ (((len + n : Nat) : Int) > IntKind.i64.max ∧ (False ∨ i.bytes = 0)) := by rw [hmax]; omega
  have h48 : ¬ (Builtin.nextslicecap (len + n) cap * i.bytes > 281474976710656) := by
    have h2 : Builtin.nextslicecap (len + n) cap * i.bytes ≤ 2 * (len + n) * i.bytes := Nat.mul_le_mul_right _ (nextslicecap_le hgrow)
    have h3 : (len + n) * i.bytes ≤ (len + n + len + len + 1024) * (i.bytes + 1) := Nat.mul_le_mul (by omega) (by omega)
    rw [Nat.mul_assoc] at h2
    omega
  have hpow : (2 : Nat) ^ 48 = 281474976710656 := by decide
  simp only [Builtin.append_, h0, h1, arr2_0, arr2_1, Sem.run_bind, run_underlying hd, run_underlying hu, Result.andThen_ok, Sem.run_pure, hsz, hz, Bool.false_eq_true, if_false, hl, if_neg hnr, hti, if_neg h63, hpow, if_neg h48,
    run_choose_drew, Question.forced, run_askRoom, hold, Bool.not_false, if_true, hnew, hzv, newRow, run_newObj_alloc]
  rfl

theorem firstCells0 {ρ : Ren} {y : SV} {yv : Value} (hm : rowLen y = some 0) (hy : VRel ρ y yv) (size : Nat) (w : World) : (Builtin.firstCells size 0 yv).run E.P w = .ok #[] w := by
  unfold rowLen at hm
  split at hm
  · rename_i s
    cases hy
    simp only [Builtin.firstCells]
    show Result.ok _ w = _
    congr 1
    apply Array.ext'
    simp [ByteArray.extract, ByteArray.copySlice]
  · obtain ⟨b, ofs, tt, xa, cap, hp, rfl, hadr⟩ := slice_addr hy
    simp only [Builtin.firstCells, Nat.zero_mul]
    rfl
  · cases hy; rfl
  · cases hm

theorem elAt_row {elem : Nat} {S : SW} {id off ofs m : Nat} {cs : List SV} {el2 : Nat} (hobj : Sym.hget S id = some (.cells cs m)) (h : ∀ t : Nat, m = 2 * t + 3 → el2 = t ∧ ofs = 0) : ∀ t : Nat, elAt elem S id off = 2 * t + 3 → el2 = t ∧ ofs + off = 0 := by
  intro t ht
  simp only [elAt, hobj] at ht
  split at ht
  · omega
  · rename_i h1 h2 h3
    have h2 := Nat.eq_of_beq_eq_true h2
    have h3 := Nat.eq_of_beq_eq_true h3
    rw [rowsMark_eq] at ht h2
    obtain ⟨a, b⟩ := h t (by omega)
    exact ⟨a, by omega⟩
  · omega

theorem grow_ext {ρ : Ren} {S S' : SW} {w : World} {elS : TypeId} {size bytes len n : Nat} {old added : List SV} {r : SV} (h : Sym.grow elS size bytes S old len added n = some (r, S')) (hok : Ok E ρ S w) (hf : Fresh ρ S.next S'.next)
    {oldv newv : List Value} (ho : VRels ρ old oldv) (hn : VRels ρ added newv) (hol : oldv.length = len * size) (hnl : newv.length = n * size) (hzs : z.cells.size = size) (cap : Nat) (hc : len + n ≤ cap) (hS : GrowMark elem elS) :
    (len + n + len + len + 1024) * (bytes + 1) ≤ 140737488355328 ∧
    ∃ ρ', Ext ρ S w ρ' S' (w.drew.alloc (.cells (oldv.toArray ++ newv.toArray ++ Builtin.zeroCells z.cells (cap - (len + n))) elem)) ∧ VRel ρ' r (.slice (some ⟨w.heap.size, 0, none⟩) (len + n) cap) := by
  unfold Sym.grow at h
  split at h
  · rename_i hb hsc
    have hb := Nat.le_of_ble_eq_true hb
    split at h
    · rename_i id S1 hnew
      rw [force_eq] at h
      simp only [Option.some.injEq, Prod.mk.injEq] at h
      obtain ⟨rfl, rfl⟩ := h
      have hd := ext_drew hok.wrel hok.tidy
      have hok2 := hok.ext hd
      have hrel := ho.append hn
      have hsz : (oldv.toArray ++ newv.toArray ++ Builtin.zeroCells z.cells (cap - (len + n))).size = cap * size := by
        simp only [Array.size_append, List.size_toArray, hol, hnl, size_zeroCells, hzs]
        have e1 : len + n + (cap - (len + n)) = cap := by omega
        rw [← Nat.add_mul, ← Nat.add_mul, e1]
      have hh : Holds ρ (old ++ added) 0 (oldv.toArray ++ newv.toArray ++ Builtin.zeroCells z.cells (cap - (len + n))) := fun k x e => by
        obtain ⟨v, h1, h2⟩ := hrel.get e
        have hlt := (List.getElem?_eq_some_iff.1 h1).1
        refine ⟨v, ?_, h2⟩
        rw [Nat.zero_add, ← Array.getElem?_toList]
        simp only [Array.toList_append, List.toList_toArray]
        rw [List.getElem?_append_left hlt]
        exact h1
      obtain ⟨ρ', hext, hid⟩ := new_cells' hok2 hnew hf elem _ (0, 0) (nofz' _) (by rw [hsz, hrel.length, List.length_append, hol, hnl, ← Nat.add_mul]; exact Nat.mul_le_mul_right _ hc) hh (fun _ => rfl) ⟨fun t ht => absurd ht (hS.1 t), hS.2⟩
      refine ⟨hb, ρ', hd.trans hext, ?_⟩
      rw [hsz] at hid
      exact .sliceT hid (by simp) hc hc (.inl rfl)
    · cases h
  · cases h

theorem SameBut.eq_of {b : Nat} {w w' : World} (h : w' = w) : SameBut b w w' := h ▸ .refl b w

theorem cap_sum {a m g s : Nat} (h : a + m ≤ g) : a * s + m * s + (g - (a + m)) * s = g * s := by
  rw [← Nat.add_mul, ← Nat.add_mul]
  have e : a + m + (g - (a + m)) = g := by omega
  rw [e]

theorem appendO_sound {ρ : Ren} {S S' : SW} {w : World} {id a k sz m : Nat} {added : List SV} {newv newv2 : List Value} {r : SV} {xv yv zv : Value} (h0 : ts[0]? = some t0) (h1 : ts[1]? = some t1) (hd : E.P.underlying t0 = some (.slice elem)) (hu : E.P.underlying t1 = some u) (hi : E.P.info? elem = some i) (hiz : i.zero = some zv) (hzs : zv.cells.size = i.size) (hnu : ∀ k, u ≠ .int k)
    (hok : Ok E ρ S w) (h : appendO i.size i.bytes S id a k sz added m = some (r, S')) (hf : Fresh ρ S.next S'.next) (hx : VRel ρ (.oslice id a k sz) xv) (hl : (Builtin.lenOf yv).run E.P w = .ok m w) (hnv : VRels ρ added newv) (hnv2 : VRels ρ added newv2) (hnl : newv.length = m * i.size) (hnl2 : newv2.length = m * i.size)
    (hnr : (Builtin.firstCells i.size m yv).run E.P w = .ok newv.toArray w) (hnr2 : (Builtin.firstCells i.size m yv).run E.P w.drew = .ok newv2.toArray w.drew) :
    ∃ ρ' v w', Ext ρ S w ρ' S' w' ∧ VRel ρ' r v ∧ (Builtin.append_ ts ty #[xv, yv]).run E.P w = .ok v w' := by
  unfold appendO at h
  split at h
  · rename_i a' cs hobj
    split at h
    · rename_i g1 g2 g3 g4 g5 g6 g7
      have g1 := Nat.eq_of_beq_eq_true g1
      have g2 := Nat.eq_of_beq_eq_true g2
      have g3 := Nat.eq_of_beq_eq_true g3
      have g6 := Nat.le_of_ble_eq_true g6
      have g7 := Nat.le_of_ble_eq_true g7
      subst g1
      subst g2
      split at h
      · rename_i S1 hkill
        split at h
        · rename_i id' S2 hnew
          rw [force_eq] at h
          simp only [Option.some.injEq, Prod.mk.injEq] at h
          obtain ⟨rfl, rfl⟩ := h
          have hnext : S1.next = S.next := (put_some hkill).1
          have hf1 : ρ S.next = none := by
            have h9 := Fresh.one hnew (by rw [hnext]; exact hf)
            rwa [hnext] at h9
          cases hx with
          | oslice hp ha hc ht hn hk =>
            rename_i b o t b0 x0 n cap
            obtain ⟨ob, ho1, ho2⟩ := hok.wrel.obj _ _ _ hobj hp
            cases ho2 with
            | own arr el2 fz hts ha2 hlen hfz hb hcs =>
              rw [ha] at ha2
              simp only [Prod.mk.injEq] at ha2
              obtain ⟨rfl, rfl, rfl, rfl⟩ := ha2
              have hassoc : n + k + m = n + (k + m) := by omega
              have hin : ∀ {j c : Nat}, j < n → c < i.size → j * i.size + c < n * i.size := fun {j c} hj hcc => by
                have : (j + 1) * i.size ≤ n * i.size := Nat.mul_le_mul_right _ hj
                rw [Nat.add_mul] at this
                omega
              have hnk : (n + k) * i.size = n * i.size + cs.length := by rw [Nat.add_mul, g3]
              have hncap : (n + k) * i.size ≤ cap * i.size := Nat.mul_le_mul_right _ hc
              have hadl : added.length = newv.length := hnv.length
              by_cases hroom : n + k + m ≤ cap
              · have hfit : (n + k + m) * i.size ≤ cap * i.size := Nat.mul_le_mul_right _ hroom
                rw [Nat.add_mul] at hfit
                obtain ⟨w', hrun, hsame, arr', hb', hs', hk'⟩ := run_storeCells_win E.P b (o + (n + k) * i.size) el2 fz newv 0 arr w ho1 hfz (by omega) (allScalar_mem g5 hnv)
                obtain ⟨hext, rfl⟩ := ext_move (q := (b, o, t)) (o' := .cells arr' el2 fz) hok.wrel hok.tidy hf1 hobj hp hkill hnew hsame rfl hb' (.own arr' el2 fz (by rw [hs', hts]) ha (by rw [List.length_append]; omega) (by rw [hs']; exact hfz) (fun j c hj hcc => by
                    have := hin hj hcc
                    rw [hk', if_neg (by omega)]
                    exact hb j c hj hcc) (fun j x e => by
                    by_cases hjo : j < cs.length
                    · rw [List.getElem?_append_left hjo] at e
                      obtain ⟨v, q1, q2⟩ := hcs j x e
                      exact ⟨v, by rw [hk', if_neg (by omega)]; exact q1, q2.mono (Ren.le_set hf1)⟩
                    · rw [List.getElem?_append_right (by omega)] at e
                      obtain ⟨v, q1, q2⟩ := hnv.get e
                      have := (List.getElem?_eq_some_iff.1 q1).1
                      refine ⟨v, ?_, q2.mono (Ren.le_set hf1)⟩
                      rw [hk', if_pos (by omega), ← q1, show o + n * i.size + j - (o + (n + k) * i.size + 0) = j - cs.length from by omega]))
                refine ⟨_, .slice (some ⟨b, o, none⟩) (n + (k + m)) cap, w', hext, .oslice (Ren.set_same _ _ _) ha (by omega) ht hn g6, ?_⟩
                rw [← hassoc]
                refine run_append_room' (base := some _) h0 h1 hd hu hi hnu hl hroom hnr ?_
                simp only [add_win, List.toList_toArray]
                exact hrun
              · have hsmall : (n + k + m + (n + k) + (n + k) + 1024) * (i.bytes + 1) ≤ 140737488355328 := Nat.le_trans (Nat.mul_le_mul_right _ (by omega)) g7
                have hol : ((arr.toList.drop o).take ((n + k) * i.size)).length = (n + k) * i.size := by
                  rw [List.length_take, List.length_drop, Array.length_toList]
                  omega
                have hoget : ∀ j v, ((arr.toList.drop o).take ((n + k) * i.size))[j]? = some v → arr[o + j]? = some v := fun j v e => by
                  rw [List.getElem?_take] at e
                  split at e
                  · rw [List.getElem?_drop, Array.getElem?_toList] at e
                    exact e
                  · cases e
                have hoget' : ∀ j, j < (n + k) * i.size → ((arr.toList.drop o).take ((n + k) * i.size))[j]? = arr[o + j]? := fun j hj => by
                  rw [List.getElem?_take, if_pos hj, List.getElem?_drop, Array.getElem?_toList]
                have hold := run_loadCells_win E.P (w := w.drew) (b := b) (o := o) (arr := arr) (el := el2) (fz := fz) ho1 ((arr.toList.drop o).take ((n + k) * i.size)) hoget
                rw [hol] at hold
                have hold2 : (Builtin.firstCells i.size (n + k) (.slice (some ⟨b, o, none⟩) (n + k) cap)).run E.P w.drew = .ok ((arr.toList.drop o).take ((n + k) * i.size)).toArray w.drew := by
                  simp only [Builtin.firstCells]
                  exact hold
                have hrun := run_append_grow' (ty := ty) h0 h1 hd hu hi hiz hnu hl (by omega) hsmall (.inr trivial) hold2 hnr2
                have hcap := grownCap_ge w (n + k + m) cap elem
                have hkx := ext_kill hok.wrel hok.tidy hkill
                have hokk := hok.ext hkx
                have hdx := ext_drew hokk.wrel hokk.tidy
                have hok3 := hokk.ext hdx
                have hf1' : ρ S1.next = none := by rw [hnext]; exact hf1
                have hsz : (((arr.toList.drop o).take ((n + k) * i.size)).toArray ++ newv2.toArray ++ Builtin.zeroCells zv.cells (grownCap w (n + k + m) cap elem - (n + k + m))).size = grownCap w (n + k + m) cap elem * i.size := by
                  simp only [Array.size_append, List.size_toArray, hol, hnl2, size_zeroCells, hzs]
                  exact cap_sum hcap
                have hget : ∀ j, j < (n + k) * i.size → (((arr.toList.drop o).take ((n + k) * i.size)).toArray ++ newv2.toArray ++ Builtin.zeroCells zv.cells (grownCap w (n + k + m) cap elem - (n + k + m)))[j]? = arr[o + j]? := fun j hj => by
                  rw [← Array.getElem?_toList]
                  simp only [Array.toList_append, List.toList_toArray, List.append_assoc]
                  rw [List.getElem?_append_left (by rw [hol]; exact hj), hoget' j hj]
                have hget2 : ∀ j v, newv2[j]? = some v → (((arr.toList.drop o).take ((n + k) * i.size)).toArray ++ newv2.toArray ++ Builtin.zeroCells zv.cells (grownCap w (n + k + m) cap elem - (n + k + m)))[(n + k) * i.size + j]? = some v := fun j v e => by
                  have hlt := (List.getElem?_eq_some_iff.1 e).1
                  rw [← Array.getElem?_toList]
                  simp only [Array.toList_append, List.toList_toArray, List.append_assoc]
                  rw [List.getElem?_append_right (by rw [hol]; omega), hol, List.getElem?_append_left (by omega), show (n + k) * i.size + j - (n + k) * i.size = j from by omega]
                  exact e
                have hfitm : (n + k + m) * i.size ≤ grownCap w (n + k + m) cap elem * i.size := Nat.mul_le_mul_right _ hcap
                rw [Nat.add_mul] at hfitm
                have hadl2 : added.length = newv2.length := hnv2.length
                have hnx := ext_new (p := (w.drew.heap.size, 0, grownCap w (n + k + m) cap elem * i.size)) (o := .cells (((arr.toList.drop o).take ((n + k) * i.size)).toArray ++ newv2.toArray ++ Builtin.zeroCells zv.cells (grownCap w (n + k + m) cap elem - (n + k + m))) elem (0, 0)) hok3.wrel hok3.tidy hf1' hnew rfl (.own _ elem (0, 0) hsz ha (by rw [List.length_append]; omega) (nofz' _) (fun j c hj hcc => by
                    have := hin hj hcc
                    rw [Nat.zero_add, hget _ (by omega)]
                    show arr[o + (j * i.size + c)]? = some (ρ.sig.cell a' j c)
                    rw [← hb j c hj hcc, Nat.add_assoc]) (fun j x e => by
                    by_cases hjo : j < cs.length
                    · rw [List.getElem?_append_left hjo] at e
                      obtain ⟨v, q1, q2⟩ := hcs j x e
                      exact ⟨v, by rw [Nat.zero_add, hget _ (by omega), ← q1, Nat.add_assoc], q2.mono (Ren.le_set hf1')⟩
                    · rw [List.getElem?_append_right (by omega)] at e
                      obtain ⟨v, q1, q2⟩ := hnv2.get e
                      refine ⟨v, ?_, q2.mono (Ren.le_set hf1')⟩
                      have := hget2 _ _ q1
                      rw [show 0 + n * i.size + j = (n + k) * i.size + (j - cs.length) from by omega]
                      exact this))
                refine ⟨_, .slice (some ⟨w.heap.size, 0, none⟩) (n + (k + m)) (grownCap w (n + k + m) cap elem), _, (hkx.trans hdx).trans hnx, .oslice (o := 0) (t := grownCap w (n + k + m) cap elem * i.size) ?_ ha (by omega) (by omega) hn g6, ?_⟩
                · have := (new_some hnew).1
                  rw [this]
                  exact Ren.set_same _ _ _
                · rw [← hassoc]
                  exact hrun
        · cases h
      · cases h
    · cases h
  · cases h

theorem appendV_sound {ρ : Ren} {S S' : SW} {w : World} {size bytes : Nat} {x y r zs : SV} {xv yv : Value} (h0 : ts[0]? = some t0) (h1 : ts[1]? = some t1) (hd : E.P.underlying t0 = some (.slice elem)) (hu : E.P.underlying t1 = some u) (hi : E.P.info? elem = some i) (hz : Sym.zero E elem = some zs) (hzl : zs.cells.length = i.size) (hnu : ∀ k, u ≠ .int k)
    (hsize : i.size = size) (hbytes : i.bytes = bytes) (hpos : 1 ≤ size) (hok : Ok E ρ S w) (h : appendV elem size bytes S x y = some (r, S')) (hf : Fresh ρ S.next S'.next) (hx : VRel ρ x xv) (hy : VRel ρ y yv) :
    ∃ ρ' v w', Ext ρ S w ρ' S' w' ∧ VRel ρ' r v ∧ (Builtin.append_ ts ty #[xv, yv]).run E.P w = .ok v w' := by
  subst hsize; subst hbytes
  obtain ⟨zv, hzv, hzr⟩ := zero_run hz ρ
  have hiz : i.zero = some zv := by
    have := hzr w
    simp only [zeroValue, typeInfo, Sem.run_bind, run_program, Result.andThen_ok, hi, Sem.run_pure] at this
    split at this
    · rename_i q hq; simp only [Sem.run_pure, Result.ok.injEq] at this; rw [hq, this.1]
    · cases this
  have hzs : zv.cells.size = i.size := by rw [← hzl, (hzv.cells (zero_known hz)).length]; simp
  unfold appendV at h
  split at h
  · cases h
  · rename_i hm
    have hl := rowLen_run (E := E) hm hy w
    have hfc := firstCells0 (E := E) hm hy i.size w
    split at h
    · cases hx
      simp only [Option.some.injEq, Prod.mk.injEq] at h
      obtain ⟨rfl, rfl⟩ := h
      exact ⟨ρ, _, w, hok.refl_ext, .nilslice, run_append_room' (base := none) h0 h1 hd hu hi hnu hl (by omega) hfc rfl⟩
    · rename_i id off len cap
      split at h
      · rename_i hb
        have hb := Nat.le_of_ble_eq_true hb
        simp only [Option.some.injEq, Prod.mk.injEq] at h
        obtain ⟨rfl, rfl⟩ := h
        cases hx with
        | sliceE hp => exact ⟨ρ, _, w, hok.refl_ext, .sliceE hp, run_append_room' (base := some _) h0 h1 hd hu hi hnu hl (by omega) hfc rfl⟩
      · cases h
    · rename_i id off len sz least
      simp only [Option.some.injEq, Prod.mk.injEq] at h
      obtain ⟨rfl, rfl⟩ := h
      cases hx with
      | sliceT hp ht hl2 hk hxx => exact ⟨ρ, _, w, hok.refl_ext, .sliceT hp ht hl2 hk hxx, run_append_room' (base := some _) h0 h1 hd hu hi hnu hl (by omega) hfc rfl⟩
    · cases h
  · rename_i n hm
    have hl := rowLen_run (E := E) hm hy w
    split at h
    · rename_i added hadd hrow
      have hok2 := hok.ext (ext_drew hok.wrel hok.tidy)
      have hstr : (∃ s, y = .string s) → i.size = 1 := fun ⟨s, hs⟩ => by
        subst hs; exact Nat.eq_of_beq_eq_true hrow
      have hlen1 := firstCells_len hadd hm (Nat.le_refl _) hstr (fun hy0 => by subst hy0; simp [rowLen] at hm)
      obtain ⟨newv, hnv, hnr⟩ := firstCells_sound hok hadd hy hm (Nat.le_refl _)
      obtain ⟨newv2, hnv2, hnr2⟩ := firstCells_sound hok2 hadd hy hm (Nat.le_refl _)
      have hnl : newv.length = (n + 1) * i.size := by rw [← hnv.length, hlen1]
      have hnl2 : newv2.length = (n + 1) * i.size := by rw [← hnv2.length, hlen1]
      split at h
      · cases hx
        obtain ⟨hb, ρ', hext, hv⟩ := grow_ext (oldv := []) h hok hf .nil hnv2 (by simp) hnl2 hzs (grownCap w (0 + (n + 1)) 0 elem) (grownCap_ge _ _ _ _) (growMark_rows elem)
        exact ⟨ρ', _, _, hext, hv, run_append_grow' h0 h1 hd hu hi hiz hnu hl (by omega) hb (.inr trivial) rfl hnr2⟩
      · rename_i id off len cap
        split at h
        · rename_i hb
          have hb := Nat.le_of_ble_eq_true hb
          split at h
          · rename_i S1 hst
            rw [force_eq] at h
            simp only [Option.some.injEq, Prod.mk.injEq] at h
            obtain ⟨rfl, rfl⟩ := h
            cases hx with
            | sliceE hp =>
              obtain ⟨w', hrun, hext, -⟩ := storeAt_sound hok hst hp hnv
              refine ⟨ρ, _, w', hext, .sliceE hp, run_append_room' (base := some _) h0 h1 hd hu hi hnu hl hb hnr ?_⟩
              simp only [add_win, List.toList_toArray]
              rw [Nat.add_assoc]; exact hrun
          · cases h
        · rename_i hb
          have hb : ¬ (len + (n + 1) ≤ cap) := fun hle => by rw [Nat.ble_eq_true_of_le hle] at hb; cases hb
          split at h
          · rename_i old hold
            obtain ⟨oldv, hov, hor⟩ := firstCells_sound (E := E) hok2 hold hx rfl (Nat.le_refl _)
            have hol : oldv.length = len * i.size := by rw [← hov.length]; exact firstCells_len hold rfl (Nat.le_refl _) (by rintro ⟨s, hs⟩; cases hs) (by intro h; cases h)
            cases hx with
            | sliceE hp =>
              obtain ⟨hb2, ρ', hext, hv⟩ := grow_ext h hok hf hov hnv2 hol hnl2 hzs (grownCap w (len + (n + 1)) cap elem) (grownCap_ge _ _ _ _) (growMark_rows elem)
              exact ⟨ρ', _, _, hext, hv, run_append_grow' h0 h1 hd hu hi hiz hnu hl (by omega) hb2 (.inr trivial) hor hnr2⟩
          · cases h
      · rename_i id off len sz least
        split at h
        · rename_i hb1 hb
          have hb1 := Nat.eq_of_beq_eq_true hb1
          have hb := Nat.le_of_ble_eq_true hb
          subst hb1
          split at h
          · rename_i S1 hst
            rw [force_eq] at h
            simp only [Option.some.injEq, Prod.mk.injEq] at h
            obtain ⟨rfl, rfl⟩ := h
            cases hx with
            | sliceT hp ht hl2 hk hxx =>
              obtain ⟨w', hrun, hext, -⟩ := storeAt_sound hok hst hp hnv
              refine ⟨ρ, _, w', hext, .sliceT hp ht (by omega) hk hxx, run_append_room' (base := some _) h0 h1 hd hu hi hnu hl (by omega) hnr ?_⟩
              rcases hxx with rfl | h00
              · simp only [add_win, List.toList_toArray]
                rw [Nat.add_assoc]; exact hrun
              · omega
          · cases h
        · rename_i hb1 hb
          have hb1 := Nat.eq_of_beq_eq_true hb1
          subst hb1
          split at h
          · rename_i old S1 hold hkill
            have hnext : S1.next = S.next := (put_some hkill).1
            cases hx with
            | sliceT hp ht hl2 hk hxx =>
              rename_i b ofs tt xx cap
              by_cases hroom : len + (n + 1) ≤ cap
              · have hxx : xx = ofs + off := by rcases hxx with h9 | h9 <;> omega
                subst hxx
                simp only [Sym.firstCells] at hold
                split at hold
                · rename_i cs0 el0 hobj
                  obtain ⟨ob, ho1, ho2⟩ := hok.wrel.obj _ _ _ hobj hp
                  cases ho2 with
                  | cells arr el2 fz hts hlen hfz hmk hwh hc =>
                    obtain ⟨oldv, ho1', ho2', ho3'⟩ := Holds.seg (show Holds ρ cs0 ofs arr from hc) hold
                    unfold Sym.grow at h
                    split at h
                    · rename_i hb2 hsc
                      split at h
                      · rename_i id2 S2 hnew
                        rw [force_eq] at h
                        simp only [Option.some.injEq, Prod.mk.injEq] at h
                        obtain ⟨rfl, rfl⟩ := h
                        have hfit : (len + (n + 1)) * i.size ≤ cap * i.size := Nat.mul_le_mul_right _ hroom
                        rw [Nat.add_mul] at hfit
                        obtain ⟨w', hrun, hsame, arr', hb', hs', hk'⟩ := run_storeCells_win E.P b (ofs + off + len * i.size) el2 fz newv 0 arr w ho1 hfz (by omega) (allScalar_mem hsc hnv)
                        have hf1 : ρ S.next = none := by
                          have h9 := Fresh.one hnew (by rw [hnext]; exact hf)
                          rwa [hnext] at h9
                        have hHold : Holds ρ (old ++ added) (ofs + off) arr' := fun k x e => by
                          by_cases hko : k < old.length
                          · rw [List.getElem?_append_left hko] at e
                            obtain ⟨v, g1, g2⟩ := ho2'.get e
                            refine ⟨v, ?_, g2⟩
                            rw [hk', if_neg (by have := ho2'.length; omega)]
                            exact ho3' k v g1
                          · rw [List.getElem?_append_right (by omega)] at e
                            obtain ⟨v, g1, g2⟩ := hnv.get e
                            have := (List.getElem?_eq_some_iff.1 g1).1
                            have hl9 := ho2'.length
                            refine ⟨v, ?_, g2⟩
                            rw [hk', if_pos (by omega), ← g1, show ofs + off + k - (ofs + off + len * i.size + 0) = k - old.length from by omega]
                        obtain ⟨hext, rfl⟩ := ext_move (q := (b, ofs + off, tt)) (o' := .cells arr' el2 fz) hok.wrel hok.tidy hf1 hobj hp hkill hnew hsame rfl hb' (.cells arr' el2 fz (by rw [hs', hts]) (by rw [List.length_append, ho2'.length, ho1', hlen1]; omega) (by rw [hs']; exact hfz) (fun h9 => hmk fun e9 => by subst e9; exact h9 (by rw [elAt, hobj])) ⟨fun t ht => absurd ht ((elAt_grow elem S id off).1 t), elAt_row hobj hwh.2⟩ (fun k x e => by
                          obtain ⟨v, g1, g2⟩ := hHold k x e
                          exact ⟨v, g1, g2.mono (Ren.le_set hf1)⟩))
                        refine ⟨_, _, w', hext, .sliceT (Ren.set_same _ _ _) (by omega) hroom hroom (.inl rfl), run_append_room' (base := some _) h0 h1 hd hu hi hnu hl hroom hnr ?_⟩
                        simp only [add_win, List.toList_toArray]
                        exact hrun
                      · cases h
                    · cases h
                · cases hold
              · have hx' : VRel ρ (.slice id off len (.toEnd i.size least)) (.slice (some ⟨b, xx, none⟩) len cap) := .sliceT hp ht hl2 hk hxx
                obtain ⟨oldv, hov, hor⟩ := firstCells_sound (E := E) hok2 hold hx' rfl (Nat.le_refl _)
                have hol : oldv.length = len * i.size := by rw [← hov.length]; exact firstCells_len hold rfl (Nat.le_refl _) (by rintro ⟨s, hs⟩; cases hs) (by intro h; cases h)
                have hkx := ext_kill hok.wrel hok.tidy hkill
                obtain ⟨hb2, ρ', hext, hv⟩ := grow_ext h (hok.ext hkx) (by rw [hnext]; exact hf) hov hnv2 hol hnl2 hzs (grownCap w (len + (n + 1)) cap elem) (grownCap_ge _ _ _ _) (elAt_grow elem S _ _)
                exact ⟨ρ', _, _, hkx.trans hext, hv, run_append_grow' h0 h1 hd hu hi hiz hnu hl (by omega) hb2 (.inr trivial) hor hnr2⟩
          · cases h
        · cases h
      · exact appendO_sound h0 h1 hd hu hi hiz hzs hnu hok h hf hx hl hnv hnv2 hnl hnl2 hnr hnr2
      · cases h
    · cases h
end

section
variable {t0 t1 ty elem : TypeId} {u : TypeDesc} {i : TypeInfo} {z : Value} {ts : Array TypeId}
/-- A whole row behind an empty slice: a row of the run's own, with the same elements. -/
theorem likeRow_sound {ρ : Ren} {S S' : SW} {w : World} {a : Nat} {r zs : SV} (h0 : ts[0]? = some t0) (h1 : ts[1]? = some t1) (hd : E.P.underlying t0 = some (.slice elem)) (hu : E.P.underlying t1 = some u) (hi : E.P.info? elem = some i) (hz : Sym.zero E elem = some zs) (hzl : zs.cells.length = i.size) (hnu : ∀ k, u ≠ .int k)
    (hok : Ok E ρ S w) (h : likeRow E i.bytes S a i.size = some (r, S')) (hf : Fresh ρ S.next S'.next) {base : Option Addr} {b o n cap : Nat} {arr : Array Value} {el : TypeId} {fz : Nat × Nat} {b0 x0 : Nat}
    (hsig : ρ.sig.row a = (b0, x0, i.size, n)) (hh : w.heap[b]? = some (.cells arr el fz)) (hc : ∀ j c, j < n → c < i.size → arr[o + j * i.size + c]? = some (ρ.sig.cell a j c)) :
    ∃ ρ' v w', Ext ρ S w ρ' S' w' ∧ VRel ρ' r v ∧ (Builtin.append_ ts ty #[.slice base 0 0, .slice (some ⟨b, o, none⟩) n cap]).run E.P w = .ok v w' := by
  obtain ⟨zv, hzv, hzr⟩ := zero_run hz ρ
  have hiz : i.zero = some zv := by
    have := hzr w
    simp only [zeroValue, typeInfo, Sem.run_bind, run_program, Result.andThen_ok, hi, Sem.run_pure] at this
    split at this
    · rename_i q hq; simp only [Sem.run_pure, Result.ok.injEq] at this; rw [hq, this.1]
    · cases this
  have hzs : zv.cells.size = i.size := by rw [← hzl, (hzv.cells (zero_known hz)).length]; simp
  unfold likeRow at h
  split at h
  · rename_i g1 g2 g3
    have g3 := Nat.le_of_ble_eq_true g3
    have hlen : (IE.len a).val E.sig = n := by
      show (((E.sig.row a).2.2.2 : Nat) : Int) = n
      rw [← hok.num.sig, hsig]
    have hn0 : 0 < n := by
      have := hok.num.lt _ _ _ g1
      rw [ltb_eq, hlen] at this
      have := of_decide_eq_true this
      simp only [IE.val] at this
      omega
    have hn1 : n ≤ 1000000 := by
      have := hok.num.lt _ _ _ g2
      rw [ltb_eq, hlen] at this
      have := of_decide_eq_true this
      simp only [IE.val] at this
      omega
    split at h
    · rename_i id S1 hnew
      simp only [Option.some.injEq, Prod.mk.injEq] at h
      obtain ⟨rfl, rfl⟩ := h
      have hf1 : ρ S.next = none := Fresh.one hnew hf
      have hsmall : (0 + n + 0 + 0 + 1024) * (i.bytes + 1) ≤ 140737488355328 := Nat.le_trans (Nat.mul_le_mul_right _ (by omega)) g3
      have hl : (Builtin.lenOf (.slice (some ⟨b, o, none⟩) n cap)).run E.P w = .ok n w := rfl
      have hold : (Builtin.firstCells i.size 0 (.slice base 0 0)).run E.P w.drew = .ok #[] w.drew := by
        cases base with
        | none => rfl
        | some p =>
          simp only [Builtin.firstCells, Nat.zero_mul]
          rfl
      let L : List Value := (List.range (n * i.size)).map fun j => ρ.sig.cell a (j / i.size) (j % i.size)
      have hLl : L.length = n * i.size := by simp [L]
      have hLg : ∀ j v, L[j]? = some v → arr[o + j]? = some v := fun j v hv => by
        simp only [L, List.getElem?_map, Option.map_eq_some_iff] at hv
        obtain ⟨j', hj, rfl⟩ := hv
        have hj2 : j < n * i.size := by
          have := (List.getElem?_eq_some_iff.1 hj).1
          simpa using this
        rw [List.getElem?_range hj2] at hj
        simp only [Option.some.injEq] at hj
        subst hj
        have hs0 : 0 < i.size := by
          rcases Nat.eq_zero_or_pos i.size with h | h
          · rw [h] at hj2; omega
          · exact h
        have := hc (j / i.size) (j % i.size) ((Nat.div_lt_iff_lt_mul hs0).2 hj2) (Nat.mod_lt _ hs0)
        rwa [Nat.add_assoc, Nat.div_add_mod'] at this
      have hnewc : (Builtin.firstCells i.size n (.slice (some ⟨b, o, none⟩) n cap)).run E.P w.drew = .ok L.toArray w.drew := by
        simp only [Builtin.firstCells]
        rw [← hLl]
        exact run_loadCells_win E.P (w := w.drew) hh L hLg
      have hrun := run_append_grow' (ty := ty) (base := base) h0 h1 hd hu hi hiz hnu hl (by omega : 0 < 0 + n) hsmall (.inr trivial) hold hnewc
      have hcap := grownCap_ge w (0 + n) 0 elem
      generalize hgc : grownCap w (0 + n) 0 elem = g at hcap hrun
      rw [Nat.zero_add] at hcap
      have hdx := ext_drew hok.wrel hok.tidy
      have hok3 := hok.ext hdx
      have hgs : n * i.size ≤ g * i.size := Nat.mul_le_mul_right _ hcap
      have hsz : (#[] ++ L.toArray ++ Builtin.zeroCells zv.cells (g - (0 + n))).size = g * i.size := by
        simp only [Array.size_append, List.size_toArray, hLl, size_zeroCells, hzs]
        have e : (g - (0 + n)) * i.size = g * i.size - n * i.size := by rw [Nat.zero_add, Nat.sub_mul]
        rw [e]
        show 0 + n * i.size + (g * i.size - n * i.size) = g * i.size
        omega
      have hget : ∀ j v, L[j]? = some v → (#[] ++ L.toArray ++ Builtin.zeroCells zv.cells (g - (0 + n)))[j]? = some v := fun j v e => by
        have hlt := (List.getElem?_eq_some_iff.1 e).1
        rw [← Array.getElem?_toList]
        simp only [Array.toList_append, List.toList_toArray, List.nil_append]
        rw [List.getElem?_append_left hlt]
        exact e
      have hLc : ∀ j c, j < n → c < i.size → L[j * i.size + c]? = some (ρ.sig.cell a j c) := fun j c hj hcc => by
        have hin : j * i.size + c < n * i.size := by
          have : (j + 1) * i.size ≤ n * i.size := Nat.mul_le_mul_right _ hj
          rw [Nat.add_mul] at this
          omega
        simp only [L, List.getElem?_map, List.getElem?_range hin, Option.map_some]
        rw [Nat.mul_comm j, Nat.mul_add_div (by omega), Nat.div_eq_of_lt hcc, Nat.mul_add_mod, Nat.mod_eq_of_lt hcc, Nat.add_zero]
      generalize (#[] ++ L.toArray ++ Builtin.zeroCells zv.cells (g - (0 + n))) = A at hsz hget hrun
      have hnx := ext_new (p := (w.drew.heap.size, 0, g * i.size)) (o := .cells A elem (0, 0)) hok3.wrel hok3.tidy hf1 hnew rfl
        (.own A elem (0, 0) hsz hsig (by simp only [List.length_nil]; omega) (fun k hk hk2 => by simp at hk2) (fun j c hj hcc => by
          have := hget _ _ (hLc j c hj hcc)
          rw [Nat.zero_add]
          exact this) (fun k x e => by simp at e))
      refine ⟨_, .slice (some ⟨w.heap.size, 0, none⟩) n g, _, hdx.trans hnx, ?_, by rw [Nat.zero_add] at hrun; exact hrun⟩
      have e := (new_some hnew).1
      rw [e]
      have := VRel.oslice (ρ := ρ.set S.next (w.drew.heap.size, 0, g * i.size)) (id := S.next) (k := 0) (cap := g) (Ren.set_same _ _ _) hsig (by omega) (by rw [Nat.zero_add]) hn1 (by omega)
      exact this
    · cases h
  · cases h
theorem emptyBase_rel {ρ : Ren} {x : SV} {v : Value} (h : emptyBase x = true) (hx : VRel ρ x v) : ∃ base, v = .slice base 0 0 := by
  unfold emptyBase at h
  split at h
  · cases hx; exact ⟨_, rfl⟩
  · cases hx; exact ⟨_, rfl⟩
  · cases h
theorem appendW_sound {ρ : Ren} {S S' : SW} {w : World} {size bytes : Nat} {x y r zs : SV} {xv yv : Value} (h0 : ts[0]? = some t0) (h1 : ts[1]? = some t1) (hd : E.P.underlying t0 = some (.slice elem)) (hu : E.P.underlying t1 = some u) (hi : E.P.info? elem = some i) (hz : Sym.zero E elem = some zs) (hzl : zs.cells.length = i.size) (hnu : ∀ k, u ≠ .int k)
    (hsize : i.size = size) (hbytes : i.bytes = bytes) (hpos : 1 ≤ size) (hok : Ok E ρ S w) (h : appendW E elem size bytes S x y = some (r, S')) (hf : Fresh ρ S.next S'.next) (hx : VRel ρ x xv) (hy : VRel ρ y yv) :
    ∃ ρ' v w', Ext ρ S w ρ' S' w' ∧ VRel ρ' r v ∧ (Builtin.append_ ts ty #[xv, yv]).run E.P w = .ok v w' := by
  unfold appendW at h
  split at h
  · split at h
    · rename_i ks hb hks
      split at h
      · rename_i hl
        have hl := Nat.eq_of_beq_eq_true hl
        subst hsize; subst hbytes
        obtain ⟨base, rfl⟩ := emptyBase_rel hb hx
        obtain ⟨b0, x0, n, arr, el, fz, hr, hh, hcell⟩ := hok.glob.lies.rows _ _ hks
        rw [hl] at hr
        have hsig := hr
        rw [← hok.num.sig] at hsig
        have hcc : ∀ j c, j < n → c < i.size → arr[x0 + j * i.size + c]? = some (ρ.sig.cell _ j c) := fun j c hj hc => by
          have hk : ks[c]? = some ks[c] := List.getElem?_eq_getElem (by omega)
          have := (hcell j c _ hj hk).1
          rw [hl] at this
          rw [hok.num.sig]
          exact this
        cases hy with
        | row hrow hcap =>
          rw [hsig] at hrow
          simp only [Prod.mk.injEq] at hrow
          obtain ⟨rfl, rfl, rfl, rfl⟩ := hrow
          exact likeRow_sound h0 h1 hd hu hi hz hzl hnu hok h hf hsig hh hcc
        | rowE hrow =>
          rw [hsig] at hrow
          simp only [Prod.mk.injEq] at hrow
          obtain ⟨rfl, rfl, rfl, rfl⟩ := hrow
          unfold likeRow at h
          split at h
          · rename_i g1 g2 g3
            have := hok.num.lt _ _ _ g1
            rw [ltb_eq] at this
            have := of_decide_eq_true this
            simp only [IE.val, hr] at this
            omega
          · cases h
      · cases h
    · cases h
  · split at h
    · rename_i b hb hobj
      split at h
      · rename_i e1 e2
        have e1 := Nat.eq_of_beq_eq_true e1
        have e2 := Nat.eq_of_beq_eq_true e2
        subst hsize; subst hbytes; subst e1; subst e2
        obtain ⟨base, rfl⟩ := emptyBase_rel hb hx
        cases hy with
        | oslice hp ha hc ht hn hk =>
          obtain ⟨ob, ho1, ho2⟩ := hok.wrel.obj _ _ _ hobj hp
          cases ho2 with
          | own arr el2 fz hts ha2 hlen hfz hbb hcs =>
            rw [ha] at ha2
            simp only [Prod.mk.injEq] at ha2
            obtain ⟨rfl, rfl, e3, rfl⟩ := ha2
            subst e3
            exact likeRow_sound h0 h1 hd hu hi hz hzl hnu hok h hf ha ho1 hbb
      · cases h
    · cases h
  · exact appendV_sound h0 h1 hd hu hi hz hzl hnu hsize hbytes hpos hok h hf hx hy
end

theorem run_append_zeros {t0 t1 ty elem : TypeId} {ts : Array TypeId} {i : TypeInfo} {z : Value} {ki kx : IntKind} (h0 : ts[0]? = some t0) (h1 : ts[1]? = some t1) (hd : E.P.underlying t0 = some (.slice elem)) (hu : E.P.underlying t1 = some (.int ki)) (hi : E.P.info? elem = some i) (hzr : i.zero = some z) (hzs : z.cells.size = i.size)
    {base : Option Addr} {len cap n : Nat} {old : Array Value} {w : World} (hgrow : cap < len + n) (hbound : (len + n + len + len + 1024) * (i.bytes + 1) ≤ 140737488355328)
    (hold : (Builtin.firstCells i.size len (.slice base len cap)).run E.P w.drew = .ok old w.drew) :
    (Builtin.append_ ts ty #[.slice base len cap, .int kx n]).run E.P w =
      .ok (.slice (some ⟨w.heap.size, 0, none⟩) (len + n) (grownCap w (len + n) cap elem)) (w.drew.alloc (.cells (old ++ Builtin.zeroCells z.cells n ++ Builtin.zeroCells z.cells (grownCap w (len + n) cap elem - (len + n))) elem)) := by
  have hsz : ∀ w, (Go.sizeOf elem).run E.P w = .ok i.size w := fun w => by simp [Go.sizeOf, typeInfo, hi]
  have hti : ∀ w, (typeInfo elem).run E.P w = .ok i w := fun w => by simp [typeInfo, hi]
  have hzv : ∀ w, (zeroValue elem).run E.P w = .ok z w := fun w => by simp [zeroValue, typeInfo, hi, hzr]
  have hnr : ¬ (len + n ≤ cap) := by omega
  have hmax : IntKind.i64.max = 9223372036854775807 := rfl
  have hsmall : len + n + len + len + 1024 ≤ 140737488355328 := Nat.le_trans (Nat.le_mul_of_pos_right _ (Nat.succ_pos i.bytes)) hbound
  have hw : IntKind.i64.wrap (n : Int) = (n : Int) := by rw [IntKind.wrap_i64]; omega
  have hneg : ¬ ((n : Int) < 0) := by omega
  have hpow : (2 : Nat) ^ 48 = 281474976710656 := by decide
  have hpowi : (2 : Int) ^ 48 = 281474976710656 := by decide
  have h3 : (len + n) * i.bytes ≤ (len + n + len + len + 1024) * (i.bytes + 1) := Nat.mul_le_mul (by omega) (by omega)
  have h48i : ¬ ((n : Int) * (i.bytes : Int) > 281474976710656) := by
    have h4 : n * i.bytes ≤ (len + n) * i.bytes := Nat.mul_le_mul_right _ (by omega)
    have h5 : (n : Int) * (i.bytes : Int) = ((n * i.bytes : Nat) : Int) := by simp
    rw [h5]; omega
  have h63 : ¬ (((len + n : Nat) : Int) > IntKind.i64.max) := by rw [hmax]; omega
  have h48 : ¬ (Builtin.nextslicecap (len + n) cap * i.bytes > 281474976710656) := by
    have h2 : Builtin.nextslicecap (len + n) cap * i.bytes ≤ 2 * (len + n) * i.bytes := Nat.mul_le_mul_right _ (nextslicecap_le hgrow)
    rw [Nat.mul_assoc] at h2
    omega
  have hz0 : n * i.size = 0 → Builtin.zeroCells z.cells n = #[] := fun h => by
    have : (Builtin.zeroCells z.cells n).size = 0 := by rw [size_zeroCells, hzs, h]
    exact Array.eq_empty_of_size_eq_zero this
  have hnew : ∀ w : World, ((if n * i.size = 0 then pure #[] else (do pure (Builtin.zeroCells (← zeroValue elem).cells n)) : Sem (Array Value))).run E.P w = .ok (Builtin.zeroCells z.cells n) w := fun w => by
    by_cases hc : n * i.size = 0
    · rw [if_pos hc, hz0 hc]; rfl
    · rw [if_neg hc]; simp only [Sem.run_bind, hzv, Result.andThen_ok, Sem.run_pure]
  have hb : (match TypeDesc.int ki with | .int _ => true | _ => false) = true := rfl
  simp only [Builtin.append_, h0, h1, arr2_0, arr2_1, Sem.run_bind, run_underlying hd, run_underlying hu, Result.andThen_ok, Sem.run_pure, hsz, hb, if_true, asInt, asIntOf, hw, if_neg hneg, hti, hpowi, if_neg h48i, Int.toNat_natCast, if_neg hnr, h63, false_and, if_false, hpow, if_neg h48,
    run_choose_drew, Question.forced, run_askRoom, hold, Bool.not_true, Bool.false_eq_true, hnew, hzv, newRow, run_newObj_alloc]
  rfl

theorem appendZ_sound {t0 t1 ty elem : TypeId} {ts : Array TypeId} {i : TypeInfo} {ki : IntKind} {ρ : Ren} {S S' : SW} {w : World} {x y r zs : SV} {xv yv : Value} (h0 : ts[0]? = some t0) (h1 : ts[1]? = some t1) (hd : E.P.underlying t0 = some (.slice elem)) (hu : E.P.underlying t1 = some (.int ki)) (hi : E.P.info? elem = some i) (hz : Sym.zero E elem = some zs) (hzl : zs.cells.length = i.size)
    (hok : Ok E ρ S w) (h : appendZ elem i.size i.bytes zs.cells S x y = some (r, S')) (hf : Fresh ρ S.next S'.next) (hx : VRel ρ x xv) (hy : VRel ρ y yv) :
    ∃ ρ' v w', Ext ρ S w ρ' S' w' ∧ VRel ρ' r v ∧ (Builtin.append_ ts ty #[xv, yv]).run E.P w = .ok v w' := by
  obtain ⟨zv, hzv, hzr⟩ := zero_run hz ρ
  have hiz : i.zero = some zv := by
    have := hzr w
    simp only [zeroValue, typeInfo, Sem.run_bind, run_program, Result.andThen_ok, hi, Sem.run_pure] at this
    split at this
    · rename_i q hq; simp only [Sem.run_pure, Result.ok.injEq] at this; rw [hq, this.1]
    · cases this
  have hcv := hzv.cells (zero_known hz)
  have hzs : zv.cells.size = i.size := by rw [← hzl, hcv.length]; simp
  unfold appendZ at h
  split at h
  · rename_i id off len cap n hn
    obtain ⟨kx, rfl⟩ := asNat_rel hn hy
    split at h
    · cases h
    · rename_i hb
      have hgrow : cap < len + n := by
        apply Nat.lt_of_not_le
        intro hle
        rw [Nat.ble_eq_true_of_le hle] at hb; cases hb
      split at h
      · rename_i old hold
        cases hx with
        | sliceE hp =>
          have hd2 := ext_drew hok.wrel hok.tidy
          have hok2 := hok.ext hd2
          have hx' : VRel ρ (.slice id off len (.exact cap)) (.slice (some ⟨_, _ + off, none⟩) len cap) := .sliceE hp
          obtain ⟨oldv, hov, hor⟩ := firstCells_sound (E := E) hok2 hold hx' rfl (Nat.le_refl _)
          have hol : oldv.length = len * i.size := by rw [← hov.length]; exact firstCells_len hold rfl (Nat.le_refl _) (by rintro ⟨s, hs⟩; cases hs) (by intro h; cases h)
          have hcr := copies_rel hcv n (n * zv.cells.size) rfl
          have hzz : (Builtin.zeroCells zv.cells n) = madeCells zv.cells (n * zv.cells.size) := rfl
          obtain ⟨hb2, ρ', hext, hv⟩ := grow_ext (elem := elem) h hok hf hov hcr hol (by simp [size_madeCells, hzs]) hzs (grownCap w (len + n) cap elem) (grownCap_ge _ _ _ _) (growMark_rows elem)
          refine ⟨ρ', _, _, hext, hv, ?_⟩
          have := run_append_zeros (ty := ty) (kx := kx) h0 h1 hd hu hi hiz hzs hgrow hb2 hor
          rw [hzz] at this
          simpa using this
      · cases h
  · cases h

theorem append_sound {x y : Operand} (h : builtinK E cx .append c.argTypes [x, y] = some k) (ho : o.op = .call c) (hc : c.callee = .builtin .append) (ha : c.args.toList = [x, y]) : k.Sound E cx o := by
  simp only [builtinK] at h
  split at h
  · rename_i f g t0 t1 hf0 hg0 hts
    have ht1 : c.argTypes[1]? = some t1 := by rw [← Array.getElem?_toList, hts]; rfl
    split at h
    · rename_i elem u hd hu
      split at h
      · rename_i ki
        split at h
        · rename_i i z hi hz
          split at h
          · rename_i hb1 hb2
            have hb2 := Nat.eq_of_beq_eq_true hb2
            rw [force_eq, force_eq] at h
            simp only [Option.some.injEq] at h; subst h
            intro ρ e fr a r S S' w hg hok hr hf
            dsimp only at hr
            obtain ⟨ρ', v, w', h1, h2, h3⟩ := appendZ_sound (ty := o.type) (types1 hts) ht1 hd hu hi hz hb2 hok hr hf (opd_sound hf0 (hg x (call_operands ho (by simp [ha])))) (opd_sound hg0 (hg y (call_operands ho (by simp [ha]))))
            obtain ⟨cs, hrn⟩ := run_builtin (E := E) ho hc a
            refine ⟨ρ', v, w', h1, h2, .inl ?_⟩
            rw [hrn, map_args2 ha]
            exact run_v h3
          · cases h
        · cases h
      · rename_i hnu
        split at h
        · rename_i i z hi hz
          split at h
          · rename_i hb1 hb2
            have hb1 := Nat.le_of_ble_eq_true hb1
            have hb2 := Nat.eq_of_beq_eq_true hb2
            rw [force_eq, force_eq] at h
            simp only [Option.some.injEq] at h; subst h
            intro ρ e fr a r S S' w hg hok hr hf
            dsimp only at hr
            obtain ⟨ρ', v, w', h1, h2, h3⟩ := appendW_sound (ty := o.type) (types1 hts) ht1 hd hu hi hz hb2 (fun k hk => hnu k hk) rfl rfl hb1 hok hr hf (opd_sound hf0 (hg x (call_operands ho (by simp [ha])))) (opd_sound hg0 (hg y (call_operands ho (by simp [ha]))))
            obtain ⟨cs, hrn⟩ := run_builtin (E := E) ho hc a
            refine ⟨ρ', v, w', h1, h2, .inl ?_⟩
            rw [hrn, map_args2 ha]
            exact run_v h3
          · cases h
        · cases h
    · cases h
  · cases h
end
end Go.RX

/- Conversions, calls, and all operations. -/
namespace Go.RX
open Sym
section
variable {E : Env} {cx : Cx} {o : Oper} {k : KOp} {c : Call}

theorem bytesOf_rel {ρ : Ren} : ∀ {l : List SV} {b : List UInt8} {vs : List Value}, bytesOf l = some b → VRels ρ l vs → ∃ ns : List Int, vs = ns.map (Value.int .u8) ∧ b = ns.map fun n => UInt8.ofNat n.toNat
  | [], b, _, h, .nil => by
    simp [bytesOf] at h; subst h
    exact ⟨[], rfl, rfl⟩
  | x :: l, b, _, h, .cons hx hs => by
    unfold bytesOf at h
    split at h
    · rename_i heq; cases heq
    · rename_i n vs heq
      cases heq
      cases hx
      split at h
      · rename_i l' hl
        simp only [Option.some.injEq] at h; subst h
        obtain ⟨ns, h1, h2⟩ := bytesOf_rel hl hs
        exact ⟨n :: ns, by simp [h1], by simp [h2]⟩
      · cases h
    · cases h

theorem fold_push : ∀ (ns : List Int) (s : ByteArray), ns.foldl (fun r n => r.push (UInt8.ofNat n.toNat)) s = ⟨s.data ++ (ns.map fun n => UInt8.ofNat n.toNat).toArray⟩
  | [], s => by simp
  | n :: ns, s => by
    simp only [List.foldl_cons]
    rw [fold_push ns]
    congr 1
    apply Array.ext'
    simp [ByteArray.push]

theorem freeze_alloc (w : World) (arr : Array Value) (el : TypeId) : (w.alloc (.cells arr el)).freeze ⟨w.heap.size, arr.size, none⟩ 1 = w.alloc (.cells arr el (arr.size, arr.size + 1)) := by
  simp only [World.freeze, World.alloc]
  rw [if_neg (by omega)]
  congr 1
  apply Array.ext
  · simp
  · intro i h1 h2
    rw [Array.getElem_modify]
    by_cases hi : w.heap.size = i
    · subst hi; simp
    · rw [if_neg hi]
      have : i < w.heap.size := by simp at h2; omega
      rw [Array.getElem_push_lt this, Array.getElem_push_lt this]

theorem bytes_rel (ρ : Ren) : ∀ l : List UInt8, VRels ρ (l.map fun b => SV.int .u8 b.toNat) (l.map fun b => Value.int .u8 b.toNat)
  | [] => .nil
  | b :: l => .cons (.int _ _) (bytes_rel ρ l)

theorem markS_sound {ρ : Ren} {S S' : SW} {w : World} {id b ofs t : Nat} (hok : Ok E ρ S w) (h : markS S id = some S') (hp : ρ id = some (b, ofs, t)) :
    ∃ w', Ext ρ S w ρ S' w' ∧ ∀ x, (markStringish ⟨b, x, none⟩).run E.P w = .ok () w' := by
  unfold markS at h
  split at h
  · rename_i cs el hobj
    split at h
    · cases h
    · rename_i hel
      have hel0 : el ≠ 0 := fun e => by subst e; simp at hel
      obtain ⟨ob, ho1, ho2⟩ := hok.wrel.obj _ _ _ hobj hp
      cases ho2 with
      | cells arr el2 fz ht hlen hfz hmk hwh hc =>
        have hlt := (Array.getElem?_eq_some_iff.1 ho1).1
        have heq := (Array.getElem?_eq_some_iff.1 ho1).2
        have hfe := hmk hel0
        obtain ⟨lo, hi⟩ := fz
        have hfe : lo = hi := hfe
        subst hfe
        have hat : (w.freeze ⟨b, arr.size, none⟩ 1).heap[b]? = some (.cells arr el2 (arr.size, arr.size + 1)) := by
          simp only [World.freeze]
          rw [if_neg (by omega)]
          simp only [Array.getElem?_modify, if_true, ho1, Option.map_some]
          simp
        have hsame : SameBut b w (w.freeze ⟨b, arr.size, none⟩ 1) := by
          simp only [World.freeze]
          rw [if_neg (by omega)]
          refine ⟨rfl, rfl, rfl, by simp, fun k hk => ?_⟩
          simp only [Array.getElem?_modify]
          rw [if_neg (fun e => hk e.symm)]
        refine ⟨_, ext_put hok.wrel hok.tidy hobj hp h hsame hat (.cells arr el2 _ ht hlen (fun k hk hk2 => by simp at hk2; omega) (fun h0 => absurd rfl h0) ⟨fun t ht => absurd ht (by omega), fun t ht => absurd ht (by omega)⟩ hc), fun x => ?_⟩
        have hsh : w.shape? b = some (el2, arr.size) := by simp [World.shape?, ho1]
        simp only [markStringish, Sem.run_bind, run_shape, hsh, Result.andThen_ok, run_freeze]
  · cases h

theorem rowLenIs_some {a : Nat} : ∀ {f n m : Nat}, rowLenIs E a f n = some m → E.eq (.len a) (.lit (.ofNat m)) = some true
  | 0, _, _, h => by cases h
  | f + 1, n, m, h => by
    unfold rowLenIs at h
    split at h
    · rename_i he
      simp only [Option.some.injEq] at h; subst h
      exact he
    · exact rowLenIs_some h
theorem rowFirst_rel {a n : Nat} (hc : ∀ i c x, E.cells a i c = some x → i.val E.sig < (E.sig.row a).2.2.2 → 0 ≤ i.val E.sig → VRel (.nil E.sig) x (E.sig.cell a (i.val E.sig).toNat c)) (hn : (E.sig.row a).2.2.2 = n) : ∀ {m i : Nat} {l : List SV}, rowFirst E a m i = some l → i + m ≤ n → VRels (.nil E.sig) l ((List.range m).map fun j => E.sig.cell a (i + j) 0)
  | 0, i, l, h, _ => by
    unfold rowFirst at h
    simp only [Option.some.injEq] at h; subst h
    exact .nil
  | m + 1, i, l, h, hi => by
    unfold rowFirst at h
    split at h
    · rename_i x l' hx hl
      simp only [Option.some.injEq] at h; subst h
      have h1 := hc _ _ _ hx (by rw [hn]; simp only [IE.val, Int.ofNat_eq_natCast]; omega) (by simp only [IE.val, Int.ofNat_eq_natCast]; omega)
      have h2 := rowFirst_rel hc hn hl (by omega)
      rw [List.range_succ_eq_map, List.map_cons, List.map_map]
      refine .cons (by simpa [IE.val] using h1) ?_
      have e : ((fun j => E.sig.cell a (i + j) 0) ∘ Nat.succ) = fun j => E.sig.cell a (i + 1 + j) 0 := funext fun j => by
        simp only [Function.comp]
        congr 1
        omega
      rw [e]
      exact h2
    · cases h
theorem rowText_sound {ρ : Ren} {S : SW} {w : World} {a : Nat} {r : SV} {v : Value} (hok : Ok E ρ S w) (h : rowText E a = some r) (hx : VRel ρ (.row a) v) :
    ∃ s : ByteArray, r = .string s ∧ ∃ (p : Addr) (n cap : Nat) (ns : List Int), v = .slice (some p) n cap ∧ (loadCells p n).run E.P w = .ok (ns.map (Value.int .u8)).toArray w ∧ s = ⟨(ns.map fun n => UInt8.ofNat n.toNat).toArray⟩ := by
  unfold rowText at h
  split at h
  · rename_i kd m hk hl
    split at h
    · rename_i l hc
      split at h
      · rename_i b hb
        simp only [Option.some.injEq] at h; subst h
        have he := hok.num.eq _ _ _ (rowLenIs_some hl)
        have hm : ((E.sig.row a).2.2.2 : Int) = m := by
          simpa [eqb_eq, IE.val] using he
        obtain ⟨b0, x0, n, arr, el, fz, hr, hh, hcell⟩ := hok.glob.lies.rows a _ hk
        have hn : n = m := by rw [hr] at hm; have hm : (n : Int) = m := hm; omega
        subst hn
        have hrel := rowFirst_rel (n := n) (fun i c x => hok.num.cells a i c x) (by rw [hr]) hc (by omega)
        obtain ⟨ns, hns, hbn⟩ := bytesOf_rel hb hrel
        refine ⟨_, rfl, ?_⟩
        cases hx with
        | row hrow hcap =>
          rw [hok.num.sig, hr] at hrow
          simp only [Prod.mk.injEq] at hrow
          obtain ⟨rfl, rfl, rfl, rfl⟩ := hrow
          refine ⟨_, _, _, ns, rfl, ?_, by rw [hbn]⟩
          have hlen : ((List.range n).map fun j => E.sig.cell a (0 + j) 0).length = n := by simp
          rw [← hns]
          conv => lhs; rw [← hlen]
          refine run_loadCells_win E.P hh _ fun k v hv => ?_
          rw [List.getElem?_map, Option.map_eq_some_iff] at hv
          obtain ⟨j, hj, rfl⟩ := hv
          have hj2 : k < n := by
            have := (List.getElem?_eq_some_iff.1 hj).1
            simpa using this
          have hj3 : j = k := by
            have := hj
            rw [List.getElem?_range hj2] at this
            simpa using this.symm
          subst hj3
          have := (hcell j 0 kd hj2 rfl).1
          simpa using this
        | rowE hrow =>
          rw [hok.num.sig, hr] at hrow
          simp only [Prod.mk.injEq] at hrow
          obtain ⟨rfl, rfl, rfl, rfl⟩ := hrow
          have : ns = [] := by
            have := congrArg List.length hns
            exact List.eq_nil_of_length_eq_zero (by simpa using this.symm)
          subst this
          exact ⟨_, _, _, [], rfl, rfl, by rw [hbn]⟩
      · cases h
    · cases h
  · cases h

theorem kop_convert {src dst : TypeId} {x : Operand} (h : kop0 E cx o = some k) (ho : o.op = .convert src dst x) : k.Sound E cx o := by
  simp only [kop0, ho] at h
  split at h
  · rename_i f hf0
    have hG : ∀ {ρ e fr a}, Goods ρ cx e fr a o → VRel ρ (f e fr) (a.eval x) := fun hg => opd_sound hf0 (hg x (by simp [ho, Op.operands]))
    unfold convertK at h
    split at h
    · rename_i us ud hus hud
      split at h
      · simp only [Option.some.injEq] at h; subst h
        intro ρ e fr a r hE hg hr
        dsimp only at hr
        have h1 := hG hg
        split at hr
        · rename_i j n e1; rw [e1] at h1
          rw [wrapped_eq] at hr
          simp only [Option.some.injEq] at hr; subst hr
          generalize hb : a.eval x = b at h1
          cases h1
          refine ⟨_, .int _ _, fun w => ?_⟩
          simp only [execOp, ho, hb]
          refine run_v ?_
          simp [convert, run_underlying hus, run_underlying hud, Conv.intToInt]
        · rename_i k1 e0 e1; rw [e1] at h1
          simp only [Option.some.injEq] at hr; subst hr
          generalize hb : a.eval x = b at h1
          cases h1
          refine ⟨_, .sint _ _, fun w => ?_⟩
          simp only [execOp, ho, hb, IE.val]
          refine run_v ?_
          simp [convert, run_underlying hus, run_underlying hud, Conv.intToInt]
        · cases hr
      · split at h
        · rename_i el
          split at h
          · rename_i hel
            simp only [Option.some.injEq] at h; subst h
            intro ρ e fr a r S w hg hok hr
            dsimp only at hr
            have h1 := hG hg
            split at hr
            · rename_i e1; rw [e1] at h1
              simp only [Option.some.injEq] at hr; subst hr
              generalize hb : a.eval x = b at h1
              cases h1
              refine ⟨_, .string _, ?_⟩
              simp only [execOp, ho, hb]
              refine run_v ?_
              rw [run_convert_bytes_string w src dst el none 0 0 hus hel hud]
              rfl
            · rename_i id off len cp e1; rw [e1] at h1
              unfold cellsAt at hr
              split at hr
              · rename_i cs ee hca
                split at hca
                · rename_i cs' e' hobj
                  simp only [Option.some.injEq, Prod.mk.injEq] at hca
                  obtain ⟨rfl, rfl⟩ := hca
                  split at hr
                  · rename_i l hl
                    split at hr
                    · rename_i b hb9
                      simp only [Option.some.injEq] at hr; subst hr
                      obtain ⟨bb, ofs, tt, xa, cap, hp, hve, hadr⟩ := slice_addr h1
                      obtain ⟨ob, ho1, ho2⟩ := hok.wrel.obj _ _ _ hobj hp
                      cases ho2 with
                      | cells arr el2 fz ht hlen hfz hmk hwh hc =>
                        obtain ⟨vs, g1, g2, g3⟩ := Holds.seg (show Holds ρ cs' ofs arr from hc) hl
                        obtain ⟨ns, hns, hbn⟩ := bytesOf_rel hb9 g2
                        refine ⟨_, .string _, ?_⟩
                        simp only [execOp, ho, hve]
                        refine run_v ?_
                        rw [run_convert_bytes_string w src dst el _ _ _ hus hel hud]
                        have hload : (loadCells ⟨bb, xa, none⟩ len).run E.P w = .ok (ns.map (Value.int .u8)).toArray w := by
                          rw [← hns]
                          by_cases h0 : len = 0
                          · subst h0
                            have : vs = [] := List.eq_nil_of_length_eq_zero g1
                            subst this
                            rfl
                          · rw [hadr h0, ← g1]
                            exact run_loadCells_win E.P ho1 vs g3
                        rw [run_bytesToString w _ len cap ns hload, fold_push, hbn]
                        congr 3
                        apply Array.ext'
                        simp
                    · cases hr
                  · cases hr
                · cases hca
              · cases hr
            · rename_i ra e1; rw [e1] at h1
              obtain ⟨s, rfl, p, n, cap, ns, hve, hload, rfl⟩ := rowText_sound hok hr h1
              refine ⟨_, .string _, ?_⟩
              simp only [execOp, ho, hve]
              refine run_v ?_
              rw [run_convert_bytes_string w src dst el _ _ _ hus hel hud]
              rw [run_bytesToString w _ n cap ns hload, fold_push]
              congr 3
              apply Array.ext'
              simp
            · cases hr
          · cases h
        · simp only [Option.some.injEq] at h; subst h
          intro ρ e fr a r hE hg hr
          dsimp only at hr
          have h1 := hG hg
          split at hr
          · rename_i s e1; rw [e1] at h1
            simp only [Option.some.injEq] at hr; subst hr
            generalize hb : a.eval x = b at h1
            cases h1
            refine ⟨_, .string _, fun w => ?_⟩
            simp only [execOp, ho, hb]
            refine run_v ?_
            simp [convert, run_underlying hus, run_underlying hud]
          · cases hr
      · rename_i el
        split at h
        · rename_i hel
          simp only [Option.some.injEq] at h; subst h
          intro ρ e fr a r S S' w hg hok hr hf
          dsimp only at hr
          have h1 := hG hg
          split at hr
          · rename_i s e1; rw [e1] at h1
            split at hr
            · rename_i id S1 hnew
              rw [force_eq] at hr
              simp only [Option.some.injEq, Prod.mk.injEq] at hr
              obtain ⟨rfl, rfl⟩ := hr
              generalize hb : a.eval x = b at h1
              cases h1
              have hd := ext_drew hok.wrel hok.tidy
              have hok2 := hok.ext hd
              let arr : Array Value := s.data.map (fun b => Value.int .u8 b.toNat) ++ Array.replicate (grownCap w s.size 0 el - s.size) (.int .u8 0)
              have hge : s.size ≤ grownCap w s.size 0 el := grownCap_ge _ _ _ _
              have hds : s.data.size = s.size := rfl
              have hsz : arr.size = grownCap w s.size 0 el := by
                simp only [arr, Array.size_append, Array.size_map, Array.size_replicate, hds]
                omega
              have hh : Holds ρ (s.data.toList.map fun b => SV.int .u8 b.toNat) 0 arr := fun k x e => by
                obtain ⟨v, g1, g2⟩ := (bytes_rel ρ s.data.toList).get e
                have hlt := (List.getElem?_eq_some_iff.1 g1).1
                refine ⟨v, ?_, g2⟩
                rw [Nat.zero_add, ← Array.getElem?_toList]
                simp only [arr, Array.toList_append, Array.toList_map]
                rw [List.getElem?_append_left (by simpa using hlt)]
                exact g1
              obtain ⟨ρ', hext, hid⟩ := new_cells' hok2 hnew hf el arr (arr.size, arr.size + 1) (fun k hk hk2 => by simp at hk2; omega) (by rw [hsz]; simp [hds]; exact hge) hh (fun h => absurd rfl h)
              rw [hsz] at hid
              refine ⟨ρ', _, _, hd.trans hext, .sliceT (x := 0) (cap := grownCap w s.size 0 el) hid (by simp) hge hge (.inl rfl), .inl ?_⟩
              simp only [execOp, ho, hb]
              refine run_v ?_
              have hconv : (convert src dst (.string s)).run E.P w = (Conv.stringToBytes el s).run E.P w := by
                simp [convert, run_underlying hus, run_underlying hud, run_underlying hel]
              rw [hconv]
              have hsh : (w.drew.alloc (.cells arr el)).shape? w.heap.size = some (el, arr.size) := by
                have := heap_alloc_new w.drew (.cells arr el)
                simp only [World.shape?]
                have h9 : w.drew.heap.size = w.heap.size := rfl
                rw [h9] at this
                rw [this]
              have hfz := freeze_alloc w.drew arr el
              simp only [World.size_drew] at hfz
              simp only [Conv.stringToBytes, Sem.run_bind, run_choose_drew, Question.forced, Bool.false_eq_true, if_false, Result.andThen_ok, newRow, run_newObj_alloc, Sem.run_pure, markStringish, run_shape, World.size_drew]
              have hcut : (Question.appendCap s.size 0 el).cut (w.tape w.drawn (.appendCap s.size 0 el)) = grownCap w s.size 0 el := rfl
              rw [hcut]
              show ((match (w.drew.alloc (.cells arr el)).shape? w.heap.size with | some (_, n) => freeze { block := w.heap.size, off := n } 1 | _ => pure () : Sem Unit).run E.P (w.drew.alloc (.cells arr el))).andThen _ = _
              rw [hsh]
              simp only [run_freeze, Result.andThen_ok, hfz]
            · cases hr
          · rename_i id off len cp e1; rw [e1] at h1
            split at hr
            · rename_i e9 S1 hbeq hm
              have hbeq := Nat.eq_of_beq_eq_true hbeq
              subst hbeq
              have he9 : e9 = el := by rw [hus] at hud; cases hud; rfl
              subst he9
              simp only [Option.some.injEq, Prod.mk.injEq] at hr
              obtain ⟨rfl, rfl⟩ := hr
              obtain ⟨bb, ofs, tt, xa, cap, hp, hve, hadr⟩ := slice_addr h1
              obtain ⟨w', hext, hrun⟩ := markS_sound hok hm hp
              refine ⟨ρ, _, w', hext, h1, .inl ?_⟩
              simp only [execOp, ho]
              refine run_v ?_
              rw [hve]
              simp [convert, run_underlying hus, run_underlying hud, run_underlying hel, hrun, Result.andThen]
            · cases hr
          · cases hr
        · cases h
      · rename_i te
        split at h
        · rename_i jt hj
          split at h
          · cases h
          · rename_i nj hsz
            simp only [Option.some.injEq] at h; subst h
            intro ρ e fr a r S w hg hok hr
            dsimp only at hr
            have h1 := hG hg
            split at hr
            · rename_i id off e1; rw [e1] at h1
              split at hr
              · rename_i cs m hobj
                split at hr
                · rename_i hb
                  have hb := Nat.le_of_ble_eq_true hb
                  simp only [Option.some.injEq] at hr; subst hr
                  generalize hb0 : a.eval x = b at h1
                  cases h1 with
                  | @ptr _ _ bb ob tb hp =>
                    obtain ⟨obj, ho1, ho2⟩ := hok.wrel.obj id _ _ hobj hp
                    cases ho2 with
                    | cells arr el' fz ht hlen hfz hmk hwh hc =>
                      refine ⟨_, .ptr hp, ?_⟩
                      simp only [execOp, ho, hb0]
                      exact run_v (Lib.run_to_unsafe w ⟨bb, ob + off, none⟩ hus hud hj (by rw [hsz]; simp) (e := el') (cells := arr.size) (by simp [World.shape?, ho1]) (by show ob + off < arr.size; omega))
                · cases hr
              · cases hr
            · cases hr
        · cases h
      · rename_i te
        split at h
        · rename_i jt hj
          simp only [Option.some.injEq] at h; subst h
          intro ρ e fr a r S w hg hok hr
          dsimp only at hr
          have h1 := hG hg
          split at hr
          · rename_i id e1; rw [e1] at h1
            split at hr
            · rename_i cs m hobj
              split at hr
              · rename_i hb hlies
                have hb := Nat.eq_of_beq_eq_true hb
                simp only [Option.some.injEq] at hr; subst hr
                generalize hb0 : a.eval x = b at h1
                cases h1 with
                | @ptr _ _ bb ob tb hp =>
                  obtain ⟨obj, ho1, ho2⟩ := hok.wrel.obj id _ _ hobj hp
                  cases ho2 with
                  | cells arr el' fz ht hlen hfz hmk hwh hc =>
                    obtain ⟨rfl, rfl, hsize⟩ := hwh.1 te (by rw [hb]; rfl)
                    refine ⟨_, .ptr hp, ?_⟩
                    simp only [execOp, ho, hb0]
                    exact run_v (Lib.run_from_unsafe w ⟨bb, 0 + 0, none⟩ hus hud hj (e := el') (cells := arr.size) (by simp [World.shape?, ho1]) (by rw [hsize]; exact hlies))
              · cases hr
            · cases hr
          · cases hr
        · cases h
      · cases h
    · cases h
  · cases h

theorem run_value_call (ho : o.op = .call c) {f : Operand} (hc : c.callee = .value f) (a : Act) (w : World) :
    (execOp a.eval o).run E.P w = ((do let d ← Deferred.ofValue (a.eval f) (c.args.map a.eval); invoke d.target d.args : Sem Next)).run E.P w := by
  simp only [execOp, ho, resolve, hc]

theorem memNat_mem {t : Nat} : ∀ {l : List Nat}, memNat t l = true → t ∈ l
  | [], h => by cases h
  | x :: l, h => by
    simp only [memNat] at h
    split at h
    · rename_i hb; rw [Nat.eq_of_beq_eq_true hb]; exact List.mem_cons_self
    · exact List.mem_cons_of_mem _ (memNat_mem h)

theorem overlapV_sound {ρ : Ren} {S : SW} {w : World} {args : List SV} {vals : List Value} {x : SV} {f : FuncId} (hok : Ok E ρ S w) (hf : OverOk E.P f) (hv : VRels ρ args vals) (h : overlapV S args = some x) :
    ∃ v, VRel ρ x v ∧ (callFunc f vals.toArray).run E.P w = .ok (.value v) w := by
  unfold overlapV at h
  split at h
  · rename_i a o1 n1 c1 b o2 n2 c2
    split at h
    · rename_i cs el d ds el2 ha hb hne
      split at h
      · rename_i hel
        simp only [Option.some.injEq] at h; subst h
        cases hv with
        | cons h1 hs =>
          cases hs with
          | cons h2 hs =>
            cases hs
            obtain ⟨ba, oa, ta, xa, ca, hpa, rfl, -⟩ := slice_addr h1
            obtain ⟨bb, ob, tb, xb, cb, hpb, rfl, -⟩ := slice_addr h2
            obtain ⟨oba, ka1, ka2⟩ := hok.wrel.obj _ _ _ ha hpa
            obtain ⟨obb, kb1, kb2⟩ := hok.wrel.obj _ _ _ hb hpb
            cases ka2 with
            | cells arr elw fz hts hlen hfz hmk hwh hc =>
              cases kb2 with
              | cells arr2 elw2 fz2 hts2 hlen2 hfz2 hmk2 hwh2 hc2 =>
                have hel0 : el ≠ 0 := fun e => by subst e; simp at hel
                have hnb : ba ≠ bb := fun e => by
                  have := hok.wrel.inj a b _ _ (by rw [← hget_eq, ha]; simp) (by rw [← hget_eq, hb]; simp) hpa hpb e
                  subst this
                  simp at hne
                have hfa : ∀ x, w.frozen? ⟨ba, x, none⟩ = false := fun x => by
                  have := hmk hel0
                  obtain ⟨lo, hi⟩ := fz
                  have this : lo = hi := this
                  subst this
                  simp only [World.frozen?, ka1]
                  simp
                refine ⟨_, .bool false, hf w ba xa n1 ca bb xb n2 cb elw elw2 arr.size arr2.size hnb (by simp [World.shape?, ka1]) (by simp [World.shape?, kb1]) (by simp at hlen2; omega) (hfa _) (hfa _)⟩
      · cases h
    · cases h
  · cases h

/-! ### Bytes without a copy -/
theorem blanks_length : ∀ n, (blanks n).length = n
  | 0 => rfl
  | n + 1 => by simp [blanks, blanks_length n]
theorem blanks_get : ∀ {n k : Nat} {x : SV}, (blanks n)[k]? = some x → x = .unknown
  | 0, k, x, h => by simp [blanks] at h
  | n + 1, 0, x, h => by simp [blanks] at h; exact h.symm
  | n + 1, k + 1, x, h => blanks_get (n := n) (by simpa [blanks] using h)
theorem bytes8_vals : ∀ {l : List SV} {b : List UInt8}, bytes8 l = some b → b.length = l.length ∧ ∀ (j : Nat) (z : UInt8), b[j]? = some z → l[j]? = some (SV.int .u8 (z.toNat : Int))
  | [], b, h => by simp [bytes8] at h; subst h; simp
  | x :: l, b, h => by
    unfold bytes8 at h
    split at h
    · rename_i h0; cases h0
    · rename_i n vs h0
      cases h0
      split at h
      · rename_i c hn hc
        have hn := Nat.le_of_ble_eq_true hn
        simp only [Option.some.injEq] at h; subst h
        obtain ⟨k1, k2⟩ := bytes8_vals hc
        refine ⟨by simp [k1], fun j z hj => ?_⟩
        cases j with
        | zero =>
          simp only [List.getElem?_cons_zero, Option.some.injEq] at hj
          subst hj
          have : (UInt8.ofNat n).toNat = n := by simp; omega
          simp only [List.getElem?_cons_zero, this]
          rfl
        | succ j => simpa using k2 j z (by simpa using hj)
      · cases h
    · cases h

theorem mkzV_sound {ρ : Ren} {S S' : SW} {w : World} {tm : TypeId} {args : List SV} {vals : List Value} {x : SV} {f : FuncId} (hok : Ok E ρ S w) (h : mkzV tm S args = some (x, S')) (hf : Fresh ρ S.next S'.next) (hm : MkzOk E.P f tm) (hv : VRels ρ args vals) :
    ∃ ρ' v w', Ext ρ S w ρ' S' w' ∧ VRel ρ' x v ∧ (callFunc f vals.toArray).run E.P w = .ok (.value v) w' := by
  unfold mkzV at h
  split at h
  · rename_i n
    split at h
    · rename_i hb
      have hb := Nat.le_of_ble_eq_true hb
      split at h
      · rename_i id S1 hn
        simp only [Option.some.injEq, Prod.mk.injEq] at h
        obtain ⟨rfl, rfl⟩ := h
        cases hv with
        | cons h1 h2 =>
          cases h1
          cases h2
          obtain ⟨cs, hcs, hrun⟩ := hm n w hb
          have hd := ext_drew hok.wrel hok.tidy
          have hok1 := hok.ext hd
          have hd2 := ext_drew hok1.wrel hok1.tidy
          have hok2 := hok1.ext hd2
          obtain ⟨ρ', hext, hid⟩ := new_cells' hok2 hn hf tm cs (0, 0) (nofz' _) (by rw [blanks_length]; exact hcs) (fun k x e => by
            have hk := (List.getElem?_eq_some_iff.1 e).1
            rw [blanks_length] at hk
            rw [blanks_get e]
            exact ⟨cs[0 + k], Array.getElem?_eq_getElem (by omega), .unknown _⟩) (fun _ => rfl) rows_ok
          refine ⟨ρ', _, _, (hd.trans hd2).trans hext, ?_, hrun⟩
          exact .sliceT hid (by simp) hcs hcs (.inl rfl)
      · cases h
    · cases h
  · cases h

theorem sliceData_sound {x : Operand} (h : builtinK E cx .unsafeSliceData c.argTypes [x] = some k) (ho : o.op = .call c) (hc : c.callee = .builtin .unsafeSliceData) (ha : c.args.toList = [x]) : k.Sound E cx o := by
  simp only [builtinK] at h
  split at h
  · rename_i f hf0
    simp only [Option.some.injEq] at h; subst h
    intro ρ e fr a r hE hg hr
    dsimp only at hr
    have h1 := opd_sound hf0 (hg x (call_operands ho (by simp [ha])))
    obtain ⟨cs, hrn⟩ := run_builtin (E := E) ho hc a
    suffices ∃ v, VRel ρ r v ∧ ∀ w, (Builtin.unsafeSliceData_ c.argTypes o.type #[a.eval x]).run E.P w = .ok v w by
      obtain ⟨v, k1, k2⟩ := this
      refine ⟨v, k1, fun w => ?_⟩
      rw [hrn, map_args1 ha]
      exact run_v (k2 w)
    split at hr
    · rename_i e1; rw [e1] at h1
      simp only [Option.some.injEq] at hr; subst hr
      generalize hb : a.eval x = b at h1 ⊢
      cases h1
      exact ⟨_, .nilptr, fun w => rfl⟩
    · rename_i id off len n e1; rw [e1] at h1
      simp only [Option.some.injEq] at hr; subst hr
      generalize hb : a.eval x = b at h1 ⊢
      cases h1 with
      | sliceE hp => exact ⟨_, .ptr hp, fun w => Lib.run_unsafeSliceData_row w _ _ _ _ _ (by omega)⟩
    · rename_i id off len sz n e1; rw [e1] at h1
      simp only [Option.some.injEq] at hr; subst hr
      generalize hb : a.eval x = b at h1 ⊢
      cases h1 with
      | sliceT hp ht hl hk hx =>
        have hx : _ = _ := hx.resolve_right (by omega)
        subst hx
        exact ⟨_, .ptr hp, fun w => Lib.run_unsafeSliceData_row w _ _ _ _ _ (by omega)⟩
    · cases hr
  · cases h

theorem uStrV_sound {ρ : Ren} {S S' : SW} {w : World} {te t0 t1 ty : TypeId} {ts : Array TypeId} {x y r : SV} {xv yv : Value} (hts : ts = #[t0, t1]) (hd : E.P.underlying t0 = some (.pointer te)) (hcl : E.P.cellsOf te = 1)
    (hok : Ok E ρ S w) (h : uStrV te S x y = some (r, S')) (hx : VRel ρ x xv) (hy : VRel ρ y yv) :
    ∃ v w', Ext ρ S w ρ S' w' ∧ VRel ρ r v ∧ (Builtin.unsafeString_ ts ty #[xv, yv]).run E.P w = .ok v w' := by
  subst hts
  unfold uStrV at h
  split at h
  · cases hy
    split at h
    · cases hx
      simp only [Option.some.injEq, Prod.mk.injEq] at h
      obtain ⟨rfl, rfl⟩ := h
      exact ⟨_, w, hok.refl_ext, .string _, Lib.run_unsafeString_none w t0 t1 ty none⟩
    · simp only [Option.some.injEq, Prod.mk.injEq] at h
      obtain ⟨rfl, rfl⟩ := h
      cases hx with
      | ptr hp => exact ⟨_, w, hok.refl_ext, .string _, Lib.run_unsafeString_none w t0 t1 ty (some _)⟩
    · cases h
  · rename_i m
    cases hy
    split at h
    · rename_i id
      split at h
      · rename_i cs mk hobj
        split at h
        · rename_i l hmk9 hl
          have hmk9 := Nat.eq_of_beq_eq_true hmk9
          split at h
          · rename_i b S1 hb hput hm63
            have hm63 := Nat.le_of_ble_eq_true hm63
            simp only [Option.some.injEq, Prod.mk.injEq] at h
            obtain ⟨rfl, rfl⟩ := h
            cases hx with
            | @ptr _ _ bb ob tb hp =>
              obtain ⟨obj, ho1, ho2⟩ := hok.wrel.obj id _ _ hobj hp
              cases ho2 with
              | cells arr el' fz ht hlen hfz hmk hwh hc =>
                obtain ⟨rfl, rfl⟩ := hwh.2 te (by rw [hmk9]; rfl)
                obtain ⟨hl2, hl1⟩ := takeN_some _ _ _ hl
                have hbl := bytes8_vals hb
                have hlen2 : b.length = m + 1 := by rw [hbl.1, hl1, List.length_take]; omega
                have hcell : ∀ j z, b[j]? = some z → w.cell? ((⟨bb, 0, none⟩ : Addr).add j) = some (.int .u8 z.toNat) := by
                  intro j z hj
                  have hjl := hbl.2 j z hj
                  rw [hl1] at hjl
                  have hj2 : cs[j]? = some (.int .u8 z.toNat) := by
                    rw [List.getElem?_take] at hjl
                    split at hjl
                    · exact hjl
                    · cases hjl
                  obtain ⟨v, g1, g2⟩ := hc j _ hj2
                  have hv : v = .int .u8 (z.toNat : Int) := by cases g2; rfl
                  subst hv
                  rw [add_win, cell_at ho1]
                  exact g1
                have hrow := Lib.run_unsafeString_row (P := E.P) w t0 t1 ty el' hd hcl bb arr.size (by simp [World.shape?, ho1]) b (by intro e; rw [e] at hlen2; simp at hlen2) (by omega) (by omega) hcell
                rw [hlen2] at hrow
                refine ⟨_, _, ext_drop hok.wrel hok.tidy hobj hp hput (freeze_same w bb (m + 1) (by omega)), .string _, ?_⟩
                exact hrow
          · cases h
        · cases h
      · cases h
    · cases h
  · cases h

theorem uString_sound {x y : Operand} (h : builtinK E cx .unsafeString c.argTypes [x, y] = some k) (ho : o.op = .call c) (hc : c.callee = .builtin .unsafeString) (ha : c.args.toList = [x, y]) : k.Sound E cx o := by
  simp only [builtinK] at h
  split at h
  · rename_i f g t0 t1 hf0 hg0 hts
    split at h
    · rename_i te hd
      split at h
      · rename_i hcl
        have hcl := Nat.eq_of_beq_eq_true hcl
        simp only [Option.some.injEq] at h; subst h
        intro ρ e fr a r S S' w hg hok hr hf
        dsimp only at hr
        obtain ⟨v, w', k1, k2, k3⟩ := uStrV_sound (ty := o.type) (ts := c.argTypes) (by apply Array.ext'; rw [hts]) hd hcl hok hr (opd_sound hf0 (hg x (call_operands ho (by simp [ha])))) (opd_sound hg0 (hg y (call_operands ho (by simp [ha]))))
        obtain ⟨cs, hrn⟩ := run_builtin (E := E) ho hc a
        refine ⟨ρ, v, w', k1, k2, .inl ?_⟩
        rw [hrn, map_args2 ha]
        exact run_v k3
      · cases h
    · cases h
  · cases h

theorem kop_call (h : kop0 E cx o = some k) (ho : o.op = .call c) : k.Sound E cx o := by
  simp only [kop0, ho] at h
  split at h
  · rename_i g hg0
    have hA : ∀ {ρ e fr a}, Goods ρ cx e fr a o → VRels ρ (g e fr) (c.args.toList.map a.eval) := fun hg => opds_sound hg0 fun q hq => hg q (call_operands ho hq)
    split at h
    · rename_i b hc
      unfold builtinK at h
      split at h
      · rename_i x ha
        exact len_sound (x := x) (by simpa only [builtinK] using h) ho hc ha
      · rename_i x ha
        exact cap_sound (x := x) (by simpa only [builtinK] using h) ho hc ha
      · rename_i x y ha
        exact append_sound (x := x) (y := y) (by simpa only [builtinK] using h) ho hc ha
      · rename_i x y ha
        exact copy_sound (x := x) (y := y) (by simpa only [builtinK] using h) ho hc ha
      · rename_i x ha
        exact clear_sound (x := x) (by simpa only [builtinK] using h) ho hc ha
      · rename_i x y ha
        exact delete_sound (x := x) (y := y) (by simpa only [builtinK] using h) ho hc ha
      · rename_i x rest ha
        exact min_sound (x := x) (rest := rest) (by simpa only [builtinK] using h) ho hc ha
      · rename_i x rest ha
        exact max_sound (x := x) (rest := rest) (by simpa only [builtinK] using h) ho hc ha
      · rename_i x ha
        exact sliceData_sound (x := x) (by simpa only [builtinK] using h) ho hc ha
      · rename_i x y ha
        exact uString_sound (x := x) (y := y) (by simpa only [builtinK] using h) ho hc ha
      · cases h
    · rename_i f hc
      split at h
      · rename_i f'
        split at h
        · rename_i hov
          simp only [Option.some.injEq] at h; subst h
          intro ρ e fr a x S w hg hok hr
          dsimp only at hr
          obtain ⟨v, h1, h2⟩ := overlapV_sound hok (hok.num.overs f' (memNat_mem hov)) (hA hg) hr
          refine ⟨v, h1, ?_⟩
          rw [run_value_call ho hc]
          simp only [Act.eval, Deferred.ofValue, Sem.run_bind, Sem.run_pure, Result.andThen_ok, invoke]
          rw [← h2]
          congr 2
          apply Array.ext'
          simp
        · split at h
          · rename_i hix
            simp only [Option.some.injEq] at h; subst h
            intro ρ e fr a x hE hg hr
            dsimp only at hr
            have hv := hA hg
            unfold indexBV at hr
            split at hr
            · rename_i s c0 e1
              split at hr
              · rename_i hc0
                simp only [Option.some.injEq] at hr; subst hr
                rw [e1] at hv
                generalize hl : c.args.toList.map a.eval = l at hv
                cases hv with
                | cons h1 h2 =>
                  cases h1
                  cases h2 with
                  | cons h3 h4 =>
                    cases h3
                    cases h4
                    refine ⟨_, .int .i64 _, fun w => ?_⟩
                    rw [run_value_call ho hc]
                    simp only [Act.eval, Deferred.ofValue, Sem.run_bind, Sem.run_pure, Result.andThen_ok, invoke]
                    have := hE.idxs f' (memNat_mem hix) s c0 w (Nat.le_of_ble_eq_true hc0)
                    rw [← this]
                    congr 2
                    apply Array.ext'
                    simpa [Act.eval] using hl
              · cases hr
            · cases hr
          · split at h
            · rename_i hsm
              simp only [Option.some.injEq] at h; subst h
              intro ρ e fr a x hE hg hr
              dsimp only at hr
              have hv := hA hg
              split at hr
              · rename_i y e1
                simp only [Option.some.injEq] at hr; subst hr
                rw [e1] at hv
                generalize hl : c.args.toList.map a.eval = l at hv
                cases hv with
                | @cons _ u _ _ h1 h2 =>
                  cases h2
                  refine ⟨u, h1, fun w => ?_⟩
                  rw [run_value_call ho hc]
                  simp only [Act.eval, Deferred.ofValue, Sem.run_bind, Sem.run_pure, Result.andThen_ok, invoke]
                  rw [← hE.sames f' (memNat_mem hsm) u w]
                  congr 2
                  apply Array.ext'
                  simpa [Act.eval] using hl
              · cases hr
            · split at h
              · rename_i tm hmz
                simp only [Option.some.injEq] at h; subst h
                intro ρ e fr a x S S' w hg hok hr hf
                dsimp only at hr
                obtain ⟨ρ', v, w', k1, k2, k3⟩ := mkzV_sound hok hr hf (hok.num.mkzs f' tm hmz) (hA hg)
                refine ⟨ρ', v, w', k1, k2, .inl ?_⟩
                rw [run_value_call ho hc]
                simp only [Act.eval, Deferred.ofValue, Sem.run_bind, Sem.run_pure, Result.andThen_ok, invoke]
                rw [← k3]
                congr 2
                apply Array.ext'
                simp [Act.eval]
              · simp only [Option.some.injEq] at h; subst h
                intro ρ e fr a C x S S' w hg hr
                dsimp only at hr
                refine ⟨g e fr, c.args.toList.map a.eval, hA hg, .inl ⟨f', hr, ?_⟩⟩
                rw [run_value_call ho hc]
                simp only [Act.eval, Deferred.ofValue, Sem.run_bind, Sem.run_pure, Result.andThen_ok, invoke]
                congr 2
                apply Array.ext'
                simp
      · split at h
        · rename_i hh hf0
          simp only [Option.some.injEq] at h; subst h
          intro ρ e fr a C x S S' w hg hr
          dsimp only at hr
          have h1 := opd_sound hf0 (hg f (by rw [ho]; simp [Op.operands, Call.operands, hc]))
          split at hr
          · rename_i fn fi cap e1; rw [e1] at h1
            generalize hb : a.eval f = b at h1
            cases h1 with
            | func _ hfi hcap =>
              refine ⟨_, _, hfi.append ((hA hg).append hcap), .inl ⟨fn, hr, ?_⟩⟩
              rw [run_value_call ho hc, hb]
              simp only [Deferred.ofValue, Sem.run_bind, Sem.run_pure, Result.andThen_ok, invoke]
              congr 2
              apply Array.ext'
              simp
          · rename_i l e1; rw [e1] at h1
            generalize hb : a.eval f = b at h1
            cases h1 with
            | yield hp =>
              refine ⟨_, _, hA hg, .inr ⟨l, _, hr, hp, ?_⟩⟩
              rw [run_value_call ho hc, hb]
              simp only [Deferred.ofValue, Sem.run_bind, Sem.run_pure, Result.andThen_ok, invoke]
              congr 2
              apply Array.ext'
              simp
          · cases hr
        · cases h
    · cases h
  · cases h

theorem kop0_sound (h : kop0 E cx o = some k) : k.Sound E cx o := by
  cases ho : o.op with
  | move x => exact kop_move h ho
  | assign x => exact kop_assign h ho
  | pick a b c => exact kop_pick h ho
  | alloc t => exact kop_alloc h ho
  | box t x => exact kop_box h ho
  | build t ps => exact kop_build h ho
  | buildSlice t l ps => exact kop_buildSlice h ho
  | insert t m x y => exact kop_insert h ho
  | load t a => exact kop_load h ho
  | store t a v => exact kop_store h ho
  | nilCheck x => exact kop_nilCheck h ho
  | binOp op t x y t' => exact kop_binOp h ho
  | unOp op t x => exact kop_unOp h ho
  | convert a b x => exact kop_convert h ho
  | makeInterface t x => exact kop_makeInterface h ho
  | makeFunc f a b => exact kop_makeFunc h ho
  | makeMap t r => exact kop_makeMap h ho
  | makeSlice t a b => exact kop_makeSlice h ho
  | slice t x a b c => exact kop_slice h ho
  | fieldAddr t x f => exact kop_fieldAddr h ho
  | field t x f => exact kop_field h ho
  | indexAddr t x i => exact kop_indexAddr h ho
  | index t x i => exact kop_index h ho
  | lookup t x i b => exact kop_lookup h ho
  | mapUpdate t m x y => exact kop_mapUpdate h ho
  | range t x => exact kop_range h ho
  | next x b => exact kop_next h ho
  | extract x i => exact kop_extract h ho
  | entry x => exact kop_entry h ho
  | mapEntry t x y => exact kop_mapEntry h ho
  | entryStore t x y z => exact kop_entryStore h ho
  | call c => exact kop_call h ho
  | _ => simp [kop0, ho] at h

theorem kop_some (h : kop E cx o = some k) : kop0 E cx o = some k ∨ (k = .full fun _ _ _ => none) := by
  unfold kop at h
  split at h
  · rename_i k' hk
    simp only [Option.some.injEq] at h; subst h
    exact .inl hk
  · split at h
    · cases h
    · simp only [Option.some.injEq] at h; subst h
      exact .inr rfl

theorem kop_sound (h : kop E cx o = some k) : k.Sound E cx o := by
  rcases kop_some h with h | rfl
  · exact kop0_sound h
  · intro ρ e fr a x S S' w _ _ hr
    cases hr
end
end Go.RX
