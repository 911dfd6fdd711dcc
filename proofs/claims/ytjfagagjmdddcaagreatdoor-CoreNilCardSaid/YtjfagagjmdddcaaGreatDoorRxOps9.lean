/- Operations that write: new objects, stores, conversions. -/
import Derived.Test.YtjfagagjmdddcaaGreatDoorRxOps8
set_option linter.all false
namespace Go.RX
open Sym
section
variable {E : Env} {cx : Cx} {o : Oper} {k : KOp}

theorem Fresh.one {ρ : Ren} {S S' : SW} {x : SObj} {id : Nat} (h : Sym.new S x = some (id, S')) (hf : Fresh ρ S.next S'.next) : ρ S.next = none := by
  obtain ⟨-, hn, -, -⟩ := new_some h
  exact hf S.next (Nat.le_refl _) (by omega)

theorem nomark (k : Nat) : ¬ (((0, 0) : Nat × Nat).1 ≤ k ∧ k < ((0, 0) : Nat × Nat).2) := fun h => by simp at h

theorem new_cells' {ρ : Ren} {S S' : SW} {w : World} {cs : List SV} {el : TypeId} {id : Nat} (hok : Ok E ρ S w) (h : Sym.new S (.cells cs el) = some (id, S')) (hf : Fresh ρ S.next S'.next) (el2 : TypeId) (arr : Array Value) (fz : Nat × Nat)
    (hfz : ∀ k, k < arr.size → ¬ (fz.1 ≤ k ∧ k < fz.2)) (hlen : cs.length ≤ arr.size) (hc : Holds ρ cs 0 arr) (hmk : el ≠ 0 → ∀ k, ¬ (fz.1 ≤ k ∧ k < fz.2) := by exact fun _ k => nomark k) :
    ∃ ρ', Ext ρ S w ρ' S' (w.alloc (.cells arr el2 fz)) ∧ ρ' id = some (w.heap.size, 0, arr.size) := by
  have h0 := Fresh.one h hf
  obtain ⟨rfl, -⟩ := new_some h
  refine ⟨ρ.set S.next (w.heap.size, 0, arr.size), ext_new hok.wrel hok.tidy h0 h rfl ?_, Ren.set_same _ _ _⟩
  exact .cells arr el2 fz rfl (by omega) hfz hmk fun k x e => by
    obtain ⟨v, h1, h2⟩ := hc k x e
    exact ⟨v, h1, h2.mono (Ren.le_set h0)⟩

theorem new_cells {ρ : Ren} {S S' : SW} {w : World} {cs : List SV} {el : TypeId} {id : Nat} (hok : Ok E ρ S w) (h : Sym.new S (.cells cs el) = some (id, S')) (hf : Fresh ρ S.next S'.next) (arr : Array Value) (fz : Nat × Nat)
    (hfz : ∀ k, k < arr.size → ¬ (fz.1 ≤ k ∧ k < fz.2)) (hlen : cs.length ≤ arr.size) (hc : Holds ρ cs 0 arr) (hmk : el ≠ 0 → ∀ k, ¬ (fz.1 ≤ k ∧ k < fz.2) := by exact fun _ k => nomark k) :
    ∃ ρ', Ext ρ S w ρ' S' (w.alloc (.cells arr el fz)) ∧ ρ' id = some (w.heap.size, 0, arr.size) := new_cells' hok h hf el arr fz hfz hlen hc hmk

theorem VRels.holds {ρ : Ren} {cs : List SV} {arr : Array Value} (h : VRels ρ cs arr.toList) : Holds ρ cs 0 arr := fun k x e => by
  obtain ⟨v, h1, h2⟩ := h.get e
  exact ⟨v, by rw [Nat.zero_add]; simpa using h1, h2⟩

theorem nofz (arr : Array Value) : ∀ k, k < arr.size → ¬ ((0, 0) : Nat × Nat).1 ≤ k ∨ ¬ k < ((0, 0) : Nat × Nat).2 := fun k _ => .inr (by simp)
theorem nofz' (arr : Array Value) : ∀ k, k < arr.size → ¬ (((0, 0) : Nat × Nat).1 ≤ k ∧ k < ((0, 0) : Nat × Nat).2) := fun k _ h => by simp at h

theorem kop_alloc {t : TypeId} (h : kop0 E cx o = some k) (ho : o.op = .alloc t) : k.Sound E cx o := by
  simp only [kop0, ho] at h
  split at h
  · rename_i z hz
    split at h
    · simp only [Option.some.injEq] at h; subst h
      intro ρ e fr a r S S' w hg hok hr hf
      dsimp only at hr
      unfold ptrTo at hr
      split at hr
      · rename_i id S1 hn
        simp only [Option.some.injEq, Prod.mk.injEq] at hr
        obtain ⟨rfl, rfl⟩ := hr
        obtain ⟨zv, hzv, hzr⟩ := zero_run hz ρ
        have hcv := hzv.cells (zero_known hz)
        obtain ⟨ρ', hext, hid⟩ := new_cells hok hn hf zv.cells (0, 0) (nofz' _) (by simpa using Nat.le_of_eq hcv.length) hcv.holds
        refine ⟨ρ', _, _, hext, .ptr hid, .inl ?_⟩
        simp only [execOp, ho]
        refine run_v ?_
        simp only [Instr.alloc, Sem.run_bind, hzr, Result.andThen_ok, newVar, newRow, run_newObj_alloc, Sem.run_pure]
      · cases hr
    · cases h
  · cases h

theorem allScalar_known {x : SV} (h : allScalar x.cells = true) : x ≠ .unknown := fun e => by
  subst e; simp [SV.cells, allScalar, SV.scalar] at h

theorem allScalar_mem : ∀ {xs : List SV} {vs : List Value} {ρ : Ren}, allScalar xs = true → VRels ρ xs vs → ∀ v ∈ vs, v.oneCell' = true
  | _, _, _, _, .nil, v, hv => by simp at hv
  | x :: xs, _, ρ, h, .cons hx hs, v, hv => by
    simp only [allScalar] at h
    split at h
    · rename_i hsc
      rcases List.mem_cons.1 hv with rfl | hv
      · exact hx.scalar hsc
      · exact allScalar_mem h hs v hv
    · cases h

theorem kop_box {t : TypeId} {x : Operand} (h : kop0 E cx o = some k) (ho : o.op = .box t x) : k.Sound E cx o := by
  simp only [kop0, ho] at h
  split at h
  · rename_i f hf0
    simp only [Option.some.injEq] at h; subst h
    intro ρ e fr a r S S' w hg hok hr hf
    dsimp only at hr
    have h1 := opd_sound hf0 (hg x (by simp [ho, Op.operands]))
    split at hr
    · rename_i hsc
      unfold ptrTo at hr
      split at hr
      · rename_i id S1 hn
        simp only [Option.some.injEq, Prod.mk.injEq] at hr
        obtain ⟨rfl, rfl⟩ := hr
        have hcv := h1.cells (allScalar_known hsc)
        obtain ⟨ρ', hext, hid⟩ := new_cells hok hn hf (a.eval x).cells (0, 0) (nofz' _) (by simpa using Nat.le_of_eq hcv.length) hcv.holds
        refine ⟨ρ', _, _, hext, .ptr hid, .inl ?_⟩
        simp only [execOp, ho]
        refine run_v ?_
        simp only [Instr.box, Sem.run_bind, Result.andThen_ok, newVar, newRow, run_newObj_alloc, Sem.run_pure]
      · cases hr
    · cases hr
  · cases h

/-! ### Rows -/
theorem copies_length (z : List SV) : ∀ n, (copies z n).length = n * z.length
  | 0 => by simp [copies]
  | n + 1 => by simp [copies, copies_length z n, Nat.succ_mul]; omega

theorem copies_get (z : List SV) : ∀ n k, (copies z n)[k]? = if k < n * z.length then z[k % z.length]? else none
  | 0, k => by simp [copies]
  | n + 1, k => by
    simp only [copies]
    by_cases hk : k < z.length
    · rw [List.getElem?_append_left hk, if_pos (by rw [Nat.succ_mul]; omega), Nat.mod_eq_of_lt hk]
    · rw [List.getElem?_append_right (by omega), copies_get z n]
      by_cases h2 : k - z.length < n * z.length
      · rw [if_pos h2, if_pos (by rw [Nat.succ_mul]; omega), Nat.mod_eq_sub_mod (show k ≥ z.length by omega)]
      · rw [if_neg h2, if_neg (by rw [Nat.succ_mul]; omega)]

theorem copies_rel {ρ : Ren} {z : List SV} {zv : Array Value} (h : VRels ρ z zv.toList) (n m : Nat) (hm : m = n * zv.size) : VRels ρ (copies z n) (madeCells zv m).toList := by
  have hl := h.length
  simp only [Array.length_toList] at hl
  refine VRels.of_get (by simp [copies_length, size_madeCells, hl, hm]) fun k x v hx hv => ?_
  rw [copies_get] at hx
  by_cases hk : k < n * z.length
  · rw [if_pos hk] at hx
    obtain ⟨u, hu1, hu2⟩ := h.get hx
    have hk2 : k < m := by rw [hm, ← hl]; exact hk
    have : (madeCells zv m).toList[k]? = some (zv[k % zv.size]!) := by simp [madeCells, hk2]
    rw [this] at hv
    have e2 : zv[k % zv.size]? = some u := by rw [← hl]; simpa using hu1
    have : zv[k % zv.size]! = u := by
      rw [getElem!_def, e2]
    rw [this] at hv; cases hv; exact hu2
  · rw [if_neg hk] at hx; cases hx

theorem kop_makeSlice {t : TypeId} {l c : Operand} (h : kop0 E cx o = some k) (ho : o.op = .makeSlice t l c) : k.Sound E cx o := by
  simp only [kop0, ho] at h
  split at h
  · rename_i f g elem hf0 hg0 hd
    split at h
    · rename_i i z hi hz
      split at h
      · rename_i hsz hsc
        simp only [Option.some.injEq] at h; subst h
        intro ρ e fr a r S S' w hg hok hr hf
        dsimp only at hr
        have h1 := opd_sound hf0 (hg l (by simp [ho, Op.operands]))
        have h2 := opd_sound hg0 (hg c (by simp [ho, Op.operands]))
        split at hr
        · rename_i ln cn hl hc
          obtain ⟨k1, e1⟩ := asNat_rel hl h1
          obtain ⟨k2, e2⟩ := asNat_rel hc h2
          split at hr
          · rename_i hb1 hb2
            have hb1 := Nat.le_of_ble_eq_true hb1
            have hb2 := Nat.le_of_ble_eq_true hb2
            have hsz := Nat.eq_of_beq_eq_true hsz
            split at hr
            · rename_i id S1 hn
              simp only [Option.some.injEq, Prod.mk.injEq] at hr
              obtain ⟨rfl, rfl⟩ := hr
              obtain ⟨zv, hzv, hzr⟩ := zero_run hz ρ
              have hiz : i.zero = some zv := by
                have := hzr w
                simp only [zeroValue, typeInfo, Sem.run_bind, run_program, Result.andThen_ok, hi, Sem.run_pure] at this
                split at this
                · rename_i q hq; simp only [Sem.run_pure, Result.ok.injEq] at this; rw [hq, this.1]
                · cases this
              have hcv := hzv.cells (zero_known hz)
              have hzs : zv.cells.size = i.size := by rw [← hsz, hcv.length]; simp
              have hrel := copies_rel hcv cn (cn * i.size) (by rw [hzs])
              obtain ⟨ρ', hext, hid⟩ := new_cells hok hn hf (madeCells zv.cells (cn * i.size)) (0, 0) (nofz' _) (by simpa using Nat.le_of_eq hrel.length) hrel.holds
              refine ⟨ρ', _, _, hext, .sliceE hid, .inl ?_⟩
              simp only [execOp, ho, e1, e2]
              refine run_v ?_
              have hmul : i.bytes * cn ≤ 281474976710656 := Nat.le_trans (Nat.mul_le_mul_right _ (Nat.le_succ _)) hb2
              have hcn : cn ≤ 281474976710656 := Nat.le_trans (Nat.le_mul_of_pos_left cn (Nat.succ_pos i.bytes)) hb2
              have h9 : ((i.bytes * cn : Nat) : Int) ≤ 281474976710656 := by omega
              have h10 : (i.bytes : Int) * (cn : Int) ≤ 281474976710656 := by rwa [Int.natCast_mul] at h9
              have hrun := run_make (P := E.P) w t elem i zv hd hi hiz k1 k2 (ln : Int) (cn : Int) (by omega) (by omega) h10 (by omega)
              simp only [Int.toNat_natCast] at hrun
              exact hrun
            · cases hr
          · cases hr
        · cases hr
      · cases h
    · cases h
  · cases h
end
end Go.RX
