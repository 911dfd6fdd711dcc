/- Maps written; copy and append. -/
import Derived.Test.YtenkdblhfejiaaaGreatDoorRxOps10
set_option linter.all false
namespace Go.RX
open Sym
section
variable {E : Env} {cx : Cx} {o : Oper} {k : KOp}

/-! ### Maps -/
theorem sameBits_of (n : Nat) {d : TypeDesc} (hd : keyKind d = true) {v v' : Value} (h : Instr.sameNow d v v' = some true) : Instr.sameBits n v' v = true := by
  cases d <;> simp [keyKind] at hd <;> cases v <;> cases v' <;> simp [Instr.sameNow] at h
  · subst h; cases n <;> simp [Instr.sameBits]
  · obtain ⟨rfl, rfl⟩ := h; cases n <;> simp [Instr.sameBits]
  · cases n <;> simp [Instr.sameBits] <;> (rw [beq_toListBytes] at h ⊢; simp at h ⊢; exact h.symm)

theorem setKey_sound {d : TypeDesc} (hd : keyKind d = true) {k v : SV} {ρ : Ren} {kv vv : Value} (hk : VRel ρ k kv) (hv : VRel ρ v vv) : ∀ {es es' : List (SV × SV × Nat)} {fs : List MapEntry} (i : Nat), setKey d k v es = some es' → ERel ρ es fs →
    ∃ j u old, Instr.findNow d kv fs i = some (some (i + j, u)) ∧ fs[j]? = some old ∧ Instr.sameNow d kv old.key = some true ∧ ERel ρ es' (fs.modify j fun e => { e with key := kv, val := vv })
  | [], es', _, i, h, .nil => by simp [setKey] at h
  | (k', x', n) :: es, es', _, i, h, .cons (e := e) (es := fs) hk' hv' hn hs => by
    simp only [setKey] at h
    split at h
    · rename_i he
      simp only [Option.some.injEq] at h; subst h
      obtain ⟨h1, h2⟩ := sameNow_sound hd he hk hk'
      have := h2 rfl
      subst this
      refine ⟨0, e.val, e, by simp [Instr.findNow, h1], rfl, h1, ?_⟩
      simp only [List.modify_zero_cons]
      exact .cons hk hv hn hs
    · rename_i he
      obtain ⟨h1, -⟩ := sameNow_sound hd he hk hk'
      split at h
      · rename_i r hr
        simp only [Option.some.injEq] at h; subst h
        obtain ⟨j, u, old, e1, e2, e3, e4⟩ := setKey_sound hd hk hv (i + 1) hr hs
        refine ⟨j + 1, u, old, ?_, by simpa using e2, e3, ?_⟩
        · simp [Instr.findNow, h1, e1]; omega
        · simp only [List.modify_succ_cons]
          exact .cons hk' hv' hn e4
      · cases h
    · cases h

theorem ERel.push {ρ : Ren} {k v : SV} {kv vv : Value} (hk : VRel ρ k kv) (hv : VRel ρ v vv) (n : Nat) : ∀ {es : List (SV × SV × Nat)} {fs : List MapEntry}, ERel ρ es fs → ERel ρ (es ++ [(k, v, n)]) (fs ++ [{ key := kv, val := vv, born := n }])
  | _, _, .nil => .cons hk hv rfl .nil
  | _, _, .cons a b c d => .cons a b c (ERel.push hk hv n d)

theorem updateV_sound {t key elem : TypeId} {kd : TypeDesc} {ρ : Ren} {S S' : SW} {w : World} {x y z : SV} {xv yv zv : Value} (ht : E.P.underlying t = some (.map key elem)) (hkd : E.P.underlying key = some kd) (hkk : keyKind kd = true)
    (hok : Ok E ρ S w) (h : updateV kd S x y z = some S') (hx : VRel ρ x xv) (hy : VRel ρ y yv) (hz : VRel ρ z zv) :
    ∃ w', Ext ρ S w ρ S' w' ∧ (Instr.mapUpdate t xv yv zv).run E.P w = .ok () w' := by
  unfold updateV at h
  split at h
  · cases hx with
    | map hp =>
      split at h
      · rename_i id b x1 es c hobj
        obtain ⟨ob, ho1, ho2⟩ := hok.wrel.obj id _ _ hobj hp
        cases ho2 with
        | map arr c her =>
          have hgo := run_getObj (P := E.P) ho1 (by simp)
          have hck := checkKey_run hkd hkk false yv w
          split at h
          · rename_i xo hfk
            split at h
            · rename_i es' hsk
              obtain ⟨j, u, old, e1, e2, e3, e4⟩ := setKey_sound hkk hy hz 0 hsk her
              rw [Nat.zero_add] at e1
              have hfr := findKey_run hkd e1 w
              have hbits := sameBits_of 10000 hkk e3
              have e2' : arr[j]? = some old := by simpa using e2
              have hso := run_setObj (P := E.P) (ob := .map (arr.modify j fun e => { e with key := yv, val := zv }) c) ho1 (by simp)
              refine ⟨_, ext_put hok.wrel hok.tidy hobj hp h (setBlock_same w _ _) (setBlock_at ho1) (.map (arr.modify j fun e => { e with key := yv, val := zv }) c (by simpa using e4)), ?_⟩
              simp only [Instr.mapUpdate, Sem.run_bind, run_underlying ht, hgo, Result.andThen_ok, hck, hfr, e2', Option.map_some, Option.getD_some, Instr.keyThatStays, hbits, if_true, Sem.run_pure]
              exact hso
            · cases h
          · rename_i hfk
            rw [force_eq] at h
            rcases findKey_sound hkk hy 0 hfk her with ⟨-, e1⟩ | ⟨_, _, _, e1, -⟩
            · have hfr := findKey_run hkd e1 w
              have hso := run_setObj (P := E.P) (ob := .map (arr.push { key := yv, val := zv, born := c }) (c + 1)) ho1 (by simp)
              refine ⟨_, ext_put hok.wrel hok.tidy hobj hp h (setBlock_same w _ _) (setBlock_at ho1) (.map (arr.push { key := yv, val := zv, born := c }) (c + 1) (by simpa using her.push hy hz c)), ?_⟩
              simp only [Instr.mapUpdate, Sem.run_bind, run_underlying ht, hgo, Result.andThen_ok, hck, hfr, Sem.run_pure]
              exact hso
            · cases e1
          · cases h
      · cases h
  · cases h

theorem kop_mapUpdate {t : TypeId} {x y z : Operand} (h : kop E cx o = some k) (ho : o.op = .mapUpdate t x y z) : k.Sound E cx o := by
  simp only [kop, ho] at h
  split at h
  · rename_i f g hh key el hf0 hg0 hh0 hd
    split at h
    · rename_i kd hkd
      split at h
      · rename_i hkk
        simp only [Option.some.injEq] at h; subst h
        intro ρ e fr a r S S' w hg hok hr hf
        dsimp only at hr
        unfold done at hr
        split at hr
        · rename_i S1 hst
          simp only [Option.some.injEq, Prod.mk.injEq] at hr
          obtain ⟨rfl, rfl⟩ := hr
          obtain ⟨w', h1, h2⟩ := updateV_sound hd hkd hkk hok hst (opd_sound hf0 (hg x (by simp [ho, Op.operands]))) (opd_sound hg0 (hg y (by simp [ho, Op.operands]))) (opd_sound hh0 (hg z (by simp [ho, Op.operands])))
          exact ⟨ρ, undef, w', h1, .tuple .nil, .inr ⟨by simp only [execOp, ho]; exact run_u h2, rfl⟩⟩
        · cases hr
      · cases h
    · cases h
  · cases h
theorem kop_insert {t : TypeId} {x y z : Operand} (h : kop E cx o = some k) (ho : o.op = .insert t x y z) : k.Sound E cx o := by
  simp only [kop, ho] at h
  split at h
  · rename_i f g hh key el hf0 hg0 hh0 hd
    split at h
    · rename_i kd hkd
      split at h
      · rename_i hkk
        simp only [Option.some.injEq] at h; subst h
        intro ρ e fr a r S S' w hg hok hr hf
        dsimp only at hr
        unfold done at hr
        split at hr
        · rename_i S1 hst
          simp only [Option.some.injEq, Prod.mk.injEq] at hr
          obtain ⟨rfl, rfl⟩ := hr
          obtain ⟨w', h1, h2⟩ := updateV_sound hd hkd hkk hok hst (opd_sound hf0 (hg x (by simp [ho, Op.operands]))) (opd_sound hg0 (hg y (by simp [ho, Op.operands]))) (opd_sound hh0 (hg z (by simp [ho, Op.operands])))
          exact ⟨ρ, undef, w', h1, .tuple .nil, .inr ⟨by simp only [execOp, ho]; exact run_u h2, rfl⟩⟩
        · cases hr
      · cases h
    · cases h
  · cases h

/-! ### Rows: their first cells -/
theorem rowLen_run {ρ : Ren} {x : SV} {v : Value} {m : Nat} (h : rowLen x = some m) (hx : VRel ρ x v) (w : World) : (Builtin.lenOf v).run E.P w = .ok m w := by
  unfold rowLen at h
  split at h
  · cases hx; simp only [Option.some.injEq] at h; subst h; rfl
  · simp only [Option.some.injEq] at h; subst h; cases hx <;> rfl
  · cases hx; simp only [Option.some.injEq] at h; subst h; rfl
  · cases h

theorem slice_addr {ρ : Ren} {id off len : Nat} {c : SCap} {v : Value} (h : VRel ρ (.slice id off len c) v) : ∃ b ofs tt x cap, ρ id = some (b, ofs, tt) ∧ v = .slice (some ⟨b, x, none⟩) len cap ∧ (len ≠ 0 → x = ofs + off) := by
  cases h with
  | sliceE hp => exact ⟨_, _, _, _, _, hp, rfl, fun _ => rfl⟩
  | sliceT hp ht hl hk hx => exact ⟨_, _, _, _, _, hp, rfl, fun hne => by rcases hx with rfl | h0; rfl; omega⟩

theorem firstCells_sound {ρ : Ren} {S : SW} {w : World} {size n m : Nat} {x : SV} {v : Value} {cs : List SV} (hok : Ok E ρ S w) (h : Sym.firstCells S size n x = some cs) (hx : VRel ρ x v) (hm : rowLen x = some m) (hn : n ≤ m) :
    ∃ vs : List Value, VRels ρ cs vs ∧ (Builtin.firstCells size n v).run E.P w = .ok vs.toArray w := by
  unfold Sym.firstCells at h
  split at h
  · rename_i id off len c
    obtain ⟨b, ofs, tt, xa, cap, hp, rfl, hadr⟩ := slice_addr hx
    simp only [rowLen, Option.some.injEq] at hm
    subst hm
    split at h
    · rename_i cs0 el hobj
      obtain ⟨ob, ho1, ho2⟩ := hok.wrel.obj id _ _ hobj hp
      cases ho2 with
      | cells arr _ fz ht hlen hfz hc =>
        obtain ⟨vs, h1, h2, h3⟩ := Holds.seg (show Holds ρ cs0 ofs arr from hc) h
        refine ⟨vs, h2, ?_⟩
        simp only [Builtin.firstCells]
        by_cases h0 : n = 0
        · subst h0
          have : vs = [] := by apply List.eq_nil_of_length_eq_zero; rw [h1]; simp
          subst this
          simp only [Nat.zero_mul]
          rfl
        · rw [hadr (by omega), ← h1]
          exact run_loadCells_win E.P ho1 vs h3
    · cases h
  · simp only [Option.some.injEq] at h; subst h
    cases hx
    exact ⟨[], .nil, rfl⟩
  · rename_i s
    simp only [Option.some.injEq] at h; subst h
    cases hx
    refine ⟨((s.data.toList.take n).map fun b => Value.int .u8 b.toNat), ?_, ?_⟩
    · generalize s.data.toList.take n = l
      induction l with
      | nil => exact .nil
      | cons b l ih => exact .cons (.int _ _) ih
    · simp only [Builtin.firstCells]
      show Result.ok _ w = _
      congr 1
      apply Array.ext'
      simp [ByteArray.extract, ByteArray.copySlice]
  · cases h
end
end Go.RX
