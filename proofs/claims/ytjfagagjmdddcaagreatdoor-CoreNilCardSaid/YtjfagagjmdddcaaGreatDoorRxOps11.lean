/- Maps written; copy and append. -/
import Derived.Test.YtjfagagjmdddcaaGreatDoorRxOps10
set_option linter.all false
namespace Go.RX
open Sym
section
variable {E : Env} {cx : Cx} {o : Oper} {k : KOp}

/-! ### Maps -/
theorem sameBits_of (n : Nat) {d : TypeDesc} (hd : keyKind d = true) {v v' : Value} (h : Instr.sameNow d v v' = some true) : Instr.sameBits n v' v = true := by
  cases d <;> simp [keyKind] at hd <;> cases v <;> cases v' <;> simp [Instr.sameNow] at h
  · subst h; cases n <;> simp [Instr.sameBits]
  · obtain ⟨rfl, rfl⟩ := h; cases n <;> simp [Instr.sameBits]
  · cases n <;> simp [Instr.sameBits] <;> (rw [beq_toListBytes] at h ⊢; simp at h ⊢; exact h.symm)

theorem setKey_sound {d : TypeDesc} (hd : keyKind d = true) {k v : SV} {ρ : Ren} {kv vv : Value} (hk : VRel ρ k kv) (hv : VRel ρ v vv) : ∀ {es es' : List (SV × SV × Nat)} {fs : List MapEntry} (i : Nat), setKey d k v es = some es' → ERel ρ es fs →
    ∃ j u old, Instr.findNow d kv fs i = some (some (i + j, u)) ∧ fs[j]? = some old ∧ Instr.sameNow d kv old.key = some true ∧ ERel ρ es' (fs.modify j fun e => { e with key := kv, val := vv })
  | [], es', _, i, h, .nil => by simp [setKey] at h
  | (k', x', n) :: es, es', _, i, h, .cons (e := e) (es := fs) hk' hv' hn hs => by
    simp only [setKey] at h
    split at h
    · rename_i he
      simp only [Option.some.injEq] at h; subst h
      obtain ⟨h1, h2⟩ := sameNow_sound hd he hk hk'
      have := h2 rfl
      subst this
      refine ⟨0, e.val, e, by simp [Instr.findNow, h1], rfl, h1, ?_⟩
      simp only [List.modify_zero_cons]
      exact .cons hk hv hn hs
    · rename_i he
      obtain ⟨h1, -⟩ := sameNow_sound hd he hk hk'
      split at h
      · rename_i r hr
        simp only [Option.some.injEq] at h; subst h
        obtain ⟨j, u, old, e1, e2, e3, e4⟩ := setKey_sound hd hk hv (i + 1) hr hs
        refine ⟨j + 1, u, old, ?_, by simpa using e2, e3, ?_⟩
        · simp [Instr.findNow, h1, e1]; omega
        · simp only [List.modify_succ_cons]
          exact .cons hk' hv' hn e4
      · cases h
    · cases h

theorem ERel.push {ρ : Ren} {k v : SV} {kv vv : Value} (hk : VRel ρ k kv) (hv : VRel ρ v vv) (n : Nat) : ∀ {es : List (SV × SV × Nat)} {fs : List MapEntry}, ERel ρ es fs → ERel ρ (es ++ [(k, v, n)]) (fs ++ [{ key := kv, val := vv, born := n }])
  | _, _, .nil => .cons hk hv rfl .nil
  | _, _, .cons a b c d => .cons a b c (ERel.push hk hv n d)

theorem updateV_sound {t key elem : TypeId} {kd : TypeDesc} {ρ : Ren} {S S' : SW} {w : World} {x y z : SV} {xv yv zv : Value} (ht : E.P.underlying t = some (.map key elem)) (hkd : E.P.underlying key = some kd) (hkk : keyKind kd = true)
    (hok : Ok E ρ S w) (h : updateV kd S x y z = some S') (hx : VRel ρ x xv) (hy : VRel ρ y yv) (hz : VRel ρ z zv) :
    ∃ w', Ext ρ S w ρ S' w' ∧ (Instr.mapUpdate t xv yv zv).run E.P w = .ok () w' := by
  unfold updateV at h
  split at h
  · cases hx with
    | map hp =>
      split at h
      · rename_i id b x1 es c hobj
        obtain ⟨ob, ho1, ho2⟩ := hok.wrel.obj id _ _ hobj hp
        cases ho2 with
        | map arr c her =>
          have hgo := run_getObj (P := E.P) ho1 (by simp)
          have hck := checkKey_run hkd hkk false yv w
          split at h
          · rename_i xo hfk
            split at h
            · rename_i es' hsk
              obtain ⟨j, u, old, e1, e2, e3, e4⟩ := setKey_sound hkk hy hz 0 hsk her
              rw [Nat.zero_add] at e1
              have hfr := findKey_run hkd e1 w
              have hbits := sameBits_of 10000 hkk e3
              have e2' : arr[j]? = some old := by simpa using e2
              have hso := run_setObj (P := E.P) (ob := .map (arr.modify j fun e => { e with key := yv, val := zv }) c) ho1 (by simp)
              refine ⟨_, ext_put hok.wrel hok.tidy hobj hp h (setBlock_same w _ _) (setBlock_at ho1) (.map (arr.modify j fun e => { e with key := yv, val := zv }) c (by simpa using e4)), ?_⟩
              simp only [Instr.mapUpdate, Sem.run_bind, run_underlying ht, hgo, Result.andThen_ok, hck, hfr, e2', Option.map_some, Option.getD_some, Instr.keyThatStays, hbits, if_true, Sem.run_pure]
              exact hso
            · cases h
          · rename_i hfk
            rw [force_eq] at h
            rcases findKey_sound hkk hy 0 hfk her with ⟨-, e1⟩ | ⟨_, _, _, e1, -⟩
            · have hfr := findKey_run hkd e1 w
              have hso := run_setObj (P := E.P) (ob := .map (arr.push { key := yv, val := zv, born := c }) (c + 1)) ho1 (by simp)
              refine ⟨_, ext_put hok.wrel hok.tidy hobj hp h (setBlock_same w _ _) (setBlock_at ho1) (.map (arr.push { key := yv, val := zv, born := c }) (c + 1) (by simpa using her.push hy hz c)), ?_⟩
              simp only [Instr.mapUpdate, Sem.run_bind, run_underlying ht, hgo, Result.andThen_ok, hck, hfr, Sem.run_pure]
              exact hso
            · cases e1
          · cases h
      · cases h
  · cases h

theorem kop_mapUpdate {t : TypeId} {x y z : Operand} (h : kop0 E cx o = some k) (ho : o.op = .mapUpdate t x y z) : k.Sound E cx o := by
  simp only [kop0, ho] at h
  split at h
  · rename_i f g hh key el hf0 hg0 hh0 hd
    split at h
    · rename_i kd hkd
      split at h
      · rename_i hkk
        simp only [Option.some.injEq] at h; subst h
        intro ρ e fr a r S S' w hg hok hr hf
        dsimp only at hr
        unfold done at hr
        split at hr
        · rename_i S1 hst
          simp only [Option.some.injEq, Prod.mk.injEq] at hr
          obtain ⟨rfl, rfl⟩ := hr
          obtain ⟨w', h1, h2⟩ := updateV_sound hd hkd hkk hok hst (opd_sound hf0 (hg x (by simp [ho, Op.operands]))) (opd_sound hg0 (hg y (by simp [ho, Op.operands]))) (opd_sound hh0 (hg z (by simp [ho, Op.operands])))
          exact ⟨ρ, undef, w', h1, .tuple .nil, .inr ⟨by simp only [execOp, ho]; exact run_u h2, rfl⟩⟩
        · cases hr
      · cases h
    · cases h
  · cases h
theorem kop_insert {t : TypeId} {x y z : Operand} (h : kop0 E cx o = some k) (ho : o.op = .insert t x y z) : k.Sound E cx o := by
  simp only [kop0, ho] at h
  split at h
  · rename_i f g hh key el hf0 hg0 hh0 hd
    split at h
    · rename_i kd hkd
      split at h
      · rename_i hkk
        simp only [Option.some.injEq] at h; subst h
        intro ρ e fr a r S S' w hg hok hr hf
        dsimp only at hr
        unfold done at hr
        split at hr
        · rename_i S1 hst
          simp only [Option.some.injEq, Prod.mk.injEq] at hr
          obtain ⟨rfl, rfl⟩ := hr
          obtain ⟨w', h1, h2⟩ := updateV_sound hd hkd hkk hok hst (opd_sound hf0 (hg x (by simp [ho, Op.operands]))) (opd_sound hg0 (hg y (by simp [ho, Op.operands]))) (opd_sound hh0 (hg z (by simp [ho, Op.operands])))
          exact ⟨ρ, undef, w', h1, .tuple .nil, .inr ⟨by simp only [execOp, ho]; exact run_u h2, rfl⟩⟩
        · cases hr
      · cases h
    · cases h
  · cases h

/-! ### Entries of a map -/
theorem findE_sound {d : TypeDesc} (hd : keyKind d = true) {k : SV} {ρ : Ren} {kv : Value} (hk : VRel ρ k kv) : ∀ {es : List (SV × SV × Nat)} {fs : List MapEntry} {r : Option (SV × Nat)} (i : Nat), findE d k es = some r → ERel ρ es fs →
    (r = none ∧ Instr.findNow d kv fs i = some none) ∨ ∃ x n j old, r = some (x, n) ∧ VRel ρ x old.val ∧ Instr.findNow d kv fs i = some (some (i + j, old.val)) ∧ fs[j]? = some old ∧ old.born = n ∧ Instr.sameNow d kv old.key = some true ∧ ERel ρ es (fs.modify j fun e => { e with key := kv })
  | [], _, r, i, h, .nil => by
    simp [findE] at h; subst h
    exact .inl ⟨rfl, rfl⟩
  | (k', x', n) :: es, _, r, i, h, .cons (e := e) (es := fs) hk' hv' hn hs => by
    simp only [findE] at h
    split at h
    · rename_i he
      simp only [Option.some.injEq] at h; subst h
      obtain ⟨h1, h2⟩ := sameNow_sound hd he hk hk'
      have := h2 rfl
      subst this
      refine .inr ⟨x', n, 0, e, rfl, hv', by simp [Instr.findNow, h1], rfl, hn, h1, ?_⟩
      simp only [List.modify_zero_cons]
      exact .cons hk hv' hn hs
    · rename_i he
      obtain ⟨h1, -⟩ := sameNow_sound hd he hk hk'
      rcases findE_sound hd hk (i + 1) h hs with ⟨e1, e2⟩ | ⟨x, m, j, old, e1, e2, e3, e4, e5, e6, e7⟩
      · exact .inl ⟨e1, by simp [Instr.findNow, h1, e2]⟩
      · refine .inr ⟨x, m, j + 1, old, e1, e2, ?_, by simpa using e4, e5, e6, ?_⟩
        · simp [Instr.findNow, h1, e3]; omega
        · simp only [List.modify_succ_cons]
          exact .cons hk' hv' hn e7
    · cases h

theorem entryV_sound {t key elem : TypeId} {kd : TypeDesc} {ρ : Ren} {S S' : SW} {w : World} {x y z r : SV} {xv yv : Value} (ht : E.P.underlying t = some (.map key elem)) (hkd : E.P.underlying key = some kd) (hkk : keyKind kd = true) (hz : Sym.zero E elem = some z)
    (hok : Ok E ρ S w) (h : entryV kd z S x y = some (r, S')) (hx : VRel ρ x xv) (hy : VRel ρ y yv) :
    ∃ v w', Ext ρ S w ρ S' w' ∧ VRel ρ r v ∧ (Instr.mapEntry t xv yv).run E.P w = .ok v w' := by
  unfold entryV at h
  split at h
  · cases hx with
    | map hp =>
      split at h
      · rename_i id b x1 es c hobj
        obtain ⟨ob, ho1, ho2⟩ := hok.wrel.obj id _ _ hobj hp
        cases ho2 with
        | map arr c her =>
          have hgo := run_getObj (P := E.P) ho1 (by simp)
          have hck := checkKey_run hkd hkk false yv w
          split at h
          · rename_i v n hfk
            split at h
            · rename_i S1 hput
              simp only [Option.some.injEq, Prod.mk.injEq] at h
              obtain ⟨rfl, rfl⟩ := h
              rcases findE_sound hkk hy 0 hfk her with ⟨e1, -⟩ | ⟨x', n', j, old, e1, e2, e3, e4, e5, e6, e7⟩
              · cases e1
              · cases e1
                rw [Nat.zero_add] at e3
                have hfr := findKey_run hkd e3 w
                have hbits := sameBits_of 10000 hkk e6
                have e4' : arr[j]? = some old := by simpa using e4
                have hso := run_setObj (P := E.P) (ob := .map (arr.modify j fun e => { e with key := yv }) c) ho1 (by simp)
                refine ⟨_, _, ext_put hok.wrel hok.tidy hobj hp hput (setBlock_same w _ _) (setBlock_at ho1) (.map (arr.modify j fun e => { e with key := yv }) c (by simpa using e7)), .tuple (.cons e2 (.cons (.int _ _) .nil)), ?_⟩
                simp only [Instr.mapEntry, Sem.run_bind, run_underlying ht, hgo, Result.andThen_ok, hck, hfr, e4', Option.map_some, Option.getD_some, Instr.keyThatStays, hbits, if_true, Sem.run_pure, hso, e5, goInt]
                rfl
            · cases h
          · rename_i hfk
            rw [force_eq] at h
            split at h
            · rename_i S1 hput
              simp only [Option.some.injEq, Prod.mk.injEq] at h
              obtain ⟨rfl, rfl⟩ := h
              obtain ⟨zv, hzv, hzr⟩ := zero_run hz ρ
              rcases findE_sound hkk hy 0 hfk her with ⟨-, e1⟩ | ⟨_, _, _, _, e1, -⟩
              · have hfr := findKey_run hkd e1 w
                have hso := run_setObj (P := E.P) (ob := .map (arr.push { key := yv, val := zv, born := c }) (c + 1)) ho1 (by simp)
                refine ⟨_, _, ext_put hok.wrel hok.tidy hobj hp hput (setBlock_same w _ _) (setBlock_at ho1) (.map (arr.push { key := yv, val := zv, born := c }) (c + 1) (by simpa using her.push hy hzv c)), .tuple (.cons hzv (.cons (.int _ _) .nil)), ?_⟩
                simp only [Instr.mapEntry, Sem.run_bind, run_underlying ht, hgo, Result.andThen_ok, hck, hfr, Sem.run_pure, hzr, hso, goInt]
                rfl
              · cases e1
            · cases h
          · cases h
      · cases h
  · cases h

theorem kop_mapEntry {t : TypeId} {x y : Operand} (h : kop0 E cx o = some k) (ho : o.op = .mapEntry t x y) : k.Sound E cx o := by
  simp only [kop0, ho] at h
  split at h
  · rename_i f g key el hf0 hg0 hd
    split at h
    · rename_i kd z hkd hz
      split at h
      · rename_i hkk
        simp only [Option.some.injEq] at h; subst h
        intro ρ e fr a r S S' w hg hok hr hf
        dsimp only at hr
        obtain ⟨v, w', h1, h2, h3⟩ := entryV_sound hd hkd hkk hz hok hr (opd_sound hf0 (hg x (by simp [ho, Op.operands]))) (opd_sound hg0 (hg y (by simp [ho, Op.operands])))
        exact ⟨ρ, v, w', h1, h2, .inl (by simp only [execOp, ho]; exact run_v h3)⟩
      · cases h
    · cases h
  · cases h

theorem setBorn_sound {n : Nat} {v : SV} {ρ : Ren} {vv : Value} (hv : VRel ρ v vv) : ∀ {es es' : List (SV × SV × Nat)} {fs : List MapEntry}, setBorn n v es = some es' → ERel ρ es fs →
    ∃ j, fs.findIdx? (fun e => (e.born : Int) == (n : Int)) = some j ∧ ERel ρ es' (fs.modify j fun e => { e with val := vv })
  | [], es', _, h, .nil => by simp [setBorn] at h
  | (k', x', m) :: es, es', _, h, .cons (e := e) (es := fs) hk' hv' hn hs => by
    simp only [setBorn] at h
    split at h
    · rename_i he
      have he := Nat.eq_of_beq_eq_true he
      simp only [Option.some.injEq] at h; subst h
      refine ⟨0, by simp [List.findIdx?_cons, hn, he], ?_⟩
      simp only [List.modify_zero_cons]
      exact .cons hk' hv hn hs
    · rename_i he
      have hne : m ≠ n := fun e2 => by subst e2; simp at he
      split at h
      · rename_i r hr
        simp only [Option.some.injEq] at h; subst h
        obtain ⟨j, e1, e2⟩ := setBorn_sound hv hr hs
        refine ⟨j + 1, ?_, ?_⟩
        · have : ((e.born : Int) == (n : Int)) = false := by simp; omega
          simp [List.findIdx?_cons, this, e1]
        · simp only [List.modify_succ_cons]
          exact .cons hk' hv' hn e2
      · cases h

theorem estoreV_sound {t : TypeId} {ρ : Ren} {S S' : SW} {w : World} {x y z : SV} {xv yv zv : Value}
    (hok : Ok E ρ S w) (h : estoreV S x y z = some S') (hx : VRel ρ x xv) (hy : VRel ρ y yv) (hz : VRel ρ z zv) :
    ∃ w', Ext ρ S w ρ S' w' ∧ (Instr.entryStore t xv yv zv).run E.P w = .ok () w' := by
  unfold estoreV at h
  split at h
  · cases hx with
    | map hp =>
      split at h
      · rename_i id b x1 x2 es c n hobj hn
        obtain ⟨ob, ho1, ho2⟩ := hok.wrel.obj id _ _ hobj hp
        cases ho2 with
        | map arr c her =>
          have hgo := run_getObj (P := E.P) ho1 (by simp)
          obtain ⟨kk, rfl⟩ := asNat_rel hn hy
          split at h
          · rename_i es' hsb
            obtain ⟨j, e1, e2⟩ := setBorn_sound hz hsb her
            have e1' : arr.findIdx? (fun e => (e.born : Int) == (n : Int)) = some j := by
              cases arr; simpa using e1
            have hso := run_setObj (P := E.P) (ob := .map (arr.modify j fun e => { e with val := zv }) c) ho1 (by simp)
            refine ⟨_, ext_put hok.wrel hok.tidy hobj hp h (setBlock_same w _ _) (setBlock_at ho1) (.map (arr.modify j fun e => { e with val := zv }) c (by simpa using e2)), ?_⟩
            simp only [Instr.entryStore, Sem.run_bind, hgo, Result.andThen_ok, asInt, asIntOf, Sem.run_pure, e1']
            exact hso
          · cases h
      · cases h
  · cases h

theorem kop_entryStore {t : TypeId} {x y z : Operand} (h : kop0 E cx o = some k) (ho : o.op = .entryStore t x y z) : k.Sound E cx o := by
  simp only [kop0, ho] at h
  split at h
  · rename_i f g hh hf0 hg0 hh0
    simp only [Option.some.injEq] at h; subst h
    intro ρ e fr a r S S' w hg hok hr hf
    dsimp only at hr
    unfold done at hr
    split at hr
    · rename_i S1 hst
      simp only [Option.some.injEq, Prod.mk.injEq] at hr
      obtain ⟨rfl, rfl⟩ := hr
      obtain ⟨w', h1, h2⟩ := estoreV_sound (t := t) hok hst (opd_sound hf0 (hg x (by simp [ho, Op.operands]))) (opd_sound hg0 (hg y (by simp [ho, Op.operands]))) (opd_sound hh0 (hg z (by simp [ho, Op.operands])))
      exact ⟨ρ, undef, w', h1, .tuple .nil, .inr ⟨by simp only [execOp, ho]; exact run_u h2, rfl⟩⟩
    · cases hr
  · cases h

theorem remKey_sound {d : TypeDesc} (hd : keyKind d = true) {k : SV} {ρ : Ren} {kv : Value} (hk : VRel ρ k kv) : ∀ {es es' : List (SV × SV × Nat)} {fs : List MapEntry} (i : Nat), remKey d k es = some es' → ERel ρ es fs →
    (Instr.findNow d kv fs i = some none ∧ es' = es) ∨ ∃ j u, Instr.findNow d kv fs i = some (some (i + j, u)) ∧ ERel ρ es' (fs.eraseIdx j)
  | [], es', _, i, h, .nil => by
    simp only [remKey, Option.some.injEq] at h; subst h
    exact .inl ⟨rfl, rfl⟩
  | (k', x', n) :: es, es', _, i, h, .cons (e := e) (es := fs) hk' hv' hn hs => by
    simp only [remKey] at h
    split at h
    · rename_i he
      simp only [Option.some.injEq] at h; subst h
      obtain ⟨h1, -⟩ := sameNow_sound hd he hk hk'
      exact .inr ⟨0, e.val, by simp [Instr.findNow, h1], by simpa using hs⟩
    · rename_i he
      obtain ⟨h1, -⟩ := sameNow_sound hd he hk hk'
      split at h
      · rename_i r hr
        simp only [Option.some.injEq] at h; subst h
        rcases remKey_sound hd hk (i + 1) hr hs with ⟨e1, e2⟩ | ⟨j, u, e1, e2⟩
        · exact .inl ⟨by simp [Instr.findNow, h1, e1], by rw [e2]⟩
        · refine .inr ⟨j + 1, u, by simp [Instr.findNow, h1, e1]; omega, ?_⟩
          simp only [List.eraseIdx_cons_succ]
          exact .cons hk' hv' hn e2
      · cases h
    · cases h

theorem deleteV_sound {t key elem ty : TypeId} {ts : Array TypeId} {kd : TypeDesc} {ρ : Ren} {S S' : SW} {w : World} {x y : SV} {xv yv : Value} (h0 : ts[0]? = some t) (ht : E.P.underlying t = some (.map key elem)) (hkd : E.P.underlying key = some kd) (hkk : keyKind kd = true)
    (hok : Ok E ρ S w) (h : deleteV kd S x y = some S') (hx : VRel ρ x xv) (hy : VRel ρ y yv) :
    ∃ w', Ext ρ S w ρ S' w' ∧ (Builtin.delete_ ts ty #[xv, yv]).run E.P w = .ok (.tuple #[]) w' := by
  unfold deleteV at h
  have a0 : (#[xv, yv] : Array Value)[0]? = some xv := rfl
  have a1 : (#[xv, yv] : Array Value)[1]? = some yv := rfl
  split at h
  · simp only [Option.some.injEq] at h; subst h
    cases hx
    have hck := checkKey_run hkd hkk true yv w
    refine ⟨w, hok.refl_ext, ?_⟩
    simp only [Builtin.delete_, h0, a0, a1, Sem.run_bind, run_underlying ht, Result.andThen_ok, hck, Sem.run_pure]
  · cases hx with
    | map hp =>
      split at h
      · rename_i id b x1 es c hobj
        obtain ⟨ob, ho1, ho2⟩ := hok.wrel.obj id _ _ hobj hp
        cases ho2 with
        | map arr c her =>
          have hgo := run_getObj (P := E.P) ho1 (by simp)
          have hck := checkKey_run hkd hkk arr.isEmpty yv w
          split at h
          · rename_i es' hrk
            rcases remKey_sound hkk hy 0 hrk her with ⟨e1, rfl⟩ | ⟨j, u, e1, e2⟩
            · have hfr := findKey_run hkd e1 w
              have hso := run_setObj (P := E.P) (ob := .map arr c) ho1 (by simp)
              refine ⟨_, ext_put hok.wrel hok.tidy hobj hp h (setBlock_same w _ _) (setBlock_at ho1) (.map arr c her), ?_⟩
              simp only [Builtin.delete_, h0, a0, a1, Sem.run_bind, run_underlying ht, Result.andThen_ok, hgo, hck, hfr, hso, Sem.run_pure]
            · rw [Nat.zero_add] at e1
              have hfr := findKey_run hkd e1 w
              have hso := run_setObj (P := E.P) (ob := .map (arr.eraseIdxIfInBounds j) c) ho1 (by simp)
              refine ⟨_, ext_put hok.wrel hok.tidy hobj hp h (setBlock_same w _ _) (setBlock_at ho1) (.map (arr.eraseIdxIfInBounds j) c (by simpa using e2)), ?_⟩
              simp only [Builtin.delete_, h0, a0, a1, Sem.run_bind, run_underlying ht, Result.andThen_ok, hgo, hck, hfr, hso, Sem.run_pure]
          · cases h
      · cases h
  · cases h

/-! ### Rows: their first cells -/
theorem rowLen_run {ρ : Ren} {x : SV} {v : Value} {m : Nat} (h : rowLen x = some m) (hx : VRel ρ x v) (w : World) : (Builtin.lenOf v).run E.P w = .ok m w := by
  unfold rowLen at h
  split at h
  · cases hx; simp only [Option.some.injEq] at h; subst h; rfl
  · simp only [Option.some.injEq] at h; subst h; cases hx <;> rfl
  · cases hx; simp only [Option.some.injEq] at h; subst h; rfl
  · cases h

theorem slice_addr {ρ : Ren} {id off len : Nat} {c : SCap} {v : Value} (h : VRel ρ (.slice id off len c) v) : ∃ b ofs tt x cap, ρ id = some (b, ofs, tt) ∧ v = .slice (some ⟨b, x, none⟩) len cap ∧ (len ≠ 0 → x = ofs + off) := by
  cases h with
  | sliceE hp => exact ⟨_, _, _, _, _, hp, rfl, fun _ => rfl⟩
  | sliceT hp ht hl hk hx => exact ⟨_, _, _, _, _, hp, rfl, fun hne => by rcases hx with rfl | h0; rfl; omega⟩

theorem firstCells_sound {ρ : Ren} {S : SW} {w : World} {size n m : Nat} {x : SV} {v : Value} {cs : List SV} (hok : Ok E ρ S w) (h : Sym.firstCells S size n x = some cs) (hx : VRel ρ x v) (hm : rowLen x = some m) (hn : n ≤ m) :
    ∃ vs : List Value, VRels ρ cs vs ∧ (Builtin.firstCells size n v).run E.P w = .ok vs.toArray w := by
  unfold Sym.firstCells at h
  split at h
  · rename_i id off len c
    obtain ⟨b, ofs, tt, xa, cap, hp, rfl, hadr⟩ := slice_addr hx
    simp only [rowLen, Option.some.injEq] at hm
    subst hm
    split at h
    · rename_i cs0 el hobj
      obtain ⟨ob, ho1, ho2⟩ := hok.wrel.obj id _ _ hobj hp
      cases ho2 with
      | cells arr _ fz ht hlen hfz hmk hc =>
        obtain ⟨vs, h1, h2, h3⟩ := Holds.seg (show Holds ρ cs0 ofs arr from hc) h
        refine ⟨vs, h2, ?_⟩
        simp only [Builtin.firstCells]
        by_cases h0 : n = 0
        · subst h0
          have : vs = [] := by apply List.eq_nil_of_length_eq_zero; rw [h1]; simp
          subst this
          simp only [Nat.zero_mul]
          rfl
        · rw [hadr (by omega), ← h1]
          exact run_loadCells_win E.P ho1 vs h3
    · cases h
  · simp only [Option.some.injEq] at h; subst h
    cases hx
    exact ⟨[], .nil, rfl⟩
  · rename_i s
    simp only [Option.some.injEq] at h; subst h
    cases hx
    refine ⟨((s.data.toList.take n).map fun b => Value.int .u8 b.toNat), ?_, ?_⟩
    · generalize s.data.toList.take n = l
      induction l with
      | nil => exact .nil
      | cons b l ih => exact .cons (.int _ _) ih
    · simp only [Builtin.firstCells]
      show Result.ok _ w = _
      congr 1
      apply Array.ext'
      simp [ByteArray.extract, ByteArray.copySlice]
  · cases h
end
end Go.RX
