/- Loads, look-ups, lengths: what reads memory and writes nothing. -/
import Derived.Test.YtjfagagjmdddcaaGreatDoorRxOps6
set_option linter.all false
namespace Go.RX
open Sym

/-- What a window of a block holds. -/
abbrev Holds (ρ : Ren) (cs : List SV) (o : Nat) (arr : Array Value) : Prop := ∀ (k : Nat) (x : SV), cs[k]? = some x → ∃ v, arr[o + k]? = some v ∧ VRel ρ x v

theorem Holds.mono {ρ ρ' : Ren} (hle : ρ.le ρ') {cs : List SV} {o : Nat} {arr : Array Value} (h : Holds ρ cs o arr) : Holds ρ' cs o arr := fun k x e => let ⟨v, h1, h2⟩ := h k x e; ⟨v, h1, h2.mono hle⟩

theorem Holds.seg {ρ : Ren} {cs l : List SV} {o m n : Nat} {arr : Array Value} (h : Holds ρ cs o arr) (hs : Go.RX.seg cs m n = some l) :
    ∃ vs : List Value, vs.length = n ∧ VRels ρ l vs ∧ ∀ k v, vs[k]? = some v → arr[o + m + k]? = some v := by
  obtain ⟨h1, -, h3⟩ := seg_some _ _ _ _ hs
  have hget := fun k (hk : k < n) => seg_get hs k hk
  have hex : ∀ k, k < n → ∃ v, arr[o + (m + k)]? = some v ∧ ∀ x, l[k]? = some x → VRel ρ x v := fun k hk => by
    have hlt : m + k < cs.length := by omega
    obtain ⟨v, hv, hr⟩ := h (m + k) cs[m + k] (by simp [hlt])
    refine ⟨v, hv, fun x hx => ?_⟩
    rw [hget k hk] at hx
    have : cs[m + k]? = some cs[m + k] := by simp [hlt]
    rw [this] at hx; cases hx; exact hr
  have hsize : ∀ k, k < n → o + m + k < arr.size := fun k hk => by
    obtain ⟨v, hv, -⟩ := hex k hk
    have := (Array.getElem?_eq_some_iff.1 hv).1
    omega
  have hvs : ∀ k, ((arr.toList.drop (o + m)).take n)[k]? = if k < n then arr[o + (m + k)]? else none := fun k => by
    rw [List.getElem?_take]
    by_cases hk : k < n
    · rw [if_pos hk, if_pos hk, List.getElem?_drop, Array.getElem?_toList]; congr 1; omega
    · rw [if_neg hk, if_neg hk]
  have hlen : ((arr.toList.drop (o + m)).take n).length = n := by
    rw [List.length_take, List.length_drop, Array.length_toList]
    rcases Nat.eq_zero_or_pos n with rfl | hp
    · simp
    · have := hsize (n - 1) (by omega)
      omega
  refine ⟨(arr.toList.drop (o + m)).take n, hlen, VRels.of_get (by rw [hlen, h3]) fun k x v hx hv => ?_, fun k v hv => ?_⟩
  · rw [hvs] at hv
    by_cases hk : k < n
    · rw [if_pos hk] at hv
      obtain ⟨v', hv', hr⟩ := hex k hk
      rw [hv'] at hv; cases hv; exact hr x hx
    · rw [if_neg hk] at hv; cases hv
  · rw [hvs] at hv
    by_cases hk : k < n
    · rw [if_pos hk] at hv; rw [← hv]; congr 1; omega
    · rw [if_neg hk] at hv; cases hv

section
variable {E : Env} {cx : Cx} {o : Oper} {k : KOp}

theorem loadVar_win {ρ : Ren} {cs : List SV} {b ofs off : Nat} {arr : Array Value} {el : TypeId} {fz : Nat × Nat} {w : World} {t : TypeId} {wd : Option Nat} {r : SV} (hb : w.heap[b]? = some (.cells arr el fz)) (h : Holds ρ cs ofs arr)
    (hw : wide E t = some wd) (hp : pick cs off wd = some r) : ∃ u, VRel ρ r u ∧ (loadVar t ⟨b, ofs + off, none⟩).run E.P w = .ok u w := by
  rcases wide_run hw with ⟨rfl, hg⟩ | ⟨n, rfl, hg, hn⟩
  · simp only [pick, nth_eq] at hp
    obtain ⟨v, h1, h2⟩ := h _ _ hp
    refine ⟨v, h2, ?_⟩
    simp [loadVar, hg, cell_at hb, h1]
  · simp only [pick] at hp
    split at hp
    · rename_i l hl
      simp only [Option.some.injEq] at hp; subst hp
      obtain ⟨vs, h1, h2, h3⟩ := h.seg hl
      refine ⟨_, .agg h2, ?_⟩
      simp only [loadVar, Sem.run_bind, hg, Result.andThen_ok, if_true, hn]
      rw [← h1, run_loadCells_win E.P hb vs h3]
      rfl
    · cases hp

/-- All cells of an element of a row. -/
def rowFrom (a : Nat) (i : IE) : Nat → List (Option IntKind) → List SV
  | _, [] => []
  | c, k :: ks => rowCell a i c k :: rowFrom a i (c + 1) ks
def rowAll (a : Nat) (i : IE) (ks : List (Option IntKind)) : List SV := rowFrom a i 0 ks

theorem rowFrom_get {a : Nat} {i : IE} : ∀ {ks : List (Option IntKind)} {c k : Nat} {y : SV}, (rowFrom a i c ks)[k]? = some y → ∃ kd, ks[k]? = some kd ∧ y = rowCell a i (c + k) kd
  | [], _, _, _, h => by simp [rowFrom] at h
  | kd :: ks, c, 0, y, h => by simp [rowFrom] at h; exact ⟨kd, rfl, h.symm⟩
  | kd :: ks, c, k + 1, y, h => by
    simp [rowFrom] at h
    obtain ⟨kd', h1, h2⟩ := rowFrom_get h
    exact ⟨kd', by simpa using h1, by rw [h2]; congr 1; omega⟩
theorem rowAll_get {a : Nat} {i : IE} {ks : List (Option IntKind)} {k : Nat} {y : SV} (h : (rowAll a i ks)[k]? = some y) : ∃ kd, ks[k]? = some kd ∧ y = (match kd with | some kd => SV.sint kd (.sel a i k) | none => .blur) := by
  obtain ⟨kd, h1, h2⟩ := rowFrom_get h
  refine ⟨kd, h1, ?_⟩
  rw [h2, Nat.zero_add]
  cases kd <;> rfl
theorem rowFrom_len (a : Nat) (i : IE) : ∀ (ks : List (Option IntKind)) (c : Nat), (rowFrom a i c ks).length = ks.length
  | [], _ => rfl
  | _ :: ks, c => by simp [rowFrom, rowFrom_len a i ks]
theorem rowFrom_drop (a : Nat) (i : IE) : ∀ (ks : List (Option IntKind)) (c d : Nat), (rowFrom a i c ks).drop d = rowFrom a i (c + d) (ks.drop d)
  | [], c, d => by simp [rowFrom]
  | _ :: ks, c, 0 => by simp
  | _ :: ks, c, d + 1 => by
    simp only [rowFrom, List.drop_succ_cons]
    rw [rowFrom_drop a i ks (c + 1) d]; congr 1; omega
theorem rowCells_take (a : Nat) (i : IE) : ∀ (n c : Nat) (ks : List (Option IntKind)) (l : List SV), rowCells a i n c ks = some l → n ≤ ks.length ∧ l = (rowFrom a i c ks).take n
  | 0, c, ks, l, h => by simp only [rowCells, Option.some.injEq] at h; subst h; simp
  | n + 1, c, [], l, h => by simp [rowCells] at h
  | n + 1, c, k :: ks, l, h => by
    simp only [rowCells] at h
    split at h
    · rename_i l' hl
      simp only [Option.some.injEq] at h; subst h
      obtain ⟨h1, h2⟩ := rowCells_take a i n (c + 1) ks l' hl
      exact ⟨by simpa using h1, by simp [rowFrom, h2]⟩
    · cases h
theorem seg_of {α : Type} {l : List α} {m n : Nat} (h : m + n ≤ l.length) : seg l m n = some ((l.drop m).take n) := by
  induction l generalizing m with
  | nil =>
    have : m = 0 ∧ n = 0 := by simp at h; omega
    obtain ⟨rfl, rfl⟩ := this
    rfl
  | cons c l ih =>
    cases m with
    | zero =>
      rw [seg_zero]
      have key : ∀ (l : List α) (n : Nat), n ≤ l.length → takeN l n = some (l.take n) := by
        intro l
        induction l with
        | nil => intro n hn; have : n = 0 := by simpa using hn
                 subst this; rfl
        | cons c l ih2 =>
          intro n hn
          cases n with
          | zero => rfl
          | succ n => rw [takeN_cons_succ, ih2 n (by simpa using hn)]; rfl
      simpa using key (c :: l) n (by simpa using h)
    | succ m => rw [seg_cons_succ, ih (by simp at h; omega)]; rfl
theorem pickRow_pick {a : Nat} {i : IE} {off : Nat} {ks : List (Option IntKind)} {wd : Option Nat} {r : SV} (h : pickRow a i off ks wd = some r) : pick (rowAll a i ks) off wd = some r := by
  cases wd with
  | none =>
    simp only [pickRow] at h
    split at h
    · rename_i k hk
      simp only [Option.some.injEq] at h; subst h
      rw [nth_eq] at hk
      simp only [pick, nth_eq]
      have hlen : off < (rowAll a i ks).length := by
        rw [rowAll, rowFrom_len]; exact (List.getElem?_eq_some_iff.1 hk).1
      obtain ⟨y, hy⟩ : ∃ y, (rowAll a i ks)[off]? = some y := ⟨_, List.getElem?_eq_getElem hlen⟩
      obtain ⟨kd, h1, h2⟩ := rowFrom_get hy
      rw [hy, h2, Nat.zero_add]
      rw [hk] at h1; cases h1; rfl
    · cases h
  | some n =>
    simp only [pickRow] at h
    split at h
    · rename_i l hb hl
      have h0 := Nat.le_of_ble_eq_true hb
      simp only [Option.some.injEq] at h; subst h
      obtain ⟨h1, h2⟩ := rowCells_take a i n off (ks.drop off) l hl
      simp only [pick]
      rw [seg_of (by rw [rowAll, rowFrom_len]; exact h0), rowAll, rowFrom_drop, Nat.zero_add, ← h2]
    · cases h

theorem loadW_sound {ρ : Ren} {S : SW} {w : World} {t : TypeId} {wd : Option Nat} {a r : SV} {v : Value} (hok : Ok E ρ S w) (hw : wide E t = some wd) (h : loadW E S wd a = some r) (ha : VRel ρ a v) :
    ∃ u, VRel ρ r u ∧ (Instr.loadAt t v).run E.P w = .ok u w := by
  unfold loadW at h
  split at h
  · cases ha with
    | ptr hp =>
      split at h
      · rename_i id off b oo tt x1 cs el hobj
        obtain ⟨ob, ho1, ho2⟩ := hok.wrel.obj id _ _ hobj hp
        cases ho2 with
        | cells arr _ fz ht hlen hfz hmk hc =>
          obtain ⟨u, h1, h2⟩ := loadVar_win ho1 hc hw h
          exact ⟨u, h1, by simp only [Instr.loadAt, Instr.sureAddr, Sem.run_bind, Sem.run_pure, Result.andThen_ok]; exact h2⟩
      · cases h
  · cases ha
    split at h
    · rename_i g off x1 cs hcs
      obtain ⟨arr, el, fz, h1, h2⟩ := hok.glob.lies.cells _ _ hcs
      have hh : Holds ρ cs 0 arr := fun k x e => by
        obtain ⟨v, e1, e2⟩ := h2 k x e
        exact ⟨v, by rw [Nat.zero_add]; exact e1, e2.mono ⟨fun _ _ e => (by cases e), hok.num.sig.symm⟩⟩
      obtain ⟨u, h3, h4⟩ := loadVar_win h1 hh hw h
      rw [Nat.zero_add] at h4
      exact ⟨u, h3, by simp only [Instr.loadAt, Instr.sureAddr, Sem.run_bind, Sem.run_pure, Result.andThen_ok]; exact h4⟩
    · cases h
  · split at h
    · rename_i a i off x1 ks hks
      obtain ⟨b, xx, n, arr, el, fz, h1, h2, h3⟩ := hok.glob.lies.rows _ _ hks
      cases ha with
      | rptr hr h0 hlt =>
        rw [hok.num.sig, h1] at hr
        simp only [Prod.mk.injEq] at hr
        obtain ⟨rfl, rfl, rfl, rfl⟩ := hr
        have hh : Holds ρ (rowAll a i ks) (xx + (i.val ρ.sig).toNat * ks.length) arr := fun k y e => by
          obtain ⟨kd, q1, q2⟩ := rowAll_get e
          obtain ⟨g1, g2⟩ := h3 (i.val ρ.sig).toNat k kd (by omega) q1
          refine ⟨_, g1, ?_⟩
          subst q2
          cases kd with
          | none => exact .blur _ g2
          | some kd =>
            obtain ⟨z, hz⟩ := g2
            have := VRel.sint (ρ := ρ) kd (.sel a i k)
            have hv : IE.val ρ.sig (.sel a i k) = z := by simp only [IE.val]; rw [hok.num.sig] at hz ⊢; rw [hz]
            rw [hv] at this
            rw [hok.num.sig] at hz
            rw [hok.num.sig, hz]
            exact this
        obtain ⟨u, h4, h5⟩ := loadVar_win h2 hh hw (pickRow_pick h)
        exact ⟨u, h4, by simp only [Instr.loadAt, Instr.sureAddr, Sem.run_bind, Sem.run_pure, Result.andThen_ok]; exact h5⟩
    · cases h
  · cases h

theorem kop_load {t : TypeId} {x : Operand} (h : kop0 E cx o = some k) (ho : o.op = .load t x) : k.Sound E cx o := by
  simp only [kop0, ho] at h
  split at h
  · rename_i f wd hf hwd
    simp only [Option.some.injEq] at h; subst h
    intro ρ e fr a r S w hg hok hr
    dsimp only at hr
    obtain ⟨u, h1, h2⟩ := loadW_sound hok hwd hr (opd_sound hf (hg x (by simp [ho, Op.operands])))
    exact ⟨u, h1, by simp only [execOp, ho]; exact run_v h2⟩
  · cases h

/-! ### Maps -/
theorem run_getObj_map (P : Program) {w : World} {r : Nat} {es : Array MapEntry} {c : Nat} (h : w.heap[r]? = some (.map es c)) : (getObj r).run P w = .ok (.map es c) w := by
  simp only [getObj, Sem.run, h]

theorem entries_sound {ρ : Ren} {S : SW} {w : World} {x : SV} {es : List (SV × SV × Nat)} {v : Value} (hok : Ok E ρ S w) (h : entries S x = some es) (hv : VRel ρ x v) :
    (v = .map none ∧ es = []) ∨ ∃ r arr c, v = .map (some r) ∧ w.heap[r]? = some (.map arr c) ∧ ERel ρ es arr.toList := by
  unfold entries at h
  split at h
  · cases hv
    simp only [Option.some.injEq] at h; subst h
    exact .inl ⟨rfl, rfl⟩
  · cases hv with
    | map hp =>
      split at h
      · rename_i id b x1 es' c hobj
        simp only [Option.some.injEq] at h; subst h
        obtain ⟨ob, ho1, ho2⟩ := hok.wrel.obj id _ _ hobj hp
        cases ho2 with
        | map arr c hh => exact .inr ⟨_, arr, c, rfl, ho1, hh⟩
      · cases h
  · cases h

theorem ERel.length {ρ : Ren} : ∀ {xs : List (SV × SV × Nat)} {es : List MapEntry}, ERel ρ xs es → xs.length = es.length
  | _, _, .nil => rfl
  | _, _, .cons _ _ _ hs => by simp [ERel.length hs]

theorem sameNow_sound {d : TypeDesc} (hd : keyKind d = true) {k k' : SV} {b : Bool} {ρ : Ren} {v v' : Value} (h : eqScalar d k k' = some b) (hk : VRel ρ k v) (hk' : VRel ρ k' v') :
    Instr.sameNow d v v' = some b ∧ (b = true → k = k') := by
  unfold eqScalar at h
  split at h <;> first | (cases h; done) | (simp [keyKind] at hd; done) | skip
  · cases hk; cases hk'
    simp only [Option.some.injEq] at h; subst h
    exact ⟨rfl, fun e => by simp at e; rw [e]⟩
  · cases hk; cases hk'
    rename_i ik1 k1 a1 k2 a2
    rw [kindEq_eq] at h
    by_cases e : k1 = k2
    · simp [e, eqb_eq] at h; subst h
      refine ⟨by simp [Instr.sameNow, e]; rfl, fun e2 => by simp at e2; rw [e2, e]⟩
    · simp [e] at h
  · cases hk; cases hk'
    simp only [Option.some.injEq, strEq_beq] at h; subst h
    refine ⟨rfl, fun e => ?_⟩
    rename_i a1 b1
    rw [beq_toListBytes, ByteArray.toList_eq, ByteArray.toList_eq] at e
    have h2 : a1.data.toList = b1.data.toList := by simpa using e
    have : a1 = b1 := ByteArray.ext (Array.ext' h2)
    rw [this]

theorem findKey_sound {d : TypeDesc} (hd : keyKind d = true) {k : SV} {ρ : Ren} {kv : Value} (hk : VRel ρ k kv) : ∀ {es : List (SV × SV × Nat)} {fs : List MapEntry} {r : Option SV} (i : Nat), findKey d k es = some r → ERel ρ es fs →
    (r = none ∧ Instr.findNow d kv fs i = some none) ∨ ∃ x v j, r = some x ∧ VRel ρ x v ∧ Instr.findNow d kv fs i = some (some (j, v)) ∧ i ≤ j ∧ j < i + fs.length
  | [], _, r, i, h, .nil => by
    simp [Sym.findKey] at h; subst h
    exact .inl ⟨rfl, rfl⟩
  | (k', x', n) :: es, _, r, i, h, .cons (e := e) (es := fs) hk' hv' hn hs => by
    simp only [Sym.findKey] at h
    split at h
    · rename_i he
      simp only [Option.some.injEq] at h; subst h
      obtain ⟨h1, -⟩ := sameNow_sound hd he hk hk'
      refine .inr ⟨x', e.val, i, rfl, hv', ?_, Nat.le_refl _, by simp⟩
      simp [Instr.findNow, h1]
    · rename_i he
      obtain ⟨h1, -⟩ := sameNow_sound hd he hk hk'
      rcases findKey_sound hd hk (i + 1) h hs with ⟨e1, e2⟩ | ⟨x, v, j, e1, e2, e3, e4, e5⟩
      · exact .inl ⟨e1, by simp [Instr.findNow, h1, e2]⟩
      · exact .inr ⟨x, v, j, e1, e2, by simp [Instr.findNow, h1, e3], by omega, by simp; omega⟩
    · cases h

theorem checkKey_run {t : TypeId} {d : TypeDesc} (ht : E.P.underlying t = some d) (hd : keyKind d = true) (b : Bool) (v : Value) (w : World) : (Instr.checkKey b 10000 t v).run E.P w = .ok () w := by
  have key : ∀ n, (Instr.checkKey b (n + 1) t v).run E.P w = .ok () w := fun n => by
    simp only [Instr.checkKey, Sem.run_bind, run_underlying ht, Result.andThen_ok]
    cases d <;> simp [keyKind] at hd <;> rfl
  exact key 9999

theorem findKey_run {t : TypeId} {d : TypeDesc} (ht : E.P.underlying t = some d) {k : Value} {es : List MapEntry} {r : Option (Nat × Value)} (h : Instr.findNow d k es 0 = some r) (w : World) : (Instr.findKey t k es).run E.P w = .ok r w := by
  simp only [Instr.findKey, Sem.run_bind, run_underlying ht, Result.andThen_ok, h]
  rfl

theorem kop_lookup {t : TypeId} {x i : Operand} {ok : Bool} (h : kop0 E cx o = some k) (ho : o.op = .lookup t x i ok) : k.Sound E cx o := by
  simp only [kop0, ho] at h
  split at h
  · rename_i f g key elem hf hg' hd
    split at h
    · rename_i kd z hkd hz
      split at h
      · rename_i hkk
        simp only [Option.some.injEq] at h; subst h
        intro ρ e fr a r S w hg hok hr
        dsimp only at hr
        have h1 := opd_sound hf (hg x (by simp [ho, Op.operands]))
        have h2 := opd_sound hg' (hg i (by simp [ho, Op.operands]))
        obtain ⟨zv, hzv, hzr⟩ := zero_run hz ρ
        unfold lookupV at hr
        split at hr
        · rename_i es hes
          have fin : ∀ (arr : Array MapEntry), ERel ρ es arr.toList → ∃ v, VRel ρ r v ∧ ((do
              Instr.checkKey arr.isEmpty 10000 key (a.eval i)
              let (v, okv) ← match ← Instr.findKey key (a.eval i) arr.toList with
                | some (_, v) => pure (v, true)
                | none => pure (← zeroValue elem, false)
              pure (if ok then .tuple #[v, .bool okv] else v) : Sem Value)).run E.P w = .ok v w := by
            intro arr her
            have hck := checkKey_run hkd hkk arr.isEmpty (a.eval i) w
            split at hr
            · rename_i xv hfk
              simp only [Option.some.injEq] at hr
              rcases findKey_sound hkk h2 0 hfk her with ⟨e1, -⟩ | ⟨x', v', j, e1, e2, e3, -, -⟩
              · cases e1
              · cases e1
                have hfr := findKey_run hkd e3 w
                cases ok with
                | true =>
                  subst hr
                  refine ⟨_, .tuple (.cons e2 (.cons (.bool true) .nil)), ?_⟩
                  simp only [Sem.run_bind, hck, Result.andThen_ok, hfr]
                  rfl
                | false =>
                  subst hr
                  refine ⟨_, e2, ?_⟩
                  simp only [Sem.run_bind, hck, Result.andThen_ok, hfr]
                  rfl
            · rename_i hfk
              simp only [Option.some.injEq] at hr
              rcases findKey_sound hkk h2 0 hfk her with ⟨-, e1⟩ | ⟨x', v', j, e1, -⟩
              · have hfr := findKey_run hkd e1 w
                cases ok with
                | true =>
                  subst hr
                  refine ⟨_, .tuple (.cons hzv (.cons (.bool false) .nil)), ?_⟩
                  simp only [Sem.run_bind, hck, Result.andThen_ok, hfr, hzr]
                  rfl
                | false =>
                  subst hr
                  refine ⟨_, hzv, ?_⟩
                  simp only [Sem.run_bind, hck, Result.andThen_ok, hfr, hzr]
                  rfl
              · cases e1
            · cases hr
          rcases entries_sound hok hes h1 with ⟨hm, rfl⟩ | ⟨rr, arr, c, hm, hb, her⟩
          · obtain ⟨v, hv, hrun⟩ := fin #[] .nil
            refine ⟨v, hv, ?_⟩
            simp only [execOp, ho, hm]
            refine run_v ?_
            simp only [Instr.lookup, Sem.run_bind, run_underlying hd, Result.andThen_ok, Sem.run_pure] at hrun ⊢
            exact hrun
          · obtain ⟨v, hv, hrun⟩ := fin arr her
            refine ⟨v, hv, ?_⟩
            simp only [execOp, ho, hm]
            refine run_v ?_
            simp only [Instr.lookup, Sem.run_bind, run_underlying hd, Result.andThen_ok, Sem.run_pure, run_getObj_map E.P hb] at hrun ⊢
            exact hrun
        · cases hr
      · cases h
    · cases h
  · cases h
end
end Go.RX
