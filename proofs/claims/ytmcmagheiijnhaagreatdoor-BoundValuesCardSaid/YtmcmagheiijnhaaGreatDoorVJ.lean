/- wakemanlaw16.Few: which configurations are looked at. -/
import Derived.Test.YtmcmagheiijnhaaGreatDoorVI
import Derived.Test.YtmcmagheiijnhaaGreatDoorRxI
set_option linter.all false
set_option maxRecDepth 100000
namespace Go.Proofs.YtmcmagheiijnhaaGreatDoor
open Go.RX Go.RX.Sym
open Classical

/-- A loop whose round's tree hangs on the numbers; the next numbers may be any that hold what stays. -/
theorem loop_dt2 {E : Sig → List Fact → Env} {K : Sig → List Fact → Nat → List SV → SW → Option (SV × SW)} {P : Program} (hs : ∀ σ F, (E σ F).sig = σ) (hp : ∀ σ F, (E σ F).P = P) {W0 : World} (J : Sig → Nat → Prop)
    (hE : ∀ σ k, J σ k → ∀ F, (∀ f ∈ F, f.holds σ) → NumOk (E σ F) ∧ Known (E σ F) (K σ F) ∧ Lies (E σ F) W0) {T : Sig → DT Lp} {d n m id : Nat} {sl : List Nat} {c : Code} {fr : List SV} {objs : List (Nat × SObj)} {n0 : Nat} {rs : List Nat}
    {F0 : List Fact} (h : ∀ σ, (T σ).ok (lpIs (E σ) (K σ) d n sl c fr objs n0 rs) F0 = true) (hF0 : ∀ σ k, J σ k → ∀ f ∈ F0, f.holds σ) {σ0 : Sig} {N : Nat} (h0 : J σ0 N) {a : Act} {w : World} (hA : AtT σ0 n sl fr objs n0 W0 a w) {Q : Exit → Act → World → Prop}
    (hround : ∀ σ k p, J σ k → (T σ).eval σ = p → match p.again with
      | true => ∃ σ' k', k' < k ∧ Puts rs p.θ σ σ' ∧ J σ' k'
      | false => ∀ a' w', AtT σ n sl p.leaf.fr p.leaf.objs p.leaf.next W0 a' w' → OutL id Q p.leaf.how a' w') :
    (Code.block id (.loop c)).wpIn Fence.wide m P Q a w := by
  refine wpIn_block (wpIn_loop_n (J := fun k a w => ∃ σ, J σ k ∧ AtT σ n sl fr objs n0 W0 a w) (N := N) ⟨σ0, h0, hA⟩ ?_)
  rintro k a w ⟨σ, hJ, hA⟩
  obtain ⟨F, hF, hm⟩ := DT.sound (σ := σ) (h σ) (hF0 σ k hJ)
  obtain ⟨hn, hK, hL⟩ := hE σ k hJ F hF
  have hA' : AtT (E σ F).sig n sl fr objs n0 W0 a w := by rw [hs]; exact hA
  have hr := hround σ k ((T σ).eval σ) hJ rfl
  generalize (T σ).eval σ = p at hm hr
  unfold lpIs at hm
  split at hm
  · cases hm
  · rename_i hpc
    unfold pieceIs at hpc
    rw [runChain_one] at hpc
    have key : ∀ {R : Exit → Act → World → Prop}, (∀ a' w', AtT σ n sl p.leaf.fr p.leaf.objs p.leaf.next W0 a' w' → R (howOf p.leaf.how) a' w') → c.wpIn Fence.wide m P R a w := fun {R} hR => by
      have := tmpl_step (E := E σ F) (K := K σ F) hK hn (m := m) hpc hA' hL (Q := R) fun a' w' h' => by
        rw [hs] at h'
        exact hR a' w' h'
      rw [hp] at this
      exact this
    refine key fun a' w' h' => ?_
    split at hm
    · rename_i hag
      rw [hag] at hr
      exact outL_is (hr a' w' h')
    · rename_i hag
      rw [hag] at hr
      split at hm
      · rename_i hhow
        rw [Nat.eq_of_beq_eq_true hhow]
        obtain ⟨σ', k', hlt, hputs, hJ'⟩ := hr
        exact ⟨k', hlt, σ', hJ', h'.sub hputs hm⟩
      · cases hm

noncomputable def bd5 : Code := match Tryz.f5.body with | some c => c | none => .skip
theorem bd5_is : Tryz.f5.body = some bd5 := by kernel_rfl
theorem nt5 : Tryz.f5.ntmps = 34 := by kernel_rfl
def sl5 : List Nat := [33, 12, 7, 3, 2, 1, 0]
theorem lp5 : (flatC bd5).drop 4 = .block 0 (.loop (inC [4] bd5)) :: (flatC bd5).drop 5 := by kernel_rfl
def rowJ : Kinds := fun a => match a with | 0 => some jobKinds | _ => none
def cellsF (b : Bool) (a : Nat) (i : IE) (k : Nat) : Option SV := match a, i, k with
  | 0, .var 1, 0 => some (.sstr 6)
  | 0, .var 1, 14 => some (match b with | true => .nilslice | false => .row 301)
  | _, _, _ => none
noncomputable def envW (b : Bool) (σ : Sig) (F : List Fact) : Env := { P := Tryz.prog, G := globals, rows := rowJ, lt := factLt F, eq := factEq F, sig := σ, cells := cellsF b }
def hd5 (i : SV) : List SV := frN sl5 [(3, i), (1, .ptr 0 0)]
def rt5 (b : Bool) : Lf := ⟨1, frN sl5 [(2, .bool b)], [], 1⟩
def t5a : DT Lf := .lt (.lit 100) (.len 0) (.leaf (rt5 false)) (.leaf ⟨0, hd5 z0, oC, 1⟩)
theorem t5a_ok' (b : Bool) (σ : Sig) : t5a.ok (pieceIs (envW b σ) (fun _ => noC) 40 34 sl5 ((flatC bd5).take 4) (cutSt (frameOf (cfArgs (.row 0)) sl5) [] 0)) [] = true := by kernel_rfl
def ag5 : Lp := ⟨true, ⟨0, hd5 i1', oC, 1⟩, [(1, k1), (6, .fn 65 [k1]), (7, .fn 66 [k1])]⟩
def t5b (b : Bool) : DT Lp := .lt (.var 1) (.len 0) (match b with
  | false => .lt (.lit 100) (.len 301) (.leaf ⟨false, rt5 false, []⟩) (.lt (.lit 100) (.var 6) (.leaf ⟨false, rt5 false, []⟩) (.leaf ag5))
  | true => .lt (.lit 100) (.var 6) (.leaf ⟨false, rt5 false, []⟩) (.leaf ag5)) (.leaf ⟨false, ⟨2, hd5 .unknown, [], 1⟩, []⟩)
theorem t5b_f (σ : Sig) : (t5b false).ok (lpIs (envW false σ) (fun _ => noC) 40 34 sl5 (inC [4] bd5) (hd5 i1) oC 1 [0]) nneg = true := by kernel_rfl
theorem t5b_t (σ : Sig) : (t5b true).ok (lpIs (envW true σ) (fun _ => noC) 40 34 sl5 (inC [4] bd5) (hd5 i1) oC 1 [0]) nneg = true := by kernel_rfl
theorem t5z_ok' (b : Bool) (σ : Sig) : (DT.leaf (rt5 true)).ok (pieceIs (envW b σ) (fun _ => noC) 40 34 sl5 (((flatC bd5).drop 5).take 2) (cutSt (hd5 .unknown) [] 1)) [] = true := by kernel_rfl
theorem r5t' (b : Bool) (σ : Sig) : leftOk (.bool true) [] 1 (envW b σ []) sl5 Tryz.f5.results.toList (cutSt (frN sl5 [(2, .bool true)]) [] 1) = true := by kernel_rfl
theorem r5f' (b : Bool) (σ : Sig) : leftOk (.bool false) [] 1 (envW b σ []) sl5 Tryz.f5.results.toList (cutSt (frN sl5 [(2, .bool false)]) [] 1) = true := by kernel_rfl
theorem s5 : seeAll [0] [(1, .lit 0)] 1 (hd5 i1) (hd5 z0) oC oC = true := by kernel_rfl
theorem n5 (b : Bool) (σ : Sig) : (DT.leaf (.bool true)).ok (callIs (envW b σ) (fun _ => noC) 40 5 (cfArgs .nilslice)) [] = true := by kernel_rfl
theorem t5b_b : ∀ (b : Bool) (σ : Sig), (t5b b).ok (lpIs (envW b σ) (fun _ => noC) 40 34 sl5 (inC [4] bd5) (hd5 i1) oC 1 [0]) nneg = true
  | true, σ => t5b_t σ
  | false, σ => t5b_f σ
theorem s5_puts {σ : Sig} (h : σ.var 1 = ((0 : Nat) : Int)) : Puts [0] [(1, .lit 0)] σ σ := ⟨fun n => by
  by_cases c1 : n = 1
  · subst c1; exact h
  · rw [look_ne c1]; rfl, rfl, fun _ _ => rfl, fun _ _ => rfl, fun _ _ => rfl⟩
end Go.Proofs.YtmcmagheiijnhaaGreatDoor

/- wakemanlaw16.Few by contract. -/
set_option linter.all false
set_option maxRecDepth 100000
namespace Go.Proofs.YtmcmagheiijnhaaGreatDoor
open Go.RX Go.RX.Sym
open Classical

/-- Jobs in memory, as far as Few looks. -/
structure Cfg.Lay (c : Cfg) (W : World) : Prop where
  few : c.n ≤ 100
  lies : ∃ (arr : Array Value) (el : TypeId) (fz : Nat × Nat), W.heap[c.b]? = some (.cells arr el fz) ∧ ∀ i k, i < c.n → k < 30 → arr[c.x + i * 30 + k]? = some (c.cell i k)
  skip : ∀ i, match c.nil i with
    | true => (c.pln i).sk.n = 0
    | false => (c.pln i).sk.n ≤ c.sc i
/-- A nil slice. -/
def Cfg.plain (c : Cfg) (i : Nat) : Bool := match c.nil i, c.adr i with | true, none => true | _, _ => false
def fewOk (c : Cfg) : Prop := ∀ i, i < c.n → (c.pln i).sk.n ≤ 100 ∧ (c.name i).size ≤ 100
noncomputable def fnW (c : Cfg) (f : Nat) (l : List Int) : Int := match f, l with
  | 65, [i] => ((c.name i.toNat).size : Int)
  | 66, [i] => ind (c.plain i.toNat = true)
  | _, _ => 0
structure IsW (c : Cfg) (i : Nat) (σ : Sig) : Prop where
  fn : σ.fn = fnW c
  row0 : σ.row 0 = (c.b, c.x, 30, c.n)
  cell0 : σ.cell 0 = c.cell
  v1 : σ.var 1 = i
  v6 : σ.var 6 = ((c.name i).size : Int)
  v7 : σ.var 7 = ind (c.plain i = true)
  row1 : σ.row 301 = (c.sb i, c.sx i, 2, (c.pln i).sk.n)
noncomputable def sigF (c : Cfg) (g : Nat → Int) (i : Nat) : Sig where
  var n := match n with | 1 => i | 6 => ((c.name i).size : Int) | 7 => ind (c.plain i = true) | 20 => g 0 | 21 => g 1 | 22 => g 2 | 23 => g 3 | 24 => g 4 | 25 => g 5 | 26 => g 6 | _ => 0
  fn := fnW c
  row a := match a with | 0 => (c.b, c.x, 30, c.n) | 301 => (c.sb i, c.sx i, 2, (c.pln i).sk.n) | _ => (0, 0, 0, 0)
  cell a := match a with | 0 => c.cell | _ => fun _ _ => .bool false
section
variable {c : Cfg} {W : World} {g : Nat → Int}
theorem rowsW (hc : c.Lay W) {i : Nat} {σ : Sig} (hσ : IsW c i σ) : RowsIn W rowJ σ := fun a ks e => by
  unfold rowJ at e
  split at e
  · simp only [Option.some.injEq] at e
    subst e
    obtain ⟨arr, el, fz, h1, h2⟩ := hc.lies
    refine ⟨c.b, c.x, c.n, arr, el, fz, hσ.row0, h1, fun i k kd hi hk => ⟨?_, ?_⟩⟩
    · rw [hσ.cell0]; exact h2 i k hi (List.getElem?_eq_some_iff.1 hk).1
    · rw [hσ.cell0]; have := cell_kind (c := c) (i := i) hk; unfold KindOk at this; exact this
  · cases e
theorem liesW (hW : Spaces W) (hc : c.Lay W) {i : Nat} {σ : Sig} (hσ : IsW c i σ) (b : Bool) (F : List Fact) : Lies (envW b σ F) W := ⟨(liesF σ F hW).cells, fun a ks ha => rowsW hc hσ a ks ha⟩
theorem numW (hW : Spaces W) (hc : c.Lay W) {i : Nat} {σ : Sig} (hσ : IsW c i σ) {b : Bool} (hb : b = c.plain i) {F : List Fact} (hF : ∀ f ∈ F, f.holds σ) : NumOk (envW b σ F) := by
  have base : NumOk (envR rowJ σ F) := numR (rowsW hc hσ) hF
  refine fact_num rfl rfl hF base.rows (hce := ⟨fun a e k x h hlt hge => ?_, fun _ _ _ _ _ _ _ h => (by cases h), fun _ _ _ _ _ _ _ h => (by cases h), ⟨fun _ _ _ _ h => (by cases h), fun _ _ _ _ _ h => (by cases h), fun _ _ _ _ h => (by cases h)⟩⟩)
  have h : cellsF b a e k = some x := h
  unfold cellsF at h
  split at h
  · simp only [Option.some.injEq] at h
    subst h
    have e : (envW b σ F).sig.cell 0 ((IE.var 1).val (envW b σ F).sig).toNat 0 = .string (c.name i) := by
      show σ.cell 0 (σ.var 1).toNat 0 = _
      rw [hσ.cell0, hσ.v1, Int.toNat_natCast]; rfl
    rw [e]
    exact .sstr hσ.v6.symm
  · simp only [Option.some.injEq] at h
    subst h
    have e : (envW b σ F).sig.cell 0 ((IE.var 1).val (envW b σ F).sig).toNat 14 = c.skv i := by
      show σ.cell 0 (σ.var 1).toNat 14 = _
      rw [hσ.cell0, hσ.v1, Int.toNat_natCast]; rfl
    rw [e]
    unfold Cfg.skv
    have hs := hc.skip i
    subst hb
    unfold Cfg.plain
    cases hn : c.nil i with
    | true =>
      rw [hn] at hs
      cases ha : c.adr i with
      | none => exact .nilslice
      | some a => exact .rowE (ρ := .nil σ) (hσ.row1.trans (by rw [hs]))
    | false =>
      rw [hn] at hs
      exact .row (ρ := .nil σ) hσ.row1 hs
  · cases h
theorem nil_dec {i : Nat} {σ : Sig} (hσ : IsW c i σ) : decide (σ.var 7 = 1) = c.plain i := by
  rw [hσ.v7]
  cases h : c.plain i with
  | true => exact decide_eq_true (ind_one.2 rfl)
  | false => exact decide_eq_false fun e => by have := ind_one.1 e; cases this
structure JW (c : Cfg) (σ : Sig) (k : Nat) : Prop where
  at_ : ∃ i : Nat, IsW c i σ ∧ i + k = c.n ∧ ∀ j, j < i → (c.pln j).sk.n ≤ 100 ∧ (c.name j).size ≤ 100
theorem few_calls (hW : Spaces W) (hc : c.Lay W) {nl : Bool} {cap : Cp} (hnl : nl = true → c.n = 0) (hcap : Cp.fits c.n cap) : Calls Tryz.prog 5 #[.agg (cfgV c g nl cap).toArray] W fun e w' => e = .returned (.bool (decide (fewOk c))) ∧ On W w' := by
  have h100 := hc.few
  have hW0 : IsW c 0 (sigF c g 0) := ⟨rfl, rfl, rfl, rfl, rfl, rfl, rfl⟩
  have hrel : VRels (.nil (sigF c g 0)) (cfArgs (jobS nl)) [.agg (cfgV c g nl cap).toArray] := by
    have h : ∀ k i, VRel (.nil (sigF c g 0)) (.sint k (.var i)) (.int k ((sigF c g 0).var i)) := fun k i => VRel.sint (ρ := .nil (sigF c g 0)) k (.var i)
    have hj : VRel (.nil (sigF c g 0)) (jobS nl) (c.jobV nl cap) := by
      cases nl with
      | true => exact .nilslice
      | false => exact Cfg.jobV_rel (ρ := .nil (sigF c g 0)) rfl hcap
    exact .cons (.agg (.cons (h _ 20) (.cons (h _ 21) (.cons (h _ 22) (.cons (h _ 23) (.cons (h _ 24) (.cons (h _ 25) (.cons (h _ 26) (.cons hj .nil))))))))) .nil
  cases nl with
  | true =>
    have h0 := hnl rfl
    refine fn_dtF (E := envW (c.plain 0) (sigF c g 0)) (K := fun _ => noC) (σ := sigF c g 0) (P := Tryz.prog) (fun _ => rfl) (fun _ => rfl) (fun F hF => ⟨numW hW hc hW0 rfl hF, known_nothing _, liesW hW hc hW0 _ F⟩) (T := .leaf (.bool true)) hnil (d := 40) (f := 5) (args := cfArgs .nilslice) (n5 _ _) hrel fun ρ hs u hu => ?_
    cases hu
    rw [decide_eq_true (show fewOk c from fun i hi => absurd hi (by omega))]
  | false =>
    generalize sigF c g 0 = σ at hW0 hrel
    refine tmpl_begin (E := envW (c.plain 0) σ []) (f := 5) (fn := Tryz.f5) (body := bd5) Tryz.func5 bd5_is sl5 (args := cfArgs (.row 0)) hrel (by rw [nt5]; decide) fun a hA => wpL_whole ?_
    rw [nt5] at hA
    have len0 : ∀ {i : Nat} {σ : Sig}, IsW c i σ → (IE.len 0).val σ = c.n := fun {i σ} h => by
      show (((σ.row 0).2.2.2 : Nat) : Int) = c.n
      rw [h.row0]
    have done : ∀ {i : Nat} {σ : Sig} {b : Bool}, IsW c i σ → b = decide (fewOk c) → ∀ a' w', AtT σ 34 sl5 (frN sl5 [(2, .bool b)]) [] 1 W a' w' → bodyPostM Fence.wide 0 Tryz.prog Tryz.f5 (fun e w' => e = .returned (.bool (decide (fewOk c))) ∧ On W w') .ret a' w' := fun {i σ b} hs hb a' w' h' => by
      refine tmpl_leaves (E := envW (c.plain i) σ []) (numW hW hc hs rfl hnil) (x := .bool b) (by cases b with | true => exact r5t' _ _ | false => exact r5f' _ _) h' (liesW hW hc hs _ []) fun u w' hl => ?_
      obtain ⟨rfl, o⟩ := left_bool hl
      rw [hb]
      exact ⟨rfl, o⟩
    refine walk_take 4 (E := fun F => envW (c.plain 0) σ F) (K := fun _ => noC) (fun _ => rfl) (fun _ => rfl) (fun F hF => ⟨numW hW hc hW0 rfl hF, known_nothing _, liesW hW hc hW0 _ F⟩) (t5a_ok' _ σ) hnil hA fun l hl a1 w1 h1 => ?_
    have l100 : (IE.lit 100).val σ = 100 := rfl
    simp only [t5a, DT.eval, len0 hW0, l100] at hl
    rw [if_neg (by omega)] at hl
    subst hl
    show wpL _ _ ((flatC bd5).drop 4) _ _ _
    rw [lp5]
    refine loop_dt2 (E := fun σ F => envW (decide (σ.var 7 = 1)) σ F) (K := fun _ _ => noC) (fun _ _ => rfl) (fun _ _ => rfl) (JW c) (fun σ k hJ F hF => by
      obtain ⟨i, hs, -⟩ := hJ.at_
      exact ⟨numW hW hc hs (nil_dec hs) hF, known_nothing _, liesW hW hc hs _ F⟩) (T := fun σ => t5b (decide (σ.var 7 = 1))) (fun σ => t5b_b _ σ) (fun σ k hJ => by
      obtain ⟨i, hs, -⟩ := hJ.at_
      exact hcons (holds_lt (by simp only [IE.val, hs.v1]; exact no (by omega))) hnil) (σ0 := σ) (N := c.n) ⟨0, hW0, by omega, fun j hj => by omega⟩ (h1.sub (s5_puts hW0.v1) s5) fun σ k p hJ hp => ?_
    obtain ⟨i, hs, hk, hq⟩ := hJ.at_
    have e1 : (IE.var 1).val σ = i := hs.v1
    have e6 : (IE.var 6).val σ = ((c.name i).size : Int) := hs.v6
    have e301 : (IE.len 301).val σ = ((c.pln i).sk.n : Int) := by
      show (((σ.row 301).2.2.2 : Nat) : Int) = _
      rw [hs.row1]
    have l100 : (IE.lit 100).val σ = 100 := rfl
    have next : i < c.n → (c.pln i).sk.n ≤ 100 → (c.name i).size ≤ 100 → ∃ σ' k', k' < k ∧ Puts [0] ag5.θ σ σ' ∧ JW c σ' k' := fun hi h1 h2 => by
      refine ⟨{ σ.puts ag5.θ with row := fun a => if a = 301 then (c.sb (i + 1), c.sx (i + 1), 2, (c.pln (i + 1)).sk.n) else σ.row a }, k - 1, by omega, ⟨fun _ => rfl, rfl, fun a ha => ?_, fun a ha => rfl, fun a ha => rfl⟩, ⟨i + 1, ⟨hs.fn, ?_, hs.cell0, ?_, ?_, ?_, ?_⟩, by omega, fun j hj => ?_⟩⟩
      · simp only [List.mem_singleton] at ha
        subst ha
        show (if 0 = 301 then (c.sb (i + 1), c.sx (i + 1), 2, (c.pln (i + 1)).sk.n) else σ.row 0) = σ.row 0
        exact if_neg (by decide)
      · show (if 0 = 301 then (c.sb (i + 1), c.sx (i + 1), 2, (c.pln (i + 1)).sk.n) else σ.row 0) = _
        exact (if_neg (by decide)).trans hs.row0
      · show opVal .add .i64 (σ.var 1) 1 = _
        rw [hs.v1]; exact add1 (n := c.n) hi (by omega)
      · show σ.fn 65 [opVal .add .i64 (σ.var 1) 1] = _
        rw [hs.fn, hs.v1, add1 (n := c.n) hi (by omega)]; rfl
      · show σ.fn 66 [opVal .add .i64 (σ.var 1) 1] = _
        rw [hs.fn, hs.v1, add1 (n := c.n) hi (by omega)]; rfl
      · show (if 301 = 301 then (c.sb (i + 1), c.sx (i + 1), 2, (c.pln (i + 1)).sk.n) else σ.row 301) = _
        exact if_pos rfl
      · rcases Nat.lt_or_eq_of_le (Nat.le_of_lt_succ hj) with h | h
        · exact hq j h
        · rw [h]; exact ⟨h1, h2⟩
    rw [nil_dec hs] at hp
    have bad : i < c.n → ¬ ((c.pln i).sk.n ≤ 100 ∧ (c.name i).size ≤ 100) → false = decide (fewOk c) := fun hi h => (decide_eq_false fun hf => h (hf i hi)).symm
    by_cases hi : i < c.n
    · have hs0 := hc.skip i
      cases hb : c.plain i with
      | true =>
        have hs0 : (c.pln i).sk.n = 0 := by
          unfold Cfg.plain at hb
          split at hb
          · rename_i hn _; rw [hn] at hs0; exact hs0
          · cases hb
        rw [hb] at hp
        simp only [t5b, DT.eval, e1, len0 hs, l100, e6] at hp
        rw [if_pos (by omega)] at hp
        split at hp
        · subst hp
          exact fun a' w' h' => done hs (bad hi (by omega)) a' w' h'
        · subst hp
          exact next hi (by omega) (by omega)
      | false =>
        rw [hb] at hp
        simp only [t5b, DT.eval, e1, len0 hs, l100, e6, e301] at hp
        rw [if_pos (by omega)] at hp
        split at hp
        · subst hp
          exact fun a' w' h' => done hs (bad hi (by omega)) a' w' h'
        · split at hp
          · subst hp
            exact fun a' w' h' => done hs (bad hi (by omega)) a' w' h'
          · subst hp
            exact next hi (by omega) (by omega)
    · have hp2 : (⟨false, ⟨2, hd5 .unknown, [], 1⟩, []⟩ : Lp) = p := by
        cases hb : c.plain i with
        | true =>
          rw [hb] at hp
          simp only [t5b, DT.eval, e1, len0 hs] at hp
          rw [if_neg (by omega)] at hp
          exact hp
        | false =>
          rw [hb] at hp
          simp only [t5b, DT.eval, e1, len0 hs] at hp
          rw [if_neg (by omega)] at hp
          exact hp
      subst hp2
      intro a2 w2 h2
      show wpL _ _ ((flatC bd5).drop 5) _ _ _
      refine walk_take 2 (E := fun F => envW (c.plain i) σ F) (K := fun _ => noC) (fun _ => rfl) (fun _ => rfl) (fun F hF => ⟨numW hW hc hs rfl hF, known_nothing _, liesW hW hc hs _ F⟩) (t5z_ok' _ σ) hnil h2 fun l hl a3 w3 h3 => ?_
      simp only [DT.eval] at hl
      subst hl
      exact done hs (decide_eq_true (show fewOk c from fun j hj => hq j (by omega))).symm _ _ h3
end
end Go.Proofs.YtmcmagheiijnhaaGreatDoor
