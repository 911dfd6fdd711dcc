/- SameOps: two lists of the same operations are the same. -/
import Derived.Test.YtofcbcpbglnogaaGreatDoorRefB
set_option linter.all false
set_option maxRecDepth 100000
namespace Go.Proofs.YtofcbcpbglnogaaGreatDoor
open Go.RX
open Go.RX.Sym

noncomputable def smBody : Code := match Tryz.f7.body with | some c => c | none => .skip
theorem sm_body : Tryz.f7.body = some smBody := by kernel_rfl
theorem sm_n : Tryz.f7.ntmps = 26 := by kernel_rfl
def smSl : List Nat := [25, 14, 10, 5, 4, 1, 0]
noncomputable def smA : Code := partA (rest 2 smBody)
noncomputable def smB : Code := partB (rest 2 smBody)
theorem sm_rest : rest 2 smBody = .seq smA smB := by kernel_rfl
noncomputable def smL : Code := inOf (inOf (rest 1 smA))
theorem sm_blk : rest 1 smA = .block 0 (.loop smL) := by kernel_rfl

def rowsS (a : Nat) : Option (List (Option IntKind)) := match a with | 1 => some opKinds | 2 => some opKinds | _ => none
noncomputable def veqS (s : Bool) (a : Nat) (i : IE) (c b : Nat) (j : IE) (d : Nat) : Bool := and (Nat.beq a 1) (and (Nat.beq b 2) (and (IE.same i (.var 0)) (and (IE.same j (.var 0)) (match s with
  | true => and (Nat.beq c 5) (Nat.beq d 5)
  | false => and (Nat.beq c 4) (Nat.beq d 4)))))
noncomputable def envS (σ : Sig) (F : List Fact) : Env := { P := Tryz.prog, G := globals, rows := rowsS, lt := factLt F, eq := eqR F, veq := veqS, sig := σ }
noncomputable def envS0 (σ : Sig) (F : List Fact) : Env := { P := Tryz.prog, G := globals, rows := rowsS, lt := factLt F, eq := eqR F, sig := σ }
/-- Where two lists lie. -/
structure Two where
  b1 : Nat
  x1 : Nat
  b2 : Nat
  x2 : Nat
def sigS (t : Two) (L : List (Nat → Value)) (i : Nat) : Sig where
  var j := match j with | 0 => (i : Int) | _ => 0
  fn _ _ := 0
  row a := match a with | 1 => (t.b1, t.x1, 6, L.length) | 2 => (t.b2, t.x2, 6, L.length) | _ => (0, 0, 0, 0)
  cell a i c := match a with | 1 => gets L i c | 2 => gets L i c | _ => .bool false
structure OpW (o : Nat → Value) : Prop where
  num : ∀ c, c < 4 → ∃ z, o c = .int .i64 z
  bool : ∃ b, o 4 = .bool b
  str : ∃ s, o 5 = .string s
theorem Ls.cell_w (v : Ls) (i : Nat) : OpW (v.cell i) := ⟨(v.cell_op i).num, ⟨_, rfl⟩, ⟨_, rfl⟩⟩
theorem Ls.rep_w (v : Ls) (i : Nat) : OpW (v.rep i) := ⟨(v.rep_op i).num, by
  unfold Ls.rep
  split
  · exact ⟨v.ok i, rfl⟩
  · exact ⟨_, rfl⟩, by
  unfold Ls.rep
  split
  · exact ⟨v.job i, rfl⟩
  · exact ⟨_, rfl⟩⟩
theorem Ls.outs_w (v : Ls) : ∀ n, ∀ o ∈ v.outs n, OpW o
  | 0, o, h => by simp [Ls.outs] at h
  | n + 1, o, h => by
    simp only [Ls.outs, List.mem_append] at h
    rcases h with h | h
    · exact Ls.outs_w v n o h
    · rw [(List.mem_replicate.1 h).2]
      exact v.rep_w n

section
variable {t : Two} {L : List (Nat → Value)} {W : World}
/-- Both lists lie in memory. -/
structure Both (t : Two) (L : List (Nat → Value)) (W : World) : Prop where
  one : ∃ (arr : Array Value) (el : TypeId) (fz : Nat × Nat), W.heap[t.b1]? = some (.cells arr el fz) ∧ ∀ i c, i < L.length → c < 6 → arr[t.x1 + i * 6 + c]? = some (gets L i c)
  two : ∃ (arr : Array Value) (el : TypeId) (fz : Nat × Nat), W.heap[t.b2]? = some (.cells arr el fz) ∧ ∀ i c, i < L.length → c < 6 → arr[t.x2 + i * 6 + c]? = some (gets L i c)

theorem gets_at {i : Nat} (hi : i < L.length) : gets L i = L[i] := by
  funext c
  simp [gets, List.getD_eq_getElem?_getD, List.getElem?_eq_getElem hi]
theorem rows_of (hw : ∀ o ∈ L, OpW o) {b x : Nat} (h : ∃ (arr : Array Value) (el : TypeId) (fz : Nat × Nat), W.heap[b]? = some (.cells arr el fz) ∧ ∀ i c, i < L.length → c < 6 → arr[x + i * 6 + c]? = some (gets L i c)) :
    ∃ (n : Nat) (arr : Array Value) (el : TypeId) (fz : Nat × Nat), n = L.length ∧ W.heap[b]? = some (.cells arr el fz) ∧ ∀ (i c : Nat) (k : Option IntKind), i < n → opKinds[c]? = some k → arr[x + i * opKinds.length + c]? = some (gets L i c) ∧ (match k with | some k => ∃ z, gets L i c = .int k z | none => (gets L i c).oneCell' = true) := by
  obtain ⟨arr, el, fz, h1, h2⟩ := h
  refine ⟨_, arr, el, fz, rfl, h1, fun i c k hi hc => ?_⟩
  have hc6 : c < 6 := (List.getElem?_eq_some_iff.1 hc).1
  refine ⟨h2 i c hi hc6, ?_⟩
  have ho := hw (L[i]) (List.getElem_mem hi)
  rw [gets_at hi]
  match c, hc6, hc with
  | 0, _, hc => simp [opKinds] at hc; subst hc; exact ho.num 0 (by omega)
  | 1, _, hc => simp [opKinds] at hc; subst hc; exact ho.num 1 (by omega)
  | 2, _, hc => simp [opKinds] at hc; subst hc; exact ho.num 2 (by omega)
  | 3, _, hc => simp [opKinds] at hc; subst hc; exact ho.num 3 (by omega)
  | 4, _, hc => simp [opKinds] at hc; subst hc; obtain ⟨b, hb⟩ := ho.bool; show (L[i] 4).oneCell' = true; rw [hb]; rfl
  | 5, _, hc => simp [opKinds] at hc; subst hc; obtain ⟨b, hb⟩ := ho.str; show (L[i] 5).oneCell' = true; rw [hb]; rfl
theorem liesS (hw : ∀ o ∈ L, OpW o) (hb : Both t L W) (hG : RX.Lies (env sig0) W) (i : Nat) (F : List Fact) : RX.Lies (envS (sigS t L i) F) W where
  cells g cs hg := by
    obtain ⟨arr, el, fz, h1, h2⟩ := hG.cells g cs hg
    refine ⟨arr, el, fz, h1, fun k x hx => ?_⟩
    obtain ⟨u, h3, h4⟩ := h2 k x hx
    exact ⟨u, h3, VRel.plain (plain_globals hg hx) h4⟩
  rows a ks ha := by
    have ha : rowsS a = some ks := ha
    unfold rowsS at ha
    split at ha
    · simp only [Option.some.injEq] at ha
      subst ha
      obtain ⟨n, arr, el, fz, rfl, h1, h2⟩ := rows_of hw hb.one
      exact ⟨t.b1, t.x1, _, arr, el, fz, rfl, h1, h2⟩
    · simp only [Option.some.injEq] at ha
      subst ha
      obtain ⟨n, arr, el, fz, rfl, h1, h2⟩ := rows_of hw hb.two
      exact ⟨t.b2, t.x2, _, arr, el, fz, rfl, h1, h2⟩
    · cases ha
theorem liesS0 (hw : ∀ o ∈ L, OpW o) (hb : Both t L W) (hG : RX.Lies (env sig0) W) (i : Nat) (F : List Fact) : RX.Lies (envS0 (sigS t L i) F) W :=
  ⟨(liesS hw hb hG i F).cells, (liesS hw hb hG i F).rows⟩
theorem numS0 {i : Nat} {F : List Fact} (hF : ∀ f ∈ F, f.holds (sigS t L i)) : NumOk (envS0 (sigS t L i) F) where
  lt _ _ _ h := ltF_val hF h
  eq _ _ _ h := eqR_val hF h
  rows a ks h := by
    have h : rowsS a = some ks := h
    unfold rowsS at h
    split at h
    · simp only [Option.some.injEq] at h
      subst h
      rfl
    · simp only [Option.some.injEq] at h
      subst h
      rfl
    · cases h
  pre _ _ _ h := by cases h
  overs _ h := by cases h
  idxs _ h := by cases h
  sames _ h := by cases h
  mkzs _ _ h := by cases h
  cells _ _ _ _ h := by cases h
  str _ _ _ _ _ _ h := by cases h
  bool _ _ _ _ _ _ h := by cases h
theorem veqS_some {s : Bool} {a b c d : Nat} {i j : IE} (h : veqS s a i c b j d = true) : a = 1 ∧ b = 2 ∧ i = .var 0 ∧ j = .var 0 ∧ ((s = true ∧ c = 5 ∧ d = 5) ∨ (s = false ∧ c = 4 ∧ d = 4)) := by
  unfold veqS at h
  simp only [Bool.and_eq_true] at h
  obtain ⟨h1, h2, h3, h4, h5⟩ := h
  refine ⟨Nat.eq_of_beq_eq_true h1, Nat.eq_of_beq_eq_true h2, IE.same_eq h3, IE.same_eq h4, ?_⟩
  cases s with
  | true =>
    simp only [Bool.and_eq_true] at h5
    exact .inl ⟨rfl, Nat.eq_of_beq_eq_true h5.1, Nat.eq_of_beq_eq_true h5.2⟩
  | false =>
    simp only [Bool.and_eq_true] at h5
    exact .inr ⟨rfl, Nat.eq_of_beq_eq_true h5.1, Nat.eq_of_beq_eq_true h5.2⟩
theorem numS (hw : ∀ o ∈ L, OpW o) {i : Nat} (hi : i < L.length) {F : List Fact} (hF : ∀ f ∈ F, f.holds (sigS t L i)) : NumOk (envS (sigS t L i) F) where
  lt _ _ _ h := ltF_val hF h
  eq _ _ _ h := eqR_val hF h
  rows a ks h := by
    have h : rowsS a = some ks := h
    unfold rowsS at h
    split at h
    · simp only [Option.some.injEq] at h
      subst h
      rfl
    · simp only [Option.some.injEq] at h
      subst h
      rfl
    · cases h
  pre _ _ _ h := by cases h
  overs _ h := by cases h
  idxs _ h := by cases h
  sames _ h := by cases h
  mkzs _ _ h := by cases h
  cells _ _ _ _ h := by cases h
  str a i' c b j d h := by
    have h : veqS true a i' c b j d = true := h
    obtain ⟨rfl, rfl, rfl, rfl, hq⟩ := veqS_some h
    rcases hq with ⟨-, rfl, rfl⟩ | ⟨hh, -, -⟩
    · obtain ⟨s, hs⟩ := (hw _ (List.getElem_mem hi)).str
      have e : gets L ((i : Int)).toNat 5 = .string s := by rw [Int.toNat_natCast, gets_at hi]; exact hs
      exact ⟨s, e, e⟩
    · cases hh
  bool a i' c b j d h := by
    have h : veqS false a i' c b j d = true := h
    obtain ⟨rfl, rfl, rfl, rfl, hq⟩ := veqS_some h
    rcases hq with ⟨hh, -, -⟩ | ⟨-, rfl, rfl⟩
    · cases hh
    · obtain ⟨s, hs⟩ := (hw _ (List.getElem_mem hi)).bool
      have e : gets L ((i : Int)).toNat 4 = .bool s := by rw [Int.toNat_natCast, gets_at hi]; exact hs
      exact ⟨s, e, e⟩
end

def smF (i : SV) : List SV := frOf smSl [(0, .row 1), (1, .row 2), (5, i)]
abbrev gLen : Fact := ⟨false, .len 1, .len 2, true⟩
abbrev gIn (a : Nat) (y : Bool) : Fact := ⟨true, .var 0, .len a, y⟩
abbrev gNeg : Fact := ⟨true, .var 0, .lit 0, false⟩
abbrev gEq (c : Nat) : Fact := ⟨false, .sel 1 (.var 0) c, .sel 2 (.var 0) c, true⟩
def smI : SV := .sint .i64 (.var 0)
theorem s_begin (σ : Sig) : cutOkH 0 (frOf smSl [(0, .row 1), (1, .row 2)]) [] 0 (runChain (envS0 σ [gLen]) kn 5 26 smSl (heads 2 smBody) (cutSt (frameOf [.row 1, .row 2] smSl) [] 0)) = true := by kernel_rfl
theorem s_r3 (σ : Sig) : cutOkH 0 (smF (.int .i64 0)) [] 0 (runChain (envS0 σ []) kn 5 26 smSl (heads 1 smA) (cutSt (frOf smSl [(0, .row 1), (1, .row 2)]) [] 0)) = true := by kernel_rfl
theorem s_go (σ : Sig) : cutOkH 0 (smF (.sint .i64 (.bin .add .i64 (.var 0) (.lit 1)))) [] 0 (runCode (envS σ [gIn 1 true, gIn 2 true, gNeg, gEq 0, gEq 1, gEq 2, gEq 3]) kn 5 26 smSl smL (cutSt (smF smI) [] 0)) = true := by kernel_rfl
theorem s_end (σ : Sig) : cutOkH 2 (smF smI) [] 0 (runCode (envS0 σ [gIn 1 false]) kn 5 26 smSl smL (cutSt (smF smI) [] 0)) = true := by kernel_rfl
theorem s_z (σ : Sig) : cutOkH 1 (frOf smSl [(4, .bool true)]) [] 0 (runCode (envS0 σ []) kn 5 26 smSl smB (cutSt (smF smI) [] 0)) = true := by kernel_rfl
theorem s_l (σ : Sig) : leftOk (.bool true) [] 0 (envS0 σ []) smSl Tryz.f7.results.toList (cutSt (frOf smSl [(4, .bool true)]) [] 0) = true := by kernel_rfl
theorem s_nil (σ : Sig) : isBool true ((semK (envC σ []) kn 5).call 7 [.nilslice, .nilslice] ⟨.nil, 0, 0⟩) = true := by kernel_rfl
end Go.Proofs.YtofcbcpbglnogaaGreatDoor
