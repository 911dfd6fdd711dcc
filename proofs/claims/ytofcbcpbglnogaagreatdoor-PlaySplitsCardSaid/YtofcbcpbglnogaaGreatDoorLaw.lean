/- The list of operations that is handed in; what a script with ticks of one second is. No program in sight. -/
import Derived.Test.YtofcbcpbglnogaaGreatDoorEnv
import Derived.Test.YtofcbcpbglnogaaGreatDoorRxI
set_option linter.all false
namespace Go.Proofs.YtofcbcpbglnogaaGreatDoor
open Go.RX
open Go.RX.Sym

structure Ls where
  b : Nat
  x : Nat
  n : Nat
  kd : Nat → Int
  d : Nat → Int
  at_ : Nat → Int
  run : Nat → Int
  ok : Nat → Bool
  job : Nat → ByteArray

def Ls.cell (v : Ls) (i c : Nat) : Value := match c with
  | 0 => .int .i64 (v.kd i)
  | 1 => .int .i64 (v.d i)
  | 2 => .int .i64 (v.at_ i)
  | 3 => .int .i64 (v.run i)
  | 4 => .bool (v.ok i)
  | _ => .string (v.job i)
/-- A tick that is allowed, but for its kind. -/
def fineC (d at_ run : Int) (ok : Bool) (job : ByteArray) : Prop := at_ = 0 ∧ run = 0 ∧ ok = false ∧ job.size = 0 ∧ 1 ≤ d ∧ d ≤ 100000
instance {d at_ run : Int} {ok : Bool} {job : ByteArray} : Decidable (fineC d at_ run ok job) := by unfold fineC; infer_instance
def Ls.fine (v : Ls) (i : Nat) : Prop := fineC (v.d i) (v.at_ i) (v.run i) (v.ok i) (v.job i)
instance {v : Ls} {i : Nat} : Decidable (v.fine i) := by unfold Ls.fine; infer_instance
def Ls.tim (v : Ls) (i : Nat) : Nat := if v.kd i = 1 ∧ v.fine i then (v.d i).toNat else 1
def Ls.rep (v : Ls) (i : Nat) : Nat → Value := if v.kd i = 1 ∧ v.fine i then fun c => if c = 1 then .int .i64 1 else v.cell i c else v.cell i
def Ls.outs (v : Ls) : Nat → List (Nat → Value)
  | 0 => []
  | i + 1 => v.outs i ++ List.replicate (v.tim i) (v.rep i)
theorem Ls.outs_le {v : Ls} {i : Nat} : ∀ {j : Nat}, i ≤ j → (v.outs i).length ≤ (v.outs j).length
  | 0, h => by have : i = 0 := by omega
               subst this; exact Nat.le_refl _
  | j + 1, h => by
    by_cases e : i = j + 1
    · subst e; exact Nat.le_refl _
    · have := Ls.outs_le (v := v) (i := i) (j := j) (by omega)
      simp only [Ls.outs, List.length_append]
      omega
theorem Ls.tim_pos (v : Ls) (i : Nat) : 1 ≤ v.tim i := by
  unfold Ls.tim
  split
  · rename_i h
    obtain ⟨-, -, -, -, -, h1, -⟩ := h
    omega
  · exact Nat.le_refl _
theorem Ls.tim_le (v : Ls) (i : Nat) : v.tim i ≤ 100000 := by
  unfold Ls.tim
  split
  · rename_i h
    obtain ⟨-, -, -, -, -, h1, h2⟩ := h
    omega
  · omega

/-- The cells of a list of elements. -/
def gets (L : List (Nat → Value)) (i c : Nat) : Value := (L.getD i (fun _ => .bool false)) c
theorem gets_left {L M : List (Nat → Value)} {i c : Nat} (h : i < L.length) : gets (L ++ M) i c = gets L i c := by
  simp [gets, List.getD_eq_getElem?_getD, List.getElem?_append_left h]
theorem gets_snoc {L : List (Nat → Value)} {o : Nat → Value} {c : Nat} : gets (L ++ [o]) L.length c = o c := by
  simp [gets, List.getD_eq_getElem?_getD]
theorem replicate_snoc {α : Type} (o : α) (k : Nat) : List.replicate (k + 1) o = List.replicate k o ++ [o] := by
  rw [List.replicate_succ']

/-- Cells that are the same whatever the texts of numbers stand for. -/
def _root_.Go.RX.SV.plainB : SV → Bool
  | .int _ _ => true
  | _ => false
theorem _root_.Go.RX.VRel.plain {ρ ρ' : Ren} {x : SV} {u : Value} (h : SV.plainB x = true) (k : VRel ρ x u) : VRel ρ' x u := by
  cases k <;> first | (cases h; done) | (constructor)
theorem plain_globals {g : Nat} {cs : List SV} (h : globals g = some cs) {k : Nat} {x : SV} (hx : cs[k]? = some x) : SV.plainB x = true := by
  have all : ∀ (l : List SV), (l.all SV.plainB) = true → ∀ (k : Nat) (x : SV), l[k]? = some x → SV.plainB x = true := fun l hl k x e => List.all_eq_true.1 hl x (List.mem_of_getElem? e)
  unfold globals at h
  split at h
  · simp only [Option.some.injEq] at h; subst h
    exact all tabCells (by kernel_rfl) k x hx
  · simp only [Option.some.injEq] at h; subst h
    exact all stepsCells (by kernel_rfl) k x hx
  · cases h

/-- What the texts of numbers stand for: the list handed in (row 0), what has come out (row 1), an operation (row 2). -/
def sigP (v : Ls) (L : List (Nat → Value)) (o : Nat → Value) (i k t : Nat) : Sig where
  var j := match j with | 0 => (i : Int) | 1 => (k : Int) | 2 => (t : Int) | _ => 0
  fn _ args := match args with | [j] => if v.fine j.toNat then 0 else 2 | _ => 0
  row a := match a with | 0 => (v.b, v.x, 6, v.n) | 1 => (0, 0, 6, L.length) | 2 => (0, 0, 6, 1) | _ => (0, 0, 0, 0)
  cell a i c := match a with | 0 => v.cell i c | 1 => gets L i c | 2 => o c | _ => .bool false

/-- The list lies in memory. -/
structure Ls.Lies (v : Ls) (W : World) : Prop where
  few : v.n ≤ 9223372036854775807
  lies : ∃ (arr : Array Value) (el : TypeId) (fz : Nat × Nat), W.heap[v.b]? = some (.cells arr el fz) ∧ ∀ i c, i < v.n → c < 6 → arr[v.x + i * 6 + c]? = some (v.cell i c)

def opKinds : List (Option IntKind) := [some .i64, some .i64, some .i64, some .i64, none, none]
def rowsP (a : Nat) : Option (List (Option IntKind)) := match a with | 0 => some opKinds | _ => none
noncomputable def eqR (F : List Fact) (a b : IE) : Option Bool := match IE.same a b with | true => some true | false => factEq F a b
noncomputable def envP (σ : Sig) (F : List Fact) : Env := { P := Tryz.prog, G := globals, rows := rowsP, lt := factLt F, eq := eqR F, sig := σ }

theorem eqR_val {σ : Sig} {F : List Fact} (hF : ∀ f ∈ F, f.holds σ) {a b : IE} {r : Bool} (h : eqR F a b = some r) : eqb (a.val σ) (b.val σ) = r := by
  unfold eqR at h
  split at h
  · rename_i e
    have := IE.same_eq e
    subst this
    simp only [Option.some.injEq] at h
    subst h
    rw [eqb_eq]
    simp
  · have hn : NumOk { P := Tryz.prog, G := globals, lt := factLt F, eq := factEq F, sig := σ } := fact_num rfl rfl hF (fun a ks h => by cases h)
    exact hn.eq a b r h
theorem ltF_val {σ : Sig} {F : List Fact} (hF : ∀ f ∈ F, f.holds σ) {a b : IE} {r : Bool} (h : factLt F a b = some r) : ltb (a.val σ) (b.val σ) = r := by
  have hn : NumOk { P := Tryz.prog, G := globals, lt := factLt F, eq := factEq F, sig := σ } := fact_num rfl rfl hF (fun a ks h => by cases h)
  exact hn.lt a b r h
theorem numP {v : Ls} {L : List (Nat → Value)} {o : Nat → Value} {i k t : Nat} {F : List Fact} (hF : ∀ f ∈ F, f.holds (sigP v L o i k t)) : NumOk (envP (sigP v L o i k t) F) where
  lt _ _ _ h := ltF_val hF h
  eq _ _ _ h := eqR_val hF h
  rows a ks h := by
    have h : rowsP a = some ks := h
    unfold rowsP at h
    split at h
    · simp only [Option.some.injEq] at h
      subst h
      rfl
    · cases h
  pre _ _ _ h := by cases h
  overs _ h := by cases h
  idxs _ h := by cases h
  sames _ h := by cases h
  mkzs _ _ h := by cases h
  cells _ _ _ _ h := by cases h
  str _ _ _ _ _ _ h := by cases h
  bool _ _ _ _ _ _ h := by cases h
theorem liesP {v : Ls} {W : World} (hv : v.Lies W) (hG : RX.Lies (env sig0) W) (L : List (Nat → Value)) (o : Nat → Value) (i k t : Nat) (F : List Fact) : RX.Lies (envP (sigP v L o i k t) F) W where
  cells g cs hg := by
    obtain ⟨arr, el, fz, h1, h2⟩ := hG.cells g cs hg
    refine ⟨arr, el, fz, h1, fun k x hx => ?_⟩
    obtain ⟨u, h3, h4⟩ := h2 k x hx
    refine ⟨u, h3, ?_⟩
    have hpl : SV.plainB x = true := plain_globals hg hx
    exact VRel.plain hpl h4
  rows a ks ha := by
    have ha : rowsP a = some ks := ha
    unfold rowsP at ha
    split at ha
    · simp only [Option.some.injEq] at ha
      subst ha
      obtain ⟨arr, el, fz, h1, h2⟩ := hv.lies
      refine ⟨v.b, v.x, v.n, arr, el, fz, rfl, h1, fun i c k hi hc => ?_⟩
      have hc6 : c < 6 := (List.getElem?_eq_some_iff.1 hc).1
      refine ⟨h2 i c hi hc6, ?_⟩
      match c, hc6, hc with
      | 0, _, hc => simp [opKinds] at hc; subst hc; exact ⟨_, rfl⟩
      | 1, _, hc => simp [opKinds] at hc; subst hc; exact ⟨_, rfl⟩
      | 2, _, hc => simp [opKinds] at hc; subst hc; exact ⟨_, rfl⟩
      | 3, _, hc => simp [opKinds] at hc; subst hc; exact ⟨_, rfl⟩
      | 4, _, hc => simp [opKinds] at hc; subst hc; exact rfl
      | 5, _, hc => simp [opKinds] at hc; subst hc; exact rfl
    · cases ha
end Go.Proofs.YtofcbcpbglnogaaGreatDoor
