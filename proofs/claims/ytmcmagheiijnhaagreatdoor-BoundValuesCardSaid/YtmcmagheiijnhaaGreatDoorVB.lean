/- backoff.Wait: its pieces. -/
import Derived.Test.YtmcmagheiijnhaaGreatDoorVA
import Derived.Test.YtmcmagheiijnhaaGreatDoorRxI
set_option linter.all false
set_option maxRecDepth 100000
namespace Go.Proofs.YtmcmagheiijnhaaGreatDoor
open Go.RX Go.RX.Sym
open Classical

section
variable {E : Env} {K : Nat → List SV → SW → Option (SV × SW)}
/-- A range over a function that may lead out of it. -/
theorem rangeFH (hn : NumOk E) {n m how : Nat} {sl : List Nat} {x : Operand} {ps : Array Tmp} {assign body : Code} {g : List SV → List SV → SV} (hx : opd ⟨[], sl⟩ x = some ⟨g⟩) {fr fr1 : List SV} {objs objs3 plain kept : List (Nat × SObj)} {n0 N3 next N f : Nat} {fi cap : List SV} {xr : SV} (hg : g [] fr = .func f fi cap)
    (hcall : CallsT E f (fi ++ (.yield (n0 + 1) :: cap)) ((n0 + 1, .loop (loop0 fr n sl ps assign body n0)) :: (n0, .deferred true) :: objs) (n0 + 2) xr ⟨heapOf objs3, N3, 0⟩)
    (hk : keptLt next kept = true) (hN : next ≤ N)
    (h : cutFK how [n0] fr1 plain (kept.map (·.1)) next (endRange fr [n0] (n0 + 1) ⟨heapOf objs3, N3, 0⟩) = (true, kept.map fun p => some p.2))
    {ρ0 : Ren} {S0 : SW} {W0 w : World} {a : Act} (hA : AtF E.sig ρ0 S0 N n sl fr [] objs n0 W0 a w) (hL : Lies E W0) (hAp : ApartF E ρ0 S0) {Q : Exit → Act → World → Prop}
    (hQ : ∀ a' w', AtF E.sig ρ0 S0 N n sl fr1 [n0] (plain ++ kept) next W0 a' w' → Q (howOf how) a' w') : (Code.rangeFunc x ps assign body).wpIn Fence.wide m E.P Q a w := by
  obtain ⟨out, ho, hhow, hdef, hle, hnext, hobjs⟩ := cutF_some h hk
  have hA' := hA
  obtain ⟨-, -, -, -, -, -, hframe, hs, ρ, hσ, hd, hf, hw, hkeep, hown, hfree, ht⟩ := hA'
  have hst := okF hn hL hAp hframe hs hσ hd hf hw hown ht
  have hmk : Sym.mark none (cutStD fr [] objs n0) = some (n0, ⟨heapOf ((n0, .deferred true) :: objs), n0 + 1, 0⟩, [n0]) := by
    unfold Sym.mark
    show (match new (SW.mk (heapOf objs) n0 0) (.deferred true) with | some (d, w) => some (d, w, [d]) | none => none) = _
    rw [new_heap]
  have m4 := (endRange_mono ho).next
  have hQ' : ∀ ρ' a' w', Ext ρ (cutStD fr [] objs n0).w w ρ' out.st.w w' → StOk E n sl none none [] ρ' out.st a' w' → Q out.how a' w' := fun ρ' a' w' hext hst' => by
    rw [hhow]
    exact hQ a' w' (hdef ▸ atF_of hA hσ hkeep hown hfree hext hst' hle hnext hN hobjs)
  have := range_sound1 (m := m) (ps := ps) (assign := assign) (body := body) hx hst hg hmk (new_heap _) hcall.name hcall.call ho hcall.le (hfree.left (Nat.le_trans hnext hN)) m4 hQ'
  exact this
end
noncomputable def inOf : Code → Code
  | .block _ a => a
  | .loop a => a
  | c => c
noncomputable def rgX : Code → Operand | .rangeFunc x _ _ _ => x | _ => .tmp 0
noncomputable def rgP : Code → Array Tmp | .rangeFunc _ p _ _ => p | _ => #[]
noncomputable def rgA : Code → Code | .rangeFunc _ _ a _ => a | c => c
noncomputable def rgB : Code → Code | .rangeFunc _ _ _ b => b | c => c
noncomputable def bd57 : Code := match Tryz.f57.body with | some c => c | none => .skip
theorem bd57_is : Tryz.f57.body = some bd57 := by kernel_rfl
theorem nt57 : Tryz.f57.ntmps = 22 := by kernel_rfl
def sl57 : List Nat := [20, 17, 16, 15, 12, 8, 7, 6, 5, 4, 3, 2, 1, 0]
noncomputable def rg57 : Code := inC [5] bd57
theorem lp57 : (flatC bd57).drop 5 = .block 0 rg57 :: (flatC bd57).drop 6 := by kernel_rfl
theorem rg57_is : rg57 = .rangeFunc (.tmp 15) #[16, 17] (rgA rg57) (rgB rg57) := by kernel_rfl
noncomputable def bd108 : Code := match Tryz.f108.body with | some c => c | none => .skip
theorem bd108_is : Tryz.f108.body = some bd108 := by kernel_rfl
theorem nt108 : Tryz.f108.ntmps = 25 := by kernel_rfl
def sl108 : List Nat := [17, 10, 9, 8, 4, 3, 1, 0]
theorem lp108 : (flatC bd108).drop 2 = .block 0 (.loop (inC [2] bd108)) :: [] := by kernel_rfl
theorem name_WAITY (vals : Array Value) (w : World) : (callFunc 108 vals).run Tryz.prog w = .ok (.enter 108 vals) w := by kernel_rfl
theorem name_WAITP (vals : Array Value) (w : World) : (callFunc 57 vals).run Tryz.prog w = .ok (.enter 57 vals) w := by kernel_rfl
def wr : List SV := [iv 11, iv 12, iv 13, iv 14]
def oW (x : SV) : List (Nat × SObj) := [(0, .cells wr 122), (1, .cells [iv 5] 8), (2, .cells [x] 6), (3, .cells [.int .i64 0] 72), (5, .cells wr 122)]
def z0 : SV := .int .i64 0
def fr57 : List SV := frN sl57 [(15, .func 108 [] [.ptr 5 0]), (5, .ptr 3 0), (4, .ptr 2 0), (3, .ptr 1 0), (2, .ptr 0 0)]
abbrev rf57 : List Fact := [⟨false, .var 11, .lit 0, false⟩, ⟨true, .var 11, .lit 1, false⟩, ⟨true, .lit 20, .var 11, false⟩, ⟨true, .var 12, .lit 1, false⟩, ⟨true, .var 13, .var 12, false⟩, ⟨true, .lit 68719476736, .var 13, false⟩, ⟨true, .var 14, .lit 0, false⟩, ⟨true, .lit 68719476736, .var 14, false⟩]
def t57a : DT LfF := .leaf ⟨0, [], fr57, oW z0, 6⟩
theorem t57a_ok (σ : Sig) : t57a.ok (pieceF (fun F => envF σ F) (fun _ => noC) 40 22 sl57 ((flatC bd57).take 5) (cutStD (frameOf [.agg wr, iv 5] sl57) [] [] 0)) rf57 = true := by kernel_rfl
noncomputable def lpW : SLoop := loop0 fr57 22 sl57 #[16, 17] (rgA rg57) (rgB rg57) 6
noncomputable def kW : List (Nat × SObj) := [(7, .loop lpW), (6, .deferred true)]
def hd108 : List SV := frN sl108 [(9, iv 1), (8, iv 11), (3, iv 3), (1, .ptr 5 0), (0, .yield 7)]
def be108 : List SV := frN sl108 [(9, z0), (8, iv 11), (3, iv 12), (1, .ptr 5 0), (0, .yield 7)]
def nx108 : List SV := frN sl108 [(9, i1'), (8, iv 11), (3, .sint .i64 (.min (.bin .add .i64 (.var 3) (.var 3)) (.var 13))), (1, .ptr 5 0), (0, .yield 7)]
noncomputable def chk108 (how : Nat) (fr : List SV) (o : List (Nat × SObj)) (r : Option Out) : Bool × List (Option SObj) := cutFK how [] fr o (kW.map (·.1)) 8 r
noncomputable def run108 (σ : Sig) (F : List Fact) : Option Out := runCode (envF σ F) noC 5 25 sl108 (inC [2] bd108) (cutStD hd108 [] (oW z0 ++ kW) 8)
def k1 : IE := .bin .add .i64 (.var 1) (.lit 1)
theorem w_begin (σ : Sig) : chk108 0 be108 (oW z0) (runChain (envF σ []) noC 5 25 sl108 ((flatC bd108).take 2) (cutStD (frameOf [.yield 7, .ptr 5 0] sl108) [] (kW ++ oW z0) 8)) = (true, kW.map fun p => some p.2) := by kernel_rfl
theorem w_again (σ : Sig) : chk108 0 nx108 (oW z0) (run108 σ [⟨true, .var 1, .var 11, true⟩, ⟨false, k1, .var 5, false⟩]) = (true, kW.map fun p => some p.2) := by kernel_rfl
noncomputable def lpE : SLoop := { lpW with state := .done, pending := some .ret }
noncomputable def kE : List (Nat × SObj) := [(7, .loop lpE), (6, .deferred true)]
theorem w_ret (σ : Sig) : chk108 1 (frN sl108 []) (oW (iv 3)) (run108 σ [⟨true, .var 1, .var 11, true⟩, ⟨false, k1, .var 5, true⟩]) = (true, kE.map fun p => some p.2) := by kernel_rfl
theorem w_left (σ : Sig) : leftFK (.tuple []) (oW (iv 9)) (kE.map (·.1)) 8 (envF σ []) sl108 Tryz.f108.results.toList (cutStD (frN sl108 []) [] (oW (iv 9) ++ kE) 8) = (true, kE.map fun p => some p.2) := by kernel_rfl
noncomputable def g57 : List SV → List SV → SV := match opd ⟨[], sl57⟩ (.tmp 15) with | some ⟨g⟩ => g | none => fun _ _ => .unknown
theorem g57_is : opd ⟨[], sl57⟩ (.tmp 15) = some ⟨g57⟩ := by kernel_rfl
theorem g57_fn : g57 [] fr57 = .func 108 [] [.ptr 5 0] := by kernel_rfl
def kM : List (Nat × SObj) := [(6, .deferred true)]
def fe57 : List SV := frN sl57 [(5, .ptr 3 0), (4, .ptr 2 0)]
theorem w_range : cutFK 1 [6] fe57 [(2, .cells [iv 9] 6), (3, .cells [z0] 72)] (kM.map (·.1)) 8 (Sym.endRange fr57 [6] 7 ⟨heapOf (oW (iv 9) ++ kE), 8, 0⟩) = (true, kM.map fun p => some p.2) := by kernel_rfl
theorem w_end (σ : Sig) : leftFK (.tuple [iv 9, z0]) [] [] 8 (envF σ []) sl57 Tryz.f57.results.toList (cutStD fe57 [6] ([(2, .cells [iv 9] 6), (3, .cells [z0] 72)] ++ kM) 8) = (true, []) := by kernel_rfl
end Go.Proofs.YtmcmagheiijnhaaGreatDoor

/- backoff.Wait and wakemanref30.Wait: the wait behind an attempt. -/
set_option linter.all false
set_option maxRecDepth 100000
namespace Go.Proofs.YtmcmagheiijnhaaGreatDoor
open Go.RX Go.RX.Sym
open Classical

/-- A state inside a call, seen again beside objects that stay. -/
theorem AtF.saK {s : Sa} {σ σ' : Sig} (h : Sees s σ σ') {ρ0 : Ren} {S0 : SW} {N : Nat} {n : Nat} {sl : List Nat} {fr fr1 : List SV} {ds : List Nat} {objs objs1 kept : List (Nat × SObj)} {n0 n1 : Nat} {W0 w : World} {a : Act} (hA : AtF σ ρ0 S0 N n sl fr1 ds (objs1 ++ kept) n1 W0 a w) (hle : S0.next ≤ n0) (hle2 : n0 ≤ N) (hds : ∀ d ∈ ds, d < n0)
    (hc : saFr s n0 fr fr1 = true) (hco : saObjs s n0 (objs1 ++ kept) objs = true) (hkept : ∀ p ∈ kept, p.1 < n0 ∧ lookO p.1 (objs1 ++ kept) = some p.2 ∧ OVT σ σ' (fun i j => i = j ∧ i < n0) p.2 p.2) : AtF σ' ρ0 S0 N n sl fr ds (objs ++ kept) n0 W0 a w := by
  let π : List (Nat × Nat) := ((List.range n0).filter fun i => decide (S0.next ≤ i)).map fun i => (i, i)
  have hπ : ∀ i j, lookN i π = some j → i = j ∧ S0.next ≤ i ∧ i < n0 := fun i j e => by
    have := lookN_mem e
    simp only [π, List.mem_map, List.mem_filter, List.mem_range, decide_eq_true_eq, Prod.mk.injEq] at this
    obtain ⟨k, ⟨h1, h2⟩, rfl, rfl⟩ := this
    exact ⟨rfl, h2, h1⟩
  have hπ' : ∀ i, S0.next ≤ i → i < n0 → lookN i π = some i := fun i h1 h2 => by
    have key : ∀ (l : List Nat), i ∈ l → lookN i (l.map fun i => (i, i)) = some i := fun l => by
      induction l with
      | nil => intro h; cases h
      | cons a l ih =>
        intro h
        simp only [List.map_cons, lookN]
        split
        · rename_i e; rw [e]
        · rename_i e
          rcases List.mem_cons.1 h with h | h
          · exact absurd h e
          · exact ih h
    exact key _ (List.mem_filter.2 ⟨List.mem_range.2 h2, by simpa using h1⟩)
  have hR : ∀ {i j : Nat}, (i = j ∧ i < n0) → RX.numF S0 N π i = some j := by
    rintro i _ ⟨rfl, hi⟩
    unfold RX.numF
    by_cases c : i < S0.next ∨ N ≤ i
    · rw [if_pos c]
    · rw [if_neg c]; exact hπ' i (by omega) hi
  refine hA.see π hle hle2 ?_ (fun i x hx => ?_) (fun i i' j e e' => ?_) (fun i j e => ?_) fun d hd => hR ⟨rfl, hds d hd⟩
  · exact fun i => (saFr_is h hc i).imp id (SVT.mono fun _ _ => hR)
  · rcases List.mem_append.1 (heapOf_at hx) with hm | hm
    · obtain ⟨g1, y, g2, g3⟩ := saObjs_mem hco (i, x) hm
      refine ⟨g1, i, y, hR ⟨rfl, g1⟩, ?_, (saO_is h g3).mono fun _ _ => hR⟩
      rw [at_look]; exact g2
    · obtain ⟨g1, g2, g3⟩ := hkept (i, x) hm
      refine ⟨g1, i, x, hR ⟨rfl, g1⟩, ?_, g3.mono fun _ _ => hR⟩
      rw [at_look]; exact g2
  · obtain ⟨rfl, -⟩ := hπ _ _ e
    obtain ⟨rfl, -⟩ := hπ _ _ e'
    rfl
  · obtain ⟨rfl, h2, h3⟩ := hπ _ _ e
    exact ⟨h3, h2, by omega⟩

section
variable {E : Env} {K : Nat → List SV → SW → Option (SV × SW)}
theorem walkK (k : Nat) (hK : Known E K) (hn : NumOk E) {d n m how N : Nat} {sl : List Nat} {cs : List Code} {fr fr1 : List SV} {ds ds1 : List Nat} {objs plain kept : List (Nat × SObj)} {n0 next : Nat} (hk : keptLt next kept = true) (hN : next ≤ N)
    (h : cutFK how ds1 fr1 plain (kept.map (·.1)) next (runChain E K d n sl (cs.take k) (cutStD fr ds objs n0)) = (true, kept.map fun p => some p.2))
    {ρ0 : Ren} {S0 : SW} {W0 w : World} {a : Act} (hA : AtF E.sig ρ0 S0 N n sl fr ds objs n0 W0 a w) (hL : Lies E W0) (hAp : ApartF E ρ0 S0) {Q : Exit → Act → World → Prop}
    (hQ : ∀ a' w', AtF E.sig ρ0 S0 N n sl fr1 ds1 (plain ++ kept) next W0 a' w' → BehindL E.P m (cs.drop k) Q how a' w') : wpL E.P m cs Q a w := by
  obtain ⟨out, ho, hhow, hdef, hle, hnext, hobjs⟩ := cutF_some h hk
  have hA2 := hA
  obtain ⟨-, -, -, -, -, -, hframe, hsz, ρ, hσ, hd, hf, hw, hkeep, hown, hfree, ht⟩ := hA2
  have hst := okF hn hL hAp hframe hsz hσ hd hf hw hown ht
  have := chain_soundFL hK (m := m) (cs2 := cs.drop k) (Q := Q) (cs.take k) _ out ho (Nat.le_trans hnext hN) ρ a w hst hfree fun ρ' a' w' hext hst' => by
    rw [hhow]
    refine then_behind ?_
    have h9 := atF_of hA hσ hkeep hown hfree hext hst' hle hnext hN hobjs
    rw [hdef] at h9
    exact hQ _ _ h9
  rw [List.take_append_drop] at this
  exact this
end
theorem apartF {σ σ' : Sig} {F F' : List Fact} {ρ0 : Ren} {S0 : SW} (h : ApartF (envF σ F) ρ0 S0) : ApartF (envF σ' F') ρ0 S0 := fun b hb => h b (by
  rcases hb with hb | ⟨a, ks, ha, -⟩
  · exact .inl hb
  · cases ha)
theorem wkS_in {b c : Int} (hb : 1 ≤ b) (hbc : b ≤ c) : ∀ i, 1 ≤ wkS b c i ∧ wkS b c i ≤ c
  | 0 => ⟨hb, hbc⟩
  | i + 1 => by have := wkS_in hb hbc i; unfold wkS; omega
noncomputable def varW (m b c j : Int) (k i : Nat) (n : Nat) : Int := match n with | 1 => i | 3 => wkS b c i | 5 => k | 9 => wkS b c (k - 1) | 11 => m | 12 => b | 13 => c | 14 => j | _ => 0
noncomputable def sigW (m b c j : Int) (k i : Nat) : Sig := sigV (varW m b c j k i)
section
variable {m b c j : Int} {k : Nat}
theorem w_sum {i : Nat} (hb : 1 ≤ b) (hbc : b ≤ c) (hc : c ≤ 68719476736) : opVal .add .i64 (wkS b c i) (wkS b c i) = wkS b c i + wkS b c i := by
  have := wkS_in hb hbc i
  exact add_op ⟨by omega, by omega⟩
theorem facts_rf (hr : retOk m b c j) (h1 : 1 ≤ m) {i : Nat} : ∀ f ∈ rf57, f.holds (sigW m b c j k i) := by
  have h : (1 ≤ m ∧ m ≤ 20) ∧ (1 ≤ b ∧ b ≤ 68719476736) ∧ (b ≤ c ∧ c ≤ 68719476736) ∧ (0 ≤ j ∧ j ≤ 68719476736) := by
    rcases hr with h | h
    · omega
    · exact h
  obtain ⟨⟨a1, a2⟩, ⟨a3, a4⟩, ⟨a5, a6⟩, a7, a8⟩ := h
  exact hcons (holds_eq (by show m = 0 ↔ _; exact no (by omega))) (hcons (holds_lt (by show m < 1 ↔ _; exact no (by omega))) (hcons (holds_lt (by show 20 < m ↔ _; exact no (by omega))) (hcons (holds_lt (by show b < 1 ↔ _; exact no (by omega))) (hcons (holds_lt (by show c < b ↔ _; exact no (by omega))) (hcons (holds_lt (by show 68719476736 < c ↔ _; exact no (by omega))) (hcons (holds_lt (by show j < 0 ↔ _; exact no (by omega))) (hcons (holds_lt (by show 68719476736 < j ↔ _; exact no (by omega))) hnil)))))))
theorem look2 {n : Nat} {e3 e1 : IE} (h1 : n ≠ 1) (h3 : n ≠ 3) : sbE.look n [(1, e1), (3, e3)] = .var n := by
  simp only [sbE.look]
  have a1 : Nat.beq 1 n = false := by
    cases hb : Nat.beq 1 n with
    | true => exact absurd (Nat.eq_of_beq_eq_true hb).symm h1
    | false => rfl
  have a3 : Nat.beq 3 n = false := by
    cases hb : Nat.beq 3 n with
    | true => exact absurd (Nat.eq_of_beq_eq_true hb).symm h3
    | false => rfl
  rw [a1, a3]
theorem varW_ne {i i' n : Nat} (h1 : n ≠ 1) (h3 : n ≠ 3) : varW m b c j k i n = varW m b c j k i' n := by
  unfold varW
  split <;> first | rfl | omega
def wW : IE := .min (.bin .add .i64 (.var 3) (.var 3)) (.var 13)
theorem puts_W {i i' : Nat} {e1 e3 : IE} (h1 : e1.val (sigW m b c j k i) = i') (h3 : e3.val (sigW m b c j k i) = wkS b c i') : Puts [] [(1, e1), (3, e3)] (sigW m b c j k i) (sigW m b c j k i') := by
  refine ⟨fun n => ?_, rfl, fun _ h => (by cases h), fun _ h => (by cases h), fun _ h => (by cases h)⟩
  by_cases c1 : n = 1
  · subst c1; exact h1.symm
  by_cases c3 : n = 3
  · subst c3; exact h3.symm
  rw [look2 c1 c3]
  exact varW_ne c1 c3
theorem see_W {s : Sa} {σ σ' : Sig} (h : Puts s.rs s.θ σ σ') (hk : s.κ = []) (ho : s.ω = []) (hb : s.β = []) : Sees s σ σ' := ⟨h, fun q hq => (by rw [hk] at hq; cases hq), fun p hp => (by rw [ho] at hp; cases hp), fun p hp => (by rw [hb] at hp; cases hp)⟩
theorem frK (s : Sa) : saFr s 8 fr57 fr57 = true := by kernel_rfl
theorem kept_W {s : Sa} {σ σ' : Sig} (h : Sees s σ σ') {l : SLoop} (hd : l.defers = 6) (hf : l.fr = fr57) {objs1 : List (Nat × SObj)} (h7 : lookO 7 (objs1 ++ [(7, .loop l), (6, .deferred true)]) = some (.loop l)) (h6 : lookO 6 (objs1 ++ [(7, .loop l), (6, .deferred true)]) = some (.deferred true)) :
    ∀ p ∈ ([(7, .loop l), (6, .deferred true)] : List (Nat × SObj)), p.1 < 8 ∧ lookO p.1 (objs1 ++ [(7, .loop l), (6, .deferred true)]) = some p.2 ∧ OVT σ σ' (fun i j => i = j ∧ i < 8) p.2 p.2 := fun p hp => by
  simp only [List.mem_cons, List.not_mem_nil, or_false] at hp
  rcases hp with rfl | rfl
  · exact ⟨show 7 < 8 by decide, h7, .loop rfl rfl rfl rfl rfl rfl rfl ⟨rfl, by rw [hd]; decide⟩ (by rw [hf]; exact saFr_is h (frK s))⟩
  · exact ⟨show 6 < 8 by decide, h6, .mark⟩
theorem look7 (x : SV) (l : SLoop) : lookO 7 (oW x ++ [(7, .loop l), (6, .deferred true)]) = some (.loop l) := by rfl
theorem look6 (x : SV) (l : SLoop) : lookO 6 (oW x ++ [(7, .loop l), (6, .deferred true)]) = some (.deferred true) := by rfl
theorem s_begin : saFr { θ := [(1, .lit 0), (3, .var 12)] } 8 hd108 be108 = true ∧ ∀ l, saObjs { θ := [(1, .lit 0), (3, .var 12)] } 8 (oW z0 ++ [(7, .loop l), (6, .deferred true)]) (oW z0) = true := ⟨by kernel_rfl, fun l => by kernel_rfl⟩
theorem s_again : saFr { θ := [(1, k1), (3, wW)] } 8 hd108 nx108 = true ∧ ∀ l, saObjs { θ := [(1, k1), (3, wW)] } 8 (oW z0 ++ [(7, .loop l), (6, .deferred true)]) (oW z0) = true := ⟨by kernel_rfl, fun l => by kernel_rfl⟩
theorem s_ret : saFr { θ := [(1, .lit 0), (3, .var 12), (9, .var 3)] } 8 (frN sl108 []) (frN sl108 []) = true ∧ ∀ l, saObjs { θ := [(1, .lit 0), (3, .var 12), (9, .var 3)] } 8 (oW (iv 3) ++ [(7, .loop l), (6, .deferred true)]) (oW (iv 9)) = true := ⟨by kernel_rfl, fun l => by kernel_rfl⟩
theorem w_next {i : Nat} (hb : 1 ≤ b) (hbc : b ≤ c) (hc : c ≤ 68719476736) : wW.val (sigW m b c j k i) = wkS b c (i + 1) := by
  show (if c < opVal .add .i64 (wkS b c i) (wkS b c i) then c else opVal .add .i64 (wkS b c i) (wkS b c i)) = min (wkS b c i + wkS b c i) c
  rw [w_sum hb hbc hc]
  split <;> omega
theorem puts_E {i : Nat} (hik : i + 1 = k) : Puts [] [(1, .lit 0), (3, .var 12), (9, .var 3)] (sigW m b c j k i) (sigW m b c j k 0) := by
  refine ⟨fun n => ?_, rfl, fun _ h => (by cases h), fun _ h => (by cases h), fun _ h => (by cases h)⟩
  by_cases c1 : n = 1
  · subst c1; rfl
  by_cases c3 : n = 3
  · subst c3; rfl
  by_cases c9 : n = 9
  · subst c9
    subst hik
    rfl
  have a1 : Nat.beq 1 n = false := by
    cases hb : Nat.beq 1 n with
    | true => exact absurd (Nat.eq_of_beq_eq_true hb).symm c1
    | false => rfl
  have a3 : Nat.beq 3 n = false := by
    cases hb : Nat.beq 3 n with
    | true => exact absurd (Nat.eq_of_beq_eq_true hb).symm c3
    | false => rfl
  have a9 : Nat.beq 9 n = false := by
    cases hb : Nat.beq 9 n with
    | true => exact absurd (Nat.eq_of_beq_eq_true hb).symm c9
    | false => rfl
  simp only [sbE.look, a1, a3, a9]
  exact varW_ne c1 c3
theorem waitY_calls (hr : retOk m b c j) (h1 : 1 ≤ k) (hk : (k : Int) ≤ m) : CallsT (envF (sigW m b c j k 0) []) 108 [.yield 7, .ptr 5 0] (kW ++ oW z0) 8 (.tuple []) ⟨heapOf (oW (iv 9) ++ kE), 8, 0⟩ := by
  have r := hr
  have hr' : (1 ≤ m ∧ m ≤ 20) ∧ (1 ≤ b ∧ b ≤ 68719476736) ∧ (b ≤ c ∧ c ≤ 68719476736) ∧ (0 ≤ j ∧ j ≤ 68719476736) := by
    rcases r with h | h
    · omega
    · exact h
  obtain ⟨⟨d1, d2⟩, ⟨d3, d4⟩, ⟨d5, d6⟩, d7, d8⟩ := hr'
  refine callsT_F (E := envF (sigW m b c j k 0) []) (objs1 := oW (iv 9) ++ kE) (N := 8) (fn := Tryz.f108) (body := bd108) (sl := sl108) Tryz.func108 bd108_is name_WAITY (by rw [nt108]; decide) (Nat.le_refl _) fun ρ0 W0 a hok hfr hA => wpL_whole ?_
  rw [nt108] at hA
  have hW0 : Spaces W0 := spaces_ok hok
  have hap := hok.glob.apart
  refine walkK (E := envF (sigW m b c j k 0) []) 2 (known_nothing _) (numF _ hnil) (kept := kW) (next := 8) (by kernel_rfl) (Nat.le_refl _) (w_begin _) hA (liesF _ _ hW0) (apartF hap) fun a1' w1 h1' => ?_
  show wpL _ _ ((flatC bd108).drop 2) _ _ _
  rw [lp108]
  have sb := see_W (s := { θ := [(1, .lit 0), (3, .var 12)] }) (puts_W (m := m) (b := b) (c := c) (j := j) (k := k) (i := 0) (i' := 0) (e1 := .lit 0) (e3 := .var 12) rfl rfl) rfl rfl rfl
  refine wpIn_block (wpIn_loop_n (J := fun k' a w => ∃ i, i + k' + 1 = k ∧ AtF (sigW m b c j k i) ρ0 ⟨heapOf (kW ++ oW z0), 8, 0⟩ 8 25 sl108 hd108 [] (oW z0 ++ kW) 8 W0 a w) (N := k - 1) ⟨0, by omega, AtF.saK sb h1' (Nat.le_refl 8) (Nat.le_refl 8) (fun d hd => (by cases hd)) s_begin.1 (s_begin.2 _) (kept_W sb rfl rfl (look7 _ _) (look6 _ _))⟩ ?_)
  rintro k' a2 w2 ⟨i, hi, h2⟩
  have hlt : (IE.var 1).val (sigW m b c j k i) < (IE.var 11).val (sigW m b c j k i) := by show (i : Int) < m; omega
  have e1 : k1.val (sigW m b c j k i) = ((i + 1 : Nat) : Int) := by show opVal .add .i64 (i : Int) 1 = _; exact add1 (n := k) (by omega) (by omega)
  by_cases hik : i + 1 = k
  · refine stepF (E := envF (sigW m b c j k i) [⟨true, .var 1, .var 11, true⟩, ⟨false, k1, .var 5, true⟩]) (known_nothing _) (numF _ (hcons (holds_lt ⟨fun _ => rfl, fun _ => hlt⟩) (hcons (holds_eq ⟨fun _ => rfl, fun _ => by rw [e1, hik]; rfl⟩) hnil))) (kept := kE) (next := 8) (by kernel_rfl) (Nat.le_refl _) (w_ret _) h2 (liesF _ _ hW0) (apartF hap) fun a3 w3 h3 => ?_
    have se := see_W (s := { θ := [(1, .lit 0), (3, .var 12), (9, .var 3)] }) (σ := sigW m b c j k i) (σ' := sigW m b c j k 0) (puts_E hik) rfl rfl rfl
    have h4 := AtF.saK se h3 (Nat.le_refl 8) (Nat.le_refl 8) (fun d hd => (by cases hd)) s_ret.1 (s_ret.2 _) (kept_W se rfl rfl (look7 _ _) (look6 _ _))
    exact leavesF (E := envF (sigW m b c j k 0) []) (kept := kE) (plain := oW (iv 9)) (numF _ hnil) (by kernel_rfl) (w_left _) hok hfr h4
  · refine stepF (E := envF (sigW m b c j k i) [⟨true, .var 1, .var 11, true⟩, ⟨false, k1, .var 5, false⟩]) (known_nothing _) (numF _ (hcons (holds_lt ⟨fun _ => rfl, fun _ => hlt⟩) (hcons (holds_eq (no (by rw [e1]; show ¬ ((i + 1 : Nat) : Int) = (k : Int); omega))) hnil))) (kept := kW) (next := 8) (by kernel_rfl) (Nat.le_refl _) (w_again _) h2 (liesF _ _ hW0) (apartF hap) fun a3 w3 h3 => ?_
    have sa := see_W (s := { θ := [(1, k1), (3, wW)] }) (puts_W (m := m) (b := b) (c := c) (j := j) (k := k) (i := i) (i' := i + 1) (e1 := k1) (e3 := wW) e1 (w_next d3 d5 d6)) rfl rfl rfl
    obtain ⟨k', rfl⟩ : ∃ x, k' = x + 1 := ⟨k' - 1, by omega⟩
    exact ⟨k', by omega, i + 1, by omega, AtF.saK sa h3 (Nat.le_refl 8) (Nat.le_refl 8) (fun d hd => (by cases hd)) s_again.1 (s_again.2 _) (kept_W sa rfl rfl (look7 _ _) (look6 _ _))⟩
theorem sWr {i : Nat} : VRels (.nil (sigW m b c j k i)) [.agg wr, iv 5] [.agg #[.int .i64 m, .int .i64 b, .int .i64 c, .int .i64 j], .int .i64 k] := by
  have h : ∀ n, VRel (.nil (sigW m b c j k i)) (.sint .i64 (.var n)) (.int .i64 (varW m b c j k i n)) := fun n => VRel.sint (ρ := .nil (sigW m b c j k i)) .i64 (.var n)
  exact .cons (.agg (.cons (h 11) (.cons (h 12) (.cons (h 13) (.cons (h 14) .nil))))) (.cons (h 5) .nil)
theorem wait_callsT (hr : retOk m b c j) (h1 : 1 ≤ k) (hk : (k : Int) ≤ m) : CallsT (envF (sigW m b c j k 0) []) 57 [.agg wr, iv 5] [] 0 (.tuple [iv 9, z0]) ⟨heapOf [], 8, 0⟩ := by
  refine callsT_F (E := envF (sigW m b c j k 0) []) (objs1 := []) (N := 8) (fn := Tryz.f57) (body := bd57) (sl := sl57) Tryz.func57 bd57_is name_WAITP (by rw [nt57]; decide) (by decide) fun ρ0 W0 a hok hfr hA => wpL_whole ?_
  rw [nt57] at hA
  have hW0 : Spaces W0 := spaces_ok hok
  have hap := hok.glob.apart
  refine walkF 5 (E := fun F => envF (sigW m b c j k 0) F) (K := fun _ => noC) (fun _ => rfl) (fun _ => rfl) (fun F hF => ⟨numF _ hF, known_nothing _, liesF _ F hW0, apartF hap⟩) (t57a_ok _) (facts_rf hr (by omega)) (fun l hl => by subst hl; show 6 ≤ 8; decide) hA fun l hl a1 w1 h1' => ?_
  simp only [t57a, DT.eval] at hl
  subst hl
  show wpL _ _ ((flatC bd57).drop 5) _ _ _
  rw [lp57, rg57_is]
  refine wpIn_block ?_
  refine rangeFH (E := envF (sigW m b c j k 0) []) (how := 1) (objs := oW z0) (objs3 := oW (iv 9) ++ kE) (plain := [(2, .cells [iv 9] 6), (3, .cells [z0] 72)]) (kept := kM) (n0 := 6) (N3 := 8) (next := 8) (N := 8) (numF _ hnil) g57_is g57_fn (waitY_calls hr h1 hk) (by kernel_rfl) (Nat.le_refl _) w_range h1' (liesF _ _ hW0) (apartF hap) fun a2 w2 h2 => ?_
  exact leavesF (E := envF (sigW m b c j k 0) []) (kept := []) (plain := []) (numF _ hnil) rfl (w_end _) hok hfr h2
theorem waitP_calls {W : World} (hW : Spaces W) (hr : retOk m b c j) (h1 : 1 ≤ k) (hk : (k : Int) ≤ m) :
    Calls Tryz.prog 57 #[.agg #[.int .i64 m, .int .i64 b, .int .i64 c, .int .i64 j], .int .i64 k] W fun e w' => e = .returned (.tuple #[.int .i64 (wkS b c (k - 1)), .int .i64 0]) ∧ On W w' := by
  have hc := (wait_callsT hr h1 hk).call (.nil (sigW m b c j k 0)) [.agg #[.int .i64 m, .int .i64 b, .int .i64 c, .int .i64 j], .int .i64 k] W (empty_ok (numF _ hnil) (liesF _ _ hW)) (fun _ _ _ => rfl) sWr
  refine callsIn_wide.1 (CallsIn.mono (callsIn_wide.2 hc) (n := 0) ?_)
  rintro e w' ⟨u, ρ, rfl, hext, hu⟩
  have hσ : ρ.sig = sigW m b c j k 0 := hext.le.same.symm
  refine ⟨?_, hext.size, hext.os, hext.tape, hext.output, fun b hb => hext.frame b hb fun j p hj hp => by cases hp⟩
  cases hu with
  | tuple h =>
    cases h with
    | cons h1 h =>
      cases h with
      | cons h2 h =>
        cases h
        have h1 := h1.sint_inv
        rw [hσ] at h1
        cases h2
        rw [h1]
        rfl
end
end Go.Proofs.YtmcmagheiijnhaaGreatDoor

/- wakemanref30.Wait: the same. -/
set_option linter.all false
set_option maxRecDepth 100000
namespace Go.Proofs.YtmcmagheiijnhaaGreatDoor
open Go.RX Go.RX.Sym
open Classical

noncomputable def bd29 : Code := match Tryz.f29.body with | some c => c | none => .skip
theorem bd29_is : Tryz.f29.body = some bd29 := by kernel_rfl
theorem nt29 : Tryz.f29.ntmps = 32 := by kernel_rfl
def sl29 : List Nat := [23, 18, 10, 7, 6, 5, 4, 2, 1, 0]
theorem lp29 : (flatC bd29).drop 7 = .block 0 (.loop (inC [7] bd29)) :: (flatC bd29).drop 8 := by kernel_rfl
theorem name_WAITR (vals : Array Value) (w : World) : (callFunc 29 vals).run Tryz.prog w = .ok (.enter 29 vals) w := by kernel_rfl
def oR : List (Nat × SObj) := [(0, .cells wr 122)]
def fr29 (w i : SV) : List SV := frN sl29 [(7, i), (6, w), (2, .ptr 0 0), (1, iv 5)]
abbrev rf29 : List Fact := rf57 ++ [⟨true, .var 5, .lit 1, false⟩, ⟨true, .var 11, .var 5, false⟩]
def t29a : DT Lf := .leaf ⟨0, fr29 (iv 12) (.int .i64 1), oR, 2⟩
theorem t29a_ok (σ : Sig) : t29a.ok (pieceIs (fun F => envF σ F) (fun _ => noC) 40 32 sl29 ((flatC bd29).take 7) (cutSt (frameOf [.agg wr, iv 5] sl29) [] 0)) rf29 = true := by kernel_rfl
def wX : IE := .min (.bin .mul .i64 (.lit 2) (.var 3)) (.var 13)
def t29b : DT Lp := .lt (.var 1) (.var 5) (.leaf ⟨true, ⟨0, fr29 (.sint .i64 wX) i1', oR, 2⟩, [(1, k1), (3, wX)]⟩) (.leaf ⟨false, ⟨2, fr29 (iv 3) .unknown, oR, 2⟩, []⟩)
theorem t29b_ok (σ : Sig) : t29b.ok (lpIs (fun F => envF σ F) (fun _ => noC) 40 32 sl29 (inC [7] bd29) (fr29 (iv 3) i1) oR 2 []) [] = true := by kernel_rfl
def t29z : DT Lf := .leaf ⟨1, frN sl29 [(5, z0), (4, iv 3)], [], 2⟩
theorem t29z_ok (σ : Sig) : t29z.ok (pieceIs (fun F => envF σ F) (fun _ => noC) 40 32 sl29 (((flatC bd29).drop 8).take 2) (cutSt (fr29 (iv 3) .unknown) oR 2)) [] = true := by kernel_rfl
theorem r29 (σ : Sig) : leftOk (.tuple [iv 3, z0]) [] 2 (envF σ []) sl29 Tryz.f29.results.toList (cutSt (frN sl29 [(5, z0), (4, iv 3)]) [] 2) = true := by kernel_rfl
theorem see29 : seeAll [] [(1, .lit 1), (3, .var 12)] 2 (fr29 (iv 3) i1) (fr29 (iv 12) (.int .i64 1)) oR oR = true := by kernel_rfl
section
variable {m b c j : Int} {k : Nat}
structure JX (b c : Int) (k : Nat) (σ : Sig) (r : Nat) : Prop where
  v5 : σ.var 5 = k
  v13 : σ.var 13 = c
  at_ : ∃ i : Nat, σ.var 1 = ((i + 1 : Nat) : Int) ∧ σ.var 3 = wkS b c i ∧ i + 1 + r = k
theorem waitR_calls {W : World} (hW : Spaces W) (hr : retOk m b c j) (h1 : 1 ≤ k) (hk : (k : Int) ≤ m) :
    Calls Tryz.prog 29 #[.agg #[.int .i64 m, .int .i64 b, .int .i64 c, .int .i64 j], .int .i64 k] W fun e w' => e = .returned (.tuple #[.int .i64 (wkS b c (k - 1)), .int .i64 0]) ∧ On W w' := by
  have hr' : (1 ≤ m ∧ m ≤ 20) ∧ (1 ≤ b ∧ b ≤ 68719476736) ∧ (b ≤ c ∧ c ≤ 68719476736) ∧ (0 ≤ j ∧ j ≤ 68719476736) := by
    rcases hr with h | h
    · omega
    · exact h
  obtain ⟨⟨d1, d2⟩, ⟨d3, d4⟩, ⟨d5, d6⟩, d7, d8⟩ := hr'
  have hf : ∀ f ∈ rf29, f.holds (sigW m b c j k 0) := fun f hf => by
    rcases List.mem_append.1 hf with h | h
    · exact facts_rf hr d1 f h
    · exact (hcons (holds_lt (by show (k : Int) < 1 ↔ _; exact no (by omega))) (hcons (holds_lt (by show m < (k : Int) ↔ _; exact no (by omega))) hnil)) f h
  have hrel := sWr (m := m) (b := b) (c := c) (j := j) (k := k) (i := 0)
  have v5 : (sigW m b c j k 0).var 5 = k := rfl
  have v12 : (sigW m b c j k 0).var 12 = b := rfl
  have v13 : (sigW m b c j k 0).var 13 = c := rfl
  generalize sigW m b c j k 0 = σ at hf hrel v5 v12 v13
  refine tmpl_begin (E := envF σ []) (f := 29) (fn := Tryz.f29) (body := bd29) Tryz.func29 bd29_is sl29 (args := [.agg wr, iv 5]) hrel (by rw [nt29]; decide) fun a hA => wpL_whole ?_
  rw [nt29] at hA
  refine walk_take 7 (E := fun F => envF σ F) (K := fun _ => noC) (fun _ => rfl) (fun _ => rfl) (fnF σ hW) (t29a_ok σ) hf hA fun l hl a1 w1 h1' => ?_
  simp only [t29a, DT.eval] at hl
  subst hl
  show wpL _ _ ((flatC bd29).drop 7) _ _ _
  rw [lp29]
  refine loop_dt (E := fun σ F => envF σ F) (K := fun _ _ => noC) (fun _ _ => rfl) (fun _ _ => rfl) (JX b c k) (fun σ r hJ => fnF σ hW) t29b_ok (fun σ r h => hnil) (σ0 := σ.puts [(1, .lit 1), (3, .var 12)]) (N := k - 1) ⟨v5, v13, 0, rfl, v12, by omega⟩ (h1'.sub (σ.puts_is _ []) see29) fun σ r p hJ hp => ?_
  obtain ⟨i, hv1, hv3, hi⟩ := hJ.at_
  have e1 : (IE.var 1).val σ = ((i + 1 : Nat) : Int) := hv1
  have e5 : (IE.var 5).val σ = k := hJ.v5
  simp only [t29b, DT.eval, e1, e5] at hp
  have hw := wkS_in d3 d5 i
  by_cases hlt : i + 1 < k
  · rw [if_pos (by omega)] at hp
    subst hp
    obtain ⟨r, rfl⟩ : ∃ x, r = x + 1 := ⟨r - 1, by omega⟩
    refine ⟨r, by omega, hJ.v5, hJ.v13, i + 1, ?_, ?_, by omega⟩
    · show opVal .add .i64 (σ.var 1) 1 = _
      rw [hv1]
      exact add1 (n := k) (by omega) (by omega)
    · show (if σ.var 13 < opVal .mul .i64 2 (σ.var 3) then σ.var 13 else opVal .mul .i64 2 (σ.var 3)) = min (wkS b c i + wkS b c i) c
      rw [hv3, hJ.v13, mul_op ⟨by omega, by omega⟩]
      split <;> omega
  · rw [if_neg (by omega)] at hp
    subst hp
    intro a2 w2 h2
    show wpL _ _ ((flatC bd29).drop 8) _ _ _
    refine walk_take 2 (E := fun F => envF σ F) (K := fun _ => noC) (fun _ => rfl) (fun _ => rfl) (fnF σ hW) (t29z_ok σ) hnil h2 fun l hl a3 w3 h3 => ?_
    simp only [t29z, DT.eval] at hl
    subst hl
    refine tmpl_leaves (E := envF σ []) (numF σ hnil) (r29 σ) h3 (liesF σ [] hW) fun u w' hl => ?_
    obtain ⟨on, ρ, hs, hx, -⟩ := hl
    cases hx with
    | tuple h =>
      cases h with
      | cons g1 h =>
        cases h with
        | cons g2 h =>
          cases h
          cases g2
          have g1 := g1.sint_inv
          have e3 : (IE.var 3).val ρ.sig = wkS b c (k - 1) := by
            rw [hs]
            show σ.var 3 = _
            rw [hv3]
            congr 1
            omega
          rw [g1, e3]
          exact ⟨rfl, on⟩
end
end Go.Proofs.YtmcmagheiijnhaaGreatDoor
