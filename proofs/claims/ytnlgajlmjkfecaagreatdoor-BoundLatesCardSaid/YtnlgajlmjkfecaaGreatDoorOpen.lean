/- The argument, opened: no events; or events in memory. -/
import Derived.Test.YtnlgajlmjkfecaaGreatDoorLaw
import Derived.WideShapes
import Derived.Deep.Slices
set_option linter.all false
namespace Go.Proofs.YtnlgajlmjkfecaaGreatDoor
open Go.ChangeShapes Go.WideShapes Go.Deep

theorem event_slice : Tryz.prog.underlying 77 = some (.slice 108) := by kernel_rfl
theorem event_cells : Tryz.prog.cellsOf 108 = 8 := by kernel_rfl
def fieldsOk (P : Program) (t n : Nat) : Bool := match P.underlying t with
  | some (.struct fs) => (List.range n).all fun c => match fs[c]? with
    | some f => f.offset == c && P.cellsOf f.type == 1 && (match P.underlying f.type with | some (.int .i64) => true | _ => false)
    | none => false
  | _ => false
theorem event_fields : fieldsOk Tryz.prog 108 8 = true := by kernel_rfl
theorem fields_at {P : Program} {t n : Nat} (h : fieldsOk P t n = true) : ∃ fs, P.underlying t = some (.struct fs) ∧ ∀ c, c < n → ∃ f, fs[c]? = some f ∧ f.offset = c ∧ P.cellsOf f.type = 1 ∧ P.underlying f.type = some (.int .i64) := by
  unfold fieldsOk at h
  split at h
  · rename_i fs hfs
    refine ⟨fs, hfs, fun c hc => ?_⟩
    have := List.all_eq_true.1 h c (List.mem_range.2 hc)
    split at this
    · rename_i f hf
      simp only [Bool.and_eq_true, beq_iff_eq] at this
      refine ⟨f, hf, this.1.1, this.1.2, ?_⟩
      have h2 := this.2
      split at h2
      · assumption
      · cases h2
    · cases this
  · cases h

theorem cell_heap {W : World} {a : Addr} {v : Value} (h : W.cell? a = some v) : ∃ (arr : Array Value) (el : TypeId) (fz : Nat × Nat), W.heap[a.block]? = some (.cells arr el fz) ∧ a.spot = none ∧ arr[a.off]? = some v := by
  unfold World.cell? at h
  split at h
  · rename_i c el fz hc
    split at h
    · cases h
    · rename_i hs
      exact ⟨c, el, fz, hc, by simpa using hs, h⟩
  · cases h

theorem okWide_has {P : Program} {W : World} {r : Reach} {base : Nat} {t e : TypeId} {a : Addr} {len cap : Nat} (ht : P.underlying t = some (.slice e)) (h : Value.okWide P W r base t (.slice (some a) len cap)) : W.has P r base a e cap := by
  simp only [Value.okWide, ht, Cell.okWide, Cell.ok] at h
  exact h.2.2

set_option maxRecDepth 100000 in
theorem opened {H : Type} {enc : TypeId × Value → H} {W : World} {v : Value} {d : DataW H} {p : List MemPlace} {base : Nat} (hok : Value.okWide Tryz.prog W .any base 77 v) {fuel : Nat} {held : Bool}
    (h : DataW.trod enc Tryz.prog W 0 (fun _ => true) held fuel 77 [v] = some (d, p)) : v = .slice none 0 0 ∨ ∃ (e : Evs) (cap : Nat), v = .slice (some ⟨e.b, e.x, none⟩) e.n cap ∧ e.Fits W := by
  rcases open_slice event_slice h with ⟨h0, -⟩ | ⟨a, len, cap, m, n, D, Pl, hv, hb, hl, hm, hmm, -, hx⟩
  · left
    simpa using h0
  · right
    have hv : v = .slice (some a) len cap := by simpa using hv
    subst hv
    simp only [if_true] at hmm
    obtain ⟨-, hspot, row, cells, hshape, -⟩ := okWide_has (P := Tryz.prog) (t := 77) (e := 108) event_slice hok
    obtain ⟨ab, ao, asp⟩ := a
    dsimp only at hspot
    subst hspot
    obtain ⟨fs, hfs, hfield⟩ := fields_at event_fields
    have hblock : ∃ (arr : Array Value) (el : TypeId) (fz : Nat × Nat), W.heap[ab]? = some (.cells arr el fz) := by
      unfold World.shape? at hshape
      split at hshape
      · rename_i arr el fz hh
        exact ⟨arr, el, fz, hh⟩
      · cases hshape
    obtain ⟨arr, el, fz, hheap⟩ := hblock
    have hcell : ∀ i c, i < len → c < 8 → ∃ z : Int, arr[ao + i * 8 + c]? = some (.int .i64 z) ∧ z ≤ 9223372036854775807 := by
      intro i c hi hc
      obtain ⟨cs', h1, h2⟩ := hx i (by omega)
      rw [event_cells] at h1
      obtain ⟨_, hlen, hcell⟩ := World.cells?_some h1
      obtain ⟨xs, k, hk, -, -, hxl, hf⟩ := DataW.trod_struct hfs h2
      obtain ⟨f, hf1, hf2, hf3, hf4⟩ := hfield c hc
      have hfc := hf c f hf1
      rw [hf2, hf3] at hfc
      have hsome : ∃ y, xs[c]? = some y := by
        have : c < fs.size := (Array.getElem?_eq_some_iff.1 hf1).1
        exact ⟨_, List.getElem?_eq_getElem (by omega)⟩
      obtain ⟨y, hy⟩ := hsome
      rw [hy] at hfc
      obtain ⟨z, hz1, -, hz3⟩ := DataW.trod_int hf4 hfc
      have hcs : cs'[c]? = some (.int .i64 z) := by
        have := congrArg (fun l : List Value => l[0]?) hz1
        simpa [List.getElem?_take, List.getElem?_drop] using this
      have e0 := hcell c hc
      rw [hcs, add_add, add_plain] at e0
      obtain ⟨arr', el', fz', g1, -, g3⟩ := cell_heap e0
      have g1' : W.heap[ab]? = some (.cells arr' el' fz') := g1
      rw [hheap] at g1'
      have harr : arr = arr' := by
        simp only [Option.some.injEq, Obj.cells.injEq] at g1'
        exact g1'.1
      subst harr
      refine ⟨z, by rw [Nat.add_assoc]; exact g3, ?_⟩
      have : IntKind.i64.max = 9223372036854775807 := by decide
      simp only [Lit.wf, Bool.and_eq_true, decide_eq_true_eq] at hz3
      omega
    let ev : Nat → Nat → Int := fun i c => match arr[ao + i * 8 + c]? with | some (.int .i64 z) => if i < len ∧ c < 8 then z else 0 | _ => 0
    have hev : ∀ i c z, i < len → c < 8 → arr[ao + i * 8 + c]? = some (.int .i64 z) → ev i c = z := fun i c z hi hc hz => by
      simp only [ev, hz, if_pos (And.intro hi hc)]
    refine ⟨⟨ab, ao, len, ev⟩, cap, ?_, ?_, ?_, arr, el, fz, hheap, fun i c hi hc => ?_⟩
    · rfl
    · intro i
      by_cases hi : i < len
      · obtain ⟨z, hz, hmax⟩ := hcell i 5 hi (by omega)
        show ev i 5 ≤ _
        rw [hev i 5 z hi (by omega) hz]
        exact hmax
      · show ev i 5 ≤ _
        simp only [ev]
        split
        · rw [if_neg (by omega)]; omega
        · omega
    · have : maxLen ≤ 9223372036854775807 := by decide
      show len ≤ _
      omega
    · obtain ⟨z, hz, -⟩ := hcell i c hi hc
      show arr[ao + i * 8 + c]? = some (.int .i64 (ev i c))
      rw [hev i c z hi hc hz]
      exact hz
end Go.Proofs.YtnlgajlmjkfecaaGreatDoor
