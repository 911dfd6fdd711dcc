/- A setup handed in: no tasks, or tasks in memory; its other numbers. -/
import Derived.Test.YtoafolgibimgjaaGreatDoorP6
import Derived.WideShapes
import Derived.Deep.Slices
namespace Go.Proofs.YtoafolgibimgjaaGreatDoor
open Go.ChangeShapes Go.WideShapes Go.Deep

def setupShape : List (Nat × Nat × Option TypeDesc) := [(0, 1, some (.slice 28)), (1, 1, some (.int .u8)), (2, 1, some (.int .u8)), (3, 1, some (.int .u8)), (4, 1, some (.int .u8)), (5, 1, some (.int .u8)), (6, 1, some (.int .u64))]
def taskShape : List (Nat × Nat × Option TypeDesc) := [(0, 1, some (.int .u8)), (1, 1, some (.int .u8)), (2, 1, some (.int .u8)), (3, 1, some (.int .u8)), (4, 1, some (.int .u8)), (5, 1, some (.int .u8))]
def shapeOf (P : Program) (t : TypeId) : Option (List (Nat × Nat × Option TypeDesc)) := match P.underlying t with
  | some (.struct fs) => some (fs.toList.map fun f => (f.offset, P.cellsOf f.type, P.underlying f.type))
  | _ => none
theorem setup_shape : shapeOf Tryz.prog 25 = some setupShape := by kernel_rfl
theorem task_shape : shapeOf Tryz.prog 28 = some taskShape := by kernel_rfl
theorem shape_under {P : Program} {t : TypeId} {l : List (Nat × Nat × Option TypeDesc)} (h : shapeOf P t = some l) : ∃ fs, P.underlying t = some (.struct fs) ∧ (fs.toList.map fun f => (f.offset, P.cellsOf f.type, P.underlying f.type)) = l := by
  unfold shapeOf at h
  split at h
  · rename_i fs hfs
    exact ⟨fs, hfs, by simpa using h⟩
  · cases h
theorem setup_cells : Tryz.prog.cellsOf 25 = 7 := by kernel_rfl
theorem task_cells : Tryz.prog.cellsOf 28 = 6 := by kernel_rfl
theorem setup_types : Tryz.prog.cellTypes Tryz.prog.depth 25 = some [22, 5, 5, 5, 5, 5, 23] := by kernel_rfl
theorem tasks_slice : Tryz.prog.underlying 22 = some (.slice 28) := by kernel_rfl
theorem slice_type : ∃ fs, Tryz.prog.underlying 25 = some (.struct fs) ∧ (fs[0]?).map (·.type) = some 22 := by
  obtain ⟨fs, h, -⟩ := shape_under setup_shape
  refine ⟨fs, h, ?_⟩
  have : (match Tryz.prog.underlying 25 with | some (.struct fs) => (fs[0]?).map (·.type) | _ => none) = some 22 := by kernel_rfl
  rw [h] at this
  exact this

theorem at_of_drop {l : List Value} {i : Nat} {v : Value} (h : (l.drop i).take 1 = [v]) : l[i]? = some v := by
  have := congrArg (fun l : List Value => l[0]?) h
  simpa [List.getElem?_take, List.getElem?_drop] using this
theorem drop_of_at {l : List Value} {i : Nat} {v : Value} (h : l[i]? = some v) : (l.drop i).take 1 = [v] := by
  obtain ⟨hlt, rfl⟩ := List.getElem?_eq_some_iff.1 h
  rw [List.drop_eq_getElem_cons hlt]
  rfl

theorem u8_range {z : Int} (h : (Lit.int .u8 z).wf = true) : 0 ≤ z ∧ z ≤ 255 := by
  have h1 : IntKind.u8.min = 0 := by decide
  have h2 : IntKind.u8.max = 255 := by decide
  simp only [Lit.wf, Bool.and_eq_true, decide_eq_true_eq, h1, h2] at h
  exact h
theorem u16_range {z : Int} (h : (Lit.int .u16 z).wf = true) : 0 ≤ z ∧ z ≤ 65535 := by
  have h1 : IntKind.u16.min = 0 := by decide
  have h2 : IntKind.u16.max = 65535 := by decide
  simp only [Lit.wf, Bool.and_eq_true, decide_eq_true_eq, h1, h2] at h
  exact h
theorem u64_range {z : Int} (h : (Lit.int .u64 z).wf = true) : 0 ≤ z ∧ z ≤ 18446744073709551615 := by
  have h1 : IntKind.u64.min = 0 := by decide
  have h2 : IntKind.u64.max = 18446744073709551615 := by decide
  simp only [Lit.wf, Bool.and_eq_true, decide_eq_true_eq, h1, h2] at h
  exact h

theorem cell_heap {W : World} {a : Addr} {v : Value} (h : W.cell? a = some v) : ∃ (arr : Array Value) (el : TypeId) (fz : Nat × Nat), W.heap[a.block]? = some (.cells arr el fz) ∧ a.spot = none ∧ arr[a.off]? = some v := by
  unfold World.cell? at h
  split at h
  · rename_i c el fz hc
    split at h
    · cases h
    · rename_i hs
      exact ⟨c, el, fz, hc, by simpa using hs, h⟩
  · cases h

/-- The tasks: none; or in memory. -/
def TasksAt (W : World) (v : Value) : Prop := v = .slice none 0 0 ∨ ∃ (b x n cap : Nat) (cell : Nat → Nat → Int), v = .slice (some ⟨b, x, none⟩) n cap ∧ n ≤ cap ∧ n ≤ 9223372036854775807 ∧ (∀ i c, 0 ≤ cell i c ∧ cell i c ≤ 255) ∧
  ∃ (arr : Array Value) (el : TypeId) (fz : Nat × Nat), W.heap[b]? = some (.cells arr el fz) ∧ ∀ i c, i < n → c < 6 → arr[x + i * 6 + c]? = some (.int .u8 (cell i c))

set_option maxRecDepth 100000 in
theorem tasks_open {H : Type} {enc : TypeId × Value → H} {W : World} {v : Value} {x : DataW H × List MemPlace} {base b0 : Nat} {sp : Nat → Bool} (hok : Cell.okWide Tryz.prog W .any b0 22 v) {fuel : Nat} {held : Bool}
    (h : DataW.trod enc Tryz.prog W base sp held fuel 22 [v] = some x) : TasksAt W v := by
  rcases open_slice tasks_slice h with ⟨h0, -⟩ | ⟨a, len, cap, m, n, D, Pl, hv, hb, hl, hm, hmm, -, hx⟩
  · left
    simpa using h0
  · right
    have hv : v = .slice (some a) len cap := by simpa using hv
    subst hv
    have hlm : len ≤ m := by rw [hmm]; split <;> omega
    have hhas : Tryz.prog.underlying 22 = some (.slice 28) := tasks_slice
    simp only [Cell.okWide, hhas, Cell.ok] at hok
    obtain ⟨-, hspot, row, cells, hshape, -⟩ := hok.2.2
    obtain ⟨ab, ao, asp⟩ := a
    dsimp only at hspot
    subst hspot
    obtain ⟨fs, hfs, hk⟩ := shape_under task_shape
    have hblock : ∃ (arr : Array Value) (el : TypeId) (fz : Nat × Nat), W.heap[ab]? = some (.cells arr el fz) := by
      unfold World.shape? at hshape
      split at hshape
      · rename_i arr el fz hh
        exact ⟨arr, el, fz, hh⟩
      · cases hshape
    obtain ⟨arr, el, fz, hheap⟩ := hblock
    have hcell : ∀ i c, i < len → c < 6 → ∃ z : Int, arr[ao + i * 6 + c]? = some (.int .u8 z) ∧ 0 ≤ z ∧ z ≤ 255 := by
      intro i c hi hc
      obtain ⟨cs', h1, h2⟩ := hx i (by omega)
      rw [task_cells] at h1
      obtain ⟨_, hlen, hcell⟩ := World.cells?_some h1
      obtain ⟨xs, k, -, -, -, hxl, hf⟩ := DataW.trod_struct hfs h2
      have hsh : ∀ c, c < 6 → taskShape[c]? = some (c, 1, some (.int .u8)) := fun c hc => by
        match c, hc with
        | 0, _ => rfl
        | 1, _ => rfl
        | 2, _ => rfl
        | 3, _ => rfl
        | 4, _ => rfl
        | 5, _ => rfl
        | c + 6, h => omega
      have hc' := hsh c hc
      rw [← hk, List.getElem?_map, Option.map_eq_some_iff] at hc'
      obtain ⟨f, hf1, hf2⟩ := hc'
      simp only [Prod.mk.injEq] at hf2
      obtain ⟨e1, e2, e3⟩ := hf2
      have hf3 : fs[c]? = some f := by simpa using hf1
      have hlt := (Array.getElem?_eq_some_iff.1 hf3).1
      have hfc := hf c f hf3
      rw [List.getElem?_eq_getElem (by omega : c < xs.length), e1, e2] at hfc
      obtain ⟨z, hz1, -, hz3⟩ := DataW.trod_int e3 hfc
      have hcs := at_of_drop hz1
      have e0 := hcell c hc
      rw [hcs, add_add, add_plain] at e0
      obtain ⟨arr', el', fz', g1, -, g3⟩ := cell_heap e0
      have g1' : W.heap[ab]? = some (.cells arr' el' fz') := g1
      rw [hheap] at g1'
      have harr : arr = arr' := by
        simp only [Option.some.injEq, Obj.cells.injEq] at g1'
        exact g1'.1
      subst harr
      exact ⟨z, by rw [Nat.add_assoc]; exact g3, u8_range hz3⟩
    refine ⟨ab, ao, len, cap, fun i c => match arr[ao + i * 6 + c]? with | some (.int .u8 z) => if i < len ∧ c < 6 then z else 0 | _ => 0, rfl, hl, ?_, fun i c => ?_, arr, el, fz, hheap, fun i c hi hc => ?_⟩
    · have : maxLen ≤ 9223372036854775807 := by decide
      omega
    · by_cases hic : i < len ∧ c < 6
      · obtain ⟨z, hz, h1, h2⟩ := hcell i c hic.1 hic.2
        simp only [hz, if_pos hic]
        exact ⟨h1, h2⟩
      · simp only [if_neg hic]
        split <;> omega
    · obtain ⟨z, hz, -⟩ := hcell i c hi hc
      simp only [hz, if_pos (And.intro hi hc)]

set_option maxRecDepth 100000 in
theorem setup_open {H : Type} {enc : TypeId × Value → H} {w : World} {base : Nat} {sp : Nat → Bool} {held : Bool} {b0 : Nat} {v : Value} {d : DataW H} {ps : List MemPlace} (hval : Value.okWide Tryz.prog w .any b0 25 v) (h : DataW.Trod enc Tryz.prog w base sp held 25 v d ps) :
    ∃ (l : Value) (z0 z1 z2 z3 z4 z5 : Int), v = .agg #[l, .int .u8 z0, .int .u8 z1, .int .u8 z2, .int .u8 z3, .int .u8 z4, .int .u64 z5] ∧ TasksAt w l ∧ (0 ≤ z0 ∧ z0 ≤ 255) ∧ (0 ≤ z1 ∧ z1 ≤ 255) ∧ (0 ≤ z2 ∧ z2 ≤ 255) ∧ (0 ≤ z3 ∧ z3 ≤ 255) ∧ (0 ≤ z4 ∧ z4 ≤ 255) ∧ (0 ≤ z5 ∧ z5 ≤ 18446744073709551615) := by
  obtain ⟨fs, hfs, hk⟩ := shape_under setup_shape
  obtain ⟨fs', hfs', hty⟩ := slice_type
  have hval2 := hval
  unfold Value.okWide at hval2
  rw [hfs] at hval2
  obtain ⟨cs, rfl, hsize, hrow⟩ := hval2
  obtain ⟨ts, hts, -, hcells⟩ := hrow
  rw [setup_types] at hts
  simp only [Option.some.injEq] at hts
  subst hts
  rw [setup_cells] at hsize
  obtain ⟨fuel, hf⟩ := h
  obtain ⟨xs, n, -, -, -, hxl, hel⟩ := DataW.trod_struct hfs hf
  simp only [Value.cells] at hel
  have at' : ∀ (i off c : Nat) (u : Option TypeDesc), setupShape[i]? = some (off, c, u) →
      ∃ (f : Field) (x : DataW H × List MemPlace), fs[i]? = some f ∧ f.offset = off ∧ Tryz.prog.cellsOf f.type = c ∧ Tryz.prog.underlying f.type = u ∧ DataW.trod enc Tryz.prog w base sp held n f.type ((cs.toList.drop off).take c) = some x := by
    intro i off c u hi
    rw [← hk, List.getElem?_map, Option.map_eq_some_iff] at hi
    obtain ⟨f, hf1, hf2⟩ := hi
    simp only [Prod.mk.injEq] at hf2
    obtain ⟨rfl, rfl, rfl⟩ := hf2
    have hf3 : fs[i]? = some f := by simpa using hf1
    have hlt := (Array.getElem?_eq_some_iff.1 hf3).1
    have := hel i f hf3
    rw [List.getElem?_eq_getElem (by omega : i < xs.length)] at this
    exact ⟨f, _, hf3, rfl, rfl, rfl, this⟩
  have u8' : ∀ i : Nat, setupShape[i]? = some (i, 1, some (TypeDesc.int .u8)) → ∃ z, cs.toList[i]? = some (Value.int .u8 z) ∧ (0 ≤ z ∧ z ≤ 255) := by
    intro i hi
    obtain ⟨f, x, -, h1, h2, h3, h4⟩ := at' i i 1 _ hi
    obtain ⟨z, hz, -, hw⟩ := DataW.trod_int h3 h4
    exact ⟨z, at_of_drop hz, u8_range hw⟩
  obtain ⟨z0, e0, r0⟩ := u8' 1 rfl
  obtain ⟨z1, e1, r1⟩ := u8' 2 rfl
  obtain ⟨z2, e2, r2⟩ := u8' 3 rfl
  obtain ⟨z3, e3, r3⟩ := u8' 4 rfl
  obtain ⟨z4, e4, r4⟩ := u8' 5 rfl
  obtain ⟨f5, x5, -, -, -, g5, t5⟩ := at' 6 6 1 _ rfl
  obtain ⟨z5, hz5, -, hw5⟩ := DataW.trod_int g5 t5
  have e5 := at_of_drop hz5
  have hl0 : 0 < cs.toList.length := by simp; omega
  have el : cs.toList[0]? = some cs.toList[0] := List.getElem?_eq_getElem hl0
  obtain ⟨f, x, hf0, -, -, gl, tl⟩ := at' 0 0 1 _ rfl
  rw [drop_of_at el] at tl
  have htf : f.type = 22 := by
    rw [hfs] at hfs'
    simp only [Option.some.injEq, TypeDesc.struct.injEq] at hfs'
    subst hfs'
    rw [hf0] at hty
    simpa using hty
  rw [htf] at tl
  have hcell0 : Cell.okWide Tryz.prog w .any b0 22 cs.toList[0] := by
    obtain ⟨u, hu, hok⟩ := hcells 0 cs.toList[0] (by rw [← Array.getElem?_toList]; exact el)
    simp at hu
    subst hu
    exact hok
  refine ⟨cs.toList[0], z0, z1, z2, z3, z4, z5, ?_, tasks_open hcell0 tl, r0, r1, r2, r3, r4, u64_range hw5⟩
  congr 1
  apply Array.ext'
  apply List.ext_getElem?
  intro i
  match i with
  | 0 => exact el
  | 1 => exact e0
  | 2 => exact e1
  | 3 => exact e2
  | 4 => exact e3
  | 5 => exact e4
  | 6 => exact e5
  | i + 7 =>
    rw [List.getElem?_eq_none (by simp; omega), List.getElem?_eq_none (by simp)]
end Go.Proofs.YtoafolgibimgjaaGreatDoor
