/- An operation handed in: its six cells. -/
import Derived.Test.YtgnblahckpipiaaGreatDoorRunB
import Derived.WideShapes
set_option linter.all false
namespace Go.Proofs.YtgnblahckpipiaaGreatDoor
open Go.ChangeShapes Go.WideShapes Go.RX

def opShape : List (Nat × Nat × Option TypeDesc) := [(0, 1, some (.int .i64)), (1, 1, some (.int .i64)), (2, 1, some (.int .i64)), (3, 1, some (.int .i64)), (4, 1, some .bool), (5, 1, some .string)]
def shapeOf (P : Program) (t : TypeId) : Option (List (Nat × Nat × Option TypeDesc)) := match P.underlying t with
  | some (.struct fs) => some (fs.toList.map fun f => (f.offset, P.cellsOf f.type, P.underlying f.type))
  | _ => none
theorem op_shape : shapeOf Tryz.prog 23 = some opShape := by kernel_rfl
theorem op_under : ∃ fs, Tryz.prog.underlying 23 = some (.struct fs) ∧ (fs.toList.map fun f => (f.offset, Tryz.prog.cellsOf f.type, Tryz.prog.underlying f.type)) = opShape := by
  have h := op_shape
  unfold shapeOf at h
  split at h
  · rename_i fs hfs
    exact ⟨fs, hfs, by simpa using h⟩
  · cases h
theorem op_cells : Tryz.prog.cellsOf 23 = 6 := by kernel_rfl

theorem at_of_drop {l : List Value} {i : Nat} {v : Value} (h : (l.drop i).take 1 = [v]) : l[i]? = some v := by
  have := congrArg (fun l : List Value => l[0]?) h
  simpa [List.getElem?_take, List.getElem?_drop] using this

set_option maxRecDepth 100000 in
theorem op_open {H : Type} {enc : TypeId × Value → H} {w : World} {base : Nat} {sp : Nat → Bool} {held : Bool} {b0 : Nat} {v : Value} {d : DataW H} {ps : List MemPlace} (hval : Value.okWide Tryz.prog w .any b0 23 v) (h : DataW.Trod enc Tryz.prog w base sp held 23 v d ps) :
    ∃ (z0 z1 z2 z3 : Int) (b : Bool) (s : ByteArray), v = .agg #[.int .i64 z0, .int .i64 z1, .int .i64 z2, .int .i64 z3, .bool b, .string s] := by
  obtain ⟨fs, hfs, hk⟩ := op_under
  have hval2 := hval
  unfold Value.okWide at hval2
  rw [hfs] at hval2
  obtain ⟨cs, rfl, hsize, -⟩ := hval2
  rw [op_cells] at hsize
  obtain ⟨fuel, hf⟩ := h
  obtain ⟨xs, n, -, -, -, hxl, hel⟩ := DataW.trod_struct hfs hf
  simp only [Value.cells] at hel
  have at' : ∀ (i off c : Nat) (u : Option TypeDesc), opShape[i]? = some (off, c, u) →
      ∃ (f : Field) (x : DataW H × List MemPlace), f.offset = off ∧ Tryz.prog.cellsOf f.type = c ∧ Tryz.prog.underlying f.type = u ∧ DataW.trod enc Tryz.prog w base sp held n f.type ((cs.toList.drop off).take c) = some x := by
    intro i off c u hi
    rw [← hk, List.getElem?_map, Option.map_eq_some_iff] at hi
    obtain ⟨f, hf1, hf2⟩ := hi
    simp only [Prod.mk.injEq] at hf2
    obtain ⟨rfl, rfl, rfl⟩ := hf2
    have hf3 : fs[i]? = some f := by simpa using hf1
    have hlt := (Array.getElem?_eq_some_iff.1 hf3).1
    have := hel i f hf3
    rw [List.getElem?_eq_getElem (by omega : i < xs.length)] at this
    exact ⟨f, _, rfl, rfl, rfl, this⟩
  have int' : ∀ i : Nat, opShape[i]? = some (i, 1, some (TypeDesc.int .i64)) → ∃ z, cs.toList[i]? = some (Value.int .i64 z) := by
    intro i hi
    obtain ⟨f, x, h1, h2, h3, h4⟩ := at' i i 1 _ hi
    obtain ⟨z, hz, -, -⟩ := DataW.trod_int h3 h4
    exact ⟨z, at_of_drop hz⟩
  obtain ⟨z0, e0⟩ := int' 0 rfl
  obtain ⟨z1, e1⟩ := int' 1 rfl
  obtain ⟨z2, e2⟩ := int' 2 rfl
  obtain ⟨z3, e3⟩ := int' 3 rfl
  obtain ⟨f4, x4, -, -, g4, t4⟩ := at' 4 4 1 _ rfl
  obtain ⟨b, hb, -⟩ := DataW.trod_bool g4 t4
  have e4 := at_of_drop hb
  obtain ⟨f5, x5, -, -, g5, t5⟩ := at' 5 5 1 _ rfl
  obtain ⟨s, hs, -, -⟩ := DataW.trod_string g5 t5
  have e5 := at_of_drop hs
  refine ⟨z0, z1, z2, z3, b, s, ?_⟩
  congr 1
  apply Array.ext'
  apply List.ext_getElem?
  intro i
  match i with
  | 0 => exact e0
  | 1 => exact e1
  | 2 => exact e2
  | 3 => exact e3
  | 4 => exact e4
  | 5 => exact e5
  | i + 6 =>
    rw [List.getElem?_eq_none (by simp; omega), List.getElem?_eq_none (by simp)]
end Go.Proofs.YtgnblahckpipiaaGreatDoor
