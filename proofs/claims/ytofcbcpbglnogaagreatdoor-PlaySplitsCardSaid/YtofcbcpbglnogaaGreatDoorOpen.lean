/- The argument, opened: no operations; or operations in memory. -/
import Derived.Test.YtofcbcpbglnogaaGreatDoorLaw
import Derived.WideShapes
import Derived.Deep.Slices
set_option linter.all false
namespace Go.Proofs.YtofcbcpbglnogaaGreatDoor
open Go.ChangeShapes Go.WideShapes Go.Deep

theorem ops_slice : Tryz.prog.underlying 22 = some (.slice 30) := by kernel_rfl
theorem op_cells : Tryz.prog.cellsOf 30 = 6 := by kernel_rfl
def opShape : List (Nat × Nat × Option TypeDesc) := [(0, 1, some (.int .i64)), (1, 1, some (.int .i64)), (2, 1, some (.int .i64)), (3, 1, some (.int .i64)), (4, 1, some .bool), (5, 1, some .string)]
def shapeOf (P : Program) (t : TypeId) : Option (List (Nat × Nat × Option TypeDesc)) := match P.underlying t with
  | some (.struct fs) => some (fs.toList.map fun f => (f.offset, P.cellsOf f.type, P.underlying f.type))
  | _ => none
theorem op_shape : shapeOf Tryz.prog 30 = some opShape := by kernel_rfl
theorem op_under : ∃ fs, Tryz.prog.underlying 30 = some (.struct fs) ∧ (fs.toList.map fun f => (f.offset, Tryz.prog.cellsOf f.type, Tryz.prog.underlying f.type)) = opShape := by
  have h := op_shape
  unfold shapeOf at h
  split at h
  · rename_i fs hfs
    exact ⟨fs, hfs, by simpa using h⟩
  · cases h

theorem at_of_drop {l : List Value} {i : Nat} {v : Value} (h : (l.drop i).take 1 = [v]) : l[i]? = some v := by
  have := congrArg (fun l : List Value => l[0]?) h
  simpa [List.getElem?_take, List.getElem?_drop] using this
theorem cell_heap {W : World} {a : Addr} {v : Value} (h : W.cell? a = some v) : ∃ (arr : Array Value) (el : TypeId) (fz : Nat × Nat), W.heap[a.block]? = some (.cells arr el fz) ∧ a.spot = none ∧ arr[a.off]? = some v := by
  unfold World.cell? at h
  split at h
  · rename_i c el fz hc
    split at h
    · cases h
    · rename_i hs
      exact ⟨c, el, fz, hc, by simpa using hs, h⟩
  · cases h
theorem okWide_has {P : Program} {W : World} {r : Reach} {base : Nat} {t e : TypeId} {a : Addr} {len cap : Nat} (ht : P.underlying t = some (.slice e)) (h : Value.okWide P W r base t (.slice (some a) len cap)) : W.has P r base a e cap := by
  simp only [Value.okWide, ht, Cell.okWide, Cell.ok] at h
  exact h.2.2

def asInt : Option Value → Int
  | some (.int _ z) => z
  | _ => 0
def asBool : Option Value → Bool
  | some (.bool b) => b
  | _ => false
def asStr : Option Value → ByteArray
  | some (.string s) => s
  | _ => .empty

set_option maxRecDepth 100000 in
theorem opened {H : Type} {enc : TypeId × Value → H} {W : World} {v : Value} {d : DataW H} {p : List MemPlace} {base : Nat} (hok : Value.okWide Tryz.prog W .any base 22 v) {fuel : Nat} {held : Bool}
    (h : DataW.trod enc Tryz.prog W 0 (fun _ => true) held fuel 22 [v] = some (d, p)) : v = .slice none 0 0 ∨ ∃ (l : Ls) (cap : Nat), v = .slice (some ⟨l.b, l.x, none⟩) l.n cap ∧ l.n ≤ cap ∧ l.Lies W := by
  rcases open_slice ops_slice h with ⟨h0, -⟩ | ⟨a, len, cap, m, n, D, Pl, hv, hb, hl, hm, hmm, -, hx⟩
  · left
    simpa using h0
  · right
    have hv : v = .slice (some a) len cap := by simpa using hv
    subst hv
    simp only [if_true] at hmm
    obtain ⟨-, hspot, row, cells, hshape, -⟩ := okWide_has (P := Tryz.prog) (t := 22) (e := 30) ops_slice hok
    obtain ⟨ab, ao, asp⟩ := a
    dsimp only at hspot
    subst hspot
    obtain ⟨fs, hfs, hk⟩ := op_under
    have hblock : ∃ (arr : Array Value) (el : TypeId) (fz : Nat × Nat), W.heap[ab]? = some (.cells arr el fz) := by
      unfold World.shape? at hshape
      split at hshape
      · rename_i arr el fz hh
        exact ⟨arr, el, fz, hh⟩
      · cases hshape
    obtain ⟨arr, el, fz, hheap⟩ := hblock
    have field : ∀ i c u, i < len → opShape[c]? = some (c, 1, some u) → c < 6 → ∃ (f : Field) (x : DataW H × List MemPlace) (k : Nat) (w : Value), Tryz.prog.underlying f.type = some u ∧ DataW.trod enc Tryz.prog W 0 (fun _ => true) held k f.type [w] = some x ∧ arr[ao + i * 6 + c]? = some w := by
      intro i c u hi hc hc6
      obtain ⟨cs', h1, h2⟩ := hx i (by omega)
      rw [op_cells] at h1
      obtain ⟨_, hlen, hcell⟩ := World.cells?_some h1
      obtain ⟨xs, k, -, -, -, hxl, hf⟩ := DataW.trod_struct hfs h2
      have hc' := hc
      rw [← hk, List.getElem?_map, Option.map_eq_some_iff] at hc'
      obtain ⟨f, hf1, hf2⟩ := hc'
      simp only [Prod.mk.injEq] at hf2
      obtain ⟨e1, e2, e3⟩ := hf2
      have hf3 : fs[c]? = some f := by simpa using hf1
      have hlt := (Array.getElem?_eq_some_iff.1 hf3).1
      have hfc := hf c f hf3
      rw [List.getElem?_eq_getElem (by omega : c < xs.length), e1, e2] at hfc
      have hlc : c < cs'.length := by omega
      have hcs : cs'[c]? = some cs'[c] := List.getElem?_eq_getElem hlc
      have htake : (cs'.drop c).take 1 = [cs'[c]] := by
        rw [List.drop_eq_getElem_cons hlc]
        rfl
      rw [htake] at hfc
      have e0 := hcell c (by omega)
      rw [hcs, add_add, add_plain] at e0
      obtain ⟨arr', el', fz', g1, -, g3⟩ := cell_heap e0
      have g1' : W.heap[ab]? = some (.cells arr' el' fz') := g1
      rw [hheap] at g1'
      have harr : arr = arr' := by
        simp only [Option.some.injEq, Obj.cells.injEq] at g1'
        exact g1'.1
      subst harr
      exact ⟨f, _, k, cs'[c], e3, hfc, by rw [Nat.add_assoc]; exact g3⟩
    have fint : ∀ i c, i < len → opShape[c]? = some (c, 1, some (TypeDesc.int .i64)) → c < 6 → arr[ao + i * 6 + c]? = some (.int .i64 (asInt arr[ao + i * 6 + c]?)) := by
      intro i c hi hc hc6
      obtain ⟨f, x, k, w, h1, h2, h3⟩ := field i c _ hi hc hc6
      obtain ⟨z, hz, -, -⟩ := DataW.trod_int h1 h2
      simp only [List.cons.injEq, and_true] at hz
      rw [h3, hz]
      rfl
    have hmax : maxLen ≤ 9223372036854775807 := by decide
    refine ⟨⟨ab, ao, len, fun i => asInt arr[ao + i * 6 + 0]?, fun i => asInt arr[ao + i * 6 + 1]?, fun i => asInt arr[ao + i * 6 + 2]?, fun i => asInt arr[ao + i * 6 + 3]?, fun i => asBool arr[ao + i * 6 + 4]?, fun i => asStr arr[ao + i * 6 + 5]?⟩, cap, rfl, hl, ?_, arr, el, fz, hheap, fun i c hi hc => ?_⟩
    · show len ≤ 9223372036854775807
      omega
    · match c, hc with
      | 0, _ => exact fint i 0 hi rfl (by omega)
      | 1, _ => exact fint i 1 hi rfl (by omega)
      | 2, _ => exact fint i 2 hi rfl (by omega)
      | 3, _ => exact fint i 3 hi rfl (by omega)
      | 4, _ =>
        obtain ⟨f, x, k, w, h1, h2, h3⟩ := field i 4 _ hi rfl (by omega)
        obtain ⟨b, hb, -⟩ := DataW.trod_bool h1 h2
        simp only [List.cons.injEq, and_true] at hb
        rw [hb] at h3
        show arr[ao + i * 6 + 4]? = some (.bool (asBool arr[ao + i * 6 + 4]?))
        rw [h3]
        rfl
      | 5, _ =>
        obtain ⟨f, x, k, w, h1, h2, h3⟩ := field i 5 _ hi rfl (by omega)
        obtain ⟨s, hs, -, -⟩ := DataW.trod_string h1 h2
        simp only [List.cons.injEq, and_true] at hs
        rw [hs] at h3
        show arr[ao + i * 6 + 5]? = some (.string (asStr arr[ao + i * 6 + 5]?))
        rw [h3]
        rfl
      | c + 6, h => omega
end Go.Proofs.YtofcbcpbglnogaaGreatDoor
