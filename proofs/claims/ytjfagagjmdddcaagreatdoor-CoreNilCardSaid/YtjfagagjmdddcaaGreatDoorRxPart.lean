/- What an operation of a drawn region looks at: the objects that its operands name; objects that are surely the same. -/
import Derived.Test.YtjfagagjmdddcaaGreatDoorRxReg3
set_option linter.all false
namespace Go.RX
open Sym

/-! ### Objects that are the same -/
theorem boolEq_sound : ∀ {a b : Bool}, boolEq a b = true → a = b
  | true, true, _ => rfl
  | false, false, _ => rfl
  | true, false, h => by cases h
  | false, true, h => by cases h

theorem capEq_sound {a b : SCap} (h : capEq a b = true) : a = b := by
  unfold capEq at h
  split at h
  · rw [Nat.eq_of_beq_eq_true h]
  · split at h
    · rename_i h1
      rw [Nat.eq_of_beq_eq_true h1, Nat.eq_of_beq_eq_true h]
    · cases h
  · cases h

theorem strEq_same {a b : ByteArray} (h : strEq a b = true) : a = b := by
  unfold strEq at h
  have : a.data.toList = b.data.toList := by simpa using h
  exact ByteArray.ext (Array.ext' this)

mutual
theorem svEq_sound : ∀ (a b : SV), svEq a b = true → a = b
  | .bool a, y, h => by
    simp only [svEq] at h
    split at h
    · rw [boolEq_sound h]
    · cases h
  | .int k a, y, h => by
    simp only [svEq] at h
    split at h
    · split at h
      · rename_i h1
        rw [kindEq_eq] at h1
        rw [eqb_eq] at h
        rw [of_decide_eq_true h1, of_decide_eq_true h]
      · cases h
    · cases h
  | .string a, y, h => by
    simp only [svEq] at h
    split at h
    · rw [strEq_same h]
    · cases h
  | .ptr i a, y, h => by
    simp only [svEq] at h
    split at h
    · split at h
      · rename_i h1
        rw [Nat.eq_of_beq_eq_true h1, Nat.eq_of_beq_eq_true h]
      · cases h
    · cases h
  | .gptr i a, y, h => by
    simp only [svEq] at h
    split at h
    · split at h
      · rename_i h1
        rw [Nat.eq_of_beq_eq_true h1, Nat.eq_of_beq_eq_true h]
      · cases h
    · cases h
  | .nilptr, y, h => by
    simp only [svEq] at h
    split at h
    · rfl
    · cases h
  | .slice i a n c, y, h => by
    simp only [svEq] at h
    split at h
    · split at h
      · rename_i h1 h2 h3
        rw [Nat.eq_of_beq_eq_true h1, Nat.eq_of_beq_eq_true h2, Nat.eq_of_beq_eq_true h3, capEq_sound h]
      · cases h
    · cases h
  | .nilslice, y, h => by
    simp only [svEq] at h
    split at h
    · rfl
    · cases h
  | .map i, y, h => by
    simp only [svEq] at h
    split at h
    · rw [Nat.eq_of_beq_eq_true h]
    · cases h
  | .nilmap, y, h => by
    simp only [svEq] at h
    split at h
    · rfl
    · cases h
  | .func f a c, y, h => by
    simp only [svEq] at h
    split at h
    · split at h
      · rename_i h1 h2
        rw [Nat.eq_of_beq_eq_true h1, svsEq_sound _ _ h2, svsEq_sound _ _ h]
      · cases h
    · cases h
  | .yield i, y, h => by
    simp only [svEq] at h
    split at h
    · rw [Nat.eq_of_beq_eq_true h]
    · cases h
  | .nilfunc, y, h => by
    simp only [svEq] at h
    split at h
    · rfl
    · cases h
  | .nilIface, y, h => by
    simp only [svEq] at h
    split at h
    · rfl
    · cases h
  | .iface t v, y, h => by
    simp only [svEq] at h
    split at h
    · split at h
      · rename_i h1
        rw [Nat.eq_of_beq_eq_true h1, svEq_sound _ _ h]
      · cases h
    · cases h
  | .agg a, y, h => by
    simp only [svEq] at h
    split at h
    · rw [svsEq_sound _ _ h]
    · cases h
  | .row i, y, h => by
    simp only [svEq] at h
    split at h
    · rw [Nat.eq_of_beq_eq_true h]
    · cases h
  | .sint _ _, _, h => by simp [svEq] at h
  | .atLeast _, _, h => by simp [svEq] at h
  | .sstr _, _, h => by simp [svEq] at h
  | .rptr _ _ _, _, h => by simp [svEq] at h
  | .tuple _, _, h => by simp [svEq] at h
  | .blur, _, h => by simp [svEq] at h
  | .unknown, _, h => by simp [svEq] at h
theorem svsEq_sound : ∀ (a b : List SV), svsEq a b = true → a = b
  | [], y, h => by
    simp only [svsEq] at h
    split at h
    · rfl
    · cases h
  | a :: as, y, h => by
    simp only [svsEq] at h
    split at h
    · split at h
      · rename_i h1
        rw [svEq_sound _ _ h1, svsEq_sound _ _ h]
      · cases h
    · cases h
end

theorem entsEq_sound : ∀ (a b : List (SV × SV × Nat)), entsEq a b = true → a = b
  | [], y, h => by
    simp only [entsEq] at h
    split at h
    · rfl
    · cases h
  | (k, v, n) :: es, y, h => by
    simp only [entsEq] at h
    split at h
    · split at h
      · rename_i h1 h2 h3
        rw [Nat.eq_of_beq_eq_true h1, svEq_sound _ _ h2, svEq_sound _ _ h3, entsEq_sound _ _ h]
      · cases h
    · cases h

theorem objEq_sound {a b : Option SObj} (h : objEq a b = true) : a = b := by
  unfold objEq at h
  split at h
  · rfl
  · split at h
    · rename_i h1
      rw [Nat.eq_of_beq_eq_true h1, svsEq_sound _ _ h]
    · cases h
  · split at h
    · rename_i h1
      rw [Nat.eq_of_beq_eq_true h1, entsEq_sound _ _ h]
    · cases h
  · cases h

/-! ### What is looked at -/
theorem put_total (S : SW) (id : Nat) (o : Option SObj) : ∃ S', Sym.put S id o = some S' := by
  unfold Sym.put
  have := Tr.set_isNode none o (path id) S.heap
  cases h : Tr.set none o (path id) S.heap with
  | nil => rw [h] at this; exact absurd this (by simp [Tr.isNode])
  | node l x r =>
    simp only
    split
    · exact ⟨_, rfl⟩
    · rw [force_eq]; exact ⟨_, rfl⟩

theorem new_total (S : SW) (o : SObj) : ∃ S', Sym.new S o = some (S.next, S') := by
  unfold Sym.new
  rw [force_eq]
  have := Tr.set_isNode none (some o) (path S.next) S.heap
  cases h : Tr.set none (some o) (path S.next) S.heap with
  | nil => rw [h] at this; exact absurd this (by simp [Tr.isNode])
  | node l x r => exact ⟨_, rfl⟩

/-- A step that looks at some objects alone (ob), and makes new ones. -/
structure PartAt (run : SW → Option (SV × SW)) (ob : List Nat) (S S' : SW) (v : SV) : Prop where
  rest : ∀ id, id ∉ ob → id < S.next → S'.at id = S.at id
  part : ∀ S2 : SW, S2.next = S.next → (∀ id, id ∈ ob → S2.at id = S.at id) → ∃ S2', run S2 = some (v, S2') ∧ S2'.next = S'.next ∧
    (∀ id, id ∈ ob ∨ (S.next ≤ id ∧ id < S'.next) → S2'.at id = S'.at id) ∧ ∀ id, id ∉ ob → id < S.next → S2'.at id = S2.at id

/-- The states that look the same. -/
def Agrees (ob : List Nat) (S S2 : SW) : Prop := S2.next = S.next ∧ ∀ id, id ∈ ob → S2.at id = S.at id

theorem Agrees.hget {ob : List Nat} {S S2 : SW} (h : Agrees ob S S2) {id : Nat} (hi : id ∈ ob) : Sym.hget S2 id = Sym.hget S id := h.2 id hi

section
variable {run : SW → Option (SV × SW)} {ob : List Nat} {S S' S1 : SW} {v : SV}

theorem PartAt.same (h : ∀ S2, Agrees ob S S2 → run S2 = some (v, S2)) : PartAt run ob S S v :=
  ⟨fun _ _ _ => rfl, fun S2 hn ha => ⟨S2, h S2 ⟨hn, ha⟩, hn, fun id hi => by
    rcases hi with hi | ⟨h1, h2⟩
    · exact ha id hi
    · omega, fun _ _ _ => rfl⟩⟩

theorem PartAt.of_put {id : Nat} {o : Option SObj} (hid : id ∈ ob) (h : Sym.put S id o = some S') (hrun : ∀ S2 S2', Agrees ob S S2 → Sym.put S2 id o = some S2' → run S2 = some (v, S2')) : PartAt run ob S S' v := by
  obtain ⟨q1, -, -, q4⟩ := put_some h
  refine ⟨fun j hj _ => by rw [q4, if_neg (fun e => hj (by rw [e]; exact hid))], fun S2 hn ha => ?_⟩
  obtain ⟨S2', hp⟩ := put_total S2 id o
  obtain ⟨r1, -, -, r4⟩ := put_some hp
  refine ⟨S2', hrun S2 S2' ⟨hn, ha⟩ hp, by rw [r1, q1, hn], fun j hj => ?_, fun j hj _ => by rw [r4, if_neg (fun e => hj (by rw [e]; exact hid))]⟩
  rcases hj with hj | ⟨h1, h2⟩
  · rw [r4, q4]
    split
    · rfl
    · exact ha j hj
  · rw [q1] at h2; omega

theorem PartAt.of_new {id : Nat} {o : SObj} (h : Sym.new S o = some (id, S')) (hrun : ∀ S2 S2', Agrees ob S S2 → Sym.new S2 o = some (id, S2') → run S2 = some (v, S2')) : PartAt run ob S S' v := by
  obtain ⟨rfl, q1, -, q4⟩ := new_some h
  refine ⟨fun j _ hj => by rw [q4, if_neg (by omega)], fun S2 hn ha => ?_⟩
  obtain ⟨S2', hp⟩ := new_total S2 o
  obtain ⟨-, r1, -, r4⟩ := new_some hp
  rw [hn] at hp
  refine ⟨S2', hrun S2 S2' ⟨hn, ha⟩ hp, by rw [r1, q1, hn], fun j hj => ?_, fun j _ hj => by rw [r4, if_neg (by omega)]⟩
  rcases hj with hj | ⟨h1, h2⟩
  · rw [r4, q4, hn]
    split
    · rfl
    · exact ha j hj
  · have : j = S.next := by omega
    subst this
    rw [r4, q4, hn]; simp

theorem PartAt.of_kill_new {id i : Nat} {o : SObj} (hid : id ∈ ob) (h1 : Sym.put S id none = some S1) (h : Sym.new S1 o = some (i, S'))
    (hrun : ∀ S2 S3 S2', Agrees ob S S2 → Sym.put S2 id none = some S3 → Sym.new S3 o = some (i, S2') → run S2 = some (v, S2')) : PartAt run ob S S' v := by
  obtain ⟨p1, -, -, p4⟩ := put_some h1
  obtain ⟨rfl, q1, -, q4⟩ := new_some h
  refine ⟨fun j hj hl => by rw [q4, if_neg (by omega), p4, if_neg (fun e => hj (by rw [e]; exact hid))], fun S2 hn ha => ?_⟩
  obtain ⟨S3, hp⟩ := put_total S2 id none
  obtain ⟨r1, -, -, r4⟩ := put_some hp
  obtain ⟨S2', hq⟩ := new_total S3 o
  obtain ⟨-, s1, -, s4⟩ := new_some hq
  have e : S3.next = S1.next := by rw [r1, p1, hn]
  rw [e] at hq
  refine ⟨S2', hrun S2 S3 S2' ⟨hn, ha⟩ hp hq, by omega, fun j hj => ?_, fun j hj hl => by rw [s4, if_neg (by omega), r4, if_neg (fun e => hj (by rw [e]; exact hid))]⟩
  rcases hj with hj | ⟨h1, h2⟩
  · rw [s4, q4, e, r4, p4]
    split
    · rfl
    · split
      · rfl
      · exact ha j hj
  · have : j = S1.next := by omega
    subst this
    rw [s4, q4, e]; simp
end

/-! ### The operations -/
section
variable {E : Env} {cx : Cx} {o : Oper} {k : KOp} {S S' S2 : SW}

theorem mem_named_ptr {id off : Nat} : id ∈ named (.ptr id off) := by simp [named]
theorem mem_named_slice {id off n : Nat} {c : SCap} : id ∈ named (.slice id off n c) := by simp [named]
theorem mem_named_map {id : Nat} : id ∈ named (.map id) := by simp [named]

theorem loadW_agree {wd : Option Nat} {a v : SV} {ob : List Nat} (hob : ∀ i ∈ named a, i ∈ ob) (ha : Agrees ob S S2) (h : loadW E S wd a = some v) : loadW E S2 wd a = some v := by
  unfold loadW at h ⊢
  split at h
  · rename_i id off

    rw [ha.hget (hob _ mem_named_ptr)]; exact h
  · exact h
  · exact h
  · cases h

theorem entries_agree {x : SV} {ob : List Nat} (hob : ∀ i ∈ named x, i ∈ ob) (ha : Agrees ob S S2) : entries S2 x = entries S x := by
  unfold entries
  split
  · rfl
  · rw [ha.hget (hob _ mem_named_map)]
  · rfl

theorem lookupV_agree {kd : TypeDesc} {z x y : SV} {ok : Bool} {ob : List Nat} (hob : ∀ i ∈ named x, i ∈ ob) (ha : Agrees ob S S2) : lookupV kd z ok S2 x y = lookupV kd z ok S x y := by
  unfold lookupV
  rw [entries_agree hob ha]

theorem firstCells_agree {size n : Nat} {x : SV} {ob : List Nat} (hob : ∀ i ∈ named x, i ∈ ob) (ha : Agrees ob S S2) : Sym.firstCells S2 size n x = Sym.firstCells S size n x := by
  unfold Sym.firstCells
  split
  · rw [ha.hget (hob _ mem_named_slice)]
  · rfl
  · rfl
  · rfl

theorem storeAt_part {id off : Nat} {vs : List SV} {ob : List Nat} {run : SW → Option (SV × SW)} {v : SV} (hid : id ∈ ob) (h : storeAt S id off vs = some S')
    (hrun : ∀ S2 S2', Agrees ob S S2 → storeAt S2 id off vs = some S2' → run S2 = some (v, S2')) : PartAt run ob S S' v := by
  unfold storeAt at h
  split at h
  · rename_i cs el hg
    split at h
    · rename_i hs
      split at h
      · rename_i cs' hsp
        refine .of_put hid h fun S2 S2' ha hp => hrun S2 S2' ha ?_
        simp only [storeAt, ha.hget hid, hg, hs, hsp, hp]
      · cases h
    · cases h
  · cases h

theorem storeW_part {n : Nat} {a x : SV} {ob : List Nat} (hob : ∀ i ∈ named a, i ∈ ob) (h : storeW S n a x = some S') : PartAt (fun w => done (storeW w n a x)) ob S S' .undef := by
  unfold storeW at h
  split at h
  · rename_i id off
    split at h
    · rename_i hb
      refine storeAt_part (hob _ mem_named_ptr) h fun S2 S2' ha h2 => ?_
      simp only [storeW, hb, h2, done]
    · cases h
  · cases h

theorem updateV_part {kd : TypeDesc} {x y z : SV} {ob : List Nat} (hob : ∀ i ∈ named x, i ∈ ob) (h : updateV kd S x y z = some S') : PartAt (fun w => done (updateV kd w x y z)) ob S S' .undef := by
  unfold updateV at h
  split at h
  · rename_i id
    have hid := hob _ mem_named_map
    split at h
    · rename_i es c hg
      split at h
      · rename_i hf
        split at h
        · rename_i es' hs
          refine .of_put hid h fun S2 S2' ha hp => ?_
          simp only [updateV, ha.hget hid, hg, hf, hs, hp, done]
        · cases h
      · rename_i hf
        rw [force_eq] at h
        refine .of_put hid h fun S2 S2' ha hp => ?_
        simp only [updateV, ha.hget hid, hg, hf, force_eq, hp, done]
      · cases h
    · cases h
  · cases h

theorem deleteV_part {kd : TypeDesc} {x y : SV} {ob : List Nat} (hob : ∀ i ∈ named x, i ∈ ob) (h : deleteV kd S x y = some S') : PartAt (fun w => done (deleteV kd w x y)) ob S S' .undef := by
  unfold deleteV at h
  split at h
  · simp only [Option.some.injEq] at h; subst h
    exact .same fun S2 _ => rfl
  · rename_i id
    have hid := hob _ mem_named_map
    split at h
    · rename_i es c hg
      split at h
      · rename_i es' hs
        refine .of_put hid h fun S2 S2' ha hp => ?_
        simp only [deleteV, ha.hget hid, hg, hs, hp, done]
      · cases h
    · cases h
  · cases h

theorem estoreV_part {x y z : SV} {ob : List Nat} (hob : ∀ i ∈ named x, i ∈ ob) (h : estoreV S x y z = some S') : PartAt (fun w => done (estoreV w x y z)) ob S S' .undef := by
  unfold estoreV at h
  split at h
  · rename_i id
    have hid := hob _ mem_named_map
    split at h
    · rename_i es c n hg hn
      split at h
      · rename_i es' hs
        refine .of_put hid h fun S2 S2' ha hp => ?_
        simp only [estoreV, ha.hget hid, hg, hn, hs, hp, done]
      · cases h
    · cases h
  · cases h

theorem entryV_part {kd : TypeDesc} {z x y v : SV} {ob : List Nat} (hob : ∀ i ∈ named x, i ∈ ob) (h : entryV kd z S x y = some (v, S')) : PartAt (fun w => entryV kd z w x y) ob S S' v := by
  unfold entryV at h
  split at h
  · rename_i id
    have hid := hob _ mem_named_map
    split at h
    · rename_i es c hg
      split at h
      · rename_i u n hf
        split at h
        · rename_i S1 hp0
          simp only [Option.some.injEq, Prod.mk.injEq] at h
          obtain ⟨rfl, rfl⟩ := h
          refine .of_put hid hp0 fun S2 S2' ha hp => ?_
          simp only [entryV, ha.hget hid, hg, hf, hp]
        · cases h
      · rename_i hf
        rw [force_eq] at h
        split at h
        · rename_i S1 hp0
          simp only [Option.some.injEq, Prod.mk.injEq] at h
          obtain ⟨rfl, rfl⟩ := h
          refine .of_put hid hp0 fun S2 S2' ha hp => ?_
          simp only [entryV, ha.hget hid, hg, hf, force_eq, hp]
        · cases h
      · cases h
    · cases h
  · cases h

theorem clearV_part {z : List SV} {x : SV} {ob : List Nat} (hob : ∀ i ∈ named x, i ∈ ob) (h : clearV z S x = some S') : PartAt (fun w => done (clearV z w x)) ob S S' .undef := by
  unfold clearV at h
  split at h
  · simp only [Option.some.injEq] at h; subst h
    exact .same fun S2 _ => rfl
  · rename_i id off len c
    split at h
    · simp only [Option.some.injEq] at h; subst h
      exact .same fun S2 _ => rfl
    · refine storeAt_part (hob _ mem_named_slice) h fun S2 S2' ha h2 => ?_
      simp only [clearV, h2, done]
  · cases h

theorem copyV_part {size : Nat} {x y v : SV} {ob : List Nat} (hob : ∀ i ∈ named x, i ∈ ob) (hob2 : ∀ i ∈ named y, i ∈ ob) (h : copyV size S x y = some (v, S')) : PartAt (fun w => copyV size w x y) ob S S' v := by
  unfold copyV at h
  split at h
  · cases h
  · rename_i m hm
    split at h
    · simp only [Option.some.injEq, Prod.mk.injEq] at h
      obtain ⟨rfl, rfl⟩ := h
      exact .same fun S2 _ => by simp only [copyV, hm]
    · rename_i id off len c
      split at h
      · rename_i cs hc
        split at h
        · rename_i S1 hst
          obtain ⟨h1, rfl⟩ : Sym.int .i64 (min m len : Nat) = some v ∧ S' = S1 := by
            unfold withW at h
            split at h
            · rename_i u hu
              simp only [Option.some.injEq, Prod.mk.injEq] at h
              obtain ⟨rfl, rfl⟩ := h
              exact ⟨hu, rfl⟩
            · cases h
          refine storeAt_part (hob _ mem_named_slice) hst fun S2 S2' ha h2 => ?_
          simp only [copyV, hm, firstCells_agree hob2 ha, hc, h2, withW, h1]
        · cases h
      · cases h
    · cases h

theorem grow_form (elem : TypeId) (size bytes : Nat) (old : List SV) (len : Nat) (added : List SV) (n : Nat) : ∃ b : Bool, ∀ S, Sym.grow elem size bytes S old len added n =
    match b with
    | true => (match Sym.new S (.cells (old ++ added) elem) with | some (id, w) => some (.slice id 0 (len + n) (.toEnd size (len + n)), w) | none => none)
    | false => none := by
  refine ⟨Nat.ble ((len + n + len + len + 1024) * (bytes + 1)) 140737488355328 && allScalar added, fun S => ?_⟩
  unfold Sym.grow
  simp only [force_eq]
  generalize Nat.ble ((len + n + len + len + 1024) * (bytes + 1)) 140737488355328 = c
  cases c <;> cases allScalar added <;> rfl

theorem grow_part {elem : TypeId} {size bytes len n : Nat} {old added : List SV} {v : SV} {ob : List Nat} {run : SW → Option (SV × SW)} (h : Sym.grow elem size bytes S old len added n = some (v, S'))
    (hrun : ∀ S2, Agrees ob S S2 → run S2 = Sym.grow elem size bytes S2 old len added n) : PartAt run ob S S' v := by
  obtain ⟨b, hb⟩ := grow_form elem size bytes old len added n
  rw [hb] at h
  split at h
  · split at h
    · rename_i id S1 hn
      simp only [Option.some.injEq, Prod.mk.injEq] at h
      obtain ⟨rfl, rfl⟩ := h
      refine .of_new hn fun S2 S2' ha hp => ?_
      rw [hrun S2 ha, hb]
      simp only [hp]
    · cases h
  · cases h

theorem kill_grow_part {elem : TypeId} {size bytes len n id : Nat} {old added : List SV} {v : SV} {ob : List Nat} {run : SW → Option (SV × SW)} {S1 : SW} (hid : id ∈ ob) (hk : Sym.put S id none = some S1) (h : Sym.grow elem size bytes S1 old len added n = some (v, S'))
    (hrun : ∀ S2 S3, Agrees ob S S2 → Sym.put S2 id none = some S3 → run S2 = Sym.grow elem size bytes S3 old len added n) : PartAt run ob S S' v := by
  obtain ⟨b, hb⟩ := grow_form elem size bytes old len added n
  rw [hb] at h
  split at h
  · split at h
    · rename_i i S3 hn
      simp only [Option.some.injEq, Prod.mk.injEq] at h
      obtain ⟨rfl, rfl⟩ := h
      refine .of_kill_new hid hk hn fun S2 S4 S2' ha hp hq => ?_
      rw [hrun S2 S4 ha hp, hb]
      simp only [hq]
    · cases h
  · cases h

theorem appendV_part {elem : TypeId} {size bytes : Nat} {x y v : SV} {ob : List Nat} (hob : ∀ i ∈ named x, i ∈ ob) (hob2 : ∀ i ∈ named y, i ∈ ob) (h : appendV elem size bytes S x y = some (v, S')) : PartAt (fun w => appendV elem size bytes w x y) ob S S' v := by
  unfold appendV at h
  split at h
  · cases h
  · rename_i hm
    split at h
    · simp only [Option.some.injEq, Prod.mk.injEq] at h
      obtain ⟨rfl, rfl⟩ := h
      exact .same fun S2 _ => by simp only [appendV, hm]
    · split at h
      · rename_i hb
        simp only [Option.some.injEq, Prod.mk.injEq] at h
        obtain ⟨rfl, rfl⟩ := h
        exact .same fun S2 _ => by simp only [appendV, hm, hb]
      · cases h
    · simp only [Option.some.injEq, Prod.mk.injEq] at h
      obtain ⟨rfl, rfl⟩ := h
      exact .same fun S2 _ => by simp only [appendV, hm]
    · cases h
  · rename_i n hm
    split at h
    · rename_i added hadd hrow
      split at h
      · exact grow_part h fun S2 ha => by simp only [appendV, hm, firstCells_agree hob2 ha, hadd, hrow]
      · rename_i id off len cap
        split at h
        · rename_i hb
          split at h
          · rename_i S1 hst
            rw [force_eq] at h
            simp only [Option.some.injEq, Prod.mk.injEq] at h
            obtain ⟨rfl, rfl⟩ := h
            refine storeAt_part (hob _ mem_named_slice) hst fun S2 S2' ha h2 => ?_
            simp only [appendV, hm, firstCells_agree hob2 ha, hadd, hrow, hb, h2, force_eq]
          · cases h
        · rename_i hb
          split at h
          · rename_i old hold
            exact grow_part h fun S2 ha => by simp only [appendV, hm, firstCells_agree hob2 ha, hadd, hrow, hb, firstCells_agree hob ha, hold]
          · cases h
      · rename_i id off len sz least
        split at h
        · rename_i h1 h2
          split at h
          · rename_i S1 hst
            rw [force_eq] at h
            simp only [Option.some.injEq, Prod.mk.injEq] at h
            obtain ⟨rfl, rfl⟩ := h
            refine storeAt_part (hob _ mem_named_slice) hst fun S2 S2' ha h3 => ?_
            simp only [appendV, hm, firstCells_agree hob2 ha, hadd, hrow, h1, h2, h3, force_eq]
          · cases h
        · rename_i h1 h2
          split at h
          · rename_i old S1 hold hk
            refine kill_grow_part (hob _ mem_named_slice) hk h fun S2 S4 ha hp => ?_
            have hel : elAt S2 id = elAt S id := by unfold elAt; rw [ha.hget (hob _ mem_named_slice)]
            simp only [appendV, hm, firstCells_agree hob2 ha, hadd, hrow, h1, h2, firstCells_agree hob ha, hold, hp, hel]
          · cases h
        · cases h
      · cases h
    · cases h

theorem appendZ_part {elem : TypeId} {size bytes : Nat} {z : List SV} {x y v : SV} {ob : List Nat} (hob : ∀ i ∈ named x, i ∈ ob) (h : appendZ elem size bytes z S x y = some (v, S')) : PartAt (fun w => appendZ elem size bytes z w x y) ob S S' v := by
  unfold appendZ at h
  split at h
  · rename_i id off len cap n hn
    split at h
    · cases h
    · rename_i hb
      split at h
      · rename_i old hold
        exact grow_part h fun S2 ha => by simp only [appendZ, hn, hb, firstCells_agree (x := .slice id off len (.exact cap)) hob ha, hold]
      · cases h
  · cases h

theorem opds_one {x : Operand} {f : List SV → List SV → SV} (h : opd cx x = some ⟨f⟩) : opds cx [x] = some ⟨fun e fr => [f e fr]⟩ := by simp only [opds, h]
theorem opds_two {x y : Operand} {f g : List SV → List SV → SV} (h : opd cx x = some ⟨f⟩) (h2 : opd cx y = some ⟨g⟩) : opds cx [x, y] = some ⟨fun e fr => [f e fr, g e fr]⟩ := by simp only [opds, h, h2]
theorem named_one (v : SV) : ∀ i ∈ named v, i ∈ namedL [v] := fun i h => by simpa [namedL] using h
theorem named_fst (v u : SV) : ∀ i ∈ named v, i ∈ namedL [v, u] := fun i h => by simp [namedL, h]
theorem named_snd (v u : SV) : ∀ i ∈ named u, i ∈ namedL [v, u] := fun i h => by simp [namedL, h]

theorem old_new {ob : SObj} {id : Nat} (h : Sym.new S ob = some (id, S')) : ∀ i, i < S.next → S'.at i = S.at i := fun i hi => by
  obtain ⟨rfl, -, -, h4⟩ := new_some h
  rw [h4, if_neg (by omega)]

theorem ptrTo_some {ob : SObj} {v : SV} (h : ptrTo (Sym.new S ob) = some (v, S')) : ∃ id, Sym.new S ob = some (id, S') ∧ v = .ptr id 0 := by
  unfold ptrTo at h
  split at h
  · rename_i id w hn
    simp only [Option.some.injEq, Prod.mk.injEq] at h
    obtain ⟨rfl, rfl⟩ := h
    exact ⟨id, hn, rfl⟩
  · cases h

/-- What holds of an operation that looks at what its operands name. -/
def PartOf (cx : Cx) (o : Oper) (k : KOp) (q0 : Sym.Callee → List SV → List SV → SW → Option (SV × SW)) (C : Sym.Callee) (e fr : List SV) (S S' : SW) (v : SV) : Prop :=
  ∃ g, opds cx (seenOpds o.op) = some ⟨g⟩ ∧ PartAt (q0 C e fr) (namedL (g e fr)) S S' v ∧ (lookOf k o = .rd → ∀ id, id < S.next → S'.at id = S.at id)

section
variable {q0 : Sym.Callee → List SV → List SV → SW → Option (SV × SW)} {C : Sym.Callee} {e fr : List SV} {v : SV}

/-- A read: it answers by what it looks at. -/
theorem part_rd {f : List SV → List SV → SW → Option SV} {g : List SV → List SV → List SV} (hg : opds cx (seenOpds o.op) = some ⟨g⟩) (hq : k1of (.rd f) = ⟨q0⟩) (hr : q0 C e fr S = some (v, S'))
    (h : ∀ S2, Agrees (namedL (g e fr)) S S2 → ∀ u, f e fr S = some u → f e fr S2 = some u) : PartOf cx o (.rd f) q0 C e fr S S' v := by
  simp only [k1of, K1.mk.injEq] at hq; subst hq
  dsimp only at hr
  split at hr
  · rename_i u hu
    simp only [Option.some.injEq, Prod.mk.injEq] at hr
    obtain ⟨rfl, rfl⟩ := hr
    exact ⟨g, hg, .same fun S2 ha => by simp only [h S2 ha _ hu], fun _ _ _ => rfl⟩
  · cases hr

theorem part_full {f : List SV → List SV → SW → Option (SV × SW)} {g : List SV → List SV → List SV} (hg : opds cx (seenOpds o.op) = some ⟨g⟩) (hq : k1of (.full f) = ⟨q0⟩) (hr : q0 C e fr S = some (v, S'))
    (h : ∀ v S', f e fr S = some (v, S') → PartAt (f e fr) (namedL (g e fr)) S S' v ∧ (lookOf (.full f) o = .rd → ∀ id, id < S.next → S'.at id = S.at id)) : PartOf cx o (.full f) q0 C e fr S S' v := by
  simp only [k1of, K1.mk.injEq] at hq; subst hq
  exact ⟨g, hg, h v S' hr⟩

theorem part_call {c : Call} (ho : o.op = .call c) (h : kop0 E cx o = some k) (hk1 : k1of k = ⟨q0⟩) (hm : lookOf k o = .rd ∨ lookOf k o = .wr) (hr : q0 C e fr S = some (v, S')) : PartOf cx o k q0 C e fr S S' v := by
  have hw : ∀ f, lookOf (.full f) o = lookO o.op := fun f => rfl
  simp only [kop0, ho] at h
  split at h
  · rename_i g0 hg0
    split at h
    · rename_i b hc
      unfold builtinK at h
      split at h
      · -- len
        rename_i x ha
        split at h
        · rename_i f t0 ts hf hts
          split at h
          · simp only [Option.some.injEq] at h; subst h; rcases hm with hm | hm <;> simp [lookOf] at hm
          · simp only [Option.some.injEq] at h; subst h; rcases hm with hm | hm <;> simp [lookOf] at hm
          · simp only [Option.some.injEq] at h; subst h; rcases hm with hm | hm <;> simp [lookOf] at hm
          · simp only [Option.some.injEq] at h; subst h
            refine part_rd (g := fun e fr => [f e fr]) (by rw [ho]; simp only [seenOpds, ha]; exact opds_one hf) hk1 hr fun S2 hag u hu => ?_
            rw [entries_agree (named_one _) hag]; exact hu
          · cases h
        · cases h
      · -- cap
        rename_i x ha
        repeat' split at h
        all_goals first
          | (cases h; done)
          | (simp only [Option.some.injEq] at h; subst h; rcases hm with hm | hm <;> simp [lookOf] at hm)
      · -- append
        rename_i x y ha
        split at h
        · rename_i f g t0 t1 hf hg hts
          split at h
          · rename_i elem u hd hu
            split at h
            · split at h
              · rename_i i z hi hz
                split at h
                · simp only [force_eq, Option.some.injEq] at h; subst h
                  refine part_full (g := fun e fr => [f e fr, g e fr]) (by rw [ho]; simp only [seenOpds, ha]; exact opds_two hf hg) hk1 hr fun v S' hr => ⟨appendZ_part (named_fst _ _) hr, fun hl => ?_⟩
                  rw [hw, ho] at hl; simp [lookO, hc, lookB] at hl
                · cases h
              · cases h
            · split at h
              · rename_i i z hi hz
                split at h
                · simp only [force_eq, Option.some.injEq] at h; subst h
                  refine part_full (g := fun e fr => [f e fr, g e fr]) (by rw [ho]; simp only [seenOpds, ha]; exact opds_two hf hg) hk1 hr fun v S' hr => ⟨appendV_part (named_fst _ _) (named_snd _ _) hr, fun hl => ?_⟩
                  rw [hw, ho] at hl; simp [lookO, hc, lookB] at hl
                · cases h
              · cases h
          · cases h
        · cases h
      · -- copy
        rename_i x y ha
        split at h
        · rename_i f g t0 ts hf hg hts
          split at h
          · split at h
            · simp only [Option.some.injEq] at h; subst h
              refine part_full (g := fun e fr => [f e fr, g e fr]) (by rw [ho]; simp only [seenOpds, ha]; exact opds_two hf hg) hk1 hr fun v S' hr => ⟨copyV_part (named_fst _ _) (named_snd _ _) hr, fun hl => ?_⟩
              rw [hw, ho] at hl; simp [lookO, hc, lookB] at hl
            · cases h
          · cases h
        · cases h
      · -- clear
        rename_i x ha
        split at h
        · rename_i f t0 ts hf hts
          split at h
          · split at h
            · rename_i z hz
              simp only [Option.some.injEq] at h; subst h
              refine part_full (g := fun e fr => [f e fr]) (by rw [ho]; simp only [seenOpds, ha]; exact opds_one hf) hk1 hr fun v S' hr => ⟨?_, fun hl => ?_⟩
              · unfold done at hr
                split at hr
                · rename_i S1 hs
                  simp only [Option.some.injEq, Prod.mk.injEq] at hr
                  obtain ⟨rfl, rfl⟩ := hr
                  exact clearV_part (named_one _) hs
                · cases hr
              · rw [hw, ho] at hl; simp [lookO, hc, lookB] at hl
            · cases h
          · cases h
        · cases h
      · -- delete
        rename_i x y ha
        split at h
        · rename_i f g t0 ts hf hg hts
          split at h
          · split at h
            · split at h
              · simp only [Option.some.injEq] at h; subst h
                refine part_full (g := fun e fr => [f e fr, g e fr]) (by rw [ho]; simp only [seenOpds, ha]; exact opds_two hf hg) hk1 hr fun v S' hr => ⟨?_, fun hl => ?_⟩
                · unfold done at hr
                  split at hr
                  · rename_i S1 hs
                    simp only [Option.some.injEq, Prod.mk.injEq] at hr
                    obtain ⟨rfl, rfl⟩ := hr
                    exact deleteV_part (named_fst _ _) hs
                  · cases hr
                · rw [hw, ho] at hl; simp [lookO, hc, lookB] at hl
              · cases h
            · cases h
          · cases h
        · cases h
      · -- min
        split at h
        · simp only [Option.some.injEq] at h; subst h; rcases hm with hm | hm <;> simp [lookOf] at hm
        · cases h
      · split at h
        · simp only [Option.some.injEq] at h; subst h; rcases hm with hm | hm <;> simp [lookOf] at hm
        · cases h
      · cases h
    · rename_i f hc
      exfalso
      have hb : ∀ q, lookOf (.call q) o ≠ .rd ∧ lookOf (.call q) o ≠ .wr := fun q => by
        constructor <;> simp [lookOf, ho, lookO, hc]
      have hb2 : ∀ q, lookOf (.rd q) o ≠ .rd ∧ lookOf (.rd q) o ≠ .wr := fun q => by
        constructor <;> simp [lookOf, ho, lookO, hc]
      split at h
      · split at h
        · simp only [Option.some.injEq] at h; subst h
          rcases hm with hm | hm
          · exact (hb2 _).1 hm
          · exact (hb2 _).2 hm
        · simp only [Option.some.injEq] at h; subst h
          rcases hm with hm | hm
          · exact (hb _).1 hm
          · exact (hb _).2 hm
      · split at h
        · simp only [Option.some.injEq] at h; subst h
          rcases hm with hm | hm
          · exact (hb _).1 hm
          · exact (hb _).2 hm
        · cases h
    · cases h
  · cases h

theorem part_convert {src dst : TypeId} {x : Operand} (ho : o.op = .convert src dst x) (h : kop0 E cx o = some k) (hk1 : k1of k = ⟨q0⟩) (hm : lookOf k o = .rd ∨ lookOf k o = .wr) (hr : q0 C e fr S = some (v, S')) : PartOf cx o k q0 C e fr S S' v := by
  simp only [kop0, ho] at h
  split at h
  · rename_i f hf
    have hg : opds cx (seenOpds o.op) = some ⟨fun e fr => [f e fr]⟩ := by rw [ho]; exact opds_one hf
    unfold convertK at h
    split at h
    · split at h
      · simp only [Option.some.injEq] at h; subst h; rcases hm with hm | hm <;> simp [lookOf] at hm
      · split at h
        · split at h
          · simp only [Option.some.injEq] at h; subst h
            refine part_rd hg hk1 hr fun S2 hag u hu => ?_
            split at hu
            · exact hu
            · rename_i id off len c e1
              rw [e1] at hag
              have := hag.hget (named_one _ _ (mem_named_slice (id := id) (off := off) (n := len) (c := c)))
              simp only [cellsAt, this] at hu ⊢
              exact hu
            · cases hu
          · cases h
        · simp only [Option.some.injEq] at h; subst h; rcases hm with hm | hm <;> simp [lookOf] at hm
      · split at h
        · simp only [Option.some.injEq] at h; subst h
          refine part_full hg hk1 hr fun v S' hr => ?_
          (try dsimp only at hr)
          (try dsimp only)
          split at hr
          · rename_i s e1
            split at hr
            · rename_i id S1 hn
              rw [force_eq] at hr
              simp only [Option.some.injEq, Prod.mk.injEq] at hr
              obtain ⟨rfl, rfl⟩ := hr
              refine ⟨.of_new hn fun S2 S2' ha hp => ?_, fun _ => old_new hn⟩
              simp only [e1, hp, force_eq]
            · cases hr
          · cases hr
        · cases h
      · cases h
    · cases h
  · cases h

theorem kop0_part (h : kop0 E cx o = some k) (hk1 : k1of k = ⟨q0⟩) (hm : lookOf k o = .rd ∨ lookOf k o = .wr) (hr : q0 C e fr S = some (v, S')) : PartOf cx o k q0 C e fr S S' v := by
  have hw : ∀ f, lookOf (.full f) o = lookO o.op := fun f => rfl
  have big : lookO o.op = .big → False := fun hb => by
    cases k <;> rcases hm with hm | hm <;> simp [lookOf, hb] at hm
  cases ho : o.op with
  | load t a =>
    simp only [kop0, ho] at h
    split at h
    · rename_i f wd hf hwd
      simp only [Option.some.injEq] at h; subst h
      refine part_rd (g := fun e fr => [f e fr]) (by rw [ho]; exact opds_one hf) hk1 hr fun S2 hag u hu => loadW_agree (named_one _) hag hu
    · cases h
  | lookup t x i ok =>
    simp only [kop0, ho] at h
    split at h
    · rename_i f g key elem hf hg hd
      split at h
      · split at h
        · simp only [Option.some.injEq] at h; subst h
          refine part_rd (g := fun e fr => [f e fr]) (by rw [ho]; exact opds_one hf) hk1 hr fun S2 hag u hu => by rw [lookupV_agree (named_one _) hag]; exact hu
        · cases h
      · cases h
    · cases h
  | convert a b x => exact part_convert ho h hk1 hm hr
  | range t x =>
    simp only [kop0, ho] at h
    split at h
    · rename_i f hf hd
      simp only [Option.some.injEq] at h; subst h
      refine part_full (g := fun e fr => [f e fr]) (by rw [ho]; exact opds_one hf) hk1 hr fun v S' hr => ?_
      (try dsimp only at hr)
      (try dsimp only)
      split at hr
      · rename_i s e1
        obtain ⟨id, hn, rfl⟩ := ptrTo_some hr
        exact ⟨.of_new hn fun S2 S2' ha hp => by simp only [e1, hp, ptrTo], fun _ => old_new hn⟩
      · cases hr
    · rename_i f kt et hf hd
      simp only [Option.some.injEq] at h; subst h
      refine part_full (g := fun e fr => [f e fr]) (by rw [ho]; exact opds_one hf) hk1 hr fun v S' hr => ?_
      (try dsimp only at hr)
      (try dsimp only)
      split at hr
      · rename_i e1
        obtain ⟨id, hn, rfl⟩ := ptrTo_some hr
        exact ⟨.of_new hn fun S2 S2' ha hp => by simp only [e1, hp, ptrTo], fun _ => old_new hn⟩
      · rename_i m e1
        split at hr
        · rename_i es c hobj
          obtain ⟨id, hn, rfl⟩ := ptrTo_some hr
          exact ⟨.of_new hn fun S2 S2' ha hp => by
            have := ha.hget (id := m) (by rw [e1]; exact named_one _ _ mem_named_map)
            simp only [e1, this, hobj, hp, ptrTo], fun _ => old_new hn⟩
        · cases hr
      · cases hr
    · cases h
  | alloc t =>
    simp only [kop0, ho] at h
    split at h
    · split at h
      · simp only [Option.some.injEq] at h; subst h
        refine part_full (g := fun _ _ => []) (by rw [ho]; rfl) hk1 hr fun v S' hr => ?_
        (try dsimp only at hr)
        (try dsimp only)
        obtain ⟨id, hn, rfl⟩ := ptrTo_some hr
        exact ⟨.of_new hn fun S2 S2' ha hp => by simp only [hp, ptrTo], fun _ => old_new hn⟩
      · cases h
    · cases h
  | box t x =>
    simp only [kop0, ho] at h
    split at h
    · simp only [Option.some.injEq] at h; subst h
      refine part_full (g := fun _ _ => []) (by rw [ho]; rfl) hk1 hr fun v S' hr => ?_
      (try dsimp only at hr)
      (try dsimp only)
      split at hr
      · rename_i hs
        obtain ⟨id, hn, rfl⟩ := ptrTo_some hr
        exact ⟨.of_new hn fun S2 S2' ha hp => by simp only [hs, hp, ptrTo], fun _ => old_new hn⟩
      · cases hr
    · cases h
  | buildSlice t len ps =>
    simp only [kop0, ho] at h
    split at h
    · split at h
      · split at h
        · simp only [Option.some.injEq] at h; subst h
          refine part_full (g := fun _ _ => []) (by rw [ho]; rfl) hk1 hr fun v S' hr => ?_
          (try dsimp only at hr)
          (try dsimp only)
          split at hr
          · rename_i cs hfl
            split at hr
            · rename_i hs
              split at hr
              · rename_i id S1 hn
                simp only [Option.some.injEq, Prod.mk.injEq] at hr
                obtain ⟨rfl, rfl⟩ := hr
                exact ⟨.of_new hn fun S2 S2' ha hp => by simp only [hfl, hs, hp], fun _ => old_new hn⟩
              · cases hr
            · cases hr
          · cases hr
        · cases h
      · cases h
    · cases h
  | makeSlice t l c =>
    simp only [kop0, ho] at h
    split at h
    · split at h
      · split at h
        · simp only [Option.some.injEq] at h; subst h
          refine part_full (g := fun _ _ => []) (by rw [ho]; rfl) hk1 hr fun v S' hr => ?_
          (try dsimp only at hr)
          (try dsimp only)
          split at hr
          · rename_i n1 n2 hn1 hn2
            split at hr
            · rename_i hb1 hb2
              split at hr
              · rename_i id S1 hn
                simp only [Option.some.injEq, Prod.mk.injEq] at hr
                obtain ⟨rfl, rfl⟩ := hr
                exact ⟨.of_new hn fun S2 S2' ha hp => by simp only [hp], fun _ => old_new hn⟩
              · cases hr
            · cases hr
          · cases hr
        · cases h
      · cases h
    · cases h
  | makeMap t r =>
    simp only [kop0, ho] at h
    split at h
    · simp only [Option.some.injEq] at h; subst h
      refine part_full (g := fun _ _ => []) (by rw [ho]; rfl) hk1 hr fun v S' hr => ?_
      (try dsimp only at hr)
      (try dsimp only)
      split at hr
      · rename_i id S1 hn
        simp only [Option.some.injEq, Prod.mk.injEq] at hr
        obtain ⟨rfl, rfl⟩ := hr
        exact ⟨.of_new hn fun S2 S2' ha hp => by simp only [hp], fun _ => old_new hn⟩
      · cases hr
    · split at h
      · simp only [Option.some.injEq] at h; subst h
        refine part_full (g := fun _ _ => []) (by rw [ho]; rfl) hk1 hr fun v S' hr => ?_
        (try dsimp only at hr)
        (try dsimp only)
        split at hr
        · rename_i n hn0
          split at hr
          · rename_i id S1 hn
            simp only [Option.some.injEq, Prod.mk.injEq] at hr
            obtain ⟨rfl, rfl⟩ := hr
            exact ⟨.of_new hn fun S2 S2' ha hp => by simp only [hn0, hp], fun _ => old_new hn⟩
          · cases hr
        · cases hr
      · cases h
  | store t a x =>
    simp only [kop0, ho] at h
    split at h
    · rename_i f g n hf hg hn
      simp only [Option.some.injEq] at h; subst h
      refine part_full (g := fun e fr => [f e fr]) (by rw [ho]; exact opds_one hf) hk1 hr fun v S' hr => ⟨?_, fun hl => by rw [hw, ho] at hl; simp [lookO] at hl⟩
      unfold done at hr
      split at hr
      · rename_i S1 hs
        simp only [Option.some.injEq, Prod.mk.injEq] at hr
        obtain ⟨rfl, rfl⟩ := hr
        exact storeW_part (named_one _) hs
      · cases hr
    · cases h
  | mapUpdate t m x y =>
    simp only [kop0, ho] at h
    split at h
    · rename_i f g hh key el hf hg hh0 hd
      split at h
      · split at h
        · simp only [Option.some.injEq] at h; subst h
          refine part_full (g := fun e fr => [f e fr]) (by rw [ho]; exact opds_one hf) hk1 hr fun v S' hr => ⟨?_, fun hl => by rw [hw, ho] at hl; simp [lookO] at hl⟩
          unfold done at hr
          split at hr
          · rename_i S1 hs
            simp only [Option.some.injEq, Prod.mk.injEq] at hr
            obtain ⟨rfl, rfl⟩ := hr
            exact updateV_part (named_one _) hs
          · cases hr
        · cases h
      · cases h
    · cases h
  | insert t m x y =>
    simp only [kop0, ho] at h
    split at h
    · rename_i f g hh key el hf hg hh0 hd
      split at h
      · split at h
        · simp only [Option.some.injEq] at h; subst h
          refine part_full (g := fun e fr => [f e fr]) (by rw [ho]; exact opds_one hf) hk1 hr fun v S' hr => ⟨?_, fun hl => by rw [hw, ho] at hl; simp [lookO] at hl⟩
          unfold done at hr
          split at hr
          · rename_i S1 hs
            simp only [Option.some.injEq, Prod.mk.injEq] at hr
            obtain ⟨rfl, rfl⟩ := hr
            exact updateV_part (named_one _) hs
          · cases hr
        · cases h
      · cases h
    · cases h
  | mapEntry t m x =>
    simp only [kop0, ho] at h
    split at h
    · rename_i f g key el hf hg hd
      split at h
      · split at h
        · simp only [Option.some.injEq] at h; subst h
          exact part_full (g := fun e fr => [f e fr]) (by rw [ho]; exact opds_one hf) hk1 hr fun v S' hr => ⟨entryV_part (named_one _) hr, fun hl => by rw [hw, ho] at hl; simp [lookO] at hl⟩
        · cases h
      · cases h
    · cases h
  | entryStore t m s x =>
    simp only [kop0, ho] at h
    split at h
    · rename_i f g hh hf hg hh0
      simp only [Option.some.injEq] at h; subst h
      refine part_full (g := fun e fr => [f e fr]) (by rw [ho]; exact opds_one hf) hk1 hr fun v S' hr => ⟨?_, fun hl => by rw [hw, ho] at hl; simp [lookO] at hl⟩
      unfold done at hr
      split at hr
      · rename_i S1 hs
        simp only [Option.some.injEq, Prod.mk.injEq] at hr
        obtain ⟨rfl, rfl⟩ := hr
        exact estoreV_part (named_one _) hs
      · cases hr
    · cases h
  | call c => exact part_call ho h hk1 hm hr
  | _ => exact (big (by rw [ho]; rfl)).elim

theorem kop_part (h : kop E cx o = some k) (hk1 : k1of k = ⟨q0⟩) (hm : lookOf k o = .rd ∨ lookOf k o = .wr) (hr : q0 C e fr S = some (v, S')) : PartOf cx o k q0 C e fr S S' v := by
  rcases kop_some h with h | rfl
  · exact kop0_part h hk1 hm hr
  · simp only [k1of, K1.mk.injEq] at hk1; subst hk1
    cases hr
end
end
end Go.RX
