/- How a symbolic state stands to a world: the numbers' places, values, objects, worlds. -/
import Derived.Test.YtjfagagjmdddcaaGreatDoorRxLists
import Derived.Laws.World
set_option linter.all false
namespace Go.RX

/-! ### What texts of numbers stand for -/
noncomputable def opVal (op : BinOp) (k : IntKind) (x y : Int) : Int :=
  match (match op with
    | .shl => Sym.shiftOp .shl k x y
    | .shr => Sym.shiftOp .shr k x y
    | op => Sym.intOp op k x y) with
  | some (.int _ n) => n
  | _ => 0

mutual
noncomputable def IE.val (σ : Sig) : IE → Int
  | .var i => σ.var i
  | .lit n => n
  | .len a => (σ.row a).2.2.2
  | .sel a i c => match σ.cell a (IE.val σ i).toNat c with | .int _ n => n | _ => 0
  | .bin op k a b => opVal op k (IE.val σ a) (IE.val σ b)
  | .conv k a => k.wrap (IE.val σ a)
  | .neg k a => k.wrap (0 - IE.val σ a)
  | .max a b => if IE.val σ a < IE.val σ b then IE.val σ b else IE.val σ a
  | .min a b => if IE.val σ b < IE.val σ a then IE.val σ b else IE.val σ a
  | .fn f l => σ.fn f (IE.vals σ l)
noncomputable def IE.vals (σ : Sig) : List IE → List Int
  | [] => []
  | e :: l => IE.val σ e :: IE.vals σ l
end

/-- Where a number's cells lie: block, first place, and the block's length; none: not there (yet). Beside it, what the texts of numbers stand for. -/
structure Ren where
  to : Nat → Option (Nat × Nat × Nat)
  sig : Sig
instance : CoeFun Ren (fun _ => Nat → Option (Nat × Nat × Nat)) := ⟨Ren.to⟩

/-- Nothing lies anywhere. -/
def Ren.nil (σ : Sig) : Ren := ⟨fun _ => none, σ⟩

structure Ren.le (ρ ρ' : Ren) : Prop where
  on : ∀ i p, ρ i = some p → ρ' i = some p
  same : ρ.sig = ρ'.sig
instance {ρ ρ' : Ren} : CoeFun (Ren.le ρ ρ') (fun _ => ∀ i p, ρ i = some p → ρ' i = some p) := ⟨Ren.le.on⟩

mutual
inductive VRel (ρ : Ren) : SV → Value → Prop
  | bool (b : Bool) : VRel ρ (.bool b) (.bool b)
  | int (k : IntKind) (n : Int) : VRel ρ (.int k n) (.int k n)
  | sint (k : IntKind) (e : IE) : VRel ρ (.sint k e) (.int k (e.val ρ.sig))
  | sstr {a : Nat} {s : ByteArray} (h : (s.size : Int) = ρ.sig.var a) : VRel ρ (.sstr a) (.string s)
  | atLeast {n m : Nat} (h : n ≤ m) : VRel ρ (.atLeast n) (.int .i64 m)
  | row {a b x sz n cap : Nat} (h : ρ.sig.row a = (b, x, sz, n)) (hc : n ≤ cap) : VRel ρ (.row a) (.slice (some ⟨b, x, none⟩) n cap)
  | rptr {a b x sz n off : Nat} {i : IE} (h : ρ.sig.row a = (b, x, sz, n)) (h0 : 0 ≤ i.val ρ.sig) (h1 : i.val ρ.sig < n) : VRel ρ (.rptr a i off) (.pointer (some ⟨b, x + (i.val ρ.sig).toNat * sz + off, none⟩))
  | string (s : ByteArray) : VRel ρ (.string s) (.string s)
  | ptr {id off b o t : Nat} (h : ρ id = some (b, o, t)) : VRel ρ (.ptr id off) (.pointer (some ⟨b, o + off, none⟩))
  | gptr (g off : Nat) : VRel ρ (.gptr g off) (.pointer (some ⟨g, off, none⟩))
  | nilptr : VRel ρ .nilptr (.pointer none)
  | sliceE {id off len c b o t : Nat} (h : ρ id = some (b, o, t)) : VRel ρ (.slice id off len (.exact c)) (.slice (some ⟨b, o + off, none⟩) len c)
  | sliceT {id off len sz least b o t x cap : Nat} (h : ρ id = some (b, o, t)) (ht : o + off + cap * sz = t) (hl : len ≤ cap) (hk : least ≤ cap) (hx : x = o + off ∨ cap = 0) :
      VRel ρ (.slice id off len (.toEnd sz least)) (.slice (some ⟨b, x, none⟩) len cap)
  | nilslice : VRel ρ .nilslice (.slice none 0 0)
  | map {id b : Nat} (h : ρ id = some (b, 0, 0)) : VRel ρ (.map id) (.map (some b))
  | nilmap : VRel ρ .nilmap (.map none)
  | func (f : Nat) {as cs : List SV} {us vs : List Value} (h1 : VRels ρ as us) (h : VRels ρ cs vs) : VRel ρ (.func f as cs) (.func (.func f) us.toArray vs.toArray)
  | yield {l b : Nat} (h : ρ l = some (b, 0, 0)) : VRel ρ (.yield l) (.func (.yield b) #[] #[])
  | nilfunc : VRel ρ .nilfunc .nilFunc
  | nilIface : VRel ρ .nilIface .nilIface
  | iface (t : Nat) {x : SV} {v : Value} (h : VRel ρ x v) : VRel ρ (.iface t x) (.iface t v)
  | agg {cs : List SV} {vs : List Value} (h : VRels ρ cs vs) : VRel ρ (.agg cs) (.agg vs.toArray)
  | tuple {cs : List SV} {vs : List Value} (h : VRels ρ cs vs) : VRel ρ (.tuple cs) (.tuple vs.toArray)
  | blur (v : Value) (h : v.oneCell' = true) : VRel ρ .blur v
  | unknown (v : Value) : VRel ρ .unknown v
inductive VRels (ρ : Ren) : List SV → List Value → Prop
  | nil : VRels ρ [] []
  | cons {x : SV} {v : Value} {xs : List SV} {vs : List Value} (h : VRel ρ x v) (hs : VRels ρ xs vs) : VRels ρ (x :: xs) (v :: vs)
end

mutual
theorem VRel.mono {ρ ρ' : Ren} (hle : ρ.le ρ') : ∀ {x : SV} {v : Value}, VRel ρ x v → VRel ρ' x v
  | _, _, .bool b => .bool b
  | _, _, .int k n => .int k n
  | _, _, .sint k e => by rw [hle.same]; exact .sint k e
  | _, _, .atLeast h => .atLeast h
  | _, _, .sstr h => by rw [hle.same] at h; exact .sstr h
  | _, _, .row h hc => .row (by rw [← hle.same]; exact h) hc
  | _, _, .rptr h h0 h1 => by rw [hle.same] at h h0 h1 ⊢; exact .rptr h h0 h1
  | _, _, .string s => .string s
  | _, _, .ptr h => .ptr (hle _ _ h)
  | _, _, .gptr g o => .gptr g o
  | _, _, .nilptr => .nilptr
  | _, _, .sliceE h => .sliceE (hle _ _ h)
  | _, _, .sliceT h a b c d => .sliceT (hle _ _ h) a b c d
  | _, _, .nilslice => .nilslice
  | _, _, .map h => .map (hle _ _ h)
  | _, _, .nilmap => .nilmap
  | _, _, .func f h1 h => .func f (VRels.mono hle h1) (VRels.mono hle h)
  | _, _, .yield h => .yield (hle _ _ h)
  | _, _, .nilfunc => .nilfunc
  | _, _, .nilIface => .nilIface
  | _, _, .iface t h => .iface t (VRel.mono hle h)
  | _, _, .agg h => .agg (VRels.mono hle h)
  | _, _, .tuple h => .tuple (VRels.mono hle h)
  | _, _, .blur v h => .blur v h
  | _, _, .unknown v => .unknown v
theorem VRels.mono {ρ ρ' : Ren} (hle : ρ.le ρ') : ∀ {xs : List SV} {vs : List Value}, VRels ρ xs vs → VRels ρ' xs vs
  | _, _, .nil => .nil
  | _, _, .cons h hs => .cons (VRel.mono hle h) (VRels.mono hle hs)
end

/- A value that was related before and is related later is related by what was known before. -/
mutual
theorem VRel.back {ρ ρ' : Ren} (hle : ρ.le ρ') : ∀ {x : SV} {u v : Value}, VRel ρ x u → VRel ρ' x v → VRel ρ x v
  | .bool _, _, _, _, .bool b => .bool b
  | .int _ _, _, _, _, .int k n => .int k n
  | .sint _ _, _, _, _, .sint k e => by rw [← hle.same]; exact .sint k e
  | .atLeast _, _, _, _, .atLeast h => .atLeast h
  | .sstr _, _, _, _, .sstr h => by rw [← hle.same] at h; exact .sstr h
  | .row _, _, _, _, .row h hc => .row (by rw [hle.same]; exact h) hc
  | .rptr _ _ _, _, _, _, .rptr h h0 h1 => by rw [← hle.same] at h h0 h1 ⊢; exact .rptr h h0 h1
  | .string _, _, _, _, .string s => .string s
  | .ptr id off, _, _, .ptr h, .ptr h' => .ptr (by have := hle _ _ h; rw [this] at h'; cases h'; exact h)
  | .gptr _ _, _, _, _, .gptr g o => .gptr g o
  | .nilptr, _, _, _, .nilptr => .nilptr
  | .slice _ _ _ (.exact _), _, _, .sliceE h, .sliceE h' => .sliceE (by have := hle _ _ h; rw [this] at h'; cases h'; exact h)
  | .slice _ _ _ (.toEnd _ _), _, _, .sliceT h _ _ _ _, .sliceT h' a b c d => by
    have := hle _ _ h; rw [this] at h'; cases h'; exact .sliceT h a b c d
  | .nilslice, _, _, _, .nilslice => .nilslice
  | .map _, _, _, .map h, .map h' => .map (by have := hle _ _ h; rw [this] at h'; cases h'; exact h)
  | .nilmap, _, _, _, .nilmap => .nilmap
  | .func _ _ _, _, _, .func _ h1 h, .func f h1' h' => .func f (VRels.back hle h1 h1') (VRels.back hle h h')
  | .yield _, _, _, .yield h, .yield h' => .yield (by have := hle _ _ h; rw [this] at h'; cases h'; exact h)
  | .nilfunc, _, _, _, .nilfunc => .nilfunc
  | .nilIface, _, _, _, .nilIface => .nilIface
  | .iface _ _, _, _, .iface _ h, .iface t h' => .iface t (VRel.back hle h h')
  | .agg _, _, _, .agg h, .agg h' => .agg (VRels.back hle h h')
  | .tuple _, _, _, .tuple h, .tuple h' => .tuple (VRels.back hle h h')
  | .blur, _, _, _, .blur v h => .blur v h
  | .unknown, _, _, _, .unknown v => .unknown v
theorem VRels.back {ρ ρ' : Ren} (hle : ρ.le ρ') : ∀ {xs : List SV} {us vs : List Value}, VRels ρ xs us → VRels ρ' xs vs → VRels ρ xs vs
  | [], _, _, .nil, .nil => .nil
  | _ :: _, _, _, .cons h hs, .cons h' hs' => .cons (VRel.back hle h h') (VRels.back hle hs hs')
end

theorem VRels.length {ρ : Ren} : ∀ {xs : List SV} {vs : List Value}, VRels ρ xs vs → xs.length = vs.length
  | _, _, .nil => rfl
  | _, _, .cons _ hs => by simp [VRels.length hs]

theorem VRels.get {ρ : Ren} : ∀ {xs : List SV} {vs : List Value} (_ : VRels ρ xs vs) {i : Nat} {x : SV}, xs[i]? = some x → ∃ v, vs[i]? = some v ∧ VRel ρ x v
  | _, _, .nil, i, x, h => by simp at h
  | _, _, .cons h hs, 0, x, e => by simp at e; subst e; exact ⟨_, rfl, h⟩
  | _, _, .cons h hs, i + 1, x, e => by simpa using VRels.get hs (by simpa using e)

theorem VRels.of_get {ρ : Ren} : ∀ {xs : List SV} {vs : List Value}, xs.length = vs.length → (∀ (i : Nat) (x : SV) (v : Value), xs[i]? = some x → vs[i]? = some v → VRel ρ x v) → VRels ρ xs vs
  | [], [], _, _ => .nil
  | [], _ :: _, h, _ => by simp at h
  | _ :: _, [], h, _ => by simp at h
  | x :: xs, v :: vs, h, hg => .cons (hg 0 x v rfl rfl) (VRels.of_get (by simpa using h) fun i x v h1 h2 => hg (i + 1) x v (by simpa using h1) (by simpa using h2))

theorem VRels.append {ρ : Ren} : ∀ {xs ys : List SV} {us vs : List Value}, VRels ρ xs us → VRels ρ ys vs → VRels ρ (xs ++ ys) (us ++ vs)
  | _, _, _, _, .nil, h => h
  | _, _, _, _, .cons a as, h => .cons a (VRels.append as h)

theorem VRel.scalar {ρ : Ren} {x : SV} {v : Value} (h : VRel ρ x v) (hs : x.scalar = true) : v.oneCell' = true := by
  cases h <;> first | rfl | assumption | (simp [SV.scalar] at hs)

theorem VRel.cells {ρ : Ren} {x : SV} {v : Value} (h : VRel ρ x v) (hu : x ≠ .unknown) : VRels ρ x.cells v.cells.toList := by
  cases h <;> first | (simp only [SV.cells, Value.cells]; assumption) | (exact absurd rfl hu) | skip
  all_goals (first | (simp only [SV.cells, Value.cells]; exact .cons (by constructor <;> assumption) .nil) | skip)
  rename_i h
  cases v <;> first | (simp [Value.oneCell'] at h; done) | exact .cons (.blur _ h) .nil

/-! ### Constants -/
mutual
theorem ofValue_sound {ρ : Ren} : ∀ (v : Value) {x : SV}, Sym.ofValue v = some x → VRel ρ x v
  | .bool b, x, h => by simp [Sym.ofValue] at h; subst h; exact .bool b
  | .int k n, x, h => by simp [Sym.ofValue] at h; subst h; exact .int k n
  | .string s, x, h => by simp [Sym.ofValue] at h; subst h; exact .string s
  | .pointer none, x, h => by simp [Sym.ofValue] at h; subst h; exact .nilptr
  | .pointer (some a), x, h => by simp [Sym.ofValue] at h
  | .slice a l c, x, h => by
    cases a with
    | some a => simp [Sym.ofValue] at h
    | none => cases l with
      | succ l => simp [Sym.ofValue] at h
      | zero => cases c with
        | succ c => simp [Sym.ofValue] at h
        | zero => simp [Sym.ofValue] at h; subst h; exact .nilslice
  | .map none, x, h => by simp [Sym.ofValue] at h; subst h; exact .nilmap
  | .map (some a), x, h => by simp [Sym.ofValue] at h
  | .nilFunc, x, h => by simp [Sym.ofValue] at h; subst h; exact .nilfunc
  | .nilIface, x, h => by simp [Sym.ofValue] at h; subst h; exact .nilIface
  | .func fn ⟨a⟩ ⟨b⟩, x, h => by
    cases fn <;> first | (simp [Sym.ofValue] at h; done) | skip
    cases a with
    | cons _ _ => simp [Sym.ofValue] at h
    | nil => cases b with
      | cons _ _ => simp [Sym.ofValue] at h
      | nil => simp [Sym.ofValue] at h; subst h; exact .func _ .nil .nil
  | .agg ⟨cs⟩, x, h => by
    simp only [Sym.ofValue] at h
    cases e : Sym.ofValues cs with
    | none => simp [e] at h
    | some l => simp [e] at h; subst h; exact .agg (ofValues_sound cs e)
  | .tuple ⟨cs⟩, x, h => by
    simp only [Sym.ofValue] at h
    cases e : Sym.ofValues cs with
    | none => simp [e] at h
    | some l => simp [e] at h; subst h; exact .tuple (ofValues_sound cs e)
  | .float _ _, x, h => by simp [Sym.ofValue] at h
  | .complex _ _ _, x, h => by simp [Sym.ofValue] at h
  | .chan _, x, h => by simp [Sym.ofValue] at h
  | .iface _ _, x, h => by simp [Sym.ofValue] at h
theorem ofValues_sound {ρ : Ren} : ∀ (vs : List Value) {xs : List SV}, Sym.ofValues vs = some xs → VRels ρ xs vs
  | [], xs, h => by simp [Sym.ofValues] at h; subst h; exact .nil
  | v :: vs, xs, h => by
    simp only [Sym.ofValues] at h
    cases e : Sym.ofValue v with
    | none => simp [e] at h
    | some x =>
      cases e2 : Sym.ofValues vs with
      | none => simp [e, e2] at h
      | some l => simp [e, e2] at h; subst h; exact .cons (ofValue_sound v e) (ofValues_sound vs e2)
end

/-! ### Objects -/
inductive ERel (ρ : Ren) : List (SV × SV × Nat) → List MapEntry → Prop
  | nil : ERel ρ [] []
  | cons {k v : SV} {n : Nat} {e : MapEntry} {xs : List (SV × SV × Nat)} {es : List MapEntry} (hk : VRel ρ k e.key) (hv : VRel ρ v e.val) (hn : e.born = n) (hs : ERel ρ xs es) : ERel ρ ((k, v, n) :: xs) (e :: es)

/-- What of a frame's slots is kept. -/
def FRel (ρ : Ren) (sl : List Nat) (fr : List SV) (tmps : Array Value) : Prop :=
  ∀ t i, posOf t sl = some i → VRel ρ (nthV .unknown fr i) (tmps.getD t undef)

inductive ORel (ρ : Ren) : SObj → Nat × Nat × Nat → Obj → Prop
  | cells {cs : List SV} {el : TypeId} {b o t : Nat} (arr : Array Value) (el' : TypeId) (fz : Nat × Nat) (ht : arr.size = t) (hlen : o + cs.length ≤ t) (hfz : ∀ k, k < arr.size → ¬ (fz.1 ≤ k ∧ k < fz.2)) (hmk : el ≠ 0 → ∀ k, ¬ (fz.1 ≤ k ∧ k < fz.2))
      (hc : ∀ k x, cs[k]? = some x → ∃ v, arr[o + k]? = some v ∧ VRel ρ x v) : ORel ρ (.cells cs el) (b, o, t) (.cells arr el' fz)
  | map {es : List (SV × SV × Nat)} {b : Nat} (arr : Array MapEntry) (c : Nat) (h : ERel ρ es arr.toList) : ORel ρ (.map es c) (b, 0, 0) (.map arr c)
  | loop {L : SLoop} {b : Nat} (l : Loop) (hst : l.state = L.state) (hp : l.pending = L.pending) (hn : l.tmps.size = L.n) (hf : FRel ρ L.sl L.fr l.tmps)
      (hps : l.params = L.params) (ha : l.assign = L.assign) (hb : l.body = L.body) (hd : ρ L.defers = some (l.defers, 0, 0)) : ORel ρ (.loop L) (b, 0, 0) (.loop l)
  | deferredOpen {b : Nat} : ORel ρ (.deferred true) (b, 0, 0) (.deferred (some []))
  | deferredShut {b : Nat} : ORel ρ (.deferred false) (b, 0, 0) (.deferred none)
  | strIter {b : Nat} (s : ByteArray) (pos : Nat) : ORel ρ (.strIter s pos) (b, 0, 0) (.stringIter s pos)
  | mapIterNil {b : Nat} (since : Nat) (seen : List Nat) (last : Nat) : ORel ρ (.mapIter none since seen last) (b, 0, 0) (.mapIter none since seen.toArray last)
  | mapIter {b m r : Nat} (since : Nat) (seen : List Nat) (last : Nat) (h : ρ m = some (r, 0, 0)) : ORel ρ (.mapIter (some m) since seen last) (b, 0, 0) (.mapIter (some r) since seen.toArray last)

theorem ERel.mono {ρ ρ' : Ren} (hle : ρ.le ρ') : ∀ {xs : List (SV × SV × Nat)} {es : List MapEntry}, ERel ρ xs es → ERel ρ' xs es
  | _, _, .nil => .nil
  | _, _, .cons hk hv hn hs => .cons (hk.mono hle) (hv.mono hle) hn (ERel.mono hle hs)
theorem ERel.back {ρ ρ' : Ren} (hle : ρ.le ρ') : ∀ {xs : List (SV × SV × Nat)} {es fs : List MapEntry}, ERel ρ xs es → ERel ρ' xs fs → ERel ρ xs fs
  | [], _, _, .nil, .nil => .nil
  | _ :: _, _, _, .cons hk hv _ hs, .cons hk' hv' hn' hs' => .cons (VRel.back hle hk hk') (VRel.back hle hv hv') hn' (ERel.back hle hs hs')

theorem FRel.mono {ρ ρ' : Ren} (hle : ρ.le ρ') {sl : List Nat} {fr : List SV} {tmps : Array Value} (h : FRel ρ sl fr tmps) : FRel ρ' sl fr tmps := fun t i e => (h t i e).mono hle

theorem ORel.mono {ρ ρ' : Ren} (hle : ρ.le ρ') {x : SObj} {p : Nat × Nat × Nat} {o : Obj} (h : ORel ρ x p o) : ORel ρ' x p o := by
  cases h with
  | cells arr el fz ht hlen hfz hmk hc => exact .cells arr el fz ht hlen hfz hmk fun k x e => let ⟨v, h1, h2⟩ := hc k x e; ⟨v, h1, h2.mono hle⟩
  | map arr c h => exact .map arr c (h.mono hle)
  | loop l hst hp hn hf hps ha hb hd => exact .loop l hst hp hn (hf.mono hle) hps ha hb (hle _ _ hd)
  | deferredOpen => exact .deferredOpen
  | deferredShut => exact .deferredShut
  | strIter s pos => exact .strIter s pos
  | mapIterNil since seen last => exact .mapIterNil since seen last
  | mapIter since seen last h => exact .mapIter since seen last (hle _ _ h)

theorem ORel.back {ρ ρ' : Ren} (hle : ρ.le ρ') {x : SObj} {p : Nat × Nat × Nat} {o o' : Obj} (h : ORel ρ x p o) (h' : ORel ρ' x p o') : ORel ρ x p o' := by
  cases h with
  | cells arr el fz ht hlen hfz hmk hc =>
    cases h' with
    | cells arr' el2 fz' ht' hlen' hfz' hmk' hc' =>
      refine .cells arr' el2 fz' ht' hlen' hfz' hmk' fun k x e => ?_
      obtain ⟨v, h1, h2⟩ := hc k x e
      obtain ⟨v', h1', h2'⟩ := hc' k x e
      exact ⟨v', h1', VRel.back hle h2 h2'⟩
  | map arr c h => cases h' with | map arr' _ h' => exact .map arr' c (ERel.back hle h h')
  | loop l hst hp hn hf hps ha hb hd =>
    cases h' with
    | loop l' hst' hp' hn' hf' hps' ha' hb' hd' =>
      refine .loop l' hst' hp' hn' (fun t i e => VRel.back hle (hf t i e) (hf' t i e)) hps' ha' hb' ?_
      have := hle _ _ hd; rw [this] at hd'; have e : l.defers = l'.defers := by simpa using hd'
      rw [← e]; exact hd
  | deferredOpen => cases h'; exact .deferredOpen
  | deferredShut => cases h'; exact .deferredShut
  | strIter s pos => cases h'; exact .strIter s pos
  | mapIterNil since seen last => cases h'; exact .mapIterNil since seen last
  | mapIter since seen last h =>
    cases h' with
    | mapIter _ _ _ h' =>
      have := hle _ _ h; rw [this] at h'; cases h'
      exact .mapIter since seen last h

/-! ### Worlds -/
/-- The objects of a heap, where they are there, lie in the world, each in a block of its own. -/
structure WRel (ρ : Ren) (H : Nat → Option SObj) (w : World) : Prop where
  obj : ∀ i x p, H i = some x → ρ i = some p → ∃ o, w.heap[p.1]? = some o ∧ ORel ρ x p o
  inj : ∀ i j p q, H i ≠ none → H j ≠ none → ρ i = some p → ρ j = some q → p.1 = q.1 → i = j

noncomputable def SW.at (S : SW) (i : Nat) : Option SObj := Sym.hget S i

/-- No object beyond the next number. -/
def SW.tidy (S : SW) : Prop := ∀ i, S.next ≤ i → S.at i = none

theorem WRel.less {ρ : Ren} {H H' : Nat → Option SObj} {w : World} (h : WRel ρ H w) (hs : ∀ i x, ρ i ≠ none → H' i = some x → H i = some x) : WRel ρ H' w :=
  ⟨fun i x p hi hp => h.obj i x p (hs i x (by simp [hp]) hi) hp, fun i j p q hi hj hp hq e => by
    cases hi' : H' i with
    | none => exact absurd hi' hi
    | some x => cases hj' : H' j with
      | none => exact absurd hj' hj
      | some y => exact h.inj i j p q (by simp [hs i x (by simp [hp]) hi']) (by simp [hs j y (by simp [hq]) hj']) hp hq e⟩

/-- From a state to a later one: what is known grows; what is not described stays; where the described lies. -/
structure Ext (ρ : Ren) (S : SW) (w : World) (ρ' : Ren) (S' : SW) (w' : World) : Prop where
  le : ρ.le ρ'
  fresh : ∀ i p, ρ' i = some p → ρ i = some p ∨ (S.next ≤ i ∧ i < S'.next)
  next : S.next ≤ S'.next
  tidy : S'.tidy
  low : S'.low ≤ S.low
  keep : ∀ i, i < S.next → i < S'.low → S'.at i = S.at i
  size : w.heap.size ≤ w'.heap.size
  os : w'.os = w.os
  tape : w'.tape = w.tape
  output : w'.output = w.output
  frame : ∀ b, b < w.heap.size → (∀ i p, S.at i ≠ none → ρ i = some p → p.1 ≠ b) → w'.heap[b]? = w.heap[b]?
  own : ∀ i p, S'.at i ≠ none → ρ' i = some p → (∃ j q, S.at j ≠ none ∧ ρ j = some q ∧ q.1 = p.1) ∨ w.heap.size ≤ p.1
  wrel : WRel ρ' S'.at w'

theorem Ren.le.refl (ρ : Ren) : ρ.le ρ := ⟨fun _ _ h => h, rfl⟩
theorem Ren.le.trans {a b c : Ren} (h : a.le b) (k : b.le c) : a.le c := ⟨fun i p e => k i p (h i p e), h.same.trans k.same⟩

theorem Ext.refl {ρ : Ren} {S : SW} {w : World} (h : WRel ρ S.at w) (ht : S.tidy) : Ext ρ S w ρ S w :=
  ⟨.refl ρ, fun _ _ h => .inl h, Nat.le_refl _, ht, Nat.le_refl _, fun _ _ _ => rfl, Nat.le_refl _, rfl, rfl, rfl, fun _ _ _ => rfl, fun i p h1 h2 => .inl ⟨i, p, h1, h2, rfl⟩, h⟩

theorem Ext.trans {ρ ρ1 ρ2 : Ren} {S S1 S2 : SW} {w w1 w2 : World} (h : Ext ρ S w ρ1 S1 w1) (k : Ext ρ1 S1 w1 ρ2 S2 w2) : Ext ρ S w ρ2 S2 w2 where
  le := h.le.trans k.le
  fresh i p e := by
    rcases k.fresh i p e with e1 | ⟨a, b⟩
    · rcases h.fresh i p e1 with e2 | ⟨a, b⟩
      · exact .inl e2
      · exact .inr ⟨a, Nat.lt_of_lt_of_le b k.next⟩
    · exact .inr ⟨Nat.le_trans h.next a, b⟩
  next := Nat.le_trans h.next k.next
  tidy := k.tidy
  low := Nat.le_trans k.low h.low
  keep i h1 h2 := (k.keep i (Nat.lt_of_lt_of_le h1 h.next) h2).trans (h.keep i h1 (Nat.lt_of_lt_of_le h2 k.low))
  size := Nat.le_trans h.size k.size
  os := k.os.trans h.os
  tape := k.tape.trans h.tape
  output := k.output.trans h.output
  frame b hb hn := by
    refine (k.frame b (Nat.lt_of_lt_of_le hb h.size) fun i p hi hp e => ?_).trans (h.frame b hb hn)
    rcases h.own i p hi hp with ⟨j, q, hj, hq, hqp⟩ | hge
    · exact hn j q hj hq (hqp.trans e)
    · omega
  own i p hi hp := by
    rcases k.own i p hi hp with ⟨j, q, hj, hq, hqp⟩ | hge
    · rcases h.own j q hj hq with ⟨j2, q2, hj2, hq2, e⟩ | hge
      · exact .inl ⟨j2, q2, hj2, hq2, e.trans hqp⟩
      · exact .inr (by omega)
    · exact .inr (Nat.le_trans h.size hge)
  wrel := k.wrel

/-- Numbers that are still to be given. -/
def Fresh (ρ : Ren) (a b : Nat) : Prop := ∀ i, a ≤ i → i < b → ρ i = none

theorem Fresh.left {ρ : Ren} {a b c : Nat} (h : Fresh ρ a c) (hb : b ≤ c) : Fresh ρ a b := fun i h1 h2 => h i h1 (by omega)
theorem Ext.fresh_right {ρ ρ1 : Ren} {S S1 : SW} {w w1 : World} {c : Nat} (h : Ext ρ S w ρ1 S1 w1) (hf : Fresh ρ S.next c) : Fresh ρ1 S1.next c := fun i h1 h2 => by
  cases e : ρ1 i with
  | none => rfl
  | some p =>
    rcases h.fresh i p e with e1 | ⟨_, b⟩
    · rw [hf i (Nat.le_trans h.next h1) h2] at e1; cases e1
    · omega

end Go.RX
