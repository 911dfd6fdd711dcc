import Derived.RangeFuncRecord
import Derived.Laws.World
import Derived.Laws.Cells
import Derived.Laws.NewFold
set_option linter.all false
/- The symbolic evaluator: definitions alone. Code is first turned into functions on symbolic states (wrapped, so that the kernel keeps what it has reckoned once), then run. A symbolic state is a finite heap of objects with numbers of their own ('windows' into real blocks), and the slots of a frame that are read in another region than they are written in. -/
noncomputable section
namespace Go.RX

/-! ### What runs most, by the recursors themselves (the kernel reckons them fastest) -/
inductive Tr (α : Type) where
  | nil
  | node (l : Tr α) (v : α) (r : Tr α)

def Tr.get {α : Type} (d : α) (p : List Bool) : Tr α → α :=
  List.rec (motive := fun _ => Tr α → α)
    (fun t => Tr.rec d (fun _ v _ _ _ => v) t)
    (fun b _ ih t => Tr.rec d (fun l _ r _ _ => Bool.rec (ih r) (ih l) b) t) p

def Tr.onL {α : Type} (x : α) (r : Tr α) (t : Tr α) : Tr α := Tr.rec .nil (fun a b c _ _ => .node (.node a b c) x r) t
def Tr.onR {α : Type} (l : Tr α) (x : α) (t : Tr α) : Tr α := Tr.rec .nil (fun a b c _ _ => .node l x (.node a b c)) t

/-- The result is always a node, and written out along the path. -/
def Tr.set {α : Type} (d v : α) (p : List Bool) : Tr α → Tr α :=
  List.rec (motive := fun _ => Tr α → Tr α)
    (fun t => Tr.rec (.node .nil v .nil) (fun l _ r _ _ => .node l v r) t)
    (fun b _ ih t => Bool.rec
       (Tr.rec (Tr.onR .nil d (ih .nil)) (fun l x r _ _ => Tr.onR l x (ih r)) t)
       (Tr.rec (Tr.onL d .nil (ih .nil)) (fun l x r _ _ => Tr.onL x r (ih l)) t) b) p

def pathN (f : Nat) : Nat → List Bool :=
  Nat.rec (motive := fun _ => Nat → List Bool) (fun _ => [])
    (fun _ ih n => Bool.rec
      (Bool.rec (false :: ih (Nat.pred (Nat.div n 2))) (true :: ih (Nat.div n 2)) (Nat.beq (Nat.mod n 2) 1))
      [] (Nat.beq n 0)) f

def path (n : Nat) : List Bool := pathN n n

def nth {α : Type} (l : List α) : Nat → Option α :=
  List.rec (motive := fun _ => Nat → Option α) (fun _ => none) (fun c _ ih n => Nat.rec (some c) (fun m _ => ih m) n) l

/-- The value at a place; 'unknown' beyond the end. -/
def nthV {α : Type} (d : α) (l : List α) : Nat → α :=
  List.rec (motive := fun _ => Nat → α) (fun _ => d) (fun c _ ih n => Nat.rec c (fun m _ => ih m) n) l

def consF {α : Type} (c : α) (l : List α) : List α := List.rec [] (fun a b _ => c :: a :: b) l

/-- A place of a list written; the list unchanged in length if the place is there; else empty. -/
def setNth {α : Type} (v : α) (l : List α) : Nat → List α :=
  List.rec (motive := fun _ => Nat → List α) (fun _ => []) (fun c l ih n => Nat.rec (v :: l) (fun m _ => consF c (ih m)) n) l

def takeN {α : Type} (l : List α) : Nat → Option (List α) :=
  List.rec (motive := fun _ => Nat → Option (List α)) (fun n => Nat.rec (some []) (fun _ _ => none) n)
    (fun c _ ih n => Nat.rec (some []) (fun m _ => Option.rec none (fun l => some (c :: l)) (ih m)) n) l

def seg {α : Type} (l : List α) : Nat → Nat → Option (List α) :=
  List.rec (motive := fun _ => Nat → Nat → Option (List α)) (fun m n => Nat.rec (takeN [] n) (fun _ _ => none) m)
    (fun c l ih m n => Nat.rec (takeN (c :: l) n) (fun m _ => ih m n) m) l

def over {α : Type} (l : List α) : List α → Option (List α) :=
  List.rec (motive := fun _ => List α → Option (List α)) (fun vs => List.rec (some []) (fun _ _ _ => none) vs)
    (fun c l ih vs => List.rec (some (c :: l)) (fun v vs _ => Option.rec none (fun l => some (v :: l)) (ih vs)) vs) l

/-- Cells written into a row from a place on. -/
def splice {α : Type} (l : List α) : Nat → List α → Option (List α) :=
  List.rec (motive := fun _ => Nat → List α → Option (List α)) (fun m vs => Nat.rec (over [] vs) (fun _ _ => none) m)
    (fun c l ih m vs => Nat.rec (over (c :: l) vs) (fun m _ => Option.rec none (fun l => some (c :: l)) (ih m vs)) m) l

def Bool.if {α : Type} (b : Bool) (x y : α) : α := Bool.rec y x b

/-- The place of a number in a list. -/
def posOf (t : Nat) (l : List Nat) : Option Nat :=
  List.rec none (fun c _ ih => Bool.rec (Option.rec none (fun n => some (Nat.succ n)) ih) (some 0) (Nat.beq c t)) l
inductive SCap where
  | exact (c : Nat)
  /-- The capacity goes to the block's end; it is at least 'least'; an element has 'size' cells. -/
  | toEnd (size least : Nat)

/-- A number that is not known, as a text: of the numbers that are handed in, and of rows of cells that lie in memory. -/
inductive IE where
  | var (i : Nat)
  | lit (n : Int)
  | len (a : Nat)
  | sel (a : Nat) (i : IE) (c : Nat)
  | bin (op : BinOp) (k : IntKind) (a b : IE)
  | conv (k : IntKind) (a : IE)
  | neg (k : IntKind) (a : IE)
  | max (a b : IE)
  | min (a b : IE)
  | fn (f : Nat) (args : List IE)

/-- What the texts stand for: the numbers; functions of numbers; the rows: block, first place, cells of an element, elements; what their cells hold. -/
structure Sig where
  var : Nat → Int
  fn : Nat → List Int → Int
  row : Nat → Nat × Nat × Nat × Nat
  cell : Nat → Nat → Nat → Value
  /-- What is known of an object that is only known by a property. -/
  obj : Nat → Obj → Prop := fun _ _ => False

inductive SV where
  | bool (b : Bool)
  | int (k : IntKind) (n : Int)
  | sint (k : IntKind) (e : IE)
  /-- Some text, whose length is a number that is not known. -/
  | sstr (a : Nat)
  /-- Some text: its bytes are the row a's. -/
  | xstr (a : Nat)
  /-- A number of 64 bits, not less than n. -/
  | atLeast (n : Nat)
  /-- A whole row that lies in memory. -/
  | row (a : Nat)
  /-- A place of a row. -/
  | rptr (a : Nat) (i : IE) (off : Nat)
  | string (s : ByteArray)
  | ptr (id off : Nat)
  | gptr (g off : Nat)
  | nilptr
  | slice (id off len : Nat) (cap : SCap)
  | nilslice
  | map (id : Nat)
  | nilmap
  | func (f : Nat) (first captured : List SV)
  | yield (l : Nat)
  | nilfunc
  | nilIface
  | iface (t : Nat) (v : SV)
  | agg (cs : List SV)
  | tuple (vs : List SV)
  /-- Some value of one cell, of which nothing is known. -/
  | blur
  /-- The value of one cell of a row. -/
  | cellv (a : Nat) (i : IE) (c : Nat)
  /-- The row a (its elements have sz cells), which the object holds, and k elements behind it: a row of the run's own, which may grow. -/
  | oslice (id a k sz : Nat)
  /-- A place of the row a that the object holds (its elements have sz cells): of element i; or (some j) of the element j behind the row. -/
  | eptr (id a sz : Nat) (j : Option Nat) (i : IE) (off : Nat)
  /-- Some value, of which nothing is known. -/
  | unknown

def SV.undef : SV := .tuple []

def SV.scalar : SV → Bool
  | .agg _ => false
  | .tuple _ => false
  | .unknown => false
  | _ => true

def SV.cells : SV → List SV
  | .agg cs => cs
  | v => [v]

structure SLoop where
  state : LoopState
  pending : Option Code
  fr : List SV
  sl : List Nat
  n : Nat
  params : Array Tmp
  assign : Code
  body : Code
  defers : Nat

/-! The mark of a row of cells: 0: it may have been made of a string; 1: nothing of it is frozen; 2 t + 2: it is a whole block of type t as well; 2 t + 3: it begins a block whose elements are of type t. -/
def wholeMark (t : Nat) : Nat := Nat.succ (Nat.succ (Nat.mul 2 t))
def rowsMark (t : Nat) : Nat := Nat.succ (Nat.succ (Nat.succ (Nat.mul 2 t)))
inductive SObj where
  | cells (cs : List SV) (mark : Nat)
  | map (es : List (SV × SV × Nat)) (clock : Nat)
  | loop (l : SLoop)
  | deferred (open_ : Bool)
  | strIter (s : ByteArray) (pos : Nat)
  | mapIter (m : Option Nat) (since : Nat) (seen : List Nat) (last : Nat)
  /-- The elements of the row a, and these cells behind them. -/
  | own (a : Nat) (cs : List SV)
  /-- An object of which only a property is known. -/
  | blob (a : Nat)

/-- The objects, the next number, and a number below which nothing has been written (since a place that the evaluator chooses). -/
structure SW where
  heap : Tr (Option SObj)
  next : Nat
  low : Nat

/-- The slots that are kept, in the order of the function's list; the blocks for deferred calls; the heap. -/
structure St where
  fr : List SV
  defers : List Nat
  w : SW

inductive Out where
  | norm (st : St)
  | exit (id : Nat) (st : St)
  | ret (st : St)

/-- What is known ahead: the program, and the cells of package-level variables. -/
structure Env where
  P : Program
  G : Nat → Option (List SV)
  /-- Of each row: how many cells an element has, and of each the kind of number, if it is one. -/
  rows : Nat → Option (List (Option IntKind)) := fun _ => none
  /-- What is known of numbers. -/
  lt : IE → IE → Option Bool := fun _ _ => none
  eq : IE → IE → Option Bool := fun _ _ => none
  /-- A row that is cut at a number: which row that is. -/
  pre : Nat → IE → Option Nat := fun _ _ => none
  /-- A row that is cut from one number to another one (none: to its end): which row that is. -/
  sub : Nat → IE → Option IE → Option Nat := fun _ _ _ => none
  /-- The functions that say whether two slices overlap. -/
  overs : List Nat := []
  /-- The functions that look for a byte in a text. -/
  idxs : List Nat := []
  /-- The functions without body that hand back their argument; those that make a row of bytes, with the bytes' type. -/
  sames : List Nat := []
  mkzs : List (Nat × TypeId) := []
  /-- What is known of cells that hold no numbers. -/
  cells : Nat → IE → Nat → Option SV := fun _ _ _ => none
  /-- Whether cells hold the same text (true) or truth value (false). -/
  veq : Bool → Nat → IE → Nat → Nat → IE → Nat → Option Bool := fun _ _ _ _ _ _ _ => none
  /-- What is known of maps that are only known by a property: what they hold under a key (some none: nothing); which map it is when a key is given a value, or struck. -/
  mget : TypeDesc → Nat → SV → Option (Option SV) := fun _ _ _ => none
  mset : TypeDesc → Nat → SV → SV → Option Nat := fun _ _ _ _ => none
  mdel : TypeDesc → Nat → SV → Option Nat := fun _ _ _ => none
  sig : Sig := { var := fun _ => 0, fn := fun _ _ => 0, row := fun _ => (0, 0, 0, 0), cell := fun _ _ _ => .bool false }

namespace Sym
variable (E : Env)

mutual
def ofValue : Value → Option SV
  | .bool b => some (.bool b)
  | .int k n => some (.int k n)
  | .string s => some (.string s)
  | .pointer none => some .nilptr
  | .slice none 0 0 => some .nilslice
  | .map none => some .nilmap
  | .nilFunc => some .nilfunc
  | .nilIface => some .nilIface
  | .func (.func f) ⟨[]⟩ ⟨[]⟩ => some (.func f [] [])
  | .agg ⟨cs⟩ => match ofValues cs with | some l => some (.agg l) | none => none
  | .tuple ⟨cs⟩ => match ofValues cs with | some l => some (.tuple l) | none => none
  | _ => none
def ofValues : List Value → Option (List SV)
  | [] => some []
  | v :: vs => match ofValue v with
    | some x => (match ofValues vs with | some xs => some (x :: xs) | none => none)
    | none => none
end

/-! ### Numbers, forced -/
def force {α : Type} (n : Nat) (k : Nat → α) : α :=
  match n with
  | 0 => k 0
  | m + 1 => k (Nat.succ m)

/-- A whole number, handed on written out. -/
def intK {α : Type} (n : Int) (k : Int → α) : α :=
  match n with
  | .ofNat n => force n fun n => k (.ofNat n)
  | .negSucc n => force n fun n => k (.negSucc n)

def int (k : IntKind) (n : Int) : Option SV := intK n fun n => some (.int k n)

def wrapSlow (k : IntKind) (n : Int) : Option SV := int k (k.wrap n)

/-- The number wrapped round, forced; quick where it fits. -/
def wrapped (k : IntKind) (n : Int) : Option SV :=
  intK n fun n =>
  match k with
  | .i64 => (match n with
    | .ofNat m => (match Nat.ble m 9223372036854775807 with | true => some (.int .i64 (.ofNat m)) | false => wrapSlow .i64 (.ofNat m))
    | .negSucc m => (match Nat.ble m 9223372036854775807 with | true => some (.int .i64 (.negSucc m)) | false => wrapSlow .i64 (.negSucc m)))
  | .u64 => (match n with
    | .ofNat m => (match Nat.ble m 18446744073709551615 with | true => some (.int .u64 (.ofNat m)) | false => wrapSlow .u64 (.ofNat m))
    | .negSucc m => wrapSlow .u64 (.negSucc m))
  | k => wrapSlow k n

def ltb (x y : Int) : Bool :=
  match x, y with
  | .ofNat a, .ofNat b => Nat.ble (Nat.succ a) b
  | .ofNat _, .negSucc _ => false
  | .negSucc _, .ofNat _ => true
  | .negSucc a, .negSucc b => Nat.ble (Nat.succ b) a

def eqb (x y : Int) : Bool :=
  match x, y with
  | .ofNat a, .ofNat b => Nat.beq a b
  | .ofNat _, .negSucc _ => false
  | .negSucc _, .ofNat _ => false
  | .negSucc a, .negSucc b => Nat.beq a b

def kindEq (a b : IntKind) : Bool :=
  match a, b with
  | .i64, .i64 => true
  | a, b => decide (a = b)

/-! ### The heap -/
def hget (w : SW) (id : Nat) : Option SObj := Tr.get none (path id) w.heap

def new (w : SW) (o : SObj) : Option (Nat × SW) :=
  force w.next fun id =>
  match Tr.set none (some o) (path id) w.heap with
  | .nil => none
  | .node l x r => some (id, ⟨.node l x r, Nat.succ id, w.low⟩)

/-- An object that is there written, or struck (none). -/
def put (w : SW) (id : Nat) (o : Option SObj) : Option SW :=
  match Tr.set none o (path id) w.heap with
  | .nil => none
  | .node l x r => match Nat.ble w.low id with
    | true => some ⟨.node l x r, w.next, w.low⟩
    | false => force id fun id => some ⟨.node l x r, w.next, id⟩

def cellsAt (w : SW) (id : Nat) : Option (List SV × TypeId) :=
  match hget w id with
  | some (.cells cs e) => some (cs, e)
  | _ => none

def allScalar : List SV → Bool
  | [] => true
  | v :: vs => match v.scalar with | true => allScalar vs | false => false

def storeAt (w : SW) (id off : Nat) (vs : List SV) : Option SW :=
  match hget w id with
  | some (.cells cs e) => match allScalar vs with
    | true => (match splice cs off vs with | some cs => put w id (some (.cells cs e)) | none => none)
    | false => none
  | _ => none

/-! ### Numbers that are not known -/
def toIE : SV → Option (IntKind × IE)
  | .int k n => some (k, .lit n)
  | .sint k e => some (k, e)
  | _ => none

def notO : Option Bool → Option Bool
  | some b => some (!b)
  | none => none

def symCmp (op : BinOp) (a b : IE) : Option Bool :=
  match op with
  | .lss => E.lt a b
  | .geq => notO (E.lt a b)
  | .gtr => E.lt b a
  | .leq => notO (E.lt b a)
  | .eql => E.eq a b
  | .neq => notO (E.eq a b)
  | _ => none

def boolO : Option Bool → Option SV
  | some b => some (.bool b)
  | none => none

def nzIE (b : IE) : Bool :=
  match b with
  | .lit n => (match eqb n (.ofNat 0) with | true => false | false => true)
  | b => (match E.eq b (.lit (.ofNat 0)) with | some false => true | _ => false)

def symInt (op : BinOp) (k : IntKind) (a b : IE) : Option SV :=
  match op with
  | .add => some (.sint k (.bin .add k a b))
  | .sub => some (.sint k (.bin .sub k a b))
  | .mul => some (.sint k (.bin .mul k a b))
  | .and => some (.sint k (.bin .and k a b))
  | .or => some (.sint k (.bin .or k a b))
  | .xor => some (.sint k (.bin .xor k a b))
  | .andNot => some (.sint k (.bin .andNot k a b))
  | .quo => (match nzIE E b with | true => some (.sint k (.bin .quo k a b)) | false => none)
  | .rem => (match nzIE E b with | true => some (.sint k (.bin .rem k a b)) | false => none)
  | op => boolO (symCmp E op a b)

def symOp (op : BinOp) (x y : SV) : Option SV :=
  match toIE x, toIE y with
  | some (k, a), some (k', b) =>
    (match op with
    | .shl => (match b with | .lit (.ofNat n) => some (.sint k (.bin .shl k a (.lit (.ofNat n)))) | _ => none)
    | .shr => (match b with | .lit (.ofNat n) => some (.sint k (.bin .shr k a (.lit (.ofNat n)))) | _ => none)
    | op => match kindEq k k' with | true => symInt E op k a b | false => none)
  | _, _ => none

/-- A cell of a row. -/
def rowCell (a : Nat) (i : IE) (c : Nat) : Option IntKind → SV
  | some k => .sint k (.sel a i c)
  | none => (match E.cells a i c with | some x => x | none => .cellv a i c)

def rowCells (a : Nat) (i : IE) : Nat → Nat → List (Option IntKind) → Option (List SV)
  | 0, _, _ => some []
  | _ + 1, _, [] => none
  | n + 1, c, k :: ks => match rowCells a i n (Nat.succ c) ks with | some l => some (rowCell E a i c k :: l) | none => none

def pickRow (a : Nat) (i : IE) (off : Nat) (ks : List (Option IntKind)) : Option Nat → Option SV
  | none => (match nth ks off with | some k => some (rowCell E a i off k) | none => none)
  | some n => (match Nat.ble (off + n) ks.length, rowCells E a i n off (ks.drop off) with | true, some l => some (.agg l) | _, _ => none)

/-- A place of a row, where the number lies in it. -/
def rowAt (a : Nat) (n : Nat) (i : SV) : Option SV :=
  match toIE i, E.rows a with
  | some (_, e), some ks => (match Nat.beq ks.length n, E.lt e (.lit (.ofNat 0)), E.lt e (.len a) with
    | true, some false, some true => some (.rptr a e 0)
    | _, _, _ => none)
  | _, _ => none

/-- A byte of a text. -/
def byteAt (a : Nat) (i : SV) : Option SV := match toIE i with
  | some (_, e) => (match E.lt e (.lit (.ofNat 0)), E.lt e (.len a) with
    | some false, some true => some (.sint .u8 (.sel a e 0))
    | _, _ => none)
  | none => none

/-! ### Types -/
def sizeOf (t : TypeId) : Option Nat := match E.P.info? t with | some i => some i.size | none => none
def zero (t : TypeId) : Option SV := match E.P.info? t with | some i => (match i.zero with | some z => ofValue z | none => none) | none => none
def isAgg (t : TypeId) : Option Bool := match E.P.underlying t with
  | some (.struct _) => some true
  | some (.array _ _) => some true
  | some _ => some false
  | none => none
/-- none: one cell; some n: n cells. -/
def wide (t : TypeId) : Option (Option Nat) :=
  match isAgg E t with
  | some true => (match sizeOf E t with | some n => some (some n) | none => none)
  | some false => some none
  | none => none

def pick (cs : List SV) (off : Nat) : Option Nat → Option SV
  | none => nth cs off
  | some n => match seg cs off n with | some l => some (.agg l) | none => none

/-- Cells of a row of the run's own. -/
def ownCells (a : Nat) (i : IE) : Nat → Nat → Option (List SV)
  | 0, _ => some []
  | n + 1, c => match E.cells a i c, ownCells a i n (Nat.succ c) with | some x, some l => some (x :: l) | _, _ => none
def pickOwn (a : Nat) (sz : Nat) (i : IE) (off : Nat) : Option Nat → Option SV
  | none => (match Nat.ble (Nat.succ off) sz with | true => E.cells a i off | false => none)
  | some n => (match Nat.ble (Nat.add off n) sz, ownCells E a i n off with | true, some l => some (.agg l) | _, _ => none)

def loadW (w : SW) (wd : Option Nat) (a : SV) : Option SV :=
  match a with
  | .ptr id off => (match hget w id with | some (.cells cs _) => pick cs off wd | _ => none)
  | .gptr g off => (match E.G g with | some cs => pick cs off wd | none => none)
  | .rptr a i off => (match E.rows a with | some ks => pickRow E a i off ks wd | none => none)
  | .eptr id a sz j i off => (match hget w id with
    | some (.own a' cs) => (match Nat.beq a a' with
      | true => (match j with
        | some j => pick cs (Nat.add (Nat.mul j sz) off) wd
        | none => pickOwn E a sz i off wd)
      | false => none)
    | _ => none)
  | _ => none

def storeW (w : SW) (n : Nat) (a v : SV) : Option SW :=
  match a with
  | .ptr id off => match Nat.beq v.cells.length n with | true => storeAt w id off v.cells | false => none
  | _ => none

/-! ### Making values -/
def fill (place : Nat → Option (Nat × Nat)) (cells : List SV) : List (Nat × SV) → Option (List SV)
  | [] => some cells
  | (i, v) :: rest =>
    match place i with
    | some (off, size) =>
      (match v with
      | .unknown => none
      | v => match Nat.beq v.cells.length size with
        | true => (match splice cells off v.cells with | some cs => fill place cs rest | none => none)
        | false => none)
    | none => none

def fieldPlaces : List Field → Option (List (Nat × Nat))
  | [] => some []
  | f :: fs => match sizeOf E f.type with
    | some n => (match fieldPlaces fs with | some l => some ((f.offset, n) :: l) | none => none)
    | none => none

def nthP : List (Nat × Nat) → Nat → Option (Nat × Nat)
  | [], _ => none
  | c :: _, 0 => some c
  | _ :: cs, n + 1 => nthP cs n

def copies (z : List SV) : Nat → List SV
  | 0 => []
  | n + 1 => z ++ copies z n

def asNat : SV → Option Nat
  | .int _ (.ofNat n) => some n
  | _ => none

/-! ### Numbers and strings -/
/-- Bits of two numbers; quick where both are not negative and the kind has 64 bits, or they are of a kind without a sign. -/
def bitsOp (op : BinOp) (k : IntKind) (x y : Int) : Option SV :=
  match op with
  | .and => wrapSlow k (BitVec.ofInt k.bits x &&& BitVec.ofInt k.bits y).toNat
  | .or => wrapSlow k (BitVec.ofInt k.bits x ||| BitVec.ofInt k.bits y).toNat
  | .xor => wrapSlow k (BitVec.ofInt k.bits x ^^^ BitVec.ofInt k.bits y).toNat
  | .andNot => wrapSlow k (BitVec.ofInt k.bits x &&& ~~~ (BitVec.ofInt k.bits y)).toNat
  | _ => none

def intOp (op : BinOp) (k : IntKind) (x y : Int) : Option SV :=
  match op with
  | .add => wrapped k (Int.add x y)
  | .sub => wrapped k (Int.sub x y)
  | .mul => wrapped k (Int.mul x y)
  | .quo => match eqb y (.ofNat 0) with | true => none | false => wrapped k (Int.tdiv x y)
  | .rem => match eqb y (.ofNat 0) with | true => none | false => int k (Int.tmod x y)
  | .and => bitsOp .and k x y
  | .or => bitsOp .or k x y
  | .xor => bitsOp .xor k x y
  | .andNot => bitsOp .andNot k x y
  | .eql => some (.bool (eqb x y))
  | .neq => some (.bool (!(eqb x y)))
  | .lss => some (.bool (ltb x y))
  | .leq => some (.bool (!(ltb y x)))
  | .gtr => some (.bool (ltb y x))
  | .geq => some (.bool (!(ltb x y)))
  | _ => none

def shiftOp (op : BinOp) (k : IntKind) (x : Int) (y : Int) : Option SV :=
  match y with
  | .ofNat y =>
    match op with
    | .shl => wrapped k (Int.mul x (.ofNat (Nat.pow 2 (Nat.min y k.bits))))
    | .shr => int k (Int.fdiv x (.ofNat (Nat.pow 2 (Nat.min y k.bits))))
    | _ => none
  | .negSucc _ => none

def strEq (a b : ByteArray) : Bool := a.data.toList == b.data.toList

def strOp (op : BinOp) (x y : ByteArray) : Option SV :=
  match op with
  | .add => match Nat.ble (x.size + y.size) 9223372036854775807 with | true => some (.string (x ++ y)) | false => none
  | .eql => some (.bool (strEq x y))
  | .neq => some (.bool (!strEq x y))
  | .lss => some (.bool (Op.bytesLess x.data.toList y.data.toList))
  | .leq => some (.bool (Op.bytesLess x.data.toList y.data.toList || strEq x y))
  | .gtr => some (.bool (!(Op.bytesLess x.data.toList y.data.toList || strEq x y)))
  | .geq => some (.bool (!(Op.bytesLess x.data.toList y.data.toList)))
  | _ => none

def part (t : TypeId) (cs : List SV) (off : Nat) : Option SV :=
  match wide E t with
  | some wd => pick cs off wd
  | none => none

def eqScalar (d : TypeDesc) (x y : SV) : Option Bool :=
  match d, x, y with
  | .bool, .bool a, .bool b => some (a == b)
  | .int _, .int k a, .int k' b => match kindEq k k' with | true => some (eqb a b) | false => none
  | .string, .string a, .string b => some (strEq a b)
  | .pointer _, .nilptr, .nilptr => some true
  | .pointer _, .nilptr, .ptr _ _ => some false
  | .pointer _, .ptr _ _, .nilptr => some false
  | .interface _, .nilIface, .nilIface => some true
  | .interface _, .nilIface, .iface _ _ => some false
  | .interface _, .iface _ _, .nilIface => some false
  | .slice _, .nilslice, .nilslice => some true
  | .slice _, .nilslice, .slice _ _ _ _ => some false
  | .slice _, .slice _ _ _ _, .nilslice => some false
  | .slice _, .nilslice, .row _ => some false
  | .slice _, .row _, .nilslice => some false
  | .slice _, .nilslice, .oslice _ _ _ _ => some false
  | .slice _, .oslice _ _ _ _, .nilslice => some false
  | .map _ _, .nilmap, .nilmap => some true
  | .map _ _, .nilmap, .map _ => some false
  | .map _ _, .map _, .nilmap => some false
  | .func _ _ _, .nilfunc, .nilfunc => some true
  | .func _ _ _, .nilfunc, .func _ _ _ => some false
  | .func _ _ _, .func _ _ _, .nilfunc => some false
  | _, _, _ => none

def emptyEq (a : Nat) (s : ByteArray) : Option Bool := match s.size with
  | 0 => E.eq (.var a) (.lit (.ofNat 0))
  | _ => none
def emptyEqX (a : Nat) (s : ByteArray) : Option Bool := match s.size with
  | 0 => E.eq (.len a) (.lit (.ofNat 0))
  | _ => none
/-- Fields that are not known, but known to be the same, or not. -/
def symEq (u : TypeDesc) (x y : SV) : Option Bool :=
  match u, x, y with
  | .int _, .int _ _, .int _ _ => none
  | .int _, x, y => (match toIE x, toIE y with
    | some (k, a), some (k', b) => (match kindEq k k' with | true => E.eq a b | false => none)
    | _, _ => none)
  | .string, .sstr a, .string s => emptyEq E a s
  | .string, .xstr a, .string s => emptyEqX E a s
  | .string, .cellv a i c, .cellv b j d => E.veq true a i c b j d
  | .bool, .cellv a i c, .cellv b j d => E.veq false a i c b j d
  | _, _, _ => none
def fieldEq (eq : TypeId → SV → SV → Option Bool) (d : Nat) (t : TypeId) (x y : SV) : Option Bool :=
  match d with
  | 0 => none
  | _ + 1 => match E.P.underlying t with
    | none => none
    | some u => match symEq E u x y with
      | some b => some b
      | none => eq t x y

def equal : Nat → TypeId → SV → SV → Option Bool
  | 0, _, _, _ => none
  | d + 1, t, x, y =>
    match E.P.underlying t with
    | none => none
    | some u =>
      match u, x, y with
      | .struct fs, .agg xs, .agg ys =>
        (match E.P.stoodInHeld t with
        | true => none
        | false => fields (fieldEq E (equal d) d) fs.toList xs ys)
      | .pointer te, .ptr i o, .ptr j p => (match Nat.beq i j, Nat.beq o p, E.P.info? te with | true, true, some _ => some true | _, _, _ => none)
      | u, x, y => eqScalar u x y
where
  fields (eq : TypeId → SV → SV → Option Bool) : List Field → List SV → List SV → Option Bool
    | [], _, _ => some true
    | f :: fs, xs, ys =>
      match f.name == "_" with
      | true => fields eq fs xs ys
      | false =>
        match part E f.type xs f.offset, part E f.type ys f.offset with
        | some x, some y => (match eq f.type x y with
          | some true => fields eq fs xs ys
          | some false => some false
          | none => none)
        | _, _ => none

def eqGuardOk (lit : Bool) (t : TypeId) (x y : SV) : Bool :=
  match x, y with
  | .nilIface, .nilIface => lit
  | .agg _, .agg _ => !(E.P.eqGuardType E.P.depth t)
  | _, _ => true

/-- Is one of the operands written in the text? -/
def inText : Operand → Operand → Bool
  | .const _, _ => true
  | _, .const _ => true
  | _, _ => false

def binOp (lit : Bool) (op : BinOp) (t : TypeId) (x y : SV) : Option SV :=
  match x, y with
  | .int k a, .int k' b =>
    (match op with
    | .shl => shiftOp .shl k a b
    | .shr => shiftOp .shr k a b
    | op => match kindEq k k' with | true => intOp op k a b | false => none)
  | .string a, .string b => strOp op a b
  | .xstr a, .string b =>
    (match op with
    | .eql => (match emptyEqX E a b with | some r => some (.bool r) | none => none)
    | .neq => (match emptyEqX E a b with | some r => some (.bool (!r)) | none => none)
    | _ => none)
  | .cellv a i c, .cellv b j d =>
    (match op with
    | .eql => (match E.veq true a i c b j d with | some r => some (.bool r) | none => none)
    | .neq => (match E.veq true a i c b j d with | some r => some (.bool (!r)) | none => none)
    | _ => none)
  | .int .i64 (.ofNat a), .atLeast n =>
    (match op with
    | .gtr => (match Nat.ble a n with | true => some (.bool false) | false => none)
    | _ => none)
  | x, y => match symOp E op x y with
    | some r => some r
    | none =>
    (match op with
    | .eql => (match eqGuardOk E lit t x y with | true => (match equal E 12 t x y with | some b => some (.bool b) | none => none) | false => none)
    | .neq => (match eqGuardOk E lit t x y with | true => (match equal E 12 t x y with | some b => some (.bool (!b)) | none => none) | false => none)
    | _ => none)

def unOp (op : UnOp) (x : SV) : Option SV :=
  match op, x with
  | .neg, .int k n => wrapped k (Int.sub (.ofNat 0) n)
  | .neg, .sint k e => some (.sint k (.neg k e))
  | .xor, .int k n => wrapSlow k (BitVec.ofInt k.bits (if k.signed then -1 else k.max) ^^^ BitVec.ofInt k.bits n).toNat
  | .xor, .sint k e => some (.sint k (.bin .xor k (.lit (if k.signed then -1 else k.max)) e))
  | .not, .bool b => some (.bool !b)
  | _, _ => none

def bytesOf : List SV → Option (List UInt8)
  | [] => some []
  | .int .u8 n :: vs => match bytesOf vs with | some l => some (UInt8.ofNat n.toNat :: l) | none => none
  | _ => none

/-! ### Compiled forms -/
/-- Where slots are found: 'wr': what the operations of this region have written, the last first; 'sl': the slots that the frame keeps. -/
structure Cx where
  wr : List Nat
  sl : List Nat

/-- An operand, compiled: of the region's results so far (the last first) and the frame. -/
structure Opd where
  ev : List SV → List SV → SV

def slotK (cx : Cx) (t : Nat) : Opd :=
  match posOf t cx.wr with
  | some i => ⟨fun e _ => nthV .unknown e i⟩
  | none => match posOf t cx.sl with
    | some i => ⟨fun _ fr => nthV .unknown fr i⟩
    | none => ⟨fun _ _ => .unknown⟩

def opd (cx : Cx) : Operand → Option Opd
  | .tmp t => some (slotK cx t)
  | .const v => match ofValue v with | some x => some ⟨fun _ _ => x⟩ | none => none
  | .global g => some ⟨fun _ _ => .gptr g 0⟩
  | .func f => some ⟨fun _ _ => .func f [] []⟩

structure Opds where
  ev : List SV → List SV → List SV

def opds (cx : Cx) : List Operand → Option Opds
  | [] => some ⟨fun _ _ => []⟩
  | o :: os => match opd cx o, opds cx os with
    | some ⟨f⟩, some ⟨g⟩ => some ⟨fun e fr => f e fr :: g e fr⟩
    | _, _ => none

structure Parts where
  ev : List SV → List SV → List (Nat × SV)

def partsOf (cx : Cx) : List (Nat × Operand) → Option Parts
  | [] => some ⟨fun _ _ => []⟩
  | (i, o) :: os => match opd cx o, partsOf cx os with
    | some ⟨f⟩, some ⟨g⟩ => some ⟨fun e fr => (i, f e fr) :: g e fr⟩
    | _, _ => none

/-- The functions that code calls. -/
structure Callee where
  call : Nat → List SV → SW → Option (SV × SW)
  round : Nat → List SV → SW → Option (SV × SW)

/-- An operation, compiled. -/
inductive KOp where
  | mv (f : List SV → List SV → SV)
  | pure (f : List SV → List SV → Option SV)
  | rd (f : List SV → List SV → SW → Option SV)
  | full (f : List SV → List SV → SW → Option (SV × SW))
  | call (f : Callee → List SV → List SV → SW → Option (SV × SW))

def ptrTo (r : Option (Nat × SW)) : Option (SV × SW) :=
  match r with
  | some (id, w) => some (.ptr id 0, w)
  | none => none

/-- A row is marked: it may be one that was made of a string. -/
def markS (w : SW) (id : Nat) : Option SW :=
  match hget w id with
  | some (.cells cs el) => (match Nat.beq el 0 with | true => none | false => put w id (some (.cells cs 0)))
  | _ => none

/-- How many elements a row has, if that is known. -/
def rowLenIs (a : Nat) : Nat → Nat → Option Nat
  | 0, _ => none
  | f + 1, n => match E.eq (.len a) (.lit (.ofNat n)) with
    | some true => some n
    | _ => rowLenIs a f (n + 1)
/-- The first cells of a row's elements from one on. -/
def rowFirst (a : Nat) : Nat → Nat → Option (List SV)
  | 0, _ => some []
  | m + 1, i => match E.cells a (.lit (.ofNat i)) 0, rowFirst a m (i + 1) with
    | some x, some l => some (x :: l)
    | _, _ => none
def rowText (a : Nat) : Option SV :=
  match E.rows a, rowLenIs E a 40 0 with
  | some [_], some n => (match rowFirst E a n 0 with
    | some l => (match bytesOf l with | some b => some (.string ⟨b.toArray⟩) | none => none)
    | none => none)
  | _, _ => none

def convertK (src dst : TypeId) (f : List SV → List SV → SV) : Option KOp :=
  match E.P.underlying src, E.P.underlying dst with
  | some us, some ud =>
    (match us, ud with
    | _, .int k => some (.pure fun e fr => match f e fr with | .int _ n => wrapped k n | .sint _ a => some (.sint k (.conv k a)) | _ => none)
    | _, .string =>
      (match us with
      | .slice e => (match E.P.underlying e with
        | some (.int .u8) => some (.rd fun e fr w => match f e fr with
          | .nilslice => some (.string .empty)
          | .slice id off len _ => (match cellsAt w id with
            | some (cs, _) => (match seg cs off len with
              | some l => (match bytesOf l with | some b => some (.string ⟨b.toArray⟩) | none => none)
              | none => none)
            | none => none)
          | .row a => rowText E a
          | _ => none)
        | _ => none)
      | _ => some (.pure fun e fr => match f e fr with | .string s => some (.string s) | _ => none))
    | _, .slice el =>
      (match E.P.underlying el with
      | some (.int .u8) => some (.full fun e fr w => match f e fr with
        | .string s => (match new w (.cells (s.data.toList.map fun b => .int .u8 b.toNat) 0) with
          | some (id, w) => force s.size fun n => some (.slice id 0 n (.toEnd 1 n), w)
          | none => none)
        | .slice id off len c => (match us, Nat.beq src dst, markS w id with
          | .slice _, true, some w => some (.slice id off len c, w)
          | _, _, _ => none)
        | _ => none)
      | _ => none)
    | .pointer te, .unsafePointer => (match E.P.info? te with
      | some j => (match j.size with
        | 0 => none
        | _ + 1 => some (.rd fun e fr w => match f e fr with
          | .ptr id off => (match hget w id with
            | some (.cells cs _) => (match Nat.ble (Nat.succ off) cs.length with | true => some (.ptr id off) | false => none)
            | _ => none)
          | _ => none))
      | none => none)
    | .unsafePointer, .pointer te => (match E.P.info? te with
      | some _ => some (.rd fun e fr w => match f e fr with
        | .ptr id 0 => (match hget w id with
          | some (.cells cs m) => (match Nat.beq m (wholeMark te), liesAt E.P E.P.depth te (cs.length / E.P.cellsOf te) 0 te 1 with | true, true => some (.ptr id 0) | _, _ => none)
          | _ => none)
        | _ => none)
      | none => none)
    | _, _ => none)
  | _, _ => none

def bound (dflt : Nat) : Option SV → Option Nat
  | none => some dflt
  | some v => asNat v

def cutAt (hi lo : Option SV) (dflt most : Nat) (k : Nat → Nat → Option SV) : Option SV :=
  match bound dflt hi, bound 0 lo with
  | some h, some l => (match Nat.ble h most, Nat.ble l h with | true, true => k h l | _, _ => none)
  | _, _ => none

def cutRow (size a : Nat) (lo hi : Option SV) : Option SV :=
  match lo, hi with
  | none, some y => (match toIE y with
    | some (_, e) => (match E.pre a e with | some a' => some (.row a') | none => none)
    | none => none)
  | some x, none => (match toIE x, E.rows a with
    | some (_, e), some ks => (match Nat.beq ks.length size, E.sub a e none with | true, some a' => some (.row a') | _, _ => none)
    | _, _ => none)
  | some x, some y => (match toIE x, toIE y, E.rows a with
    | some (_, e), some (_, f), some ks => (match Nat.beq ks.length size, E.sub a e (some f) with | true, some a' => some (.row a') | _, _ => none)
    | _, _, _ => none)
  | none, none => none

def sliceV (d : TypeDesc) (size : Option Nat) (x : SV) (lo hi : Option SV) : Option SV :=
  match d, x, size with
  | .string, .string s, _ => cutAt hi lo s.size s.size fun h l => some (.string (s.extract l h))
  | .array n _, .ptr id off, some size =>
    cutAt hi lo n n fun h l => force (h - l) fun len => force (n - l) fun cap => force (match Nat.beq n l with | true => off | false => off + l * size) fun o => some (.slice id o len (.exact cap))
  | .slice _, .nilslice, some _ => cutAt hi lo 0 0 fun _ _ => some .nilslice
  | .slice _, .slice id off len (.exact cap), some size =>
    cutAt hi lo len cap fun h l => force (h - l) fun len => force (cap - l) fun cap' => force (match Nat.beq cap l with | true => off | false => off + l * size) fun o => some (.slice id o len (.exact cap'))
  | .slice _, .slice id off len (.toEnd sz least), some size =>
    (match Nat.beq size sz with
    | true => cutAt hi lo len least fun h l => force (h - l) fun len => force (least - l) fun least => force (off + l * size) fun o => some (.slice id o len (.toEnd sz least))
    | false => none)
  | _, _, _ => none

def slice3V (d : TypeDesc) (size : Option Nat) (x : SV) (lo hi mx : Option SV) : Option SV :=
  match d, x, size, mx, hi with
  | .slice _, .slice id off _ (.exact cap), some size, some m, some hi =>
    (match asNat m with
    | some m => (match Nat.ble m cap with
      | true => cutAt (some hi) lo 0 m fun h l => force (h - l) fun len => force (m - l) fun cap' => force (match Nat.beq m l with | true => off | false => off + l * size) fun o => some (.slice id o len (.exact cap'))
      | false => none)
    | none => none)
  | .slice _, .slice id off _ (.toEnd _ least), some size, some m, some hi =>
    (match asNat m with
    | some 0 => cutAt (some hi) lo 0 0 fun _ _ => some .blur
    | some m => (match Nat.ble m least with
      | true => cutAt (some hi) lo 0 m fun h l => force (h - l) fun len => force (m - l) fun cap' => force (match Nat.beq m l with | true => off | false => off + l * size) fun o => some (.slice id o len (.exact cap'))
      | false => none)
    | none => none)
  | .slice _, .nilslice, some _, some m, some hi =>
    (match asNat m with
    | some 0 => cutAt (some hi) lo 0 0 fun _ _ => some .nilslice
    | _ => none)
  | _, _, _, _, _ => none

def optOpd (cx : Cx) : Option Operand → Option (Option Opd)
  | none => some none
  | some o => match opd cx o with | some f => some (some f) | none => none

def Opd.opt (o : Option Opd) (e fr : List SV) : Option SV :=
  match o with
  | none => none
  | some ⟨f⟩ => some (f e fr)

def sliceElem (d : TypeDesc) : Option Nat :=
  match d with
  | .slice e => sizeOf E e
  | .array _ e => sizeOf E e
  | _ => none

def nthF : List Field → Nat → Option Field
  | [], _ => none
  | c :: _, 0 => some c
  | _ :: cs, n + 1 => nthF cs n

def keyKind (d : TypeDesc) : Bool :=
  match d with
  | .int _ => true
  | .string => true
  | .bool => true
  | _ => false

def findKey (d : TypeDesc) (k : SV) : List (SV × SV × Nat) → Option (Option SV)
  | [] => some none
  | (k', v, _) :: es =>
    match eqScalar d k k' with
    | some true => some (some v)
    | some false => findKey d k es
    | none => none

def setKey (d : TypeDesc) (k v : SV) : List (SV × SV × Nat) → Option (List (SV × SV × Nat))
  | [] => none
  | (k', v', n) :: es =>
    match eqScalar d k k' with
    | some true => some ((k', v, n) :: es)
    | some false => (match setKey d k v es with | some r => some ((k', v', n) :: r) | none => none)
    | none => none

def mapAt (w : SW) (id : Nat) : Option (List (SV × SV × Nat) × Nat) :=
  match hget w id with
  | some (.map es c) => some (es, c)
  | _ => none

def entries (w : SW) (x : SV) : Option (List (SV × SV × Nat)) :=
  match x with
  | .nilmap => some []
  | .map id => (match hget w id with | some (.map es _) => some es | _ => none)
  | _ => none

/-- Keys that are the same, or not; a number that is not known against one that is. -/
def keyEq (d : TypeDesc) (x y : SV) : Option Bool :=
  match d, x, y with
  | .int _, .sint k a, .int k' n => (match kindEq k k' with | true => E.eq a (.lit n) | false => none)
  | d, x, y => eqScalar d x y
def findS (d : TypeDesc) (k : SV) : List (SV × SV × Nat) → Option (Option SV)
  | [] => some none
  | (k', v, _) :: es =>
    match keyEq E d k k' with
    | some true => some (some v)
    | some false => findS d k es
    | none => none

def blobAt (w : SW) (x : SV) : Option Nat :=
  match x with
  | .map id => (match hget w id with | some (.blob a) => some a | _ => none)
  | _ => none
def lookupV (kd : TypeDesc) (z : SV) (ok : Bool) (w : SW) (x k : SV) : Option SV :=
  match entries w x with
  | some es => (match findS E kd k es with
    | some (some v) => some (match ok with | true => .tuple [v, .bool true] | false => v)
    | some none => some (match ok with | true => .tuple [z, .bool false] | false => z)
    | none => none)
  | none => match blobAt w x with
    | some a => (match E.mget kd a k with
      | some (some v) => some (match ok with | true => .tuple [v, .bool true] | false => v)
      | some none => some (match ok with | true => .tuple [z, .bool false] | false => z)
      | none => none)
    | none => none

def updateV (kd : TypeDesc) (w : SW) (x k v : SV) : Option SW :=
  match x with
  | .map id => (match hget w id with
    | some (.map es c) => (match findKey kd k es with
      | some (some _) => (match setKey kd k v es with | some es => put w id (some (.map es c)) | none => none)
      | some none => force (c + 1) fun c' => put w id (some (.map (es ++ [(k, v, c)]) c'))
      | none => none)
    | some (.blob a) => (match E.mset kd a k v with | some a' => put w id (some (.blob a')) | none => none)
    | _ => none)
  | _ => none

/-- A key struck. -/
def remKey (d : TypeDesc) (k : SV) : List (SV × SV × Nat) → Option (List (SV × SV × Nat))
  | [] => some []
  | (k', v', n) :: es =>
    match eqScalar d k k' with
    | some true => some es
    | some false => (match remKey d k es with | some r => some ((k', v', n) :: r) | none => none)
    | none => none

def deleteV (kd : TypeDesc) (w : SW) (x k : SV) : Option SW :=
  match x with
  | .nilmap => some w
  | .map id => (match hget w id with
    | some (.map es c) => (match remKey kd k es with | some es => put w id (some (.map es c)) | none => none)
    | some (.blob a) => (match E.mdel kd a k with | some a' => put w id (some (.blob a')) | none => none)
    | _ => none)
  | _ => none

/-- A key's value, and when it was born. -/
def findE (d : TypeDesc) (k : SV) : List (SV × SV × Nat) → Option (Option (SV × Nat))
  | [] => some none
  | (k', v, n) :: es =>
    match eqScalar d k k' with
    | some true => some (some (v, n))
    | some false => findE d k es
    | none => none

/-- The entry of a key, made if it is not there: its value, and when it was born. -/
def entryV (kd : TypeDesc) (z : SV) (w : SW) (x k : SV) : Option (SV × SW) :=
  match x with
  | .map id => (match hget w id with
    | some (.map es c) => (match findE kd k es with
      | some (some (v, n)) => (match put w id (some (.map es c)) with
        | some w => some (.tuple [v, .int .i64 (.ofNat n)], w)
        | none => none)
      | some none => force (c + 1) fun c' => (match put w id (some (.map (es ++ [(k, z, c)]) c')) with
        | some w => some (.tuple [z, .int .i64 (.ofNat c)], w)
        | none => none)
      | none => none)
    | _ => none)
  | _ => none

/-- The value of the entry that was born then. -/
def setBorn (n : Nat) (v : SV) : List (SV × SV × Nat) → Option (List (SV × SV × Nat))
  | [] => none
  | (k, v', m) :: es => match Nat.beq m n with
    | true => some ((k, v, m) :: es)
    | false => (match setBorn n v es with | some r => some ((k, v', m) :: r) | none => none)

def estoreV (w : SW) (x n v : SV) : Option SW :=
  match x with
  | .map id => (match hget w id, asNat n with
    | some (.map es c), some n => (match setBorn n v es with | some es => put w id (some (.map es c)) | none => none)
    | _, _ => none)
  | _ => none

def rowLen (x : SV) : Option Nat :=
  match x with
  | .string s => some s.size
  | .slice _ _ n _ => some n
  | .nilslice => some 0
  | _ => none

def firstCells (w : SW) (size n : Nat) (x : SV) : Option (List SV) :=
  match x with
  | .slice id off _ _ => (match hget w id with | some (.cells cs _) => seg cs off (n * size) | _ => none)
  | .nilslice => some []
  | .string s => some ((s.data.toList.take n).map fun b => .int .u8 b.toNat)
  | _ => none

def grow (elem : TypeId) (size bytes : Nat) (w : SW) (old : List SV) (len : Nat) (added : List SV) (n : Nat) : Option (SV × SW) :=
  match Nat.ble ((len + n + len + len + 1024) * (bytes + 1)) 140737488355328, allScalar added with
  | true, true => (match new w (.cells (old ++ added) elem) with
    | some (id, w) => force (len + n) fun l => some (.slice id 0 l (.toEnd size l), w)
    | none => none)
  | _, _ => none

/-- The mark of a row: 0 where it may have been made of a string. -/
def elAt (elem : TypeId) (w : SW) (id off : Nat) : Nat :=
  match hget w id with
  | some (.cells _ e) => (match Nat.beq e 0, Nat.beq e (rowsMark elem), Nat.beq off 0 with
    | true, _, _ => 0
    | false, true, true => rowsMark elem
    | _, _, _ => 1)
  | _ => 0

def rowOk (size : Nat) (x : SV) : Bool :=
  match x with
  | .string _ => Nat.beq size 1
  | _ => true

/-- Elements behind a row of the run's own. -/
def appendO (size bytes : Nat) (w : SW) (id a k sz : Nat) (added : List SV) (n : Nat) : Option (SV × SW) :=
  match hget w id with
  | some (.own a' cs) => (match Nat.beq a' a, Nat.beq sz size, Nat.beq cs.length (k * size), Nat.beq added.length (n * size), allScalar added, Nat.ble (k + n) 100000, Nat.ble (4400000 * (bytes + 1)) 140737488355328 with
    | true, true, true, true, true, true, true => (match put w id none with
      | some w' => (match new w' (.own a (cs ++ added)) with
        | some (id', w2) => force (k + n) fun k' => some (.oslice id' a k' sz, w2)
        | none => none)
      | none => none)
    | _, _, _, _, _, _, _ => none)
  | _ => none

def appendV (elem : TypeId) (size bytes : Nat) (w : SW) (s x : SV) : Option (SV × SW) :=
  match rowLen x with
  | none => none
  | some 0 => (match s with
    | .nilslice => some (s, w)
    | .slice _ _ len (.exact cap) => (match Nat.ble len cap with | true => some (s, w) | false => none)
    | .slice _ _ _ (.toEnd _ _) => some (s, w)
    | _ => none)
  | some (n + 1) =>
    match firstCells w size (n + 1) x, rowOk size x with
    | some added, true =>
      (match s with
      | .nilslice => grow (rowsMark elem) size bytes w [] 0 added (n + 1)
      | .slice id off len (.exact cap) =>
        (match Nat.ble (len + (n + 1)) cap with
        | true => (match storeAt w id (off + len * size) added with
          | some w => force (len + (n + 1)) fun l => some (.slice id off l (.exact cap), w)
          | none => none)
        | false => (match firstCells w size len s with | some old => grow (rowsMark elem) size bytes w old len added (n + 1) | none => none))
      | .slice id off len (.toEnd sz least) =>
        (match Nat.beq sz size, Nat.ble (len + (n + 1)) least with
        | true, true => (match storeAt w id (off + len * size) added with
          | some w => force (len + (n + 1)) fun l => some (.slice id off l (.toEnd sz least), w)
          | none => none)
        | true, false =>
          (match firstCells w size len s, put w id none with
          | some old, some w' => grow (elAt elem w id off) size bytes w' old len added (n + 1)
          | _, _ => none)
        | _, _ => none)
      | .oslice id a k sz => appendO size bytes w id a k sz added (n + 1)
      | _ => none)
    | _, _ => none

def emptyBase : SV → Bool
  | .nilslice => true
  | .slice _ _ 0 (.exact 0) => true
  | _ => false

/-- A row of the run's own with the elements of a row. -/
def likeRow (bytes : Nat) (w : SW) (a size : Nat) : Option (SV × SW) :=
  match E.lt (.lit 0) (.len a), E.lt (.len a) (.lit 1000001), Nat.ble (4400000 * (bytes + 1)) 140737488355328 with
  | some true, some true, true => (match new w (.own a []) with
    | some (id, w) => some (.oslice id a 0 size, w)
    | none => none)
  | _, _, _ => none

/-- Elements behind a row; a whole row behind an empty one. -/
def appendW (elem : TypeId) (size bytes : Nat) (w : SW) (s x : SV) : Option (SV × SW) :=
  match x with
  | .row a => (match emptyBase s, E.rows a with
    | true, some ks => (match Nat.beq ks.length size with | true => likeRow E bytes w a size | false => none)
    | _, _ => none)
  | .oslice id a 0 sz => (match emptyBase s, hget w id with
    | true, some (.own b []) => (match Nat.beq b a, Nat.beq sz size with | true, true => likeRow E bytes w a size | _, _ => none)
    | _, _ => none)
  | x => appendV elem size bytes w s x

/-- Zero values behind a row that is full. -/
def appendZ (elem : TypeId) (size bytes : Nat) (z : List SV) (w : SW) (s x : SV) : Option (SV × SW) :=
  match s, asNat x with
  | .slice id off len (.exact cap), some n =>
    (match Nat.ble (len + n) cap with
    | true => none
    | false => (match firstCells w size len (.slice id off len (.exact cap)) with
      | some old => grow (rowsMark elem) size bytes w old len (copies z n) n
      | none => none))
  | _, _ => none

def minMax (isMin : Bool) : SV → List SV → Option SV
  | x, [] => some x
  | .int k x, .int _ y :: rest =>
    (match isMin with
    | true => (match ltb y x with | true => minMax isMin (.int k y) rest | false => minMax isMin (.int k x) rest)
    | false => (match ltb x y with | true => minMax isMin (.int k y) rest | false => minMax isMin (.int k x) rest))
  | x, y :: rest => match toIE x, toIE y with
    | some (k, a), some (_, b) => (match isMin with
      | true => minMax isMin (.sint k (.min a b)) rest
      | false => minMax isMin (.sint k (.max a b)) rest)
    | _, _ => none

def withW (w : SW) (r : Option SV) : Option (SV × SW) :=
  match r with
  | some v => some (v, w)
  | none => none

def copyV (size : Nat) (w : SW) (dst src : SV) : Option (SV × SW) :=
  match rowLen src with
  | none => none
  | some m =>
    match dst with
    | .nilslice => some (.int .i64 0, w)
    | .slice id off len _ =>
      (match firstCells w size (min m len) src with
      | some cs => (match storeAt w id off cs with
        | some w => withW w (int .i64 (min m len : Nat))
        | none => none)
      | none => none)
    | _ => none

def done (r : Option SW) : Option (SV × SW) :=
  match r with
  | some w => some (.undef, w)
  | none => none

/-- A row's cells made zero. -/
def clearV (z : List SV) (w : SW) (x : SV) : Option SW :=
  match x with
  | .nilslice => some w
  | .slice id off len _ => (match len with
    | 0 => some w
    | len + 1 => storeAt w id off (copies z (Nat.succ len)))
  | _ => none

def blanks : Nat → List SV
  | 0 => []
  | n + 1 => .unknown :: blanks n

/-- Bytes, each within its bounds. -/
def bytes8 : List SV → Option (List UInt8)
  | [] => some []
  | .int .u8 (.ofNat n) :: vs => (match Nat.ble n 255, bytes8 vs with | true, some l => some (UInt8.ofNat n :: l) | _, _ => none)
  | _ => none

/-- A text of the first bytes of a row, which is not written any more. -/
def uStrV (te : TypeId) (w : SW) (p n : SV) : Option (SV × SW) :=
  match n with
  | .int .i64 (.ofNat 0) => (match p with
    | .nilptr => some (.string .empty, w)
    | .ptr _ _ => some (.string .empty, w)
    | _ => none)
  | .int .i64 (.ofNat (m + 1)) => (match p with
    | .ptr id 0 => (match hget w id with
      | some (.cells cs mk) => (match Nat.beq mk (rowsMark te), takeN cs (m + 1) with
        | true, some l => (match bytes8 l, put w id none, Nat.ble (m + 1) 9223372036854775807 with
          | some b, some w', true => some (.string ⟨b.toArray⟩, w')
          | _, _, _ => none)
        | _, _ => none)
      | _ => none)
    | _ => none)
  | _ => none

/-- How many elements there are. -/
def olen (a k : Nat) : IE := match k with
  | 0 => .len a
  | k + 1 => .bin .add .i64 (.len a) (.lit (.ofNat (Nat.succ k)))

/-- Which of the elements behind a row is meant. -/
def tailAt (a : Nat) (e : IE) : Nat → Option Nat
  | 0 => none
  | k + 1 => match E.eq e (olen a k) with | some true => some k | _ => tailAt a e k
/-- A place of a row of the run's own. -/
def ownAt (id a k z n : Nat) (i : SV) : Option SV :=
  match toIE i with
  | some (_, e) => (match Nat.beq z n with
    | true => (match E.lt e (.lit (.ofNat 0)), E.lt e (.len a) with
      | some false, some true => some (.eptr id a z none e 0)
      | _, _ => (match tailAt E a e k with | some j => some (.eptr id a z (some j) e 0) | none => none))
    | false => none)
  | none => none

def builtinK (cx : Cx) (b : Builtin) (argTypes : Array TypeId) (args : List Operand) : Option KOp :=
  match b, args with
  | .len, [x] =>
    (match opd cx x, argTypes.toList with
    | some ⟨f⟩, t0 :: _ => (match E.P.underlying t0 with
      | some .string => some (.pure fun e fr => match f e fr with | .string s => int .i64 s.size | .sstr a => some (.sint .i64 (.var a)) | .xstr a => some (.sint .i64 (.len a)) | _ => none)
      | some (.slice _) => some (.pure fun e fr => match f e fr with | .slice _ _ n _ => int .i64 n | .nilslice => some (.int .i64 0) | .row a => some (.sint .i64 (.len a)) | .oslice _ a k _ => some (.sint .i64 (olen a k)) | _ => none)
      | some (.array n _) => some (.pure fun _ _ => int .i64 n)
      | some (.map _ _) => some (.rd fun e fr w => match entries w (f e fr) with | some es => int .i64 es.length | none => none)
      | _ => none)
    | _, _ => none)
  | .cap, [x] =>
    (match opd cx x, argTypes.toList with
    | some ⟨f⟩, t0 :: _ => (match E.P.underlying t0 with
      | some (.slice _) => some (.pure fun e fr => match f e fr with | .slice _ _ _ (.exact c) => int .i64 c | .slice _ _ _ (.toEnd _ least) => some (.atLeast least) | .nilslice => some (.int .i64 0) | _ => none)
      | some (.array n _) => some (.pure fun _ _ => int .i64 n)
      | _ => none)
    | _, _ => none)
  | .append, [s, x] =>
    (match opd cx s, opd cx x, argTypes.toList with
    | some ⟨f⟩, some ⟨g⟩, [t0, t1] =>
      (match E.P.underlying t0, E.P.underlying t1 with
      | some (.slice elem), some u =>
        (match u with
        | .int _ => (match E.P.info? elem, zero E elem with
          | some i, some z => (match Nat.ble 1 i.size, Nat.beq z.cells.length i.size with
            | true, true => force i.size fun size => force i.bytes fun bytes => some (.full fun e fr w => appendZ elem size bytes z.cells w (f e fr) (g e fr))
            | _, _ => none)
          | _, _ => none)
        | _ => (match E.P.info? elem, zero E elem with
          | some i, some z => (match Nat.ble 1 i.size, Nat.beq z.cells.length i.size with
            | true, true => force i.size fun size => force i.bytes fun bytes => some (.full fun e fr w => appendW E elem size bytes w (f e fr) (g e fr))
            | _, _ => none)
          | _, _ => none))
      | _, _ => none)
    | _, _, _ => none)
  | .copy, [d, s] =>
    (match opd cx d, opd cx s, argTypes.toList with
    | some ⟨f⟩, some ⟨g⟩, t0 :: _ =>
      (match E.P.underlying t0 with
      | some (.slice elem) => (match sizeOf E elem with | some size => some (.full fun e fr w => copyV size w (f e fr) (g e fr)) | none => none)
      | _ => none)
    | _, _, _ => none)
  | .clear, [x] =>
    (match opd cx x, argTypes.toList with
    | some ⟨f⟩, t0 :: _ => (match E.P.underlying t0 with
      | some (.slice elem) => (match zero E elem with
        | some z => some (.full fun e fr w => done (clearV z.cells w (f e fr)))
        | none => none)
      | _ => none)
    | _, _ => none)
  | .delete, [m, i] =>
    (match opd cx m, opd cx i, argTypes.toList with
    | some ⟨f⟩, some ⟨g⟩, t0 :: _ => (match E.P.underlying t0 with
      | some (.map key _) => (match E.P.underlying key with
        | some kd => (match keyKind kd with
          | true => some (.full fun e fr w => done (deleteV E kd w (f e fr) (g e fr)))
          | false => none)
        | none => none)
      | _ => none)
    | _, _, _ => none)
  | .min, x :: rest => (match opd cx x, opds cx rest with | some ⟨f⟩, some ⟨g⟩ => some (.pure fun e fr => minMax true (f e fr) (g e fr)) | _, _ => none)
  | .max, x :: rest => (match opd cx x, opds cx rest with | some ⟨f⟩, some ⟨g⟩ => some (.pure fun e fr => minMax false (f e fr) (g e fr)) | _, _ => none)
  | .unsafeSliceData, [x] => (match opd cx x with
    | some ⟨f⟩ => some (.pure fun e fr => match f e fr with
      | .nilslice => some .nilptr
      | .slice id off _ (.exact (_ + 1)) => some (.ptr id off)
      | .slice id off _ (.toEnd _ (_ + 1)) => some (.ptr id off)
      | _ => none)
    | none => none)
  | .unsafeString, [x, y] => (match opd cx x, opd cx y, argTypes.toList with
    | some ⟨f⟩, some ⟨g⟩, [t0, _] => (match E.P.underlying t0 with
      | some (.pointer te) => (match Nat.beq (E.P.cellsOf te) 1 with
        | true => some (.full fun e fr w => uStrV te w (f e fr) (g e fr))
        | false => none)
      | _ => none)
    | _, _, _ => none)
  | _, _ => none

/-- The next entry of a map, where there is no choice. -/
def nextM (w : SW) (x : SV) : Option (SV × SW) :=
  match x with
  | .ptr id 0 =>
    (match hget w id with
    | some (.mapIter none _ _ _) => some (.tuple [.bool false], w)
    | some (.mapIter (some m) since seen last) =>
      (match hget w m with
      | some (.map es clock) =>
        (match es, seen with
        | [], _ => some (.tuple [.bool false], w)
        | [(k, v, n)], [] => (match Nat.ble (Nat.succ n) since with
          | true => (match put w id (some (.mapIter (some m) since [n] clock)) with
            | some w => some (.tuple [.bool true, k, v], w)
            | none => none)
          | false => none)
        | [(_, _, n)], [n'] => (match Nat.beq n n', Nat.ble (Nat.succ n) last with | true, true => some (.tuple [.bool false], w) | _, _ => none)
        | _, _ => none)
      | _ => none)
    | _ => none)
  | _ => none

/-- The last one of a list. -/
def lastN : List Nat → Option Nat
  | [] => none
  | n :: l => match l with | [] => some n | _ :: _ => lastN l

/-- The entry that was born then. -/
def bornAt (n : Nat) : List (SV × SV × Nat) → Option SV
  | [] => none
  | (k, v, m) :: es => match Nat.beq m n with | true => some (.tuple [k, v]) | false => bornAt n es

/-- The entry at which an iterator stands. -/
def standsAt (w : SW) (x : SV) : Option SV :=
  match x with
  | .ptr id 0 =>
    (match hget w id with
    | some (.mapIter (some m) _ seen last) =>
      (match hget w m, lastN seen with
      | some (.map es c), some n => (match Nat.beq c last with | true => bornAt n es | false => none)
      | _, _ => none)
    | _ => none)
  | _ => none

def nextV (w : SW) (x : SV) : Option (SV × SW) :=
  match x with
  | .ptr id 0 =>
    (match hget w id with
    | some (.strIter s pos) =>
      (match Nat.ble (pos + 1) s.size with
      | true => force (pos + (Utf8.decode s pos).2) fun pos' => (match put w id (some (.strIter s pos')) with
        | some w => some (.tuple [.bool true, .int .i64 (.ofNat pos), .int .i32 (Utf8.decode s pos).1], w)
        | none => none)
      | false => some (.tuple [.bool false], w))
    | _ => none)
  | _ => none

def indexV (n : Nat) (len : Nat) (i : SV) (k : Nat → Option SV) : Option SV :=
  match asNat i with
  | some i => (match Nat.ble (i + 1) len with | true => force (i * n) k | false => none)
  | none => none

def memNat (t : Nat) : List Nat → Bool
  | [] => false
  | x :: l => match Nat.beq x t with | true => true | false => memNat t l

/-- Two rows in places of their own do not overlap. -/
def overlapV (w : SW) (args : List SV) : Option SV :=
  match args with
  | [.slice a _ _ _, .slice b _ _ _] =>
    (match hget w a, hget w b, Nat.beq a b with
    | some (.cells _ el), some (.cells (_ :: _) _), false => (match Nat.beq el 0 with | false => some (.bool false) | true => none)
    | _, _, _ => none)
  | _ => none

/-- The first place of a byte. -/
def firstB (c : Nat) : List UInt8 → Nat → Option Nat
  | [], _ => none
  | b :: l, n => match Nat.beq b.toNat c with | true => some n | false => firstB c l (Nat.succ n)

def idxB (s : ByteArray) (c : Nat) : Int :=
  match firstB c s.data.toList 0 with
  | some n => .ofNat n
  | none => .negSucc 0

def indexBV (args : List SV) : Option SV :=
  match args with
  | [.string s, .int .u8 (.ofNat c)] => (match Nat.ble c 255 with | true => some (.int .i64 (idxB s c)) | false => none)
  | _ => none

def assocN (f : Nat) : List (Nat × TypeId) → Option TypeId
  | [] => none
  | (g, t) :: l => match Nat.beq f g with | true => some t | false => assocN f l

/-- A new row of bytes, of which nothing is known. -/
def mkzV (t : TypeId) (w : SW) (args : List SV) : Option (SV × SW) :=
  match args with
  | [.int .i64 (.ofNat n)] => (match Nat.ble n 281474976710656 with
    | true => (match new w (.cells (blanks n) (rowsMark t)) with | some (id, w) => some (.slice id 0 n (.toEnd 1 n), w) | none => none)
    | false => none)
  | _ => none

def kop0 (cx : Cx) (o : Oper) : Option KOp :=
  match o.op with
  | .move x => match opd cx x with | some ⟨f⟩ => some (.mv f) | none => none
  | .assign x => match opd cx x with | some ⟨f⟩ => some (.mv f) | none => none
  | .pick c a b => match opd cx c, opd cx a, opd cx b with
    | some ⟨f⟩, some ⟨g⟩, some ⟨h⟩ => some (.pure fun e fr => match f e fr with | .bool true => some (g e fr) | .bool false => some (h e fr) | _ => none)
    | _, _, _ => none
  | .alloc t => match zero E t with
    | some z => (match allScalar z.cells with | true => some (.full fun _ _ w => ptrTo (new w (.cells z.cells (wholeMark t)))) | false => none)
    | none => none
  | .box t x => match opd cx x with
    | some ⟨f⟩ => some (.full fun e fr w => match allScalar (f e fr).cells with | true => ptrTo (new w (.cells (f e fr).cells (wholeMark t))) | false => none)
    | none => none
  | .build t ps =>
    (match partsOf cx ps.toList, zero E t, E.P.underlying t with
    | some ⟨g⟩, some z, some d =>
      (match d with
      | .struct fields => (match fieldPlaces E fields.toList with
        | some pl => some (.pure fun e fr => match fill (nthP pl) z.cells (g e fr) with | some l => some (.agg l) | none => none)
        | none => none)
      | .array _ elem => (match sizeOf E elem with
        | some size => some (.pure fun e fr => match fill (fun i => some (i * size, size)) z.cells (g e fr) with | some l => some (.agg l) | none => none)
        | none => none)
      | _ => none)
    | _, _, _ => none)
  | .buildSlice t len ps =>
    (match partsOf cx ps.toList, E.P.underlying t with
    | some ⟨g⟩, some (.slice elem) =>
      (match sizeOf E elem, zero E elem with
      | some size, some z =>
        (match Nat.ble (len * size) 16777216, Nat.beq z.cells.length size, allScalar z.cells with
        | true, true, true => some (.full fun e fr w => match fill (fun i => some (i * size, size)) (copies z.cells len) (g e fr) with
          | some cs => (match allScalar cs with
            | true => (match new w (.cells cs (rowsMark elem)) with | some (id, w) => some (.slice id 0 len (.exact len), w) | none => none)
            | false => none)
          | none => none)
        | _, _, _ => none)
      | _, _ => none)
    | _, _ => none)
  | .load t a => match opd cx a, wide E t with
    | some ⟨f⟩, some wd => some (.rd fun e fr w => loadW E w wd (f e fr))
    | _, _ => none
  | .store t a v => match opd cx a, opd cx v, sizeOf E t with
    | some ⟨f⟩, some ⟨g⟩, some n => some (.full fun e fr w => done (storeW w n (f e fr) (g e fr)))
    | _, _, _ => none
  | .nilCheck x => match opd cx x with
    | some ⟨f⟩ => some (.pure fun e fr => match f e fr with | .ptr i o => some (.ptr i o) | .gptr i o => some (.gptr i o) | .rptr a i o => some (.rptr a i o) | .eptr d a z j i o => some (.eptr d a z j i o) | .func i a c => some (.func i a c) | _ => none)
    | none => none
  | .binOp op t x y _ => match opd cx x, opd cx y with
    | some ⟨f⟩, some ⟨g⟩ => (match inText x y with | lit => some (.pure fun e fr => binOp E lit op t (f e fr) (g e fr)))
    | _, _ => none
  | .unOp op _ x => match opd cx x with
    | some ⟨f⟩ => some (.pure fun e fr => unOp op (f e fr))
    | none => none
  | .convert a b x => match opd cx x with
    | some ⟨f⟩ => convertK E a b f
    | none => none
  | .makeInterface t x => match opd cx x, E.P.underlying t with
    | some ⟨f⟩, some d => (match d with | .interface _ => none | _ => some (.pure fun e fr => some (.iface t (f e fr))))
    | _, _ => none
  | .makeFunc fn first cap => match fn, opds cx first.toList, opds cx cap.toList with
    | .func f, some ⟨h⟩, some ⟨g⟩ => some (.pure fun e fr => some (.func f (h e fr) (g e fr)))
    | _, _, _ => none
  | .makeMap t h => match h with
    | none => some (.full fun _ _ w => match new w (.map [] 0) with | some (id, w) => some (.map id, w) | none => none)
    | some h => (match opd cx h, E.P.underlying t with
      | some ⟨f⟩, some (.map _ _) => some (.full fun e fr w => match asNat (f e fr) with
        | some _ => (match new w (.map [] 0) with | some (id, w) => some (.map id, w) | none => none)
        | none => none)
      | _, _ => none)
  | .makeSlice t l c => match opd cx l, opd cx c, E.P.underlying t with
    | some ⟨f⟩, some ⟨g⟩, some (.slice elem) =>
      (match E.P.info? elem, zero E elem with
      | some i, some z =>
        (match Nat.beq z.cells.length i.size, allScalar z.cells with
        | true, true => some (.full fun e fr w => match asNat (f e fr), asNat (g e fr) with
          | some l, some c => (match Nat.ble l c, Nat.ble ((i.bytes + 1) * c) 281474976710656 with
            | true, true => (match new w (.cells (copies z.cells c) (rowsMark elem)) with | some (id, w) => some (.slice id 0 l (.exact c), w) | none => none)
            | _, _ => none)
          | _, _ => none)
        | _, _ => none)
      | _, _ => none)
    | _, _, _ => none
  | .slice t x lo hi mx => match opd cx x, optOpd cx lo, optOpd cx hi, mx, E.P.underlying t with
    | some ⟨f⟩, some lo, some hi, none, some d =>
      (match d with
      | .string => some (.pure fun e fr => sliceV d none (f e fr) (Opd.opt lo e fr) (Opd.opt hi e fr))
      | _ => match sliceElem E d with
        | some n => some (.pure fun e fr => match d, f e fr with
          | .slice _, .row a => cutRow E n a (Opd.opt lo e fr) (Opd.opt hi e fr)
          | d, x => sliceV d (some n) x (Opd.opt lo e fr) (Opd.opt hi e fr))
        | none => none)
    | some ⟨f⟩, some lo, some hi, some mx, some d => (match opd cx mx, sliceElem E d with
      | some ⟨g⟩, some n => some (.pure fun e fr => slice3V d (some n) (f e fr) (Opd.opt lo e fr) (Opd.opt hi e fr) (some (g e fr)))
      | _, _ => none)
    | _, _, _, _, _ => none
  | .fieldAddr t x fld => match opd cx x, E.P.underlying t with
    | some ⟨f⟩, some (.struct fields) =>
      (match nthF fields.toList fld with
      | some fd => (match sizeOf E fd.type with
        | some (_ + 1) => force fd.offset fun k => some (.pure fun e fr => match f e fr with
          | .ptr id off => force (off + k) fun o => some (.ptr id o)
          | .gptr id off => force (off + k) fun o => some (.gptr id o)
          | .rptr a i off => force (off + k) fun o => some (.rptr a i o)
          | .eptr d a z j i off => force (off + k) fun o => some (.eptr d a z j i o)
          | _ => none)
        | _ => none)
      | none => none)
    | _, _ => none
  | .field t x fld => match opd cx x, E.P.underlying t with
    | some ⟨f⟩, some (.struct fields) =>
      (match nthF fields.toList fld with
      | some fd => (match wide E fd.type with
        | some wd => some (.pure fun e fr => match f e fr with | .agg cs => pick cs fd.offset wd | _ => none)
        | none => none)
      | none => none)
    | _, _ => none
  | .indexAddr t x i => match opd cx x, opd cx i, E.P.underlying t with
    | some ⟨f⟩, some ⟨g⟩, some d =>
      (match d with
      | .array len elem => (match sizeOf E elem with
        | some n => some (.pure fun e fr => match f e fr with
          | .ptr id off => indexV n len (g e fr) fun k => force (off + k) fun o => some (.ptr id o)
          | .gptr id off => indexV n len (g e fr) fun k => force (off + k) fun o => some (.gptr id o)
          | _ => none)
        | none => none)
      | .slice elem => (match sizeOf E elem with
        | some n => some (.pure fun e fr => match f e fr with
          | .slice id off len _ => indexV n len (g e fr) fun k => force (off + k) fun o => some (.ptr id o)
          | .row a => rowAt E a n (g e fr)
          | .oslice id a k z => ownAt E id a k z n (g e fr)
          | _ => none)
        | none => none)
      | _ => none)
    | _, _, _ => none
  | .index t x i => match opd cx x, opd cx i, E.P.underlying t with
    | some ⟨f⟩, some ⟨g⟩, some d =>
      (match d with
      | .array len elem => (match sizeOf E elem, wide E elem with
        | some n, some wd => some (.pure fun e fr => match f e fr with
          | .agg cs => indexV n len (g e fr) fun k => pick cs k wd
          | _ => none)
        | _, _ => none)
      | .string => some (.pure fun e fr => match f e fr with
        | .string s => (match asNat (g e fr) with
          | some i => (match nth s.data.toList i with | some b => some (.int .u8 b.toNat) | none => none)
          | none => none)
        | .xstr a => byteAt E a (g e fr)
        | _ => none)
      | _ => none)
    | _, _, _ => none
  | .lookup t x k ok => match opd cx x, opd cx k, E.P.underlying t with
    | some ⟨f⟩, some ⟨g⟩, some (.map key elem) =>
      (match E.P.underlying key, zero E elem with
      | some kd, some z => (match keyKind kd with
        | true => some (.rd fun e fr w => lookupV E kd z ok w (f e fr) (g e fr))
        | false => none)
      | _, _ => none)
    | _, _, _ => none
  | .mapUpdate t m k v => match opd cx m, opd cx k, opd cx v, E.P.underlying t with
    | some ⟨f⟩, some ⟨g⟩, some ⟨h⟩, some (.map key _) =>
      (match E.P.underlying key with
      | some kd => (match keyKind kd with
        | true => some (.full fun e fr w => done (updateV E kd w (f e fr) (g e fr) (h e fr)))
        | false => none)
      | _ => none)
    | _, _, _, _ => none
  | .insert t m k v => match opd cx m, opd cx k, opd cx v, E.P.underlying t with
    | some ⟨f⟩, some ⟨g⟩, some ⟨h⟩, some (.map key _) =>
      (match E.P.underlying key with
      | some kd => (match keyKind kd with
        | true => some (.full fun e fr w => done (updateV E kd w (f e fr) (g e fr) (h e fr)))
        | false => none)
      | _ => none)
    | _, _, _, _ => none
  | .range t x => match opd cx x, E.P.underlying t with
    | some ⟨f⟩, some .string => some (.full fun e fr w => match f e fr with
      | .string s => ptrTo (new w (.strIter s 0))
      | _ => none)
    | some ⟨f⟩, some (.map _ _) => some (.full fun e fr w => match f e fr with
      | .nilmap => ptrTo (new w (.mapIter none 0 [] 0))
      | .map m => (match hget w m with
        | some (.map _ c) => ptrTo (new w (.mapIter (some m) c [] c))
        | _ => none)
      | _ => none)
    | _, _ => none
  | .next x isString => match opd cx x, isString with
    | some ⟨f⟩, true => some (.full fun e fr w => nextV w (f e fr))
    | some ⟨f⟩, false => some (.full fun e fr w => nextM w (f e fr))
    | _, _ => none
  | .entry x => match opd cx x with
    | some ⟨f⟩ => some (.rd fun e fr w => standsAt w (f e fr))
    | none => none
  | .mapEntry t m k => match opd cx m, opd cx k, E.P.underlying t with
    | some ⟨f⟩, some ⟨g⟩, some (.map key elem) =>
      (match E.P.underlying key, zero E elem with
      | some kd, some z => (match keyKind kd with
        | true => some (.full fun e fr w => entryV kd z w (f e fr) (g e fr))
        | false => none)
      | _, _ => none)
    | _, _, _ => none
  | .entryStore _ m s x => match opd cx m, opd cx s, opd cx x with
    | some ⟨f⟩, some ⟨g⟩, some ⟨h⟩ => some (.full fun e fr w => done (estoreV w (f e fr) (g e fr) (h e fr)))
    | _, _, _ => none
  | .extract x i => match opd cx x with
    | some ⟨f⟩ => some (.pure fun e fr => match f e fr with | .tuple vs => nth vs i | _ => none)
    | none => none
  | .call c => match opds cx c.args.toList with
    | some ⟨g⟩ => (match c.callee with
      | .builtin b => builtinK E cx b c.argTypes c.args.toList
      | .value f => (match f with
        | .func f => (match memNat f E.overs with
          | true => some (.rd fun e fr w => overlapV w (g e fr))
          | false => match memNat f E.idxs with
            | true => some (.pure fun e fr => indexBV (g e fr))
            | false => match memNat f E.sames with
              | true => some (.pure fun e fr => match g e fr with | [x] => some x | _ => none)
              | false => match assocN f E.mkzs with
                | some t => some (.full fun e fr w => mkzV t w (g e fr))
                | none => some (.call fun C e fr w => C.call f (g e fr) w))
        | f => match opd cx f with
          | some ⟨h⟩ => some (.call fun C e fr w => match h e fr with
            | .func f fi cap => C.call f (fi ++ (g e fr ++ cap)) w
            | .yield l => C.round l (g e fr) w
            | _ => none)
          | none => none)
      | .invoke _ _ => none)
    | none => none
  | _ => none

/-- An operation that is not carried out in any run is let pass. -/
def kop (cx : Cx) (o : Oper) : Option KOp :=
  match kop0 E cx o with
  | some k => some k
  | none => match o.op with
    | .defer _ => none
    | _ => some (.full fun _ _ _ => none)

/-- The slots that are read before they are written, as bits. -/
def needs (W : Nat) : List Operand → Nat → Nat
  | [], M => M
  | o :: os, M => match o with
    | .tmp t => (match Nat.testBit W t with | true => needs W os M | false => needs W os (Nat.lor M (Nat.shiftLeft 1 t)))
    | _ => needs W os M

def nthO : List Oper → Nat → Option Oper
  | [], _ => none
  | c :: _, 0 => some c
  | _ :: cs, n + 1 => nthO cs n

def guardSlot (all : List Oper) (o : Oper) : Option Nat :=
  match o.guard with
  | none => none
  | some (j, _) => match nthO all j with
    | some oj => oj.dst
    | none => none

def guardNeeds (all : List Oper) (o : Oper) : List Operand :=
  match guardSlot all o with
  | some d => [.tmp d]
  | none => []

def opsNeed (all : List Oper) : List Oper → Nat → Nat → Nat
  | [], _, M => M
  | o :: os, W, M => opsNeed all os (match o.dst with | some d => Nat.lor W (Nat.shiftLeft 1 d) | none => W) (needs W (guardNeeds all o) (needs W o.op.operands.toList M))

def codeNeeds : Code → Nat → Nat
  | .seq a b, M => codeNeeds b (codeNeeds a M)
  | .cond c a b, M => codeNeeds b (codeNeeds a (needs 0 [c] M))
  | .block _ b, M => codeNeeds b M
  | .loop b, M => codeNeeds b M
  | .scope b, M => codeNeeds b M
  | .region _ os _, M => opsNeed os.toList os.toList 0 M
  | .rangeFunc g _ a b, M => codeNeeds b (codeNeeds a (needs 0 [g] M))
  | _, M => M

def resNeeds : List ResultVar → Nat → Nat
  | [], M => M
  | .tmp t :: rs, M => resNeeds rs (Nat.lor M (Nat.shiftLeft 1 t))
  | .cell t _ :: rs, M => resNeeds rs (Nat.lor M (Nat.shiftLeft 1 t))

/-- The bits of M from t on, n places. -/
def bitsOf (M : Nat) : Nat → Nat → List Nat
  | 0, _ => []
  | n + 1, t => match Nat.testBit M t with | true => t :: bitsOf M n (Nat.succ t) | false => bitsOf M n (Nat.succ t)

def forceL : List Nat → List Nat → List Nat
  | [], acc => acc
  | t :: ts, acc => force t fun t => forceL ts (t :: acc)

/-- A list of operations, compiled. -/
structure KS where
  f : Callee → List SV → List SV → SW → Option (List SV × SW)

/-- Where a result goes: nowhere; into a slot that the frame does not keep; into one that it keeps, at a place. -/
inductive Dst where
  | no
  | lost
  | kept (p : Nat)

/-- The slot of a result (n: none), and where it goes. -/
def dstK (sl : List Nat) (n : Nat) (d : Option Tmp) : Option (Nat × Dst) :=
  match d with
  | none => some (n, .no)
  | some d => match Nat.ble (Nat.succ d) n with
    | true => (match posOf d sl with | none => some (d, .lost) | some p => some (d, .kept p))
    | false => none

def keep (p : Option Nat) (fr : List SV) (v : SV) : List SV :=
  match p with
  | none => fr
  | some p => setNth v fr p

def Dst.keep (p : Dst) (fr : List SV) (v : SV) : List SV :=
  match p with
  | .no => fr
  | .lost => fr
  | .kept p => setNth v fr p

def Dst.push (p : Dst) (v : SV) (e : List SV) : List SV :=
  match p with
  | .no => SV.undef :: e
  | .lost => v :: e
  | .kept _ => v :: e

/-- How a guard is seen. -/
inductive Guard where
  | always
  | never
  | slot (f : List SV → List SV → SV) (want : Bool)

def guardK (cx : Cx) (all : List Oper) (o : Oper) : Guard :=
  match o.guard with
  | none => .always
  | some (_, want) => match guardSlot all o with
    | some d => (match slotK cx d with | ⟨f⟩ => .slot f want)
    | none => .never

/-- One operation of a region: the callee, what has come so far, the frame, the world; what comes of it. -/
structure K1 where
  f : Callee → List SV → List SV → SW → Option (SV × SW)

def k1of (k : KOp) : K1 :=
  match k with
  | .mv f => ⟨fun _ e fr w => some (f e fr, w)⟩
  | .pure f => ⟨fun _ e fr w => match f e fr with | some v => some (v, w) | none => none⟩
  | .rd f => ⟨fun _ e fr w => match f e fr w with | some v => some (v, w) | none => none⟩
  | .full f => ⟨fun _ e fr w => f e fr w⟩
  | .call f => ⟨f⟩

def guarded (g : Guard) (k : K1) : K1 :=
  match g, k with
  | .always, k => k
  | .never, _ => ⟨fun _ _ _ w => some (.undef, w)⟩
  | .slot q want, ⟨f⟩ => ⟨fun C e fr w => match q e fr with
    | .bool b => (match b, want with
      | true, true => f C e fr w
      | false, false => f C e fr w
      | _, _ => some (.undef, w))
    | .tuple _ => some (.undef, w)
    | _ => none⟩

/-- Then the rest of the region. -/
def chain (k : KOp) (g : Guard) (p : Dst) (rest : KS) : KS :=
  match g, k, p, rest with
  | .always, .mv f, .lost, ⟨r⟩ => ⟨fun C e fr w => r C (f e fr :: e) fr w⟩
  | .always, .mv f, .kept p, ⟨r⟩ => ⟨fun C e fr w => r C (f e fr :: e) (setNth (f e fr) fr p) w⟩
  | .always, .pure f, .lost, ⟨r⟩ => ⟨fun C e fr w => match f e fr with | some v => r C (v :: e) fr w | none => none⟩
  | .always, .rd f, .lost, ⟨r⟩ => ⟨fun C e fr w => match f e fr w with | some v => r C (v :: e) fr w | none => none⟩
  | g, k, .no, ⟨r⟩ => match guarded g (k1of k) with
    | ⟨f⟩ => ⟨fun C e fr w => match f C e fr w with | some (_, w) => r C (SV.undef :: e) fr w | none => none⟩
  | g, k, .lost, ⟨r⟩ => match guarded g (k1of k) with
    | ⟨f⟩ => ⟨fun C e fr w => match f C e fr w with | some (v, w) => r C (v :: e) fr w | none => none⟩
  | g, k, .kept p, ⟨r⟩ => match guarded g (k1of k) with
    | ⟨f⟩ => ⟨fun C e fr w => match f C e fr w with | some (v, w) => r C (v :: e) (setNth v fr p) w | none => none⟩

def kops (n : Nat) (sl : List Nat) (all : List Oper) : List Nat → List Oper → Option KS
  | _, [] => some ⟨fun _ _ fr w => some (fr, w)⟩
  | wr, o :: rest =>
    match kop E ⟨wr, sl⟩ o, dstK sl n o.dst with
    | some k, some (d, p) =>
      (match kops n sl all (d :: wr) rest with
      | some r => (match chain k (guardK ⟨wr, sl⟩ all o) p r with | ⟨f⟩ => some ⟨f⟩)
      | none => none)
    | _, _ => none

/-! ### Regions that draw their order -/
/-- The operations that come before an operation, as bits; the bits of what is before those with it. -/
def before (acc : List Nat) : List Edge → Nat → Nat
  | [], m => m
  | ed :: es, m => match Region.binds .any ed with
    | true => before acc es (Nat.lor m (Nat.lor (Nat.shiftLeft 1 ed.on) (nthV 0 acc ed.on)))
    | false => before acc es m

/-- Of each operation: all that come before it, whatever the order. -/
def befores : List Oper → List Nat → List Nat
  | [], acc => acc
  | o :: os, acc => force (before acc o.after.toList 0) fun m => befores os (acc ++ [m])

/-- Every edge that binds in the order of the text or in any goes down. -/
def earlier (i : Nat) : List Edge → Bool
  | [] => true
  | ed :: es => match Region.binds .text ed with
    | false => earlier i es
    | true => match Nat.ble (Nat.succ ed.on) i with | true => earlier i es | false => false

/-! The third order has an end: the operations that it lets pass, found in rounds. -/
def gcReady (L : Nat) : List Edge → Bool
  | [] => true
  | ed :: es => match Region.binds .gc ed with
    | false => gcReady L es
    | true => match Nat.testBit L ed.on with | true => gcReady L es | false => false

def gcScan : List Oper → Nat → Nat → Nat
  | [], _, L => L
  | o :: os, i, L => match gcReady L o.after.toList with
    | true => gcScan os (Nat.succ i) (Nat.lor L (Nat.shiftLeft 1 i))
    | false => gcScan os (Nat.succ i) L

def allBits : Nat → Nat → Bool
  | 0, _ => true
  | n + 1, L => match Nat.testBit L n with | true => allBits n L | false => false

def gcFix (os : List Oper) (n : Nat) : Nat → Nat → Bool
  | 0, L => allBits n L
  | f + 1, L => match allBits n L with
    | true => true
    | false => gcFix os n f (gcScan os 0 L)

/-- Are two operations in order? -/
def inOrder (bs : List Nat) (i j : Nat) : Bool :=
  match Nat.testBit (nthV 0 bs i) j with
  | true => true
  | false => Nat.testBit (nthV 0 bs j) i

def slotsOf : List Operand → List Nat
  | [] => []
  | .tmp t :: os => t :: slotsOf os
  | _ :: os => slotsOf os

/-- The slots that an operation reads or writes. -/
def touches (all : List Oper) (o : Oper) : List Nat :=
  (match o.dst with | some d => [d] | none => []) ++ (slotsOf (guardNeeds all o) ++ slotsOf o.op.operands.toList)

/-- Whoever writes a slot that operation i touches is in order with it. -/
def tidyAt (bs : List Nat) (i : Nat) (ts : List Nat) : List Oper → Nat → Bool
  | [], _ => true
  | o :: os, j => match o.dst with
    | none => tidyAt bs i ts os (Nat.succ j)
    | some d => match memNat d ts with
      | false => tidyAt bs i ts os (Nat.succ j)
      | true => match Nat.beq i j with
        | true => tidyAt bs i ts os (Nat.succ j)
        | false => match inOrder bs i j with
          | true => tidyAt bs i ts os (Nat.succ j)
          | false => false

def tidy (bs : List Nat) (all : List Oper) : List Oper → Nat → Bool
  | [], _ => true
  | o :: os, i => match tidyAt bs i (touches all o) all 0, earlier i o.after.toList with
    | true, true => tidy bs all os (Nat.succ i)
    | _, _ => false

/-- How an operation looks at memory: not at all; at objects that its operands name, or at none; it may write these; anything. -/
inductive Look where
  | no
  | rd
  | wr
  | big

def lookB (b : Builtin) : Look :=
  match b with
  | .append => .wr
  | .copy => .wr
  | .clear => .wr
  | .delete => .wr
  | .len => .rd
  | .cap => .rd
  | _ => .big

def lookO (o : Op) : Look :=
  match o with
  | .load _ _ => .rd
  | .lookup _ _ _ _ => .rd
  | .convert a b _ => (match Nat.beq a b with | true => .wr | false => .rd)
  | .range _ _ => .rd
  | .alloc _ => .rd
  | .box _ _ => .rd
  | .buildSlice _ _ _ => .rd
  | .makeSlice _ _ _ => .rd
  | .makeMap _ _ => .rd
  | .store _ _ _ => .wr
  | .mapUpdate _ _ _ _ => .wr
  | .insert _ _ _ _ => .wr
  | .mapEntry _ _ _ => .wr
  | .entryStore _ _ _ _ => .wr
  | .call c => (match c.callee with
    | .builtin b => lookB b
    | _ => .big)
  | _ => .big

def lookOf (k : KOp) (o : Oper) : Look :=
  match k with
  | .mv _ => .no
  | .pure _ => .no
  | _ => lookO o.op

/-- The operands whose objects it looks at. -/
def seenOpds (o : Op) : List Operand :=
  match o with
  | .load _ a => [a]
  | .lookup _ x _ _ => [x]
  | .convert _ _ x => [x]
  | .range _ x => [x]
  | .store _ a _ => [a]
  | .mapUpdate _ m _ _ => [m]
  | .insert _ m _ _ => [m]
  | .mapEntry _ m _ => [m]
  | .entryStore _ m _ _ => [m]
  | .call c => c.args.toList
  | _ => []

/-- The object that a value names. -/
def named : SV → List Nat
  | .ptr id _ => [id]
  | .slice id _ _ _ => [id]
  | .oslice id _ _ _ => [id]
  | .eptr id _ _ _ _ _ => [id]
  | .map id => [id]
  | _ => []

def namedL : List SV → List Nat
  | [] => []
  | v :: vs => named v ++ namedL vs

/-- Can two operations meet at an object, one of them writing? -/
def clash (a b : Look) : Bool :=
  match a, b with
  | .no, _ => false
  | _, .no => false
  | .rd, .rd => false
  | _, _ => true

/-- The operations that are not in order with operation i, and might meet it. -/
def rivals (bs : List Nat) (i : Nat) (m : Look) : List Look → Nat → List Nat
  | [], _ => []
  | m' :: ms, j => match clash m m' with
    | false => rivals bs i m ms (Nat.succ j)
    | true => match Nat.beq i j with
      | true => rivals bs i m ms (Nat.succ j)
      | false => match inOrder bs i j with
        | true => rivals bs i m ms (Nat.succ j)
        | false => j :: rivals bs i m ms (Nat.succ j)

/-! Are two objects the same? (What is not surely the same is not.) -/
def capEq : SCap → SCap → Bool
  | .exact a, .exact b => Nat.beq a b
  | .toEnd a b, .toEnd c d => (match Nat.beq a c with | true => Nat.beq b d | false => false)
  | _, _ => false

def boolEq : Bool → Bool → Bool
  | true, b => b
  | false, true => false
  | false, false => true

mutual
def _root_.Go.RX.IE.same : IE → IE → Bool
  | .var i, .var j => Nat.beq i j
  | .lit a, .lit b => eqb a b
  | .len a, .len b => Nat.beq a b
  | .sel a i c, .sel a' i' c' => match Nat.beq a a', Nat.beq c c' with | true, true => IE.same i i' | _, _ => false
  | .bin op k a b, .bin op' k' a' b' => match decide (op = op'), kindEq k k' with | true, true => (match IE.same a a' with | true => IE.same b b' | false => false) | _, _ => false
  | .conv k a, .conv k' a' => match kindEq k k' with | true => IE.same a a' | false => false
  | .neg k a, .neg k' a' => match kindEq k k' with | true => IE.same a a' | false => false
  | .max a b, .max a' b' => match IE.same a a' with | true => IE.same b b' | false => false
  | .min a b, .min a' b' => match IE.same a a' with | true => IE.same b b' | false => false
  | .fn f l, .fn f' l' => match Nat.beq f f' with | true => IE.sames l l' | false => false
  | _, _ => false
def _root_.Go.RX.IE.sames : List IE → List IE → Bool
  | [], [] => true
  | a :: l, a' :: l' => match IE.same a a' with | true => IE.sames l l' | false => false
  | _, _ => false
end

mutual
def svEq : SV → SV → Bool
  | .bool a, y => (match y with | .bool b => boolEq a b | _ => false)
  | .int k a, y => (match y with | .int k' b => (match kindEq k k' with | true => eqb a b | false => false) | _ => false)
  | .string a, y => (match y with | .string b => strEq a b | _ => false)
  | .ptr i a, y => (match y with | .ptr j b => (match Nat.beq i j with | true => Nat.beq a b | false => false) | _ => false)
  | .gptr i a, y => (match y with | .gptr j b => (match Nat.beq i j with | true => Nat.beq a b | false => false) | _ => false)
  | .xstr a, y => (match y with | .xstr b => Nat.beq a b | _ => false)
  | .nilptr, y => (match y with | .nilptr => true | _ => false)
  | .slice i a n c, y => (match y with
    | .slice j b m d => (match Nat.beq i j, Nat.beq a b, Nat.beq n m with | true, true, true => capEq c d | _, _, _ => false)
    | _ => false)
  | .nilslice, y => (match y with | .nilslice => true | _ => false)
  | .map i, y => (match y with | .map j => Nat.beq i j | _ => false)
  | .nilmap, y => (match y with | .nilmap => true | _ => false)
  | .func f a c, y => (match y with
    | .func g b d => (match Nat.beq f g, svsEq a b with | true, true => svsEq c d | _, _ => false)
    | _ => false)
  | .yield i, y => (match y with | .yield j => Nat.beq i j | _ => false)
  | .nilfunc, y => (match y with | .nilfunc => true | _ => false)
  | .nilIface, y => (match y with | .nilIface => true | _ => false)
  | .iface t v, y => (match y with | .iface u w => (match Nat.beq t u with | true => svEq v w | false => false) | _ => false)
  | .agg a, y => (match y with | .agg b => svsEq a b | _ => false)
  | .tuple a, y => (match y with | .tuple b => svsEq a b | _ => false)
  | .row i, y => (match y with | .row j => Nat.beq i j | _ => false)
  | .cellv a i c, y => (match y with | .cellv b j d => (match Nat.beq a b, Nat.beq c d with | true, true => IE.same i j | _, _ => false) | _ => false)
  | .oslice i a k z, y => (match y with | .oslice j b l x => (match Nat.beq i j, Nat.beq a b, Nat.beq k l with | true, true, true => Nat.beq z x | _, _, _ => false) | _ => false)
  | .sint k a, y => (match y with | .sint j b => (match kindEq k j with | true => IE.same a b | false => false) | _ => false)
  | _, _ => false
def svsEq : List SV → List SV → Bool
  | [], y => (match y with | [] => true | _ => false)
  | a :: as, y => (match y with | b :: bs => (match svEq a b with | true => svsEq as bs | false => false) | [] => false)
end

def entsEq : List (SV × SV × Nat) → List (SV × SV × Nat) → Bool
  | [], y => (match y with | [] => true | _ => false)
  | (k, v, n) :: es, y => (match y with
    | (k', v', n') :: fs => (match Nat.beq n n', svEq k k', svEq v v' with | true, true, true => entsEq es fs | _, _, _ => false)
    | [] => false)

def objEq (a b : Option SObj) : Bool :=
  match a, b with
  | none, none => true
  | some (.cells cs e), some (.cells ds f) => (match Nat.beq e f with | true => svsEq cs ds | false => false)
  | some (.map es c), some (.map fs d) => (match Nat.beq c d with | true => entsEq es fs | false => false)
  | some (.own a cs), some (.own b ds) => (match Nat.beq a b with | true => svsEq cs ds | false => false)
  | some (.blob a), some (.blob b) => Nat.beq a b
  | _, _ => false

/-- What an operation of a region has met: the objects that it has looked at or made (none: it may have looked at any), and the state before and behind it. -/
structure Ent where
  i : Nat
  sight : Option (List Nat)
  w : SW
  w' : SW

/-- An object that a step leaves as it was, or has made. -/
def kept (w w' : SW) (id : Nat) : Bool :=
  match Nat.ble (Nat.succ id) w'.low with
  | true => true
  | false => match Nat.ble w.next id with
    | true => true
    | false => objEq (hget w id) (hget w' id)

def keptAll (w w' : SW) : List Nat → Bool
  | [] => true
  | id :: l => match kept w w' id with | true => keptAll w w' l | false => false

/-- A step spares what another one looks at. -/
def spares (w w' : SW) (s : Option (List Nat)) : Bool :=
  match Nat.ble w.next w'.low with
  | true => true
  | false => match s with
    | none => false
    | some l => keptAll w w' l

/-- What a region that draws its order hands on besides: what operations with rivals have met. -/
structure KD where
  f : Callee → List Ent → List SV → List SV → SW → Option (List SV × SW)

/-- No rival has been disturbed, or disturbs. -/
def clear (rs : List Nat) (s : Option (List Nat)) (w w' : SW) : List Ent → Bool
  | [] => true
  | ⟨j, s', v, v'⟩ :: l => match memNat j rs with
    | false => clear rs s w w' l
    | true => match spares v v' s, spares w w' s' with
      | true, true => clear rs s w w' l
      | _, _ => false

/-- How an operation of such a region is let pass. -/
inductive Pass where
  /-- It is in order with all that might meet it. -/
  | free
  /-- It has rivals: what it looks at (none: anything) and what it does are held against theirs. -/
  | wary (a : Option (List SV → List SV → List SV)) (rs : List Nat)

def passK (cx : Cx) (bs : List Nat) (ms : List Look) (i : Nat) (k : KOp) (o : Oper) : Option Pass :=
  match rivals bs i (lookOf k o) ms 0 with
  | [] => some .free
  | r :: rs => match lookOf k o with
    | .big => some (.wary none (r :: rs))
    | _ => match opds cx (seenOpds o.op) with
      | some ⟨g⟩ => some (.wary (some g) (r :: rs))
      | none => none

def rangeN : Nat → Nat → List Nat
  | _, 0 => []
  | a, n + 1 => a :: rangeN (Nat.succ a) n

def sightV (a : Option (List SV → List SV → List SV)) (e fr : List SV) (w w' : SW) : Option (List Nat) :=
  match a with
  | none => none
  | some g => some (namedL (g e fr) ++ rangeN w.next (w'.next - w.next))

def lower (a b : Nat) : Nat := match Nat.ble a b with | true => a | false => b

def chainD (i : Nat) (g : Guard) (k : KOp) (p : Dst) (ps : Pass) (rest : KD) : KD :=
  match rest, guarded g (k1of k), ps with
  | ⟨r⟩, ⟨f⟩, .free => ⟨fun C lg e fr w => match f C e fr w with | some (v, w) => r C lg (p.push v e) (p.keep fr v) w | none => none⟩
  | ⟨r⟩, ⟨f⟩, .wary a rs => ⟨fun C lg e fr w => match f C e fr ⟨w.heap, w.next, w.next⟩ with
    | some (v, w') => (match clear rs (sightV a e fr w w') w w' lg with
      | true => r C (⟨i, sightV a e fr w w', w, w'⟩ :: lg) (p.push v e) (p.keep fr v) ⟨w'.heap, w'.next, lower w.low w'.low⟩
      | false => none)
    | none => none⟩

def looks (n : Nat) (sl : List Nat) : List Nat → List Oper → Option (List Look)
  | _, [] => some []
  | wr, o :: rest => match kop E ⟨wr, sl⟩ o, dstK sl n o.dst with
    | some k, some (d, _) => (match looks n sl (d :: wr) rest with | some l => some (lookOf k o :: l) | none => none)
    | _, _ => none

def kopsD (n : Nat) (sl : List Nat) (all : List Oper) (bs : List Nat) (ms : List Look) : List Nat → List Oper → Nat → Option KD
  | _, [], _ => some ⟨fun _ _ _ fr w => some (fr, w)⟩
  | wr, o :: rest, i =>
    match kop E ⟨wr, sl⟩ o, dstK sl n o.dst with
    | some k, some (d, p) =>
      (match kopsD n sl all bs ms (d :: wr) rest (Nat.succ i), passK ⟨wr, sl⟩ bs ms i k o with
      | some r, some ps => (match chainD i (guardK ⟨wr, sl⟩ all o) k p ps r with | ⟨f⟩ => some ⟨f⟩)
      | _, _ => none)
    | _, _ => none

def drawn (n : Nat) (sl : List Nat) (os : Array Oper) : Option KD :=
  match befores os.toList [], looks E n sl [] os.toList with
  | bs, some ms => (match tidy bs os.toList os.toList 0, gcFix os.toList os.toList.length os.toList.length 0 with
    | true, true => kopsD E n sl os.toList bs ms [] os.toList 0
    | _, _ => none)
  | _, none => none

/-- Code, compiled: the functions that it calls, the round in which it runs, the state. -/
structure K where
  f : Callee → Option Nat → St → Option Out

def loopN (f : Callee → Option Nat → St → Option Out) (C : Callee) (r : Option Nat) (n : Nat) : St → Option Out :=
  Nat.rec (motive := fun _ => St → Option Out) (fun _ => none) (fun _ ih st => match f C r st with
    | some (.norm st) => ih st
    | x => x) n

def mark (r : Option Nat) (st : St) : Option (Nat × SW × List Nat) :=
  match r with
  | none => match new st.w (.deferred true) with | some (d, w) => some (d, w, d :: st.defers) | none => none
  | some l0 => match hget st.w l0 with
    | some (.loop L0) => some (L0.defers, st.w, st.defers)
    | _ => none

def endRange (fr : List SV) (defers : List Nat) (l : Nat) (w : SW) : Option Out :=
  match hget w l with
  | some (.loop L) =>
    (match L.state with
    | .busy => none
    | _ =>
      (match put w l (some (.loop { L with state := .exhausted })) with
      | none => none
      | some w =>
        match L.pending with
        | none => some (.norm ⟨fr, defers, w⟩)
        | some .ret => some (.ret ⟨fr, defers, w⟩)
        | some (.exit id) => some (.exit id ⟨fr, defers, w⟩)
        | some _ => none))
  | _ => none

def rangeK (n : Nat) (sl : List Nat) (g : List SV → List SV → SV) (ps : Array Tmp) (assign body : Code) (C : Callee) (r : Option Nat) (st : St) : Option Out :=
  match mark r st with
  | none => none
  | some (d, w, defers) =>
    match new w (.loop { state := .ready, pending := none, fr := st.fr, sl, n, params := ps, assign, body, defers := d }) with
    | none => none
    | some (l, w) =>
      match g [] st.fr with
      | .func f fi cap => (match C.call f (fi ++ (.yield l :: cap)) w with
        | some (_, w) => endRange st.fr defers l w
        | none => none)
      | _ => none

def comp (n : Nat) (sl : List Nat) : Code → Option K
  | .skip => some ⟨fun _ _ st => some (.norm st)⟩
  | .ret => some ⟨fun _ _ st => some (.ret st)⟩
  | .exit id => some ⟨fun _ _ st => some (.exit id st)⟩
  | .seq a b => match comp n sl a, comp n sl b with
    | some ⟨f⟩, some ⟨g⟩ => some ⟨fun C r st => match f C r st with | some (.norm st) => g C r st | x => x⟩
    | _, _ => none
  | .cond c a b => match opd ⟨[], sl⟩ c, comp n sl a, comp n sl b with
    | some ⟨e⟩, some ⟨f⟩, some ⟨g⟩ => some ⟨fun C r st => match e [] st.fr with | .bool true => f C r st | .bool false => g C r st | _ => none⟩
    | _, _, _ => none
  | .block id b => match comp n sl b with
    | some ⟨f⟩ => some ⟨fun C r st => match f C r st with
      | some (.exit id' st) => (match Nat.beq id' id with | true => some (.norm st) | false => some (.exit id' st))
      | x => x⟩
    | none => none
  | .loop b => match comp n sl b with
    | some ⟨f⟩ => some ⟨fun C r st => loopN f C r 1000000 st⟩
    | none => none
  | .region _ os draw => match draw with
    | false => (match kops E n sl os.toList [] os.toList with
      | some ⟨f⟩ => some ⟨fun C _ st => match f C [] st.fr st.w with | some (fr, w) => some (.norm ⟨fr, st.defers, w⟩) | none => none⟩
      | none => none)
    | true => (match drawn E n sl os with
      | some ⟨f⟩ => some ⟨fun C _ st => match f C [] [] st.fr st.w with | some (fr, w) => some (.norm ⟨fr, st.defers, w⟩) | none => none⟩
      | none => none)
  | .rangeFunc g ps a b => match opd ⟨[], sl⟩ g with
    | some ⟨f⟩ => some ⟨fun C r st => rangeK n sl f ps a b C r st⟩
    | none => none
  | .scope b => comp n sl b
  | .label _ => some ⟨fun _ _ st => some (.norm st)⟩
  | _ => some ⟨fun _ _ _ => none⟩

/-- A function, compiled. -/
structure KFn where
  f : Callee → List SV → SW → Option (SV × SW)

def frameOf (args : List SV) : List Nat → List SV
  | [] => []
  | t :: ts => nthV .unknown args t :: frameOf args ts

def shut (w : SW) : List Nat → Option SW
  | [] => some w
  | d :: ds => match hget w d with
    | some (.deferred true) => (match put w d (some (.deferred false)) with | some w => shut w ds | none => none)
    | _ => none

structure Res where
  f : List SV → SW → Option (List SV)

def resK (sl : List Nat) : List ResultVar → Option Res
  | [] => some ⟨fun _ _ => some []⟩
  | .tmp t :: rs => match resK sl rs, slotK ⟨[], sl⟩ t with
    | some ⟨g⟩, ⟨f⟩ => some ⟨fun fr w => match g fr w with | some vs => some (f [] fr :: vs) | none => none⟩
    | none, _ => none
  | .cell a t :: rs => match resK sl rs, wide E t, slotK ⟨[], sl⟩ a with
    | some ⟨g⟩, some wd, ⟨f⟩ => some ⟨fun fr w => match loadW E w wd (f [] fr), g fr w with
      | some v, some vs => some (v :: vs)
      | _, _ => none⟩
    | _, _, _ => none

def leave (g : List SV → SW → Option (List SV)) (st : St) : Option (SV × SW) :=
  match shut st.w st.defers with
  | none => none
  | some w => match g st.fr w with
    | some [v] => some (v, w)
    | some vs => some (.tuple vs, w)
    | none => none

/-- The slots that a function keeps. -/
def slots (fn : Func) (body : Code) : List Nat :=
  forceL (bitsOf (codeNeeds body (resNeeds fn.results.toList 0)) fn.ntmps 0) []

def compFn (f : Nat) : Option KFn :=
  match nth E.P.funcs.toList f with
  | none => none
  | some fn =>
    match fn.name == "runtime.NumGoroutine", fn.body with
    | false, some body =>
      (match slots fn body with
      | sl =>
        match comp E fn.ntmps sl body, resK E sl fn.results.toList with
        | some ⟨k⟩, some ⟨g⟩ => some ⟨fun C args w =>
          match Nat.ble args.length fn.ntmps with
          | false => none
          | true =>
            match k C none ⟨frameOf args sl, [], w⟩ with
            | some (.norm st) => leave g st
            | some (.ret st) => leave g st
            | _ => none⟩
        | _, _ => none)
    | _, _ => none

def setSlots (n : Nat) (sl : List Nat) : List Tmp → List SV → List SV → Option (List SV)
  | [], [], fr => some fr
  | d :: ds, v :: vs, fr => match Nat.ble (Nat.succ d) n with | true => setSlots n sl ds vs (keep (posOf d sl) fr v) | false => none
  | _, _, _ => none

def endRound (l : Nat) (jump : Option Code) (st : St) : Option (SV × SW) :=
  match st.defers with
  | _ :: _ => none
  | [] => match hget st.w l with
    | some (.loop L) =>
      (match put st.w l (some (.loop { L with state := (match jump with | none => .ready | some _ => .done), pending := jump })) with
      | some w => some (.bool (match jump with | none => true | some _ => false), w)
      | none => none)
    | _ => none

def roundSem (C : Callee) (l : Nat) (args : List SV) (w : SW) : Option (SV × SW) :=
  match hget w l with
  | some (.loop L) =>
    (match setSlots L.n L.sl L.params.toList args L.fr, comp E L.n L.sl L.assign, comp E L.n L.sl L.body with
    | some fr, some ⟨fa⟩, some ⟨fb⟩ =>
      (match fa C (some l) ⟨fr, [], w⟩ with
      | some (.norm st) =>
        (match hget st.w l with
        | some (.loop L1) =>
          (match L1.state with
          | .ready =>
            (match put st.w l (some (.loop { L1 with state := .busy })) with
            | some w1 => (match fb C (some l) ⟨st.fr, st.defers, w1⟩ with
              | some (.norm st) => endRound l none st
              | some (.ret st) => endRound l (some .ret) st
              | some (.exit id st) => endRound l (some (.exit id)) st
              | none => none)
            | none => none)
          | _ => none)
        | _ => none)
      | _ => none)
    | _, _, _ => none)
  | _ => none

/-- Does a value name no object? -/
def noRef : SV → Bool
  | .bool _ => true
  | .int _ _ => true
  | .string _ => true
  | .nilptr => true
  | .nilslice => true
  | .nilmap => true
  | .nilfunc => true
  | .nilIface => true
  | .sint _ _ => true
  | .sstr _ => true
  | .xstr _ => true
  | .row _ => true
  | .rptr _ _ _ => true
  | .agg l => noRefs l
  | .tuple l => noRefs l
  | _ => false
where
  noRefs : List SV → Bool
    | [] => true
    | v :: vs => match noRef v with | true => noRefs vs | false => false

/-- What a call has made is forgotten where its result names nothing and it has written nothing that was there. -/
def forget (w : SW) (r : Option (SV × SW)) : Option (SV × SW) :=
  match r with
  | none => none
  | some (v, w') => match Nat.ble w.next w'.low with
    | true => (match noRef v with
      | true => some (v, ⟨w.heap, w'.next, w.low⟩)
      | false => some (v, ⟨w'.heap, w'.next, w.low⟩))
    | false => (match Nat.ble w.low w'.low with
      | true => some (v, ⟨w'.heap, w'.next, w.low⟩)
      | false => some (v, w'))

def sem : Nat → Callee
  | 0 => ⟨fun _ _ _ => none, fun _ _ _ => none⟩
  | d + 1 => ⟨fun f args w => match compFn E f with | some ⟨g⟩ => forget w (g (sem d) args ⟨w.heap, w.next, w.next⟩) | none => none, fun l args w => roundSem E (sem d) l args w⟩

end Sym
end Go.RX
end

/- Plain facts on the evaluator's lists and trees. -/
namespace Go.RX

/-! ### Lists -/
@[simp] theorem nth_nil {α : Type} (n : Nat) : nth ([] : List α) n = none := rfl
@[simp] theorem nth_zero {α : Type} (c : α) (l : List α) : nth (c :: l) 0 = some c := rfl
@[simp] theorem nth_succ {α : Type} (c : α) (l : List α) (n : Nat) : nth (c :: l) (n + 1) = nth l n := rfl

theorem nth_eq {α : Type} (l : List α) : ∀ n, nth l n = l[n]? := by
  induction l with
  | nil => intro n; simp
  | cons c l ih => intro n; cases n with
    | zero => simp
    | succ n => simp [ih]

@[simp] theorem nthV_nil {α : Type} (d : α) (n : Nat) : nthV d ([] : List α) n = d := rfl
@[simp] theorem nthV_zero {α : Type} (d c : α) (l : List α) : nthV d (c :: l) 0 = c := rfl
@[simp] theorem nthV_succ {α : Type} (d c : α) (l : List α) (n : Nat) : nthV d (c :: l) (n + 1) = nthV d l n := rfl

theorem nthV_eq {α : Type} (d : α) (l : List α) : ∀ n, nthV d l n = (l[n]?).getD d := by
  induction l with
  | nil => intro n; simp
  | cons c l ih => intro n; cases n with
    | zero => simp
    | succ n => simp [ih]

theorem nthV_beyond {α : Type} (d : α) (l : List α) (n : Nat) (h : l.length ≤ n) : nthV d l n = d := by
  rw [nthV_eq, List.getElem?_eq_none h]; rfl

@[simp] theorem consF_cons {α : Type} (c a : α) (b : List α) : consF c (a :: b) = c :: a :: b := rfl
@[simp] theorem consF_nil {α : Type} (c : α) : consF c ([] : List α) = [] := rfl
@[simp] theorem setNth_nil {α : Type} (v : α) (n : Nat) : setNth v ([] : List α) n = [] := rfl
@[simp] theorem setNth_zero {α : Type} (v c : α) (l : List α) : setNth v (c :: l) 0 = v :: l := rfl
theorem setNth_succ {α : Type} (v c : α) (l : List α) (n : Nat) : setNth v (c :: l) (n + 1) = consF c (setNth v l n) := rfl

theorem setNth_eq {α : Type} (v : α) (l : List α) : ∀ n, n < l.length → setNth v l n = l.set n v := by
  induction l with
  | nil => intro n h; simp at h
  | cons c l ih =>
    intro n h
    cases n with
    | zero => simp
    | succ n =>
      have hn : n < l.length := by simpa using h
      rw [setNth_succ, ih n hn]
      cases e : l.set n v with
      | nil => have := congrArg List.length e; simp at this; subst this; simp at hn
      | cons a b => simp [e]

theorem setNth_beyond {α : Type} (v : α) (l : List α) : ∀ n, l.length ≤ n → setNth v l n = [] := by
  induction l with
  | nil => intro n _; rfl
  | cons c l ih =>
    intro n h
    cases n with
    | zero => simp at h
    | succ n => rw [setNth_succ, ih n (by simpa using h)]; rfl

/-- What a place of the list reads behind the writing: the value there; elsewhere what stood, or nothing known. -/
theorem nthV_setNth {α : Type} (d v : α) (l : List α) (n m : Nat) :
    nthV d (setNth v l n) m = if n < l.length then (if m = n then v else nthV d l m) else d := by
  by_cases h : n < l.length
  · rw [if_pos h, setNth_eq v l n h, nthV_eq, nthV_eq, List.getElem?_set]
    by_cases e : m = n
    · subst e; simp [h]
    · rw [if_neg (fun h => e h.symm), if_neg e]
  · rw [if_neg h, setNth_beyond v l n (by omega)]; rfl

@[simp] theorem takeN_nil_zero {α : Type} : takeN ([] : List α) 0 = some [] := rfl
@[simp] theorem takeN_nil_succ {α : Type} (n : Nat) : takeN ([] : List α) (n + 1) = none := rfl
@[simp] theorem takeN_cons_zero {α : Type} (c : α) (l : List α) : takeN (c :: l) 0 = some [] := rfl
theorem takeN_cons_succ {α : Type} (c : α) (l : List α) (n : Nat) : takeN (c :: l) (n + 1) = (takeN l n).map (c :: ·) := by
  show Option.rec (motive := fun _ => Option (List α)) none (fun l => some (c :: l)) (takeN l n) = _
  cases takeN l n <;> rfl

theorem takeN_some {α : Type} (l : List α) : ∀ n r, takeN l n = some r → n ≤ l.length ∧ r = l.take n := by
  induction l with
  | nil => intro n r h; cases n with
    | zero => simp at h; simp [h]
    | succ n => simp at h
  | cons c l ih => intro n r h; cases n with
    | zero => simp at h; simp [h]
    | succ n =>
      rw [takeN_cons_succ] at h
      cases e : takeN l n with
      | none => simp [e] at h
      | some r' =>
        simp [e] at h
        obtain ⟨h1, h2⟩ := ih n r' e
        simp [← h, h2]; omega

theorem seg_zero {α : Type} (l : List α) (n : Nat) : seg l 0 n = takeN l n := by cases l <;> rfl
@[simp] theorem seg_nil_succ {α : Type} (m n : Nat) : seg ([] : List α) (m + 1) n = none := rfl
@[simp] theorem seg_cons_succ {α : Type} (c : α) (l : List α) (m n : Nat) : seg (c :: l) (m + 1) n = seg l m n := rfl

theorem seg_some {α : Type} (l : List α) : ∀ m n r, seg l m n = some r → m + n ≤ l.length ∧ r = (l.drop m).take n ∧ r.length = n := by
  induction l with
  | nil => intro m n r h; cases m with
    | zero => rw [seg_zero] at h; obtain ⟨h1, h2⟩ := takeN_some _ _ _ h; simp at h1; subst h1; simp [h2]
    | succ m => simp at h
  | cons c l ih => intro m n r h; cases m with
    | zero => rw [seg_zero] at h; obtain ⟨h1, h2⟩ := takeN_some _ _ _ h; simp at h1; simp [h2]; omega
    | succ m => rw [seg_cons_succ] at h; obtain ⟨h1, h2, h3⟩ := ih m n r h; simp [h3]; exact ⟨by omega, h2⟩

theorem seg_get {α : Type} {l : List α} {m n : Nat} {r : List α} (h : seg l m n = some r) (k : Nat) : k < n → r[k]? = l[m + k]? := by
  intro hk
  obtain ⟨h1, h2, h3⟩ := seg_some _ _ _ _ h
  rw [h2, List.getElem?_take, if_pos hk, List.getElem?_drop]

@[simp] theorem over_nil_nil {α : Type} : over ([] : List α) [] = some [] := rfl
@[simp] theorem over_nil_cons {α : Type} (v : α) (vs : List α) : over ([] : List α) (v :: vs) = none := rfl
@[simp] theorem over_cons_nil {α : Type} (c : α) (l : List α) : over (c :: l) [] = some (c :: l) := rfl
theorem over_cons_cons {α : Type} (c v : α) (l vs : List α) : over (c :: l) (v :: vs) = (over l vs).map (v :: ·) := by
  show Option.rec (motive := fun _ => Option (List α)) none (fun l => some (v :: l)) (over l vs) = _
  cases over l vs <;> rfl

theorem over_some {α : Type} (l : List α) : ∀ vs r, over l vs = some r → vs.length ≤ l.length ∧ r = vs ++ l.drop vs.length := by
  induction l with
  | nil => intro vs r h; cases vs with
    | nil => simp at h; simp [h]
    | cons v vs => simp at h
  | cons c l ih => intro vs r h; cases vs with
    | nil => simp at h; simp [h]
    | cons v vs =>
      rw [over_cons_cons] at h
      cases e : over l vs with
      | none => simp [e] at h
      | some r' => simp [e] at h; obtain ⟨h1, h2⟩ := ih vs r' e; simp [← h, h2]; omega

theorem splice_zero {α : Type} (l vs : List α) : splice l 0 vs = over l vs := by cases l <;> rfl
@[simp] theorem splice_nil_succ {α : Type} (m : Nat) (vs : List α) : splice ([] : List α) (m + 1) vs = none := rfl
theorem splice_cons_succ {α : Type} (c : α) (l : List α) (m : Nat) (vs : List α) : splice (c :: l) (m + 1) vs = (splice l m vs).map (c :: ·) := by
  show Option.rec (motive := fun _ => Option (List α)) none (fun l => some (c :: l)) (splice l m vs) = _
  cases splice l m vs <;> rfl

theorem splice_some {α : Type} (l : List α) : ∀ m vs r, splice l m vs = some r → m + vs.length ≤ l.length ∧ r = l.take m ++ (vs ++ l.drop (m + vs.length)) := by
  induction l with
  | nil => intro m vs r h; cases m with
    | zero => rw [splice_zero] at h; obtain ⟨h1, h2⟩ := over_some _ _ _ h; exact ⟨by simpa using h1, by simpa using h2⟩
    | succ m => simp at h
  | cons c l ih => intro m vs r h; cases m with
    | zero => rw [splice_zero] at h; obtain ⟨h1, h2⟩ := over_some _ _ _ h; simp [h2]; simpa using h1
    | succ m =>
      rw [splice_cons_succ] at h
      cases e : splice l m vs with
      | none => simp [e] at h
      | some r' =>
        simp [e] at h
        obtain ⟨h1, h2⟩ := ih m vs r' e
        refine ⟨by simp; omega, ?_⟩
        rw [← h, h2, show m + 1 + vs.length = (m + vs.length) + 1 from by omega]; simp

theorem splice_length {α : Type} {l vs r : List α} {m : Nat} (h : splice l m vs = some r) : r.length = l.length := by
  obtain ⟨h1, h2⟩ := splice_some _ _ _ _ h
  rw [h2]; simp; omega

theorem splice_get {α : Type} {l vs r : List α} {m : Nat} (h : splice l m vs = some r) (k : Nat) :
    r[k]? = if m ≤ k ∧ k < m + vs.length then vs[k - m]? else l[k]? := by
  obtain ⟨h1, h2⟩ := splice_some _ _ _ _ h
  rw [h2]
  by_cases a : k < m
  · rw [if_neg (by omega), List.getElem?_append_left (by simp; omega), List.getElem?_take, if_pos a]
  · rw [List.getElem?_append_right (by simp; omega)]
    have hm : (l.take m).length = m := by simp; omega
    rw [hm]
    by_cases b : k < m + vs.length
    · rw [if_pos ⟨by omega, b⟩, List.getElem?_append_left (by omega)]
    · rw [if_neg (by omega), List.getElem?_append_right (by omega), List.getElem?_drop]
      congr 1; omega

@[simp] theorem posOf_nil (t : Nat) : posOf t [] = none := rfl
theorem posOf_cons (t c : Nat) (l : List Nat) : posOf t (c :: l) = if c = t then some 0 else (posOf t l).map Nat.succ := by
  show Bool.rec (motive := fun _ => Option Nat) (Option.rec (motive := fun _ => Option Nat) none (fun n => some (Nat.succ n)) (posOf t l)) (some 0) (Nat.beq c t) = _
  by_cases h : c = t
  · subst h; simp
  · have hb : Nat.beq c t = false := by
      cases e : Nat.beq c t with
      | false => rfl
      | true => exact absurd (Nat.eq_of_beq_eq_true e) h
    rw [hb, if_neg h]
    cases posOf t l <;> rfl

theorem posOf_some {t : Nat} {l : List Nat} {i : Nat} (h : posOf t l = some i) : l[i]? = some t := by
  induction l generalizing i with
  | nil => simp at h
  | cons c l ih =>
    rw [posOf_cons] at h
    split at h
    · rename_i e; subst e; simp at h; subst h; simp
    · cases e : posOf t l with
      | none => simp [e] at h
      | some j => simp [e] at h; subst h; simp [ih e]

/-! ### The tree -/
def Tr.isNode {α : Type} : Tr α → Prop
  | .nil => False
  | .node _ _ _ => True

theorem Tr.get_nil {α : Type} (d : α) (p : List Bool) : Tr.get d p (.nil) = d := by cases p <;> rfl
theorem Tr.get_node_nil {α : Type} (d v : α) (l r : Tr α) : Tr.get d [] (.node l v r) = v := rfl
theorem Tr.get_node_true {α : Type} (d v : α) (l r : Tr α) (p : List Bool) : Tr.get d (true :: p) (.node l v r) = Tr.get d p l := rfl
theorem Tr.get_node_false {α : Type} (d v : α) (l r : Tr α) (p : List Bool) : Tr.get d (false :: p) (.node l v r) = Tr.get d p r := rfl

theorem Tr.onL_node {α : Type} {x : α} {r t : Tr α} (h : t.isNode) : Tr.onL x r t = .node t x r := by cases t with
  | nil => exact h.elim
  | node a b c => rfl
theorem Tr.onR_node {α : Type} {x : α} {l t : Tr α} (h : t.isNode) : Tr.onR l x t = .node l x t := by cases t with
  | nil => exact h.elim
  | node a b c => rfl

theorem Tr.set_isNode {α : Type} (d v : α) (p : List Bool) : ∀ t : Tr α, (Tr.set d v p t).isNode := by
  induction p with
  | nil => intro t; cases t <;> exact trivial
  | cons b p ih =>
    intro t
    cases b <;> cases t
    · show (Tr.onR .nil d (Tr.set d v p .nil)).isNode; rw [Tr.onR_node (ih _)]; exact trivial
    · rename_i l x r; show (Tr.onR l x (Tr.set d v p r)).isNode; rw [Tr.onR_node (ih _)]; exact trivial
    · show (Tr.onL d .nil (Tr.set d v p .nil)).isNode; rw [Tr.onL_node (ih _)]; exact trivial
    · rename_i l x r; show (Tr.onL x r (Tr.set d v p l)).isNode; rw [Tr.onL_node (ih _)]; exact trivial

theorem Tr.set_cons_true {α : Type} (d v : α) (p : List Bool) (t : Tr α) :
    Tr.set d v (true :: p) t = match t with | .nil => .node (Tr.set d v p .nil) d .nil | .node l x r => .node (Tr.set d v p l) x r := by
  cases t
  · exact Tr.onL_node (Tr.set_isNode d v p _)
  · exact Tr.onL_node (Tr.set_isNode d v p _)
theorem Tr.set_cons_false {α : Type} (d v : α) (p : List Bool) (t : Tr α) :
    Tr.set d v (false :: p) t = match t with | .nil => .node .nil d (Tr.set d v p .nil) | .node l x r => .node l x (Tr.set d v p r) := by
  cases t
  · exact Tr.onR_node (Tr.set_isNode d v p _)
  · exact Tr.onR_node (Tr.set_isNode d v p _)

theorem Tr.get_set {α : Type} (d v : α) (p : List Bool) : ∀ (q : List Bool) (t : Tr α), Tr.get d q (Tr.set d v p t) = if q = p then v else Tr.get d q t := by
  induction p with
  | nil =>
    intro q t
    cases q with
    | nil => cases t <;> rfl
    | cons b q => cases t <;> cases b <;> (first | (simp [Tr.set, Tr.get_node_true, Tr.get_node_false]; done) | (rw [if_neg (by simp), Tr.get_nil]; first | exact Tr.get_nil d q | rfl) | rfl)
  | cons b p ih =>
    intro q t
    cases b with
    | true =>
      rw [Tr.set_cons_true]
      cases q with
      | nil => cases t <;> simp [Tr.get_node_nil, Tr.get_nil]
      | cons c q => cases c <;> cases t <;> simp [Tr.get_node_true, Tr.get_node_false, Tr.get_nil, ih]
    | false =>
      rw [Tr.set_cons_false]
      cases q with
      | nil => cases t <;> simp [Tr.get_node_nil, Tr.get_nil]
      | cons c q => cases c <;> cases t <;> simp [Tr.get_node_true, Tr.get_node_false, Tr.get_nil, ih]

/-! ### Paths -/
def unpath : List Bool → Nat
  | [] => 0
  | true :: p => 2 * unpath p + 1
  | false :: p => 2 * unpath p + 2

theorem unpath_pathN (f : Nat) : ∀ n, n ≤ f → unpath (pathN f n) = n := by
  induction f with
  | zero => intro n h; have : n = 0 := by omega
            subst this; rfl
  | succ f ih =>
    intro n h
    show unpath (Bool.rec (Bool.rec (false :: pathN f (Nat.pred (Nat.div n 2))) (true :: pathN f (Nat.div n 2)) (Nat.beq (Nat.mod n 2) 1)) [] (Nat.beq n 0)) = n
    have hdiv : Nat.div n 2 = n / 2 := rfl
    have hmod : Nat.mod n 2 = n % 2 := rfl
    rw [hdiv, hmod]
    cases e : Nat.beq n 0 with
    | true => have := Nat.eq_of_beq_eq_true e; subst this; rfl
    | false =>
      have hn : n ≠ 0 := by intro h; subst h; simp at e
      cases e2 : Nat.beq (n % 2) 1 with
      | true =>
        have h2 := Nat.eq_of_beq_eq_true e2
        show 2 * unpath (pathN f (n / 2)) + 1 = n
        rw [ih _ (by omega)]; omega
      | false =>
        have h2 : n % 2 ≠ 1 := by intro h; rw [h] at e2; simp at e2
        show 2 * unpath (pathN f (Nat.pred (n / 2))) + 2 = n
        have hp : Nat.pred (n / 2) = n / 2 - 1 := rfl
        rw [hp, ih _ (by omega)]; omega

theorem path_inj {a b : Nat} (h : path a = path b) : a = b := by
  have h1 := unpath_pathN a a (Nat.le_refl _)
  have h2 := unpath_pathN b b (Nat.le_refl _)
  have h3 : pathN a a = pathN b b := h
  rw [← h1, ← h2, h3]

end Go.RX

/- How a symbolic state stands to a world: the numbers' places, values, objects, worlds. -/
namespace Go.RX

/-! ### What texts of numbers stand for -/
noncomputable def opVal (op : BinOp) (k : IntKind) (x y : Int) : Int :=
  match (match op with
    | .shl => Sym.shiftOp .shl k x y
    | .shr => Sym.shiftOp .shr k x y
    | op => Sym.intOp op k x y) with
  | some (.int _ n) => n
  | _ => 0

mutual
noncomputable def IE.val (σ : Sig) : IE → Int
  | .var i => σ.var i
  | .lit n => n
  | .len a => (σ.row a).2.2.2
  | .sel a i c => match σ.cell a (IE.val σ i).toNat c with | .int _ n => n | _ => 0
  | .bin op k a b => opVal op k (IE.val σ a) (IE.val σ b)
  | .conv k a => k.wrap (IE.val σ a)
  | .neg k a => k.wrap (0 - IE.val σ a)
  | .max a b => if IE.val σ a < IE.val σ b then IE.val σ b else IE.val σ a
  | .min a b => if IE.val σ b < IE.val σ a then IE.val σ b else IE.val σ a
  | .fn f l => σ.fn f (IE.vals σ l)
noncomputable def IE.vals (σ : Sig) : List IE → List Int
  | [] => []
  | e :: l => IE.val σ e :: IE.vals σ l
end

/-- Where a number's cells lie: block, first place, and the block's length; none: not there (yet). Beside it, what the texts of numbers stand for. -/
structure Ren where
  to : Nat → Option (Nat × Nat × Nat)
  sig : Sig
instance : CoeFun Ren (fun _ => Nat → Option (Nat × Nat × Nat)) := ⟨Ren.to⟩

/-- Nothing lies anywhere. -/
def Ren.nil (σ : Sig) : Ren := ⟨fun _ => none, σ⟩

structure Ren.le (ρ ρ' : Ren) : Prop where
  on : ∀ i p, ρ i = some p → ρ' i = some p
  same : ρ.sig = ρ'.sig
instance {ρ ρ' : Ren} : CoeFun (Ren.le ρ ρ') (fun _ => ∀ i p, ρ i = some p → ρ' i = some p) := ⟨Ren.le.on⟩

mutual
inductive VRel (ρ : Ren) : SV → Value → Prop
  | bool (b : Bool) : VRel ρ (.bool b) (.bool b)
  | int (k : IntKind) (n : Int) : VRel ρ (.int k n) (.int k n)
  | sint (k : IntKind) (e : IE) : VRel ρ (.sint k e) (.int k (e.val ρ.sig))
  | sstr {a : Nat} {s : ByteArray} (h : (s.size : Int) = ρ.sig.var a) : VRel ρ (.sstr a) (.string s)
  | xstr {a b x : Nat} {s : ByteArray} (h : ρ.sig.row a = (b, x, 1, s.size)) (hc : ∀ i y, s[i]? = some y → ρ.sig.cell a i 0 = .int .u8 y.toNat) : VRel ρ (.xstr a) (.string s)
  | atLeast {n m : Nat} (h : n ≤ m) : VRel ρ (.atLeast n) (.int .i64 m)
  | row {a b x sz n cap : Nat} (h : ρ.sig.row a = (b, x, sz, n)) (hc : n ≤ cap) : VRel ρ (.row a) (.slice (some ⟨b, x, none⟩) n cap)
  /-- A row of no elements may have any address, where it has no capacity. -/
  | rowE {a b x sz : Nat} {p : Addr} (h : ρ.sig.row a = (b, x, sz, 0)) : VRel ρ (.row a) (.slice (some p) 0 0)
  | rptr {a b x sz n off : Nat} {i : IE} (h : ρ.sig.row a = (b, x, sz, n)) (h0 : 0 ≤ i.val ρ.sig) (h1 : i.val ρ.sig < n) : VRel ρ (.rptr a i off) (.pointer (some ⟨b, x + (i.val ρ.sig).toNat * sz + off, none⟩))
  | string (s : ByteArray) : VRel ρ (.string s) (.string s)
  | ptr {id off b o t : Nat} (h : ρ id = some (b, o, t)) : VRel ρ (.ptr id off) (.pointer (some ⟨b, o + off, none⟩))
  | gptr (g off : Nat) : VRel ρ (.gptr g off) (.pointer (some ⟨g, off, none⟩))
  | nilptr : VRel ρ .nilptr (.pointer none)
  | sliceE {id off len c b o t : Nat} (h : ρ id = some (b, o, t)) : VRel ρ (.slice id off len (.exact c)) (.slice (some ⟨b, o + off, none⟩) len c)
  | sliceT {id off len sz least b o t x cap : Nat} (h : ρ id = some (b, o, t)) (ht : o + off + cap * sz = t) (hl : len ≤ cap) (hk : least ≤ cap) (hx : x = o + off ∨ cap = 0) :
      VRel ρ (.slice id off len (.toEnd sz least)) (.slice (some ⟨b, x, none⟩) len cap)
  | nilslice : VRel ρ .nilslice (.slice none 0 0)
  | map {id b : Nat} (h : ρ id = some (b, 0, 0)) : VRel ρ (.map id) (.map (some b))
  | nilmap : VRel ρ .nilmap (.map none)
  | func (f : Nat) {as cs : List SV} {us vs : List Value} (h1 : VRels ρ as us) (h : VRels ρ cs vs) : VRel ρ (.func f as cs) (.func (.func f) us.toArray vs.toArray)
  | yield {l b : Nat} (h : ρ l = some (b, 0, 0)) : VRel ρ (.yield l) (.func (.yield b) #[] #[])
  | nilfunc : VRel ρ .nilfunc .nilFunc
  | nilIface : VRel ρ .nilIface .nilIface
  | iface (t : Nat) {x : SV} {v : Value} (h : VRel ρ x v) : VRel ρ (.iface t x) (.iface t v)
  | agg {cs : List SV} {vs : List Value} (h : VRels ρ cs vs) : VRel ρ (.agg cs) (.agg vs.toArray)
  | tuple {cs : List SV} {vs : List Value} (h : VRels ρ cs vs) : VRel ρ (.tuple cs) (.tuple vs.toArray)
  | blur (v : Value) (h : v.oneCell' = true) : VRel ρ .blur v
  | cellv {a : Nat} {i : IE} {c : Nat} {v : Value} (h : v = ρ.sig.cell a (i.val ρ.sig).toNat c) (h1 : v.oneCell' = true) : VRel ρ (.cellv a i c) v
  | oslice {id a k sz b o t b0 x0 n cap : Nat} (h : ρ id = some (b, o, t)) (ha : ρ.sig.row a = (b0, x0, sz, n)) (hc : n + k ≤ cap) (ht : o + cap * sz = t) (hn : n ≤ 1000000) (hk : k ≤ 100000) : VRel ρ (.oslice id a k sz) (.slice (some ⟨b, o, none⟩) (n + k) cap)
  | eptrO {id a sz off b o t b0 x0 n : Nat} {i : IE} (h : ρ id = some (b, o, t)) (ha : ρ.sig.row a = (b0, x0, sz, n)) (h0 : 0 ≤ i.val ρ.sig) (h1 : i.val ρ.sig < n) : VRel ρ (.eptr id a sz none i off) (.pointer (some ⟨b, o + (i.val ρ.sig).toNat * sz + off, none⟩))
  | eptrT {id a sz off b o t b0 x0 n j : Nat} {i : IE} (h : ρ id = some (b, o, t)) (ha : ρ.sig.row a = (b0, x0, sz, n)) : VRel ρ (.eptr id a sz (some j) i off) (.pointer (some ⟨b, o + (n + j) * sz + off, none⟩))
  | unknown (v : Value) : VRel ρ .unknown v
inductive VRels (ρ : Ren) : List SV → List Value → Prop
  | nil : VRels ρ [] []
  | cons {x : SV} {v : Value} {xs : List SV} {vs : List Value} (h : VRel ρ x v) (hs : VRels ρ xs vs) : VRels ρ (x :: xs) (v :: vs)
end

mutual
theorem VRel.mono {ρ ρ' : Ren} (hle : ρ.le ρ') : ∀ {x : SV} {v : Value}, VRel ρ x v → VRel ρ' x v
  | _, _, .bool b => .bool b
  | _, _, .int k n => .int k n
  | _, _, .sint k e => by rw [hle.same]; exact .sint k e
  | _, _, .atLeast h => .atLeast h
  | _, _, .sstr h => by rw [hle.same] at h; exact .sstr h
  | _, _, .xstr h hc => by rw [hle.same] at h hc; exact .xstr h hc
  | _, _, .row h hc => .row (by rw [← hle.same]; exact h) hc
  | _, _, .rowE h => .rowE (by rw [← hle.same]; exact h)
  | _, _, .rptr h h0 h1 => by rw [hle.same] at h h0 h1 ⊢; exact .rptr h h0 h1
  | _, _, .string s => .string s
  | _, _, .ptr h => .ptr (hle _ _ h)
  | _, _, .gptr g o => .gptr g o
  | _, _, .nilptr => .nilptr
  | _, _, .sliceE h => .sliceE (hle _ _ h)
  | _, _, .sliceT h a b c d => .sliceT (hle _ _ h) a b c d
  | _, _, .nilslice => .nilslice
  | _, _, .map h => .map (hle _ _ h)
  | _, _, .nilmap => .nilmap
  | _, _, .func f h1 h => .func f (VRels.mono hle h1) (VRels.mono hle h)
  | _, _, .yield h => .yield (hle _ _ h)
  | _, _, .nilfunc => .nilfunc
  | _, _, .nilIface => .nilIface
  | _, _, .iface t h => .iface t (VRel.mono hle h)
  | _, _, .agg h => .agg (VRels.mono hle h)
  | _, _, .tuple h => .tuple (VRels.mono hle h)
  | _, _, .blur v h => .blur v h
  | _, _, .cellv h h1 => .cellv (by rw [← hle.same]; exact h) h1
  | _, _, .oslice h ha hc ht hn hk => .oslice (hle _ _ h) (by rw [← hle.same]; exact ha) hc ht hn hk
  | _, _, .eptrO h ha h0 h1 => by rw [hle.same] at ha h0 h1 ⊢; exact .eptrO (hle _ _ h) ha h0 h1
  | _, _, .eptrT h ha => .eptrT (hle _ _ h) (by rw [← hle.same]; exact ha)
  | _, _, .unknown v => .unknown v
theorem VRels.mono {ρ ρ' : Ren} (hle : ρ.le ρ') : ∀ {xs : List SV} {vs : List Value}, VRels ρ xs vs → VRels ρ' xs vs
  | _, _, .nil => .nil
  | _, _, .cons h hs => .cons (VRel.mono hle h) (VRels.mono hle hs)
end

/- A value that was related before and is related later is related by what was known before. -/
mutual
theorem VRel.back {ρ ρ' : Ren} (hle : ρ.le ρ') : ∀ {x : SV} {u v : Value}, VRel ρ x u → VRel ρ' x v → VRel ρ x v
  | .bool _, _, _, _, .bool b => .bool b
  | .int _ _, _, _, _, .int k n => .int k n
  | .sint _ _, _, _, _, .sint k e => by rw [← hle.same]; exact .sint k e
  | .atLeast _, _, _, _, .atLeast h => .atLeast h
  | .sstr _, _, _, _, .sstr h => by rw [← hle.same] at h; exact .sstr h
  | .xstr _, _, _, _, .xstr h hc => by rw [← hle.same] at h hc; exact .xstr h hc
  | .row _, _, _, _, .row h hc => .row (by rw [hle.same]; exact h) hc
  | .row _, _, _, _, .rowE h => .rowE (by rw [hle.same]; exact h)
  | .rptr _ _ _, _, _, _, .rptr h h0 h1 => by rw [← hle.same] at h h0 h1 ⊢; exact .rptr h h0 h1
  | .string _, _, _, _, .string s => .string s
  | .ptr id off, _, _, .ptr h, .ptr h' => .ptr (by have := hle _ _ h; rw [this] at h'; cases h'; exact h)
  | .gptr _ _, _, _, _, .gptr g o => .gptr g o
  | .nilptr, _, _, _, .nilptr => .nilptr
  | .slice _ _ _ (.exact _), _, _, .sliceE h, .sliceE h' => .sliceE (by have := hle _ _ h; rw [this] at h'; cases h'; exact h)
  | .slice _ _ _ (.toEnd _ _), _, _, .sliceT h _ _ _ _, .sliceT h' a b c d => by
    have := hle _ _ h; rw [this] at h'; cases h'; exact .sliceT h a b c d
  | .nilslice, _, _, _, .nilslice => .nilslice
  | .map _, _, _, .map h, .map h' => .map (by have := hle _ _ h; rw [this] at h'; cases h'; exact h)
  | .nilmap, _, _, _, .nilmap => .nilmap
  | .func _ _ _, _, _, .func _ h1 h, .func f h1' h' => .func f (VRels.back hle h1 h1') (VRels.back hle h h')
  | .yield _, _, _, .yield h, .yield h' => .yield (by have := hle _ _ h; rw [this] at h'; cases h'; exact h)
  | .nilfunc, _, _, _, .nilfunc => .nilfunc
  | .nilIface, _, _, _, .nilIface => .nilIface
  | .iface _ _, _, _, .iface _ h, .iface t h' => .iface t (VRel.back hle h h')
  | .agg _, _, _, .agg h, .agg h' => .agg (VRels.back hle h h')
  | .tuple _, _, _, .tuple h, .tuple h' => .tuple (VRels.back hle h h')
  | .blur, _, _, _, .blur v h => .blur v h
  | .cellv _ _ _, _, _, _, .cellv h h1 => .cellv (by rw [hle.same]; exact h) h1
  | .oslice _ _ _ _, _, _, .oslice h ha hc ht hn hk, .oslice h' ha' hc' ht' hn' hk' => by
    have := hle _ _ h; rw [this] at h'; cases h'
    exact .oslice h (by rw [hle.same]; exact ha') hc' ht' hn' hk'
  | .eptr _ _ _ none _ _, _, _, .eptrO h ha h0 h1, .eptrO h' ha' h0' h1' => by
    have := hle _ _ h; rw [this] at h'; cases h'
    rw [← hle.same] at ha' h0' h1' ⊢
    exact .eptrO h ha' h0' h1'
  | .eptr _ _ _ (some _) _ _, _, _, .eptrT h ha, .eptrT h' ha' => by
    have := hle _ _ h; rw [this] at h'; cases h'
    exact .eptrT h (by rw [hle.same]; exact ha')
  | .unknown, _, _, _, .unknown v => .unknown v
theorem VRels.back {ρ ρ' : Ren} (hle : ρ.le ρ') : ∀ {xs : List SV} {us vs : List Value}, VRels ρ xs us → VRels ρ' xs vs → VRels ρ xs vs
  | [], _, _, .nil, .nil => .nil
  | _ :: _, _, _, .cons h hs, .cons h' hs' => .cons (VRel.back hle h h') (VRels.back hle hs hs')
end

theorem VRels.length {ρ : Ren} : ∀ {xs : List SV} {vs : List Value}, VRels ρ xs vs → xs.length = vs.length
  | _, _, .nil => rfl
  | _, _, .cons _ hs => by simp [VRels.length hs]

theorem VRels.get {ρ : Ren} : ∀ {xs : List SV} {vs : List Value} (_ : VRels ρ xs vs) {i : Nat} {x : SV}, xs[i]? = some x → ∃ v, vs[i]? = some v ∧ VRel ρ x v
  | _, _, .nil, i, x, h => by simp at h
  | _, _, .cons h hs, 0, x, e => by simp at e; subst e; exact ⟨_, rfl, h⟩
  | _, _, .cons h hs, i + 1, x, e => by simpa using VRels.get hs (by simpa using e)

theorem VRels.of_get {ρ : Ren} : ∀ {xs : List SV} {vs : List Value}, xs.length = vs.length → (∀ (i : Nat) (x : SV) (v : Value), xs[i]? = some x → vs[i]? = some v → VRel ρ x v) → VRels ρ xs vs
  | [], [], _, _ => .nil
  | [], _ :: _, h, _ => by simp at h
  | _ :: _, [], h, _ => by simp at h
  | x :: xs, v :: vs, h, hg => .cons (hg 0 x v rfl rfl) (VRels.of_get (by simpa using h) fun i x v h1 h2 => hg (i + 1) x v (by simpa using h1) (by simpa using h2))

theorem VRels.append {ρ : Ren} : ∀ {xs ys : List SV} {us vs : List Value}, VRels ρ xs us → VRels ρ ys vs → VRels ρ (xs ++ ys) (us ++ vs)
  | _, _, _, _, .nil, h => h
  | _, _, _, _, .cons a as, h => .cons a (VRels.append as h)

theorem VRel.scalar {ρ : Ren} {x : SV} {v : Value} (h : VRel ρ x v) (hs : x.scalar = true) : v.oneCell' = true := by
  cases h <;> first | rfl | assumption | (simp [SV.scalar] at hs)

theorem VRel.cells {ρ : Ren} {x : SV} {v : Value} (h : VRel ρ x v) (hu : x ≠ .unknown) : VRels ρ x.cells v.cells.toList := by
  cases h <;> first | (simp only [SV.cells, Value.cells]; assumption) | (exact absurd rfl hu) | skip
  all_goals (first | (simp only [SV.cells, Value.cells]; exact .cons (by constructor <;> assumption) .nil) | skip)
  · rename_i h
    cases v <;> first | (simp [Value.oneCell'] at h; done) | exact .cons (.blur _ h) .nil
  · rename_i h1 h
    cases v <;> first | (simp [Value.oneCell'] at h; done) | exact .cons (.cellv h1 h) .nil

/-! ### Constants -/
mutual
theorem ofValue_sound {ρ : Ren} : ∀ (v : Value) {x : SV}, Sym.ofValue v = some x → VRel ρ x v
  | .bool b, x, h => by simp [Sym.ofValue] at h; subst h; exact .bool b
  | .int k n, x, h => by simp [Sym.ofValue] at h; subst h; exact .int k n
  | .string s, x, h => by simp [Sym.ofValue] at h; subst h; exact .string s
  | .pointer none, x, h => by simp [Sym.ofValue] at h; subst h; exact .nilptr
  | .pointer (some a), x, h => by simp [Sym.ofValue] at h
  | .slice a l c, x, h => by
    cases a with
    | some a => simp [Sym.ofValue] at h
    | none => cases l with
      | succ l => simp [Sym.ofValue] at h
      | zero => cases c with
        | succ c => simp [Sym.ofValue] at h
        | zero => simp [Sym.ofValue] at h; subst h; exact .nilslice
  | .map none, x, h => by simp [Sym.ofValue] at h; subst h; exact .nilmap
  | .map (some a), x, h => by simp [Sym.ofValue] at h
  | .nilFunc, x, h => by simp [Sym.ofValue] at h; subst h; exact .nilfunc
  | .nilIface, x, h => by simp [Sym.ofValue] at h; subst h; exact .nilIface
  | .func fn ⟨a⟩ ⟨b⟩, x, h => by
    cases fn <;> first | (simp [Sym.ofValue] at h; done) | skip
    cases a with
    | cons _ _ => simp [Sym.ofValue] at h
    | nil => cases b with
      | cons _ _ => simp [Sym.ofValue] at h
      | nil => simp [Sym.ofValue] at h; subst h; exact .func _ .nil .nil
  | .agg ⟨cs⟩, x, h => by
    simp only [Sym.ofValue] at h
    cases e : Sym.ofValues cs with
    | none => simp [e] at h
    | some l => simp [e] at h; subst h; exact .agg (ofValues_sound cs e)
  | .tuple ⟨cs⟩, x, h => by
    simp only [Sym.ofValue] at h
    cases e : Sym.ofValues cs with
    | none => simp [e] at h
    | some l => simp [e] at h; subst h; exact .tuple (ofValues_sound cs e)
  | .float _ _, x, h => by simp [Sym.ofValue] at h
  | .complex _ _ _, x, h => by simp [Sym.ofValue] at h
  | .chan _, x, h => by simp [Sym.ofValue] at h
  | .iface _ _, x, h => by simp [Sym.ofValue] at h
theorem ofValues_sound {ρ : Ren} : ∀ (vs : List Value) {xs : List SV}, Sym.ofValues vs = some xs → VRels ρ xs vs
  | [], xs, h => by simp [Sym.ofValues] at h; subst h; exact .nil
  | v :: vs, xs, h => by
    simp only [Sym.ofValues] at h
    cases e : Sym.ofValue v with
    | none => simp [e] at h
    | some x =>
      cases e2 : Sym.ofValues vs with
      | none => simp [e, e2] at h
      | some l => simp [e, e2] at h; subst h; exact .cons (ofValue_sound v e) (ofValues_sound vs e2)
end

/-! ### Objects -/
inductive ERel (ρ : Ren) : List (SV × SV × Nat) → List MapEntry → Prop
  | nil : ERel ρ [] []
  | cons {k v : SV} {n : Nat} {e : MapEntry} {xs : List (SV × SV × Nat)} {es : List MapEntry} (hk : VRel ρ k e.key) (hv : VRel ρ v e.val) (hn : e.born = n) (hs : ERel ρ xs es) : ERel ρ ((k, v, n) :: xs) (e :: es)

/-- What of a frame's slots is kept. -/
def FRel (ρ : Ren) (sl : List Nat) (fr : List SV) (tmps : Array Value) : Prop :=
  ∀ t i, posOf t sl = some i → VRel ρ (nthV .unknown fr i) (tmps.getD t undef)

inductive ORel (ρ : Ren) : SObj → Nat × Nat × Nat → Obj → Prop
  | cells {cs : List SV} {el : Nat} {b o t : Nat} (arr : Array Value) (el' : TypeId) (fz : Nat × Nat) (ht : arr.size = t) (hlen : o + cs.length ≤ t) (hfz : ∀ k, k < arr.size → ¬ (fz.1 ≤ k ∧ k < fz.2)) (hmk : el ≠ 0 → fz.1 = fz.2) (hwh : (∀ t : Nat, el = 2 * t + 2 → el' = t ∧ o = 0 ∧ arr.size = cs.length) ∧ ∀ t : Nat, el = 2 * t + 3 → el' = t ∧ o = 0)
      (hc : ∀ k x, cs[k]? = some x → ∃ v, arr[o + k]? = some v ∧ VRel ρ x v) : ORel ρ (.cells cs el) (b, o, t) (.cells arr el' fz)
  | map {es : List (SV × SV × Nat)} {b : Nat} (arr : Array MapEntry) (c : Nat) (h : ERel ρ es arr.toList) : ORel ρ (.map es c) (b, 0, 0) (.map arr c)
  | loop {L : SLoop} {b : Nat} (l : Loop) (hst : l.state = L.state) (hp : l.pending = L.pending) (hn : l.tmps.size = L.n) (hf : FRel ρ L.sl L.fr l.tmps)
      (hps : l.params = L.params) (ha : l.assign = L.assign) (hb : l.body = L.body) (hd : ρ L.defers = some (l.defers, 0, 0)) : ORel ρ (.loop L) (b, 0, 0) (.loop l)
  | deferredOpen {b : Nat} : ORel ρ (.deferred true) (b, 0, 0) (.deferred (some []))
  | deferredShut {b : Nat} : ORel ρ (.deferred false) (b, 0, 0) (.deferred none)
  | strIter {b : Nat} (s : ByteArray) (pos : Nat) : ORel ρ (.strIter s pos) (b, 0, 0) (.stringIter s pos)
  | mapIterNil {b : Nat} (since : Nat) (seen : List Nat) (last : Nat) : ORel ρ (.mapIter none since seen last) (b, 0, 0) (.mapIter none since seen.toArray last)
  | own {a : Nat} {cs : List SV} {b o t b0 x0 sz n : Nat} (arr : Array Value) (el' : TypeId) (fz : Nat × Nat) (ht : arr.size = t) (ha : ρ.sig.row a = (b0, x0, sz, n)) (hlen : o + n * sz + cs.length ≤ t) (hfz : ∀ k, k < arr.size → ¬ (fz.1 ≤ k ∧ k < fz.2))
      (hb : ∀ i c, i < n → c < sz → arr[o + i * sz + c]? = some (ρ.sig.cell a i c)) (hc : ∀ k x, cs[k]? = some x → ∃ v, arr[o + n * sz + k]? = some v ∧ VRel ρ x v) : ORel ρ (.own a cs) (b, o, t) (.cells arr el' fz)
  | blob {a b : Nat} (ob : Obj) (h : ρ.sig.obj a ob) : ORel ρ (.blob a) (b, 0, 0) ob
  | mapIter {b m r : Nat} (since : Nat) (seen : List Nat) (last : Nat) (h : ρ m = some (r, 0, 0)) : ORel ρ (.mapIter (some m) since seen last) (b, 0, 0) (.mapIter (some r) since seen.toArray last)

theorem ERel.mono {ρ ρ' : Ren} (hle : ρ.le ρ') : ∀ {xs : List (SV × SV × Nat)} {es : List MapEntry}, ERel ρ xs es → ERel ρ' xs es
  | _, _, .nil => .nil
  | _, _, .cons hk hv hn hs => .cons (hk.mono hle) (hv.mono hle) hn (ERel.mono hle hs)
theorem ERel.back {ρ ρ' : Ren} (hle : ρ.le ρ') : ∀ {xs : List (SV × SV × Nat)} {es fs : List MapEntry}, ERel ρ xs es → ERel ρ' xs fs → ERel ρ xs fs
  | [], _, _, .nil, .nil => .nil
  | _ :: _, _, _, .cons hk hv _ hs, .cons hk' hv' hn' hs' => .cons (VRel.back hle hk hk') (VRel.back hle hv hv') hn' (ERel.back hle hs hs')

theorem FRel.mono {ρ ρ' : Ren} (hle : ρ.le ρ') {sl : List Nat} {fr : List SV} {tmps : Array Value} (h : FRel ρ sl fr tmps) : FRel ρ' sl fr tmps := fun t i e => (h t i e).mono hle

theorem ORel.mono {ρ ρ' : Ren} (hle : ρ.le ρ') {x : SObj} {p : Nat × Nat × Nat} {o : Obj} (h : ORel ρ x p o) : ORel ρ' x p o := by
  cases h with
  | cells arr el fz ht hlen hfz hmk hwh hc => exact .cells arr el fz ht hlen hfz hmk hwh fun k x e => let ⟨v, h1, h2⟩ := hc k x e; ⟨v, h1, h2.mono hle⟩
  | map arr c h => exact .map arr c (h.mono hle)
  | loop l hst hp hn hf hps ha hb hd => exact .loop l hst hp hn (hf.mono hle) hps ha hb (hle _ _ hd)
  | deferredOpen => exact .deferredOpen
  | deferredShut => exact .deferredShut
  | strIter s pos => exact .strIter s pos
  | mapIterNil since seen last => exact .mapIterNil since seen last
  | own arr el fz ht ha hlen hfz hb hc => exact .own arr el fz ht (by rw [← hle.same]; exact ha) hlen hfz (by rw [← hle.same]; exact hb) fun k x e => let ⟨v, h1, h2⟩ := hc k x e; ⟨v, h1, h2.mono hle⟩
  | mapIter since seen last h => exact .mapIter since seen last (hle _ _ h)
  | blob _ h => exact .blob _ (by rw [← hle.same]; exact h)

theorem ORel.back {ρ ρ' : Ren} (hle : ρ.le ρ') {x : SObj} {p : Nat × Nat × Nat} {o o' : Obj} (h : ORel ρ x p o) (h' : ORel ρ' x p o') : ORel ρ x p o' := by
  cases h with
  | cells arr el fz ht hlen hfz hmk hwh hc =>
    cases h' with
    | cells arr' el2 fz' ht' hlen' hfz' hmk' hwh' hc' =>
      refine .cells arr' el2 fz' ht' hlen' hfz' hmk' hwh' fun k x e => ?_
      obtain ⟨v, h1, h2⟩ := hc k x e
      obtain ⟨v', h1', h2'⟩ := hc' k x e
      exact ⟨v', h1', VRel.back hle h2 h2'⟩
  | map arr c h => cases h' with | map arr' _ h' => exact .map arr' c (ERel.back hle h h')
  | loop l hst hp hn hf hps ha hb hd =>
    cases h' with
    | loop l' hst' hp' hn' hf' hps' ha' hb' hd' =>
      refine .loop l' hst' hp' hn' (fun t i e => VRel.back hle (hf t i e) (hf' t i e)) hps' ha' hb' ?_
      have := hle _ _ hd; rw [this] at hd'; have e : l.defers = l'.defers := by simpa using hd'
      rw [← e]; exact hd
  | deferredOpen => cases h'; exact .deferredOpen
  | deferredShut => cases h'; exact .deferredShut
  | strIter s pos => cases h'; exact .strIter s pos
  | own arr el fz ht ha hlen hfz hb hc =>
    cases h' with
    | own arr' el2 fz' ht' ha' hlen' hfz' hb' hc' =>
      rw [← hle.same] at ha' hb'
      rw [ha] at ha'
      cases ha'
      refine .own arr' el2 fz' ht' ha hlen' hfz' hb' fun k x e => ?_
      obtain ⟨v, h1, h2⟩ := hc k x e
      obtain ⟨v', h1', h2'⟩ := hc' k x e
      exact ⟨v', h1', VRel.back hle h2 h2'⟩
  | mapIterNil since seen last => cases h'; exact .mapIterNil since seen last
  | blob _ h =>
    cases h' with
    | blob _ h' => exact .blob _ (by rw [hle.same]; exact h')
  | mapIter since seen last h =>
    cases h' with
    | mapIter _ _ _ h' =>
      have := hle _ _ h; rw [this] at h'; cases h'
      exact .mapIter since seen last h

/-! ### Worlds -/
/-- The objects of a heap, where they are there, lie in the world, each in a block of its own. -/
structure WRel (ρ : Ren) (H : Nat → Option SObj) (w : World) : Prop where
  obj : ∀ i x p, H i = some x → ρ i = some p → ∃ o, w.heap[p.1]? = some o ∧ ORel ρ x p o
  inj : ∀ i j p q, H i ≠ none → H j ≠ none → ρ i = some p → ρ j = some q → p.1 = q.1 → i = j

noncomputable def SW.at (S : SW) (i : Nat) : Option SObj := Sym.hget S i

/-- No object beyond the next number. -/
def SW.tidy (S : SW) : Prop := ∀ i, S.next ≤ i → S.at i = none

theorem WRel.less {ρ : Ren} {H H' : Nat → Option SObj} {w : World} (h : WRel ρ H w) (hs : ∀ i x, ρ i ≠ none → H' i = some x → H i = some x) : WRel ρ H' w :=
  ⟨fun i x p hi hp => h.obj i x p (hs i x (by simp [hp]) hi) hp, fun i j p q hi hj hp hq e => by
    cases hi' : H' i with
    | none => exact absurd hi' hi
    | some x => cases hj' : H' j with
      | none => exact absurd hj' hj
      | some y => exact h.inj i j p q (by simp [hs i x (by simp [hp]) hi']) (by simp [hs j y (by simp [hq]) hj']) hp hq e⟩

/-- From a state to a later one: what is known grows; what is not described stays; where the described lies. -/
structure Ext (ρ : Ren) (S : SW) (w : World) (ρ' : Ren) (S' : SW) (w' : World) : Prop where
  le : ρ.le ρ'
  fresh : ∀ i p, ρ' i = some p → ρ i = some p ∨ (S.next ≤ i ∧ i < S'.next)
  next : S.next ≤ S'.next
  tidy : S'.tidy
  low : S'.low ≤ S.low
  keep : ∀ i, i < S.next → i < S'.low → S'.at i = S.at i
  size : w.heap.size ≤ w'.heap.size
  os : w'.os = w.os
  tape : w'.tape = w.tape
  output : w'.output = w.output
  frame : ∀ b, b < w.heap.size → (∀ i p, S.at i ≠ none → ρ i = some p → p.1 ≠ b) → w'.heap[b]? = w.heap[b]?
  own : ∀ i p, S'.at i ≠ none → ρ' i = some p → (∃ j q, S.at j ≠ none ∧ ρ j = some q ∧ q.1 = p.1) ∨ w.heap.size ≤ p.1
  wrel : WRel ρ' S'.at w'

theorem Ren.le.refl (ρ : Ren) : ρ.le ρ := ⟨fun _ _ h => h, rfl⟩
theorem Ren.le.trans {a b c : Ren} (h : a.le b) (k : b.le c) : a.le c := ⟨fun i p e => k i p (h i p e), h.same.trans k.same⟩

theorem Ext.refl {ρ : Ren} {S : SW} {w : World} (h : WRel ρ S.at w) (ht : S.tidy) : Ext ρ S w ρ S w :=
  ⟨.refl ρ, fun _ _ h => .inl h, Nat.le_refl _, ht, Nat.le_refl _, fun _ _ _ => rfl, Nat.le_refl _, rfl, rfl, rfl, fun _ _ _ => rfl, fun i p h1 h2 => .inl ⟨i, p, h1, h2, rfl⟩, h⟩

theorem Ext.trans {ρ ρ1 ρ2 : Ren} {S S1 S2 : SW} {w w1 w2 : World} (h : Ext ρ S w ρ1 S1 w1) (k : Ext ρ1 S1 w1 ρ2 S2 w2) : Ext ρ S w ρ2 S2 w2 where
  le := h.le.trans k.le
  fresh i p e := by
    rcases k.fresh i p e with e1 | ⟨a, b⟩
    · rcases h.fresh i p e1 with e2 | ⟨a, b⟩
      · exact .inl e2
      · exact .inr ⟨a, Nat.lt_of_lt_of_le b k.next⟩
    · exact .inr ⟨Nat.le_trans h.next a, b⟩
  next := Nat.le_trans h.next k.next
  tidy := k.tidy
  low := Nat.le_trans k.low h.low
  keep i h1 h2 := (k.keep i (Nat.lt_of_lt_of_le h1 h.next) h2).trans (h.keep i h1 (Nat.lt_of_lt_of_le h2 k.low))
  size := Nat.le_trans h.size k.size
  os := k.os.trans h.os
  tape := k.tape.trans h.tape
  output := k.output.trans h.output
  frame b hb hn := by
    refine (k.frame b (Nat.lt_of_lt_of_le hb h.size) fun i p hi hp e => ?_).trans (h.frame b hb hn)
    rcases h.own i p hi hp with ⟨j, q, hj, hq, hqp⟩ | hge
    · exact hn j q hj hq (hqp.trans e)
    · omega
  own i p hi hp := by
    rcases k.own i p hi hp with ⟨j, q, hj, hq, hqp⟩ | hge
    · rcases h.own j q hj hq with ⟨j2, q2, hj2, hq2, e⟩ | hge
      · exact .inl ⟨j2, q2, hj2, hq2, e.trans hqp⟩
      · exact .inr (by omega)
    · exact .inr (Nat.le_trans h.size hge)
  wrel := k.wrel

/-- Numbers that are still to be given. -/
def Fresh (ρ : Ren) (a b : Nat) : Prop := ∀ i, a ≤ i → i < b → ρ i = none

theorem Fresh.left {ρ : Ren} {a b c : Nat} (h : Fresh ρ a c) (hb : b ≤ c) : Fresh ρ a b := fun i h1 h2 => h i h1 (by omega)
theorem Ext.fresh_right {ρ ρ1 : Ren} {S S1 : SW} {w w1 : World} {c : Nat} (h : Ext ρ S w ρ1 S1 w1) (hf : Fresh ρ S.next c) : Fresh ρ1 S1.next c := fun i h1 h2 => by
  cases e : ρ1 i with
  | none => rfl
  | some p =>
    rcases h.fresh i p e with e1 | ⟨_, b⟩
    · rw [hf i (Nat.le_trans h.next h1) h2] at e1; cases e1
    · omega

end Go.RX

/- The evaluator's steps on its heap, and the world's. -/
namespace Go.RX
open Sym

/-! ### The evaluator's heap -/
theorem force_eq {α : Type} (n : Nat) (k : Nat → α) : force n k = k n := by cases n <;> rfl

theorem hget_eq (S : SW) (i : Nat) : hget S i = S.at i := rfl

theorem at_of_heap {h : Tr (Option SObj)} {n l : Nat} (i : Nat) : (SW.mk h n l).at i = Tr.get none (path i) h := rfl

theorem at_mk (S : SW) (n l : Nat) (i : Nat) : (SW.mk S.heap n l).at i = S.at i := rfl

theorem new_some {S S' : SW} {o : SObj} {id : Nat} (h : Sym.new S o = some (id, S')) :
    id = S.next ∧ S'.next = S.next + 1 ∧ S'.low = S.low ∧ ∀ i, S'.at i = if i = S.next then some o else S.at i := by
  unfold Sym.new at h
  rw [force_eq] at h
  split at h
  · cases h
  · rename_i l x r e
    simp only [Option.some.injEq, Prod.mk.injEq] at h
    obtain ⟨rfl, rfl⟩ := h
    refine ⟨rfl, rfl, rfl, fun i => ?_⟩
    rw [at_of_heap, ← e, Tr.get_set]
    by_cases hi : i = S.next
    · subst hi; simp
    · rw [if_neg hi, if_neg (fun h => hi (path_inj h))]; rfl

theorem put_some {S S' : SW} {o : Option SObj} {id : Nat} (h : Sym.put S id o = some S') :
    S'.next = S.next ∧ S'.low ≤ S.low ∧ S'.low ≤ id ∧ ∀ i, S'.at i = if i = id then o else S.at i := by
  unfold Sym.put at h
  split at h
  · cases h
  · rename_i l x r e
    have hat : ∀ i, Tr.get none (path i) (Tr.node l x r) = if i = id then o else S.at i := fun i => by
      rw [← e, Tr.get_set]
      by_cases hi : i = id
      · subst hi; simp
      · rw [if_neg hi, if_neg (fun h => hi (path_inj h))]; rfl
    split at h
    · rename_i hb
      simp only [Option.some.injEq] at h
      subst h
      exact ⟨rfl, Nat.le_refl _, Nat.le_of_ble_eq_true hb, fun i => hat i⟩
    · rename_i hb
      rw [force_eq] at h
      simp only [Option.some.injEq] at h
      subst h
      refine ⟨rfl, ?_, Nat.le_refl _, fun i => hat i⟩
      have : ¬ S.low ≤ id := fun hle => by rw [Nat.ble_eq_true_of_le hle] at hb; cases hb
      show id ≤ S.low
      omega

/-! ### The world's -/
/-- The same world but for one block. -/
structure SameBut (b : Nat) (w w' : World) : Prop where
  os : w'.os = w.os
  tape : w'.tape = w.tape
  output : w'.output = w.output
  size : w'.heap.size = w.heap.size
  block : ∀ k, k ≠ b → w'.heap[k]? = w.heap[k]?

theorem SameBut.refl (b : Nat) (w : World) : SameBut b w w := ⟨rfl, rfl, rfl, rfl, fun _ _ => rfl⟩
theorem SameBut.trans {b : Nat} {w w1 w2 : World} (h : SameBut b w w1) (k : SameBut b w1 w2) : SameBut b w w2 :=
  ⟨k.os.trans h.os, k.tape.trans h.tape, k.output.trans h.output, k.size.trans h.size, fun i hi => (k.block i hi).trans (h.block i hi)⟩

theorem sameBut_setCell (w : World) (b o : Nat) (v : Value) : SameBut b w (w.setCell ⟨b, o, none⟩ v) :=
  ⟨rfl, rfl, rfl, by simp [World.setCell], fun k hk => by
    simp only [World.setCell, Array.getElem?_modify]
    rw [if_neg (fun h => hk h.symm)]⟩

theorem heap_setCell_at {w : World} {b o : Nat} {arr : Array Value} {el : TypeId} {fz : Nat × Nat} (v : Value) (h : w.heap[b]? = some (.cells arr el fz)) :
    (w.setCell ⟨b, o, none⟩ v).heap[b]? = some (.cells (arr.setIfInBounds o v) el fz) := by
  simp only [World.setCell, Array.getElem?_modify, if_pos, h]
  simp

theorem cell_at {w : World} {b o : Nat} {arr : Array Value} {el : TypeId} {fz : Nat × Nat} (h : w.heap[b]? = some (.cells arr el fz)) : w.cell? ⟨b, o, none⟩ = arr[o]? := by
  simp [World.cell?, h]

theorem frozen_at {w : World} {b o : Nat} {arr : Array Value} {el : TypeId} {fz : Nat × Nat} (h : w.heap[b]? = some (.cells arr el fz)) (hfz : ∀ k, k < arr.size → ¬ (fz.1 ≤ k ∧ k < fz.2)) (ho : o < arr.size) :
    w.frozen? ⟨b, o, none⟩ = false := by
  have := hfz o ho
  obtain ⟨lo, hi⟩ := fz
  simp [World.frozen?, h]
  omega

theorem add_win (b o i : Nat) : (⟨b, o, none⟩ : Addr).add i = ⟨b, o + i, none⟩ := by unfold Addr.add; split <;> simp_all

theorem run_storeCells_win (P : Program) (b o : Nat) (el : TypeId) (fz : Nat × Nat) : ∀ (vs : List Value) (i : Nat) (arr : Array Value) (w : World), w.heap[b]? = some (.cells arr el fz) →
    (∀ k, k < arr.size → ¬ (fz.1 ≤ k ∧ k < fz.2)) → o + i + vs.length ≤ arr.size → (∀ v ∈ vs, v.oneCell' = true) →
    ∃ w', (storeCells ⟨b, o, none⟩ vs i).run P w = .ok () w' ∧ SameBut b w w' ∧
      ∃ arr' : Array Value, w'.heap[b]? = some (.cells arr' el fz) ∧ arr'.size = arr.size ∧ ∀ k, arr'[k]? = if o + i ≤ k ∧ k < o + i + vs.length then vs[k - (o + i)]? else arr[k]?
  | [], i, arr, w, hb, _, _, _ => ⟨w, rfl, .refl b w, arr, hb, rfl, fun k => by simp; omega⟩
  | v :: vs, i, arr, w, hb, hfz, hl, h1 => by
    have hi : o + i < arr.size := by simp at hl; omega
    have hst : (store ((⟨b, o, none⟩ : Addr).add i) v).run P w = .ok () (w.setCell ⟨b, o + i, none⟩ v) := by
      rw [add_win, run_store P w _ v _ (h1 v (by simp)), cell_at hb, frozen_at hb hfz hi]
      simp [hi]
    obtain ⟨w', hrun, hsame, arr', hb', hs', hk'⟩ := run_storeCells_win P b o el fz vs (i + 1) (arr.setIfInBounds (o + i) v) (w.setCell ⟨b, o + i, none⟩ v) (heap_setCell_at v hb)
      (by simpa using hfz) (by simp at hl ⊢; omega) (fun x hx => h1 x (by simp [hx]))
    refine ⟨w', ?_, (sameBut_setCell w b (o + i) v).trans hsame, arr', hb', by simpa using hs', fun k => ?_⟩
    · simp only [storeCells, Sem.run_bind, hst, Result.andThen_ok, hrun]
    · rw [hk']
      by_cases a : o + (i + 1) ≤ k ∧ k < o + (i + 1) + vs.length
      · rw [if_pos a, if_pos (by simp; omega), show k - (o + i) = (k - (o + (i + 1))) + 1 from by omega]; simp
      · rw [if_neg a]
        by_cases e : k = o + i
        · subst e; rw [if_pos (by simp)]; simp [hi]
        · rw [if_neg (by simp; omega), Array.getElem?_setIfInBounds_ne (fun h => e h.symm)]

theorem run_loadCells_win (P : Program) {w : World} {b o : Nat} {arr : Array Value} {el : TypeId} {fz : Nat × Nat} (hb : w.heap[b]? = some (.cells arr el fz)) (vs : List Value)
    (h : ∀ k v, vs[k]? = some v → arr[o + k]? = some v) : (loadCells ⟨b, o, none⟩ vs.length).run P w = .ok vs.toArray w :=
  run_loadCells_list w _ vs fun j v hj => by rw [add_win, cell_at hb]; exact h j v hj

/-! ### Steps -/
/-- A number more. -/
def Ren.set (ρ : Ren) (i : Nat) (p : Nat × Nat × Nat) : Ren := ⟨fun j => if j = i then some p else ρ j, ρ.sig⟩
theorem Ren.set_same (ρ : Ren) (i : Nat) (p : Nat × Nat × Nat) : ρ.set i p i = some p := by simp [Ren.set]
theorem Ren.set_other {ρ : Ren} {i j : Nat} {p : Nat × Nat × Nat} (h : j ≠ i) : ρ.set i p j = ρ j := by simp [Ren.set, h]
theorem Ren.le_set {ρ : Ren} {i : Nat} {p : Nat × Nat × Nat} (h : ρ i = none) : ρ.le (ρ.set i p) := ⟨fun j q e => by
  by_cases hj : j = i
  · subst hj; rw [h] at e; cases e
  · rw [Ren.set_other hj]; exact e, rfl⟩

theorem heap_alloc_new (w : World) (o : Obj) : (w.alloc o).heap[w.heap.size]? = some o := by
  show (w.heap.push o)[w.heap.size]? = some o
  simp
theorem heap_alloc_old (w : World) (o : Obj) (k : Nat) (h : k < w.heap.size) : (w.alloc o).heap[k]? = w.heap[k]? := by
  show (w.heap.push o)[k]? = _
  rw [Array.getElem?_push, if_neg (by omega)]

theorem WRel.lt {ρ : Ren} {H : Nat → Option SObj} {w : World} (h : WRel ρ H w) {i : Nat} {p : Nat × Nat × Nat} (hi : H i ≠ none) (hp : ρ i = some p) : p.1 < w.heap.size := by
  cases e : H i with
  | none => exact absurd e hi
  | some x =>
    obtain ⟨o, ho, _⟩ := h.obj i x p e hp
    exact (Array.getElem?_eq_some_iff.1 ho).1

/-- A new object. -/
theorem ext_new {ρ : Ren} {S S' : SW} {w : World} {x : SObj} {o : Obj} {id : Nat} {p : Nat × Nat × Nat} (hw : WRel ρ S.at w) (ht : S.tidy) (hf : ρ S.next = none)
    (h : Sym.new S x = some (id, S')) (hp : p.1 = w.heap.size) (ho : ORel (ρ.set S.next p) x p o) : Ext ρ S w (ρ.set S.next p) S' (w.alloc o) := by
  obtain ⟨rfl, hn, hl, hat⟩ := new_some h
  have hle : ρ.le (ρ.set S.next p) := Ren.le_set hf
  have hold : ∀ i q, ρ.set S.next p i = some q → i ≠ S.next → ρ i = some q := fun i q e hi => by rwa [Ren.set_other hi] at e
  refine ⟨hle, fun i q e => ?_, by omega, fun i hi => ?_, by omega, fun i hi _ => ?_, by simp, rfl, rfl, rfl, fun b hb _ => heap_alloc_old w o b hb, fun i q hi e => ?_, ⟨fun i y q hy e => ?_, fun i j q r hi hj hq hr e => ?_⟩⟩
  · by_cases hi : i = S.next
    · subst hi; exact .inr ⟨Nat.le_refl _, by omega⟩
    · exact .inl (hold i q e hi)
  · rw [hat, if_neg (by omega)]; exact ht i (by omega)
  · rw [hat, if_neg (by omega)]
  · by_cases hi' : i = S.next
    · subst hi'; rw [Ren.set_same] at e; cases e; exact .inr (by omega)
    · rw [hat, if_neg hi'] at hi; exact .inl ⟨i, q, hi, hold i q e hi', rfl⟩
  · by_cases hi' : i = S.next
    · subst hi'; rw [Ren.set_same] at e; cases e; rw [hat, if_pos rfl] at hy; cases hy
      exact ⟨o, by rw [hp]; exact heap_alloc_new w o, ho⟩
    · rw [hat, if_neg hi'] at hy
      have e' := hold i q e hi'
      obtain ⟨o', h1, h2⟩ := hw.obj i y q hy e'
      exact ⟨o', by rw [heap_alloc_old w o _ (Array.getElem?_eq_some_iff.1 h1).1]; exact h1, h2.mono hle⟩
  · rw [hat] at hi hj
    by_cases hi' : i = S.next <;> by_cases hj' : j = S.next
    · omega
    · subst hi'; rw [Ren.set_same] at hq; cases hq; rw [if_neg hj'] at hj
      have := hw.lt hj (hold j r hr hj'); omega
    · subst hj'; rw [Ren.set_same] at hr; cases hr; rw [if_neg hi'] at hi
      have := hw.lt hi (hold i q hq hi'); omega
    · rw [if_neg hi'] at hi; rw [if_neg hj'] at hj
      exact hw.inj i j q r hi hj (hold i q hq hi') (hold j r hr hj') e

/-- An object struck. -/
theorem ext_kill {ρ : Ren} {S S' : SW} {w : World} {id : Nat} (hw : WRel ρ S.at w) (ht : S.tidy) (h : Sym.put S id none = some S') : Ext ρ S w ρ S' w := by
  obtain ⟨hn, hl, hl', hat⟩ := put_some h
  have hlive : ∀ i, S'.at i ≠ none → S.at i ≠ none ∧ i ≠ id := fun i hi => by
    rw [hat] at hi
    by_cases e : i = id
    · rw [if_pos e] at hi; exact absurd rfl hi
    · rw [if_neg e] at hi; exact ⟨hi, e⟩
  refine ⟨.refl ρ, fun _ _ e => .inl e, by omega, fun i hi => ?_, hl, fun i hi hlow => ?_, Nat.le_refl _, rfl, rfl, rfl, fun _ _ _ => rfl, fun i q hi e => .inl ⟨i, q, (hlive i hi).1, e, rfl⟩,
    ⟨fun i y q hy e => ?_, fun i j q r hi hj hq hr e => hw.inj i j q r (hlive i hi).1 (hlive j hj).1 hq hr e⟩⟩
  · rw [hat]; split
    · rfl
    · exact ht i (by omega)
  · rw [hat, if_neg (by omega)]
  · have := (hlive i (by simp [hy])).2
    rw [hat, if_neg this] at hy
    exact hw.obj i y q hy e

/-- An object's block goes over to a new object. -/
theorem ext_move {ρ : Ren} {S S1 S' : SW} {w w' : World} {x x' : SObj} {o' : Obj} {id id' : Nat} {p q : Nat × Nat × Nat} (hw : WRel ρ S.at w) (ht : S.tidy) (hf : ρ S.next = none) (hx : S.at id = some x) (hp : ρ id = some p)
    (hk : Sym.put S id none = some S1) (h : Sym.new S1 x' = some (id', S')) (hs : SameBut p.1 w w') (hq : q.1 = p.1) (hb : w'.heap[q.1]? = some o') (ho : ORel (ρ.set S.next q) x' q o') :
    Ext ρ S w (ρ.set S.next q) S' w' ∧ id' = S.next := by
  obtain ⟨hn1, hl1, hl1', hat1⟩ := put_some hk
  obtain ⟨rfl, hn, hl, hat⟩ := new_some h
  rw [hn1] at hn hat
  have hle : ρ.le (ρ.set S.next q) := Ren.le_set hf
  have hold : ∀ i r, ρ.set S.next q i = some r → i ≠ S.next → ρ i = some r := fun i r e hi => by rwa [Ren.set_other hi] at e
  have hlive : ∀ i, S'.at i ≠ none → i = S.next ∨ (i ≠ S.next ∧ i ≠ id ∧ S.at i ≠ none ∧ S'.at i = S.at i) := fun i hi => by
    by_cases e : i = S.next
    · exact .inl e
    · refine .inr ?_
      have h2 := hat i
      rw [if_neg e, hat1] at h2
      by_cases e2 : i = id
      · rw [if_pos e2] at h2; exact absurd h2 hi
      · rw [if_neg e2] at h2; exact ⟨e, e2, h2 ▸ hi, h2⟩
  have hne : S.at id ≠ none := by simp [hx]
  have hother : ∀ i r, S.at i ≠ none → ρ i = some r → i ≠ id → r.1 ≠ p.1 := fun i r hi hr hne' e => hne' (hw.inj i id r p hi hne hr hp e)
  refine ⟨⟨hle, fun i r e => ?_, by omega, fun i hi => ?_, by omega, fun i hi hlow => ?_, by rw [hs.size]; exact Nat.le_refl _, hs.os, hs.tape, hs.output, fun b _ hnb => hs.block b fun e => hnb id p hne hp e.symm,
    fun i r hi e => ?_, ⟨fun i y r hy e => ?_, fun i j r r' hi hj hr hr' e => ?_⟩⟩, hn1⟩
  · by_cases hi : i = S.next
    · subst hi; exact .inr ⟨Nat.le_refl _, by omega⟩
    · exact .inl (hold i r e hi)
  · rw [hat, if_neg (by omega), hat1]; split
    · rfl
    · exact ht i (by omega)
  · rw [hat, if_neg (by omega), hat1, if_neg (by omega)]
  · rcases hlive i hi with rfl | ⟨h1, h2, h3, h4⟩
    · rw [Ren.set_same] at e; cases e; exact .inl ⟨id, p, hne, hp, hq.symm⟩
    · exact .inl ⟨i, r, h3, hold i r e h1, rfl⟩
  · rcases hlive i (by simp [hy]) with rfl | ⟨h1, h2, h3, h4⟩
    · rw [Ren.set_same] at e; cases e; rw [hat, if_pos rfl] at hy; cases hy; exact ⟨o', hb, ho⟩
    · have e' := hold i r e h1
      rw [h4] at hy
      obtain ⟨o1, g1, g2⟩ := hw.obj i y r hy e'
      exact ⟨o1, by rw [hs.block _ (hother i r h3 e' h2)]; exact g1, g2.mono hle⟩
  · rcases hlive i hi with rfl | ⟨h1, h2, h3, h4⟩ <;> rcases hlive j hj with rfl | ⟨k1, k2, k3, k4⟩
    · rfl
    · rw [Ren.set_same] at hr; cases hr
      exact absurd (e.symm.trans hq) (hother j r' k3 (hold j r' hr' k1) k2)
    · rw [Ren.set_same] at hr'; cases hr'
      exact absurd (e.trans hq) (hother i r h3 (hold i r hr h1) h2)
    · exact hw.inj i j r r' h3 k3 (hold i r hr h1) (hold j r' hr' k1) e

/-- A draw. -/
theorem ext_drew {ρ : Ren} {S : SW} {w : World} (hw : WRel ρ S.at w) (ht : S.tidy) : Ext ρ S w ρ S w.drew :=
  ⟨.refl ρ, fun _ _ h => .inl h, Nat.le_refl _, ht, Nat.le_refl _, fun _ _ _ => rfl, Nat.le_refl _, rfl, rfl, rfl, fun _ _ _ => rfl, fun i p h1 h2 => .inl ⟨i, p, h1, h2, rfl⟩, ⟨hw.obj, hw.inj⟩⟩

/-- An object written. -/
theorem ext_put {ρ : Ren} {S S' : SW} {w w' : World} {x x' : SObj} {o' : Obj} {id : Nat} {p : Nat × Nat × Nat} (hw : WRel ρ S.at w) (ht : S.tidy) (hx : S.at id = some x) (hp : ρ id = some p)
    (h : Sym.put S id (some x') = some S') (hs : SameBut p.1 w w') (hb : w'.heap[p.1]? = some o') (ho : ORel ρ x' p o') : Ext ρ S w ρ S' w' := by
  obtain ⟨hn, hl, hl', hat⟩ := put_some h
  have hne : S.at id ≠ none := by simp [hx]
  have hlive : ∀ i, S'.at i ≠ none → S.at i ≠ none := fun i hi => by
    rw [hat] at hi
    by_cases e : i = id
    · subst e; exact hne
    · rwa [if_neg e] at hi
  have hother : ∀ i q, S.at i ≠ none → ρ i = some q → i ≠ id → q.1 ≠ p.1 := fun i q hi hq hne' e => hne' (hw.inj i id q p hi hne hq hp e)
  refine ⟨.refl ρ, fun _ _ e => .inl e, by omega, fun i hi => ?_, hl, fun i hi hlow => ?_, by rw [hs.size]; exact Nat.le_refl _, hs.os, hs.tape, hs.output, fun b _ hnb => hs.block b fun e => hnb id p hne hp e.symm,
    fun i q hi e => .inl ⟨i, q, hlive i hi, e, rfl⟩, ⟨fun i y q hy e => ?_, fun i j q r hi hj hq hr e => hw.inj i j q r (hlive i hi) (hlive j hj) hq hr e⟩⟩
  · have hi' : S.next ≤ i := by omega
    have : i ≠ id := fun e => by subst e; rw [ht i hi'] at hx; cases hx
    rw [hat, if_neg this]; exact ht i hi'
  · rw [hat, if_neg (by omega)]
  · rw [hat] at hy
    by_cases hi : i = id
    · subst hi; rw [hp] at e; cases e; rw [if_pos rfl] at hy; cases hy; exact ⟨o', hb, ho⟩
    · rw [if_neg hi] at hy
      obtain ⟨o1, h1, h2⟩ := hw.obj i y q hy e
      exact ⟨o1, by rw [hs.block _ (hother i q (by simp [hy]) e hi)]; exact h1, h2⟩

/-- An object is forgotten; its block may change. -/
theorem ext_drop {ρ : Ren} {S S' : SW} {w w' : World} {x : SObj} {id : Nat} {p : Nat × Nat × Nat} (hw : WRel ρ S.at w) (ht : S.tidy) (hx : S.at id = some x) (hp : ρ id = some p)
    (h : Sym.put S id none = some S') (hs : SameBut p.1 w w') : Ext ρ S w ρ S' w' := by
  obtain ⟨hn, hl, hl', hat⟩ := put_some h
  have hne : S.at id ≠ none := by simp [hx]
  have hlive : ∀ i, S'.at i ≠ none → S.at i ≠ none := fun i hi => by
    rw [hat] at hi
    by_cases e : i = id
    · subst e; exact hne
    · rwa [if_neg e] at hi
  have hother : ∀ i q, S.at i ≠ none → ρ i = some q → i ≠ id → q.1 ≠ p.1 := fun i q hi hq hne' e => hne' (hw.inj i id q p hi hne hq hp e)
  refine ⟨.refl ρ, fun _ _ e => .inl e, by omega, fun i hi => ?_, hl, fun i hi hlow => ?_, by rw [hs.size]; exact Nat.le_refl _, hs.os, hs.tape, hs.output, fun b _ hnb => hs.block b fun e => hnb id p hne hp e.symm,
    fun i q hi e => .inl ⟨i, q, hlive i hi, e, rfl⟩, ⟨fun i y q hy e => ?_, fun i j q r hi hj hq hr e => hw.inj i j q r (hlive i hi) (hlive j hj) hq hr e⟩⟩
  · have hi' : S.next ≤ i := by omega
    have : i ≠ id := fun e => by subst e; rw [ht i hi'] at hx; cases hx
    rw [hat, if_neg this]; exact ht i hi'
  · rw [hat, if_neg (by omega)]
  · rw [hat] at hy
    by_cases hi : i = id
    · subst hi; rw [if_pos rfl] at hy; cases hy
    · rw [if_neg hi] at hy
      obtain ⟨o1, h1, h2⟩ := hw.obj i y q hy e
      exact ⟨o1, by rw [hs.block _ (hother i q (by simp [hy]) e hi)]; exact h1, h2⟩

theorem freeze_same (w : World) (b n : Nat) (hn : n ≠ 0) : SameBut b w (w.freeze ⟨b, 0, none⟩ n) := by
  simp only [World.freeze]
  rw [if_neg hn]
  refine ⟨rfl, rfl, rfl, by simp, fun k hk => ?_⟩
  simp only [Array.getElem?_modify]
  rw [if_neg (fun e => hk e.symm)]

end Go.RX
