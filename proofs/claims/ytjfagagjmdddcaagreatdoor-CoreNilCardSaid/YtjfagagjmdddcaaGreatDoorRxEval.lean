/- The symbolic evaluator: definitions alone. Code is first turned into functions on symbolic states (wrapped, so that the kernel keeps what it has reckoned once), then run. A symbolic state is a finite heap of objects with numbers of their own ('windows' into real blocks), and the slots of a frame that are read in another region than they are written in. -/
import Derived.RangeFuncRecord
set_option linter.all false
noncomputable section
namespace Go.RX

/-! ### What runs most, by the recursors themselves (the kernel reckons them fastest) -/
inductive Tr (α : Type) where
  | nil
  | node (l : Tr α) (v : α) (r : Tr α)

def Tr.get {α : Type} (d : α) (p : List Bool) : Tr α → α :=
  List.rec (motive := fun _ => Tr α → α)
    (fun t => Tr.rec d (fun _ v _ _ _ => v) t)
    (fun b _ ih t => Tr.rec d (fun l _ r _ _ => Bool.rec (ih r) (ih l) b) t) p

def Tr.onL {α : Type} (x : α) (r : Tr α) (t : Tr α) : Tr α := Tr.rec .nil (fun a b c _ _ => .node (.node a b c) x r) t
def Tr.onR {α : Type} (l : Tr α) (x : α) (t : Tr α) : Tr α := Tr.rec .nil (fun a b c _ _ => .node l x (.node a b c)) t

/-- The result is always a node, and written out along the path. -/
def Tr.set {α : Type} (d v : α) (p : List Bool) : Tr α → Tr α :=
  List.rec (motive := fun _ => Tr α → Tr α)
    (fun t => Tr.rec (.node .nil v .nil) (fun l _ r _ _ => .node l v r) t)
    (fun b _ ih t => Bool.rec
       (Tr.rec (Tr.onR .nil d (ih .nil)) (fun l x r _ _ => Tr.onR l x (ih r)) t)
       (Tr.rec (Tr.onL d .nil (ih .nil)) (fun l x r _ _ => Tr.onL x r (ih l)) t) b) p

def pathN (f : Nat) : Nat → List Bool :=
  Nat.rec (motive := fun _ => Nat → List Bool) (fun _ => [])
    (fun _ ih n => Bool.rec
      (Bool.rec (false :: ih (Nat.pred (Nat.div n 2))) (true :: ih (Nat.div n 2)) (Nat.beq (Nat.mod n 2) 1))
      [] (Nat.beq n 0)) f

def path (n : Nat) : List Bool := pathN n n

def nth {α : Type} (l : List α) : Nat → Option α :=
  List.rec (motive := fun _ => Nat → Option α) (fun _ => none) (fun c _ ih n => Nat.rec (some c) (fun m _ => ih m) n) l

/-- The value at a place; 'unknown' beyond the end. -/
def nthV {α : Type} (d : α) (l : List α) : Nat → α :=
  List.rec (motive := fun _ => Nat → α) (fun _ => d) (fun c _ ih n => Nat.rec c (fun m _ => ih m) n) l

def consF {α : Type} (c : α) (l : List α) : List α := List.rec [] (fun a b _ => c :: a :: b) l

/-- A place of a list written; the list unchanged in length if the place is there; else empty. -/
def setNth {α : Type} (v : α) (l : List α) : Nat → List α :=
  List.rec (motive := fun _ => Nat → List α) (fun _ => []) (fun c l ih n => Nat.rec (v :: l) (fun m _ => consF c (ih m)) n) l

def takeN {α : Type} (l : List α) : Nat → Option (List α) :=
  List.rec (motive := fun _ => Nat → Option (List α)) (fun n => Nat.rec (some []) (fun _ _ => none) n)
    (fun c _ ih n => Nat.rec (some []) (fun m _ => Option.rec none (fun l => some (c :: l)) (ih m)) n) l

def seg {α : Type} (l : List α) : Nat → Nat → Option (List α) :=
  List.rec (motive := fun _ => Nat → Nat → Option (List α)) (fun m n => Nat.rec (takeN [] n) (fun _ _ => none) m)
    (fun c l ih m n => Nat.rec (takeN (c :: l) n) (fun m _ => ih m n) m) l

def over {α : Type} (l : List α) : List α → Option (List α) :=
  List.rec (motive := fun _ => List α → Option (List α)) (fun vs => List.rec (some []) (fun _ _ _ => none) vs)
    (fun c l ih vs => List.rec (some (c :: l)) (fun v vs _ => Option.rec none (fun l => some (v :: l)) (ih vs)) vs) l

/-- Cells written into a row from a place on. -/
def splice {α : Type} (l : List α) : Nat → List α → Option (List α) :=
  List.rec (motive := fun _ => Nat → List α → Option (List α)) (fun m vs => Nat.rec (over [] vs) (fun _ _ => none) m)
    (fun c l ih m vs => Nat.rec (over (c :: l) vs) (fun m _ => Option.rec none (fun l => some (c :: l)) (ih m vs)) m) l

def Bool.if {α : Type} (b : Bool) (x y : α) : α := Bool.rec y x b

/-- The place of a number in a list. -/
def posOf (t : Nat) (l : List Nat) : Option Nat :=
  List.rec none (fun c _ ih => Bool.rec (Option.rec none (fun n => some (Nat.succ n)) ih) (some 0) (Nat.beq c t)) l
inductive SCap where
  | exact (c : Nat)
  /-- The capacity goes to the block's end; it is at least 'least'; an element has 'size' cells. -/
  | toEnd (size least : Nat)

/-- A number that is not known, as a text: of the numbers that are handed in, and of rows of cells that lie in memory. -/
inductive IE where
  | var (i : Nat)
  | lit (n : Int)
  | len (a : Nat)
  | sel (a : Nat) (i : IE) (c : Nat)
  | bin (op : BinOp) (k : IntKind) (a b : IE)
  | conv (k : IntKind) (a : IE)
  | neg (k : IntKind) (a : IE)
  | max (a b : IE)
  | min (a b : IE)
  | fn (f : Nat) (args : List IE)

/-- What the texts stand for: the numbers; functions of numbers; the rows: block, first place, cells of an element, elements; what their cells hold. -/
structure Sig where
  var : Nat → Int
  fn : Nat → List Int → Int
  row : Nat → Nat × Nat × Nat × Nat
  cell : Nat → Nat → Nat → Value

inductive SV where
  | bool (b : Bool)
  | int (k : IntKind) (n : Int)
  | sint (k : IntKind) (e : IE)
  /-- Some text, whose length is a number that is not known. -/
  | sstr (a : Nat)
  /-- A number of 64 bits, not less than n. -/
  | atLeast (n : Nat)
  /-- A whole row that lies in memory. -/
  | row (a : Nat)
  /-- A place of a row. -/
  | rptr (a : Nat) (i : IE) (off : Nat)
  | string (s : ByteArray)
  | ptr (id off : Nat)
  | gptr (g off : Nat)
  | nilptr
  | slice (id off len : Nat) (cap : SCap)
  | nilslice
  | map (id : Nat)
  | nilmap
  | func (f : Nat) (first captured : List SV)
  | yield (l : Nat)
  | nilfunc
  | nilIface
  | iface (t : Nat) (v : SV)
  | agg (cs : List SV)
  | tuple (vs : List SV)
  /-- Some value of one cell, of which nothing is known. -/
  | blur
  /-- Some value, of which nothing is known. -/
  | unknown

def SV.undef : SV := .tuple []

def SV.scalar : SV → Bool
  | .agg _ => false
  | .tuple _ => false
  | .unknown => false
  | _ => true

def SV.cells : SV → List SV
  | .agg cs => cs
  | v => [v]

structure SLoop where
  state : LoopState
  pending : Option Code
  fr : List SV
  sl : List Nat
  n : Nat
  params : Array Tmp
  assign : Code
  body : Code
  defers : Nat

inductive SObj where
  | cells (cs : List SV) (elem : TypeId)
  | map (es : List (SV × SV × Nat)) (clock : Nat)
  | loop (l : SLoop)
  | deferred (open_ : Bool)
  | strIter (s : ByteArray) (pos : Nat)
  | mapIter (m : Option Nat) (since : Nat) (seen : List Nat) (last : Nat)

/-- The objects, the next number, and a number below which nothing has been written (since a place that the evaluator chooses). -/
structure SW where
  heap : Tr (Option SObj)
  next : Nat
  low : Nat

/-- The slots that are kept, in the order of the function's list; the blocks for deferred calls; the heap. -/
structure St where
  fr : List SV
  defers : List Nat
  w : SW

inductive Out where
  | norm (st : St)
  | exit (id : Nat) (st : St)
  | ret (st : St)

/-- What is known ahead: the program, and the cells of package-level variables. -/
structure Env where
  P : Program
  G : Nat → Option (List SV)
  /-- Of each row: how many cells an element has, and of each the kind of number, if it is one. -/
  rows : Nat → Option (List (Option IntKind)) := fun _ => none
  /-- What is known of numbers. -/
  lt : IE → IE → Option Bool := fun _ _ => none
  eq : IE → IE → Option Bool := fun _ _ => none
  /-- A row that is cut at a number: which row that is. -/
  pre : Nat → IE → Option Nat := fun _ _ => none
  /-- The functions that say whether two slices overlap. -/
  overs : List Nat := []
  sig : Sig := ⟨fun _ => 0, fun _ _ => 0, fun _ => (0, 0, 0, 0), fun _ _ _ => .bool false⟩

namespace Sym
variable (E : Env)

mutual
def ofValue : Value → Option SV
  | .bool b => some (.bool b)
  | .int k n => some (.int k n)
  | .string s => some (.string s)
  | .pointer none => some .nilptr
  | .slice none 0 0 => some .nilslice
  | .map none => some .nilmap
  | .nilFunc => some .nilfunc
  | .nilIface => some .nilIface
  | .func (.func f) ⟨[]⟩ ⟨[]⟩ => some (.func f [] [])
  | .agg ⟨cs⟩ => match ofValues cs with | some l => some (.agg l) | none => none
  | .tuple ⟨cs⟩ => match ofValues cs with | some l => some (.tuple l) | none => none
  | _ => none
def ofValues : List Value → Option (List SV)
  | [] => some []
  | v :: vs => match ofValue v with
    | some x => (match ofValues vs with | some xs => some (x :: xs) | none => none)
    | none => none
end

/-! ### Numbers, forced -/
def force {α : Type} (n : Nat) (k : Nat → α) : α :=
  match n with
  | 0 => k 0
  | m + 1 => k (Nat.succ m)

/-- A whole number, handed on written out. -/
def intK {α : Type} (n : Int) (k : Int → α) : α :=
  match n with
  | .ofNat n => force n fun n => k (.ofNat n)
  | .negSucc n => force n fun n => k (.negSucc n)

def int (k : IntKind) (n : Int) : Option SV := intK n fun n => some (.int k n)

def wrapSlow (k : IntKind) (n : Int) : Option SV := int k (k.wrap n)

/-- The number wrapped round, forced; quick where it fits. -/
def wrapped (k : IntKind) (n : Int) : Option SV :=
  intK n fun n =>
  match k with
  | .i64 => (match n with
    | .ofNat m => (match Nat.ble m 9223372036854775807 with | true => some (.int .i64 (.ofNat m)) | false => wrapSlow .i64 (.ofNat m))
    | .negSucc m => (match Nat.ble m 9223372036854775807 with | true => some (.int .i64 (.negSucc m)) | false => wrapSlow .i64 (.negSucc m)))
  | .u64 => (match n with
    | .ofNat m => (match Nat.ble m 18446744073709551615 with | true => some (.int .u64 (.ofNat m)) | false => wrapSlow .u64 (.ofNat m))
    | .negSucc m => wrapSlow .u64 (.negSucc m))
  | k => wrapSlow k n

def ltb (x y : Int) : Bool :=
  match x, y with
  | .ofNat a, .ofNat b => Nat.ble (Nat.succ a) b
  | .ofNat _, .negSucc _ => false
  | .negSucc _, .ofNat _ => true
  | .negSucc a, .negSucc b => Nat.ble (Nat.succ b) a

def eqb (x y : Int) : Bool :=
  match x, y with
  | .ofNat a, .ofNat b => Nat.beq a b
  | .ofNat _, .negSucc _ => false
  | .negSucc _, .ofNat _ => false
  | .negSucc a, .negSucc b => Nat.beq a b

def kindEq (a b : IntKind) : Bool :=
  match a, b with
  | .i64, .i64 => true
  | a, b => decide (a = b)

/-! ### The heap -/
def hget (w : SW) (id : Nat) : Option SObj := Tr.get none (path id) w.heap

def new (w : SW) (o : SObj) : Option (Nat × SW) :=
  force w.next fun id =>
  match Tr.set none (some o) (path id) w.heap with
  | .nil => none
  | .node l x r => some (id, ⟨.node l x r, Nat.succ id, w.low⟩)

/-- An object that is there written, or struck (none). -/
def put (w : SW) (id : Nat) (o : Option SObj) : Option SW :=
  match Tr.set none o (path id) w.heap with
  | .nil => none
  | .node l x r => match Nat.ble w.low id with
    | true => some ⟨.node l x r, w.next, w.low⟩
    | false => force id fun id => some ⟨.node l x r, w.next, id⟩

def cellsAt (w : SW) (id : Nat) : Option (List SV × TypeId) :=
  match hget w id with
  | some (.cells cs e) => some (cs, e)
  | _ => none

def allScalar : List SV → Bool
  | [] => true
  | v :: vs => match v.scalar with | true => allScalar vs | false => false

def storeAt (w : SW) (id off : Nat) (vs : List SV) : Option SW :=
  match hget w id with
  | some (.cells cs e) => match allScalar vs with
    | true => (match splice cs off vs with | some cs => put w id (some (.cells cs e)) | none => none)
    | false => none
  | _ => none

/-! ### Numbers that are not known -/
def toIE : SV → Option (IntKind × IE)
  | .int k n => some (k, .lit n)
  | .sint k e => some (k, e)
  | _ => none

def notO : Option Bool → Option Bool
  | some b => some (!b)
  | none => none

def symCmp (op : BinOp) (a b : IE) : Option Bool :=
  match op with
  | .lss => E.lt a b
  | .geq => notO (E.lt a b)
  | .gtr => E.lt b a
  | .leq => notO (E.lt b a)
  | .eql => E.eq a b
  | .neq => notO (E.eq a b)
  | _ => none

def boolO : Option Bool → Option SV
  | some b => some (.bool b)
  | none => none

def nzIE (b : IE) : Bool :=
  match b with
  | .lit n => (match eqb n (.ofNat 0) with | true => false | false => true)
  | b => (match E.eq b (.lit (.ofNat 0)) with | some false => true | _ => false)

def symInt (op : BinOp) (k : IntKind) (a b : IE) : Option SV :=
  match op with
  | .add => some (.sint k (.bin .add k a b))
  | .sub => some (.sint k (.bin .sub k a b))
  | .mul => some (.sint k (.bin .mul k a b))
  | .and => some (.sint k (.bin .and k a b))
  | .or => some (.sint k (.bin .or k a b))
  | .xor => some (.sint k (.bin .xor k a b))
  | .andNot => some (.sint k (.bin .andNot k a b))
  | .quo => (match nzIE E b with | true => some (.sint k (.bin .quo k a b)) | false => none)
  | .rem => (match nzIE E b with | true => some (.sint k (.bin .rem k a b)) | false => none)
  | op => boolO (symCmp E op a b)

def symOp (op : BinOp) (x y : SV) : Option SV :=
  match toIE x, toIE y with
  | some (k, a), some (k', b) =>
    (match op with
    | .shl => (match b with | .lit (.ofNat n) => some (.sint k (.bin .shl k a (.lit (.ofNat n)))) | _ => none)
    | .shr => (match b with | .lit (.ofNat n) => some (.sint k (.bin .shr k a (.lit (.ofNat n)))) | _ => none)
    | op => match kindEq k k' with | true => symInt E op k a b | false => none)
  | _, _ => none

/-- A cell of a row. -/
def rowCell (a : Nat) (i : IE) (c : Nat) : Option IntKind → SV
  | some k => .sint k (.sel a i c)
  | none => .blur

def rowCells (a : Nat) (i : IE) : Nat → Nat → List (Option IntKind) → Option (List SV)
  | 0, _, _ => some []
  | _ + 1, _, [] => none
  | n + 1, c, k :: ks => match rowCells a i n (Nat.succ c) ks with | some l => some (rowCell a i c k :: l) | none => none

def pickRow (a : Nat) (i : IE) (off : Nat) (ks : List (Option IntKind)) : Option Nat → Option SV
  | none => (match nth ks off with | some k => some (rowCell a i off k) | none => none)
  | some n => (match Nat.ble (off + n) ks.length, rowCells a i n off (ks.drop off) with | true, some l => some (.agg l) | _, _ => none)

/-- A place of a row, where the number lies in it. -/
def rowAt (a : Nat) (n : Nat) (i : SV) : Option SV :=
  match toIE i, E.rows a with
  | some (_, e), some ks => (match Nat.beq ks.length n, E.lt e (.lit (.ofNat 0)), E.lt e (.len a) with
    | true, some false, some true => some (.rptr a e 0)
    | _, _, _ => none)
  | _, _ => none

/-! ### Types -/
def sizeOf (t : TypeId) : Option Nat := match E.P.info? t with | some i => some i.size | none => none
def zero (t : TypeId) : Option SV := match E.P.info? t with | some i => (match i.zero with | some z => ofValue z | none => none) | none => none
def isAgg (t : TypeId) : Option Bool := match E.P.underlying t with
  | some (.struct _) => some true
  | some (.array _ _) => some true
  | some _ => some false
  | none => none
/-- none: one cell; some n: n cells. -/
def wide (t : TypeId) : Option (Option Nat) :=
  match isAgg E t with
  | some true => (match sizeOf E t with | some n => some (some n) | none => none)
  | some false => some none
  | none => none

def pick (cs : List SV) (off : Nat) : Option Nat → Option SV
  | none => nth cs off
  | some n => match seg cs off n with | some l => some (.agg l) | none => none

def loadW (w : SW) (wd : Option Nat) (a : SV) : Option SV :=
  match a with
  | .ptr id off => (match hget w id with | some (.cells cs _) => pick cs off wd | _ => none)
  | .gptr g off => (match E.G g with | some cs => pick cs off wd | none => none)
  | .rptr a i off => (match E.rows a with | some ks => pickRow a i off ks wd | none => none)
  | _ => none

def storeW (w : SW) (n : Nat) (a v : SV) : Option SW :=
  match a with
  | .ptr id off => match Nat.beq v.cells.length n with | true => storeAt w id off v.cells | false => none
  | _ => none

/-! ### Making values -/
def fill (place : Nat → Option (Nat × Nat)) (cells : List SV) : List (Nat × SV) → Option (List SV)
  | [] => some cells
  | (i, v) :: rest =>
    match place i with
    | some (off, size) =>
      (match v with
      | .unknown => none
      | v => match Nat.beq v.cells.length size with
        | true => (match splice cells off v.cells with | some cs => fill place cs rest | none => none)
        | false => none)
    | none => none

def fieldPlaces : List Field → Option (List (Nat × Nat))
  | [] => some []
  | f :: fs => match sizeOf E f.type with
    | some n => (match fieldPlaces fs with | some l => some ((f.offset, n) :: l) | none => none)
    | none => none

def nthP : List (Nat × Nat) → Nat → Option (Nat × Nat)
  | [], _ => none
  | c :: _, 0 => some c
  | _ :: cs, n + 1 => nthP cs n

def copies (z : List SV) : Nat → List SV
  | 0 => []
  | n + 1 => z ++ copies z n

def asNat : SV → Option Nat
  | .int _ (.ofNat n) => some n
  | _ => none

/-! ### Numbers and strings -/
/-- Bits of two numbers; quick where both are not negative and the kind has 64 bits, or they are of a kind without a sign. -/
def bitsOp (op : BinOp) (k : IntKind) (x y : Int) : Option SV :=
  match op with
  | .and => wrapSlow k (BitVec.ofInt k.bits x &&& BitVec.ofInt k.bits y).toNat
  | .or => wrapSlow k (BitVec.ofInt k.bits x ||| BitVec.ofInt k.bits y).toNat
  | .xor => wrapSlow k (BitVec.ofInt k.bits x ^^^ BitVec.ofInt k.bits y).toNat
  | .andNot => wrapSlow k (BitVec.ofInt k.bits x &&& ~~~ (BitVec.ofInt k.bits y)).toNat
  | _ => none

def intOp (op : BinOp) (k : IntKind) (x y : Int) : Option SV :=
  match op with
  | .add => wrapped k (Int.add x y)
  | .sub => wrapped k (Int.sub x y)
  | .mul => wrapped k (Int.mul x y)
  | .quo => match eqb y (.ofNat 0) with | true => none | false => wrapped k (Int.tdiv x y)
  | .rem => match eqb y (.ofNat 0) with | true => none | false => int k (Int.tmod x y)
  | .and => bitsOp .and k x y
  | .or => bitsOp .or k x y
  | .xor => bitsOp .xor k x y
  | .andNot => bitsOp .andNot k x y
  | .eql => some (.bool (eqb x y))
  | .neq => some (.bool (!(eqb x y)))
  | .lss => some (.bool (ltb x y))
  | .leq => some (.bool (!(ltb y x)))
  | .gtr => some (.bool (ltb y x))
  | .geq => some (.bool (!(ltb x y)))
  | _ => none

def shiftOp (op : BinOp) (k : IntKind) (x : Int) (y : Int) : Option SV :=
  match y with
  | .ofNat y =>
    match op with
    | .shl => wrapped k (Int.mul x (.ofNat (Nat.pow 2 (Nat.min y k.bits))))
    | .shr => int k (Int.fdiv x (.ofNat (Nat.pow 2 (Nat.min y k.bits))))
    | _ => none
  | .negSucc _ => none

def strEq (a b : ByteArray) : Bool := a.data.toList == b.data.toList

def strOp (op : BinOp) (x y : ByteArray) : Option SV :=
  match op with
  | .add => match Nat.ble (x.size + y.size) 9223372036854775807 with | true => some (.string (x ++ y)) | false => none
  | .eql => some (.bool (strEq x y))
  | .neq => some (.bool (!strEq x y))
  | .lss => some (.bool (Op.bytesLess x.data.toList y.data.toList))
  | .leq => some (.bool (Op.bytesLess x.data.toList y.data.toList || strEq x y))
  | .gtr => some (.bool (!(Op.bytesLess x.data.toList y.data.toList || strEq x y)))
  | .geq => some (.bool (!(Op.bytesLess x.data.toList y.data.toList)))
  | _ => none

def part (t : TypeId) (cs : List SV) (off : Nat) : Option SV :=
  match wide E t with
  | some wd => pick cs off wd
  | none => none

def eqScalar (d : TypeDesc) (x y : SV) : Option Bool :=
  match d, x, y with
  | .bool, .bool a, .bool b => some (a == b)
  | .int _, .int k a, .int k' b => match kindEq k k' with | true => some (eqb a b) | false => none
  | .string, .string a, .string b => some (strEq a b)
  | .pointer _, .nilptr, .nilptr => some true
  | .pointer _, .nilptr, .ptr _ _ => some false
  | .pointer _, .ptr _ _, .nilptr => some false
  | .interface _, .nilIface, .nilIface => some true
  | .interface _, .nilIface, .iface _ _ => some false
  | .interface _, .iface _ _, .nilIface => some false
  | .slice _, .nilslice, .nilslice => some true
  | .slice _, .nilslice, .slice _ _ _ _ => some false
  | .slice _, .slice _ _ _ _, .nilslice => some false
  | .map _ _, .nilmap, .nilmap => some true
  | .map _ _, .nilmap, .map _ => some false
  | .map _ _, .map _, .nilmap => some false
  | .func _ _ _, .nilfunc, .nilfunc => some true
  | .func _ _ _, .nilfunc, .func _ _ _ => some false
  | .func _ _ _, .func _ _ _, .nilfunc => some false
  | _, _, _ => none

def equal : Nat → TypeId → SV → SV → Option Bool
  | 0, _, _, _ => none
  | d + 1, t, x, y =>
    match E.P.underlying t with
    | none => none
    | some u =>
      match u, x, y with
      | .struct fs, .agg xs, .agg ys =>
        (match E.P.stoodInHeld t with
        | true => none
        | false => fields (equal d) fs.toList xs ys)
      | u, x, y => eqScalar u x y
where
  fields (eq : TypeId → SV → SV → Option Bool) : List Field → List SV → List SV → Option Bool
    | [], _, _ => some true
    | f :: fs, xs, ys =>
      match f.name == "_" with
      | true => fields eq fs xs ys
      | false =>
        match part E f.type xs f.offset, part E f.type ys f.offset with
        | some x, some y => (match eq f.type x y with
          | some true => fields eq fs xs ys
          | some false => some false
          | none => none)
        | _, _ => none

def eqGuardOk (t : TypeId) (x y : SV) : Bool :=
  match x, y with
  | .nilIface, .nilIface => false
  | .agg _, .agg _ => !(E.P.eqGuardType E.P.depth t)
  | _, _ => true

def binOp (op : BinOp) (t : TypeId) (x y : SV) : Option SV :=
  match x, y with
  | .int k a, .int k' b =>
    (match op with
    | .shl => shiftOp .shl k a b
    | .shr => shiftOp .shr k a b
    | op => match kindEq k k' with | true => intOp op k a b | false => none)
  | .string a, .string b => strOp op a b
  | .int .i64 (.ofNat a), .atLeast n =>
    (match op with
    | .gtr => (match Nat.ble a n with | true => some (.bool false) | false => none)
    | _ => none)
  | x, y => match symOp E op x y with
    | some r => some r
    | none =>
    (match op with
    | .eql => (match eqGuardOk E t x y with | true => (match equal E 12 t x y with | some b => some (.bool b) | none => none) | false => none)
    | .neq => (match eqGuardOk E t x y with | true => (match equal E 12 t x y with | some b => some (.bool (!b)) | none => none) | false => none)
    | _ => none)

def unOp (op : UnOp) (x : SV) : Option SV :=
  match op, x with
  | .neg, .int k n => wrapped k (Int.sub (.ofNat 0) n)
  | .neg, .sint k e => some (.sint k (.neg k e))
  | .xor, .int k n => wrapSlow k (BitVec.ofInt k.bits (if k.signed then -1 else k.max) ^^^ BitVec.ofInt k.bits n).toNat
  | .not, .bool b => some (.bool !b)
  | _, _ => none

def bytesOf : List SV → Option (List UInt8)
  | [] => some []
  | .int .u8 n :: vs => match bytesOf vs with | some l => some (UInt8.ofNat n.toNat :: l) | none => none
  | _ => none

/-! ### Compiled forms -/
/-- Where slots are found: 'wr': what the operations of this region have written, the last first; 'sl': the slots that the frame keeps. -/
structure Cx where
  wr : List Nat
  sl : List Nat

/-- An operand, compiled: of the region's results so far (the last first) and the frame. -/
structure Opd where
  ev : List SV → List SV → SV

def slotK (cx : Cx) (t : Nat) : Opd :=
  match posOf t cx.wr with
  | some i => ⟨fun e _ => nthV .unknown e i⟩
  | none => match posOf t cx.sl with
    | some i => ⟨fun _ fr => nthV .unknown fr i⟩
    | none => ⟨fun _ _ => .unknown⟩

def opd (cx : Cx) : Operand → Option Opd
  | .tmp t => some (slotK cx t)
  | .const v => match ofValue v with | some x => some ⟨fun _ _ => x⟩ | none => none
  | .global g => some ⟨fun _ _ => .gptr g 0⟩
  | .func f => some ⟨fun _ _ => .func f [] []⟩

structure Opds where
  ev : List SV → List SV → List SV

def opds (cx : Cx) : List Operand → Option Opds
  | [] => some ⟨fun _ _ => []⟩
  | o :: os => match opd cx o, opds cx os with
    | some ⟨f⟩, some ⟨g⟩ => some ⟨fun e fr => f e fr :: g e fr⟩
    | _, _ => none

structure Parts where
  ev : List SV → List SV → List (Nat × SV)

def partsOf (cx : Cx) : List (Nat × Operand) → Option Parts
  | [] => some ⟨fun _ _ => []⟩
  | (i, o) :: os => match opd cx o, partsOf cx os with
    | some ⟨f⟩, some ⟨g⟩ => some ⟨fun e fr => (i, f e fr) :: g e fr⟩
    | _, _ => none

/-- The functions that code calls. -/
structure Callee where
  call : Nat → List SV → SW → Option (SV × SW)
  round : Nat → List SV → SW → Option (SV × SW)

/-- An operation, compiled. -/
inductive KOp where
  | mv (f : List SV → List SV → SV)
  | pure (f : List SV → List SV → Option SV)
  | rd (f : List SV → List SV → SW → Option SV)
  | full (f : List SV → List SV → SW → Option (SV × SW))
  | call (f : Callee → List SV → List SV → SW → Option (SV × SW))

def ptrTo (r : Option (Nat × SW)) : Option (SV × SW) :=
  match r with
  | some (id, w) => some (.ptr id 0, w)
  | none => none

def convertK (src dst : TypeId) (f : List SV → List SV → SV) : Option KOp :=
  match E.P.underlying src, E.P.underlying dst with
  | some us, some ud =>
    (match us, ud with
    | _, .int k => some (.pure fun e fr => match f e fr with | .int _ n => wrapped k n | .sint _ a => some (.sint k (.conv k a)) | _ => none)
    | _, .string =>
      (match us with
      | .slice e => (match E.P.underlying e with
        | some (.int .u8) => some (.rd fun e fr w => match f e fr with
          | .nilslice => some (.string .empty)
          | .slice id off len _ => (match cellsAt w id with
            | some (cs, _) => (match seg cs off len with
              | some l => (match bytesOf l with | some b => some (.string ⟨b.toArray⟩) | none => none)
              | none => none)
            | none => none)
          | _ => none)
        | _ => none)
      | _ => some (.pure fun e fr => match f e fr with | .string s => some (.string s) | _ => none))
    | _, .slice el =>
      (match E.P.underlying el with
      | some (.int .u8) => some (.full fun e fr w => match f e fr with
        | .string s => (match new w (.cells (s.data.toList.map fun b => .int .u8 b.toNat) 0) with
          | some (id, w) => force s.size fun n => some (.slice id 0 n (.toEnd 1 n), w)
          | none => none)
        | _ => none)
      | _ => none)
    | _, _ => none)
  | _, _ => none

def bound (dflt : Nat) : Option SV → Option Nat
  | none => some dflt
  | some v => asNat v

def cutAt (hi lo : Option SV) (dflt most : Nat) (k : Nat → Nat → Option SV) : Option SV :=
  match bound dflt hi, bound 0 lo with
  | some h, some l => (match Nat.ble h most, Nat.ble l h with | true, true => k h l | _, _ => none)
  | _, _ => none

def cutRow (a : Nat) (lo hi : Option SV) : Option SV :=
  match lo, hi with
  | none, some y => (match toIE y with
    | some (_, e) => (match E.pre a e with | some a' => some (.row a') | none => none)
    | none => none)
  | _, _ => none

def sliceV (d : TypeDesc) (size : Option Nat) (x : SV) (lo hi : Option SV) : Option SV :=
  match d, x, size with
  | .string, .string s, _ => cutAt hi lo s.size s.size fun h l => some (.string (s.extract l h))
  | .array n _, .ptr id off, some size =>
    cutAt hi lo n n fun h l => force (h - l) fun len => force (n - l) fun cap => force (match Nat.beq n l with | true => off | false => off + l * size) fun o => some (.slice id o len (.exact cap))
  | .slice _, .nilslice, some _ => cutAt hi lo 0 0 fun _ _ => some .nilslice
  | .slice _, .slice id off len (.exact cap), some size =>
    cutAt hi lo len cap fun h l => force (h - l) fun len => force (cap - l) fun cap' => force (match Nat.beq cap l with | true => off | false => off + l * size) fun o => some (.slice id o len (.exact cap'))
  | .slice _, .slice id off len (.toEnd sz least), some size =>
    (match Nat.beq size sz with
    | true => cutAt hi lo len least fun h l => force (h - l) fun len => force (least - l) fun least => force (off + l * size) fun o => some (.slice id o len (.toEnd sz least))
    | false => none)
  | _, _, _ => none

def slice3V (d : TypeDesc) (size : Option Nat) (x : SV) (lo hi mx : Option SV) : Option SV :=
  match d, x, size, mx, hi with
  | .slice _, .slice id off _ (.exact cap), some size, some m, some hi =>
    (match asNat m with
    | some m => (match Nat.ble m cap with
      | true => cutAt (some hi) lo 0 m fun h l => force (h - l) fun len => force (m - l) fun cap' => force (match Nat.beq m l with | true => off | false => off + l * size) fun o => some (.slice id o len (.exact cap'))
      | false => none)
    | none => none)
  | .slice _, .slice id off _ (.toEnd _ least), some size, some m, some hi =>
    (match asNat m with
    | some 0 => cutAt (some hi) lo 0 0 fun _ _ => some .blur
    | some m => (match Nat.ble m least with
      | true => cutAt (some hi) lo 0 m fun h l => force (h - l) fun len => force (m - l) fun cap' => force (match Nat.beq m l with | true => off | false => off + l * size) fun o => some (.slice id o len (.exact cap'))
      | false => none)
    | none => none)
  | .slice _, .nilslice, some _, some m, some hi =>
    (match asNat m with
    | some 0 => cutAt (some hi) lo 0 0 fun _ _ => some .nilslice
    | _ => none)
  | _, _, _, _, _ => none

def optOpd (cx : Cx) : Option Operand → Option (Option Opd)
  | none => some none
  | some o => match opd cx o with | some f => some (some f) | none => none

def Opd.opt (o : Option Opd) (e fr : List SV) : Option SV :=
  match o with
  | none => none
  | some ⟨f⟩ => some (f e fr)

def sliceElem (d : TypeDesc) : Option Nat :=
  match d with
  | .slice e => sizeOf E e
  | .array _ e => sizeOf E e
  | _ => none

def nthF : List Field → Nat → Option Field
  | [], _ => none
  | c :: _, 0 => some c
  | _ :: cs, n + 1 => nthF cs n

def keyKind (d : TypeDesc) : Bool :=
  match d with
  | .int _ => true
  | .string => true
  | .bool => true
  | _ => false

def findKey (d : TypeDesc) (k : SV) : List (SV × SV × Nat) → Option (Option SV)
  | [] => some none
  | (k', v, _) :: es =>
    match eqScalar d k k' with
    | some true => some (some v)
    | some false => findKey d k es
    | none => none

def setKey (d : TypeDesc) (k v : SV) : List (SV × SV × Nat) → Option (List (SV × SV × Nat))
  | [] => none
  | (k', v', n) :: es =>
    match eqScalar d k k' with
    | some true => some ((k', v, n) :: es)
    | some false => (match setKey d k v es with | some r => some ((k', v', n) :: r) | none => none)
    | none => none

def mapAt (w : SW) (id : Nat) : Option (List (SV × SV × Nat) × Nat) :=
  match hget w id with
  | some (.map es c) => some (es, c)
  | _ => none

def entries (w : SW) (x : SV) : Option (List (SV × SV × Nat)) :=
  match x with
  | .nilmap => some []
  | .map id => (match hget w id with | some (.map es _) => some es | _ => none)
  | _ => none

def lookupV (kd : TypeDesc) (z : SV) (ok : Bool) (w : SW) (x k : SV) : Option SV :=
  match entries w x with
  | some es => (match findKey kd k es with
    | some (some v) => some (match ok with | true => .tuple [v, .bool true] | false => v)
    | some none => some (match ok with | true => .tuple [z, .bool false] | false => z)
    | none => none)
  | none => none

def updateV (kd : TypeDesc) (w : SW) (x k v : SV) : Option SW :=
  match x with
  | .map id => (match hget w id with
    | some (.map es c) => (match findKey kd k es with
      | some (some _) => (match setKey kd k v es with | some es => put w id (some (.map es c)) | none => none)
      | some none => force (c + 1) fun c' => put w id (some (.map (es ++ [(k, v, c)]) c'))
      | none => none)
    | _ => none)
  | _ => none

/-- A key struck. -/
def remKey (d : TypeDesc) (k : SV) : List (SV × SV × Nat) → Option (List (SV × SV × Nat))
  | [] => some []
  | (k', v', n) :: es =>
    match eqScalar d k k' with
    | some true => some es
    | some false => (match remKey d k es with | some r => some ((k', v', n) :: r) | none => none)
    | none => none

def deleteV (kd : TypeDesc) (w : SW) (x k : SV) : Option SW :=
  match x with
  | .nilmap => some w
  | .map id => (match hget w id with
    | some (.map es c) => (match remKey kd k es with | some es => put w id (some (.map es c)) | none => none)
    | _ => none)
  | _ => none

/-- A key's value, and when it was born. -/
def findE (d : TypeDesc) (k : SV) : List (SV × SV × Nat) → Option (Option (SV × Nat))
  | [] => some none
  | (k', v, n) :: es =>
    match eqScalar d k k' with
    | some true => some (some (v, n))
    | some false => findE d k es
    | none => none

/-- The entry of a key, made if it is not there: its value, and when it was born. -/
def entryV (kd : TypeDesc) (z : SV) (w : SW) (x k : SV) : Option (SV × SW) :=
  match x with
  | .map id => (match hget w id with
    | some (.map es c) => (match findE kd k es with
      | some (some (v, n)) => (match put w id (some (.map es c)) with
        | some w => some (.tuple [v, .int .i64 (.ofNat n)], w)
        | none => none)
      | some none => force (c + 1) fun c' => (match put w id (some (.map (es ++ [(k, z, c)]) c')) with
        | some w => some (.tuple [z, .int .i64 (.ofNat c)], w)
        | none => none)
      | none => none)
    | _ => none)
  | _ => none

/-- The value of the entry that was born then. -/
def setBorn (n : Nat) (v : SV) : List (SV × SV × Nat) → Option (List (SV × SV × Nat))
  | [] => none
  | (k, v', m) :: es => match Nat.beq m n with
    | true => some ((k, v, m) :: es)
    | false => (match setBorn n v es with | some r => some ((k, v', m) :: r) | none => none)

def estoreV (w : SW) (x n v : SV) : Option SW :=
  match x with
  | .map id => (match hget w id, asNat n with
    | some (.map es c), some n => (match setBorn n v es with | some es => put w id (some (.map es c)) | none => none)
    | _, _ => none)
  | _ => none

def rowLen (x : SV) : Option Nat :=
  match x with
  | .string s => some s.size
  | .slice _ _ n _ => some n
  | .nilslice => some 0
  | _ => none

def firstCells (w : SW) (size n : Nat) (x : SV) : Option (List SV) :=
  match x with
  | .slice id off _ _ => (match hget w id with | some (.cells cs _) => seg cs off (n * size) | _ => none)
  | .nilslice => some []
  | .string s => some ((s.data.toList.take n).map fun b => .int .u8 b.toNat)
  | _ => none

def grow (elem : TypeId) (size bytes : Nat) (w : SW) (old : List SV) (len : Nat) (added : List SV) (n : Nat) : Option (SV × SW) :=
  match Nat.ble ((len + n + len + len + 1024) * (bytes + 1)) 140737488355328, allScalar added with
  | true, true => (match new w (.cells (old ++ added) elem) with
    | some (id, w) => force (len + n) fun l => some (.slice id 0 l (.toEnd size l), w)
    | none => none)
  | _, _ => none

/-- The mark of a row: 0 where it may have been made of a string. -/
def elAt (w : SW) (id : Nat) : TypeId :=
  match hget w id with
  | some (.cells _ e) => e
  | _ => 0

def rowOk (size : Nat) (x : SV) : Bool :=
  match x with
  | .string _ => Nat.beq size 1
  | _ => true

def appendV (elem : TypeId) (size bytes : Nat) (w : SW) (s x : SV) : Option (SV × SW) :=
  match rowLen x with
  | none => none
  | some 0 => (match s with
    | .nilslice => some (s, w)
    | .slice _ _ len (.exact cap) => (match Nat.ble len cap with | true => some (s, w) | false => none)
    | .slice _ _ _ (.toEnd _ _) => some (s, w)
    | _ => none)
  | some (n + 1) =>
    match firstCells w size (n + 1) x, rowOk size x with
    | some added, true =>
      (match s with
      | .nilslice => grow elem size bytes w [] 0 added (n + 1)
      | .slice id off len (.exact cap) =>
        (match Nat.ble (len + (n + 1)) cap with
        | true => (match storeAt w id (off + len * size) added with
          | some w => force (len + (n + 1)) fun l => some (.slice id off l (.exact cap), w)
          | none => none)
        | false => (match firstCells w size len s with | some old => grow elem size bytes w old len added (n + 1) | none => none))
      | .slice id off len (.toEnd sz least) =>
        (match Nat.beq sz size, Nat.ble (len + (n + 1)) least with
        | true, true => (match storeAt w id (off + len * size) added with
          | some w => force (len + (n + 1)) fun l => some (.slice id off l (.toEnd sz least), w)
          | none => none)
        | true, false =>
          (match firstCells w size len s, put w id none with
          | some old, some w' => grow (elAt w id) size bytes w' old len added (n + 1)
          | _, _ => none)
        | _, _ => none)
      | _ => none)
    | _, _ => none

/-- Zero values behind a row that is full. -/
def appendZ (elem : TypeId) (size bytes : Nat) (z : List SV) (w : SW) (s x : SV) : Option (SV × SW) :=
  match s, asNat x with
  | .slice id off len (.exact cap), some n =>
    (match Nat.ble (len + n) cap with
    | true => none
    | false => (match firstCells w size len (.slice id off len (.exact cap)) with
      | some old => grow elem size bytes w old len (copies z n) n
      | none => none))
  | _, _ => none

def minMax (isMin : Bool) : SV → List SV → Option SV
  | x, [] => some x
  | .int k x, .int _ y :: rest =>
    (match isMin with
    | true => (match ltb y x with | true => minMax isMin (.int k y) rest | false => minMax isMin (.int k x) rest)
    | false => (match ltb x y with | true => minMax isMin (.int k y) rest | false => minMax isMin (.int k x) rest))
  | x, y :: rest => match toIE x, toIE y with
    | some (k, a), some (_, b) => (match isMin with
      | true => minMax isMin (.sint k (.min a b)) rest
      | false => minMax isMin (.sint k (.max a b)) rest)
    | _, _ => none

def withW (w : SW) (r : Option SV) : Option (SV × SW) :=
  match r with
  | some v => some (v, w)
  | none => none

def copyV (size : Nat) (w : SW) (dst src : SV) : Option (SV × SW) :=
  match rowLen src with
  | none => none
  | some m =>
    match dst with
    | .nilslice => some (.int .i64 0, w)
    | .slice id off len _ =>
      (match firstCells w size (min m len) src with
      | some cs => (match storeAt w id off cs with
        | some w => withW w (int .i64 (min m len : Nat))
        | none => none)
      | none => none)
    | _ => none

def done (r : Option SW) : Option (SV × SW) :=
  match r with
  | some w => some (.undef, w)
  | none => none

/-- A row's cells made zero. -/
def clearV (z : List SV) (w : SW) (x : SV) : Option SW :=
  match x with
  | .nilslice => some w
  | .slice id off len _ => (match len with
    | 0 => some w
    | len + 1 => storeAt w id off (copies z (Nat.succ len)))
  | _ => none

def builtinK (cx : Cx) (b : Builtin) (argTypes : Array TypeId) (args : List Operand) : Option KOp :=
  match b, args with
  | .len, [x] =>
    (match opd cx x, argTypes.toList with
    | some ⟨f⟩, t0 :: _ => (match E.P.underlying t0 with
      | some .string => some (.pure fun e fr => match f e fr with | .string s => int .i64 s.size | .sstr a => some (.sint .i64 (.var a)) | _ => none)
      | some (.slice _) => some (.pure fun e fr => match f e fr with | .slice _ _ n _ => int .i64 n | .nilslice => some (.int .i64 0) | .row a => some (.sint .i64 (.len a)) | _ => none)
      | some (.array n _) => some (.pure fun _ _ => int .i64 n)
      | some (.map _ _) => some (.rd fun e fr w => match entries w (f e fr) with | some es => int .i64 es.length | none => none)
      | _ => none)
    | _, _ => none)
  | .cap, [x] =>
    (match opd cx x, argTypes.toList with
    | some ⟨f⟩, t0 :: _ => (match E.P.underlying t0 with
      | some (.slice _) => some (.pure fun e fr => match f e fr with | .slice _ _ _ (.exact c) => int .i64 c | .slice _ _ _ (.toEnd _ least) => some (.atLeast least) | .nilslice => some (.int .i64 0) | _ => none)
      | some (.array n _) => some (.pure fun _ _ => int .i64 n)
      | _ => none)
    | _, _ => none)
  | .append, [s, x] =>
    (match opd cx s, opd cx x, argTypes.toList with
    | some ⟨f⟩, some ⟨g⟩, [t0, t1] =>
      (match E.P.underlying t0, E.P.underlying t1 with
      | some (.slice elem), some u =>
        (match u with
        | .int _ => (match E.P.info? elem, zero E elem with
          | some i, some z => (match Nat.ble 1 i.size, Nat.beq z.cells.length i.size with
            | true, true => force i.size fun size => force i.bytes fun bytes => some (.full fun e fr w => appendZ elem size bytes z.cells w (f e fr) (g e fr))
            | _, _ => none)
          | _, _ => none)
        | _ => (match E.P.info? elem, zero E elem with
          | some i, some z => (match Nat.ble 1 i.size, Nat.beq z.cells.length i.size with
            | true, true => force i.size fun size => force i.bytes fun bytes => some (.full fun e fr w => appendV elem size bytes w (f e fr) (g e fr))
            | _, _ => none)
          | _, _ => none))
      | _, _ => none)
    | _, _, _ => none)
  | .copy, [d, s] =>
    (match opd cx d, opd cx s, argTypes.toList with
    | some ⟨f⟩, some ⟨g⟩, t0 :: _ =>
      (match E.P.underlying t0 with
      | some (.slice elem) => (match sizeOf E elem with | some size => some (.full fun e fr w => copyV size w (f e fr) (g e fr)) | none => none)
      | _ => none)
    | _, _, _ => none)
  | .clear, [x] =>
    (match opd cx x, argTypes.toList with
    | some ⟨f⟩, t0 :: _ => (match E.P.underlying t0 with
      | some (.slice elem) => (match zero E elem with
        | some z => some (.full fun e fr w => done (clearV z.cells w (f e fr)))
        | none => none)
      | _ => none)
    | _, _ => none)
  | .delete, [m, i] =>
    (match opd cx m, opd cx i, argTypes.toList with
    | some ⟨f⟩, some ⟨g⟩, t0 :: _ => (match E.P.underlying t0 with
      | some (.map key _) => (match E.P.underlying key with
        | some kd => (match keyKind kd with
          | true => some (.full fun e fr w => done (deleteV kd w (f e fr) (g e fr)))
          | false => none)
        | none => none)
      | _ => none)
    | _, _, _ => none)
  | .min, x :: rest => (match opd cx x, opds cx rest with | some ⟨f⟩, some ⟨g⟩ => some (.pure fun e fr => minMax true (f e fr) (g e fr)) | _, _ => none)
  | .max, x :: rest => (match opd cx x, opds cx rest with | some ⟨f⟩, some ⟨g⟩ => some (.pure fun e fr => minMax false (f e fr) (g e fr)) | _, _ => none)
  | _, _ => none

/-- The next entry of a map, where there is no choice. -/
def nextM (w : SW) (x : SV) : Option (SV × SW) :=
  match x with
  | .ptr id 0 =>
    (match hget w id with
    | some (.mapIter none _ _ _) => some (.tuple [.bool false], w)
    | some (.mapIter (some m) since seen last) =>
      (match hget w m with
      | some (.map es clock) =>
        (match es, seen with
        | [], _ => some (.tuple [.bool false], w)
        | [(k, v, n)], [] => (match Nat.ble (Nat.succ n) since with
          | true => (match put w id (some (.mapIter (some m) since [n] clock)) with
            | some w => some (.tuple [.bool true, k, v], w)
            | none => none)
          | false => none)
        | [(_, _, n)], [n'] => (match Nat.beq n n', Nat.ble (Nat.succ n) last with | true, true => some (.tuple [.bool false], w) | _, _ => none)
        | _, _ => none)
      | _ => none)
    | _ => none)
  | _ => none

def nextV (w : SW) (x : SV) : Option (SV × SW) :=
  match x with
  | .ptr id 0 =>
    (match hget w id with
    | some (.strIter s pos) =>
      (match Nat.ble (pos + 1) s.size with
      | true => force (pos + (Utf8.decode s pos).2) fun pos' => (match put w id (some (.strIter s pos')) with
        | some w => some (.tuple [.bool true, .int .i64 (.ofNat pos), .int .i32 (Utf8.decode s pos).1], w)
        | none => none)
      | false => some (.tuple [.bool false], w))
    | _ => none)
  | _ => none

def indexV (n : Nat) (len : Nat) (i : SV) (k : Nat → Option SV) : Option SV :=
  match asNat i with
  | some i => (match Nat.ble (i + 1) len with | true => force (i * n) k | false => none)
  | none => none

def memNat (t : Nat) : List Nat → Bool
  | [] => false
  | x :: l => match Nat.beq x t with | true => true | false => memNat t l

/-- Two rows in places of their own do not overlap. -/
def overlapV (w : SW) (args : List SV) : Option SV :=
  match args with
  | [.slice a _ _ _, .slice b _ _ _] =>
    (match hget w a, hget w b, Nat.beq a b with
    | some (.cells _ el), some (.cells (_ :: _) _), false => (match Nat.beq el 0 with | false => some (.bool false) | true => none)
    | _, _, _ => none)
  | _ => none

def kop0 (cx : Cx) (o : Oper) : Option KOp :=
  match o.op with
  | .move x => match opd cx x with | some ⟨f⟩ => some (.mv f) | none => none
  | .assign x => match opd cx x with | some ⟨f⟩ => some (.mv f) | none => none
  | .pick c a b => match opd cx c, opd cx a, opd cx b with
    | some ⟨f⟩, some ⟨g⟩, some ⟨h⟩ => some (.pure fun e fr => match f e fr with | .bool true => some (g e fr) | .bool false => some (h e fr) | _ => none)
    | _, _, _ => none
  | .alloc t => match zero E t with
    | some z => (match allScalar z.cells with | true => some (.full fun _ _ w => ptrTo (new w (.cells z.cells t))) | false => none)
    | none => none
  | .box t x => match opd cx x with
    | some ⟨f⟩ => some (.full fun e fr w => match allScalar (f e fr).cells with | true => ptrTo (new w (.cells (f e fr).cells t)) | false => none)
    | none => none
  | .build t ps =>
    (match partsOf cx ps.toList, zero E t, E.P.underlying t with
    | some ⟨g⟩, some z, some d =>
      (match d with
      | .struct fields => (match fieldPlaces E fields.toList with
        | some pl => some (.pure fun e fr => match fill (nthP pl) z.cells (g e fr) with | some l => some (.agg l) | none => none)
        | none => none)
      | .array _ elem => (match sizeOf E elem with
        | some size => some (.pure fun e fr => match fill (fun i => some (i * size, size)) z.cells (g e fr) with | some l => some (.agg l) | none => none)
        | none => none)
      | _ => none)
    | _, _, _ => none)
  | .buildSlice t len ps =>
    (match partsOf cx ps.toList, E.P.underlying t with
    | some ⟨g⟩, some (.slice elem) =>
      (match sizeOf E elem, zero E elem with
      | some size, some z =>
        (match Nat.ble (len * size) 16777216, Nat.beq z.cells.length size, allScalar z.cells with
        | true, true, true => some (.full fun e fr w => match fill (fun i => some (i * size, size)) (copies z.cells len) (g e fr) with
          | some cs => (match allScalar cs with
            | true => (match new w (.cells cs elem) with | some (id, w) => some (.slice id 0 len (.exact len), w) | none => none)
            | false => none)
          | none => none)
        | _, _, _ => none)
      | _, _ => none)
    | _, _ => none)
  | .load t a => match opd cx a, wide E t with
    | some ⟨f⟩, some wd => some (.rd fun e fr w => loadW E w wd (f e fr))
    | _, _ => none
  | .store t a v => match opd cx a, opd cx v, sizeOf E t with
    | some ⟨f⟩, some ⟨g⟩, some n => some (.full fun e fr w => done (storeW w n (f e fr) (g e fr)))
    | _, _, _ => none
  | .nilCheck x => match opd cx x with
    | some ⟨f⟩ => some (.pure fun e fr => match f e fr with | .ptr i o => some (.ptr i o) | .gptr i o => some (.gptr i o) | .rptr a i o => some (.rptr a i o) | .func i a c => some (.func i a c) | _ => none)
    | none => none
  | .binOp op t x y _ => match opd cx x, opd cx y with
    | some ⟨f⟩, some ⟨g⟩ => some (.pure fun e fr => binOp E op t (f e fr) (g e fr))
    | _, _ => none
  | .unOp op _ x => match opd cx x with
    | some ⟨f⟩ => some (.pure fun e fr => unOp op (f e fr))
    | none => none
  | .convert a b x => match opd cx x with
    | some ⟨f⟩ => convertK E a b f
    | none => none
  | .makeInterface t x => match opd cx x, E.P.underlying t with
    | some ⟨f⟩, some d => (match d with | .interface _ => none | _ => some (.pure fun e fr => some (.iface t (f e fr))))
    | _, _ => none
  | .makeFunc fn first cap => match fn, opds cx first.toList, opds cx cap.toList with
    | .func f, some ⟨h⟩, some ⟨g⟩ => some (.pure fun e fr => some (.func f (h e fr) (g e fr)))
    | _, _, _ => none
  | .makeMap t h => match h with
    | none => some (.full fun _ _ w => match new w (.map [] 0) with | some (id, w) => some (.map id, w) | none => none)
    | some h => (match opd cx h, E.P.underlying t with
      | some ⟨f⟩, some (.map _ _) => some (.full fun e fr w => match asNat (f e fr) with
        | some _ => (match new w (.map [] 0) with | some (id, w) => some (.map id, w) | none => none)
        | none => none)
      | _, _ => none)
  | .makeSlice t l c => match opd cx l, opd cx c, E.P.underlying t with
    | some ⟨f⟩, some ⟨g⟩, some (.slice elem) =>
      (match E.P.info? elem, zero E elem with
      | some i, some z =>
        (match Nat.beq z.cells.length i.size, allScalar z.cells with
        | true, true => some (.full fun e fr w => match asNat (f e fr), asNat (g e fr) with
          | some l, some c => (match Nat.ble l c, Nat.ble ((i.bytes + 1) * c) 281474976710656 with
            | true, true => (match new w (.cells (copies z.cells c) elem) with | some (id, w) => some (.slice id 0 l (.exact c), w) | none => none)
            | _, _ => none)
          | _, _ => none)
        | _, _ => none)
      | _, _ => none)
    | _, _, _ => none
  | .slice t x lo hi mx => match opd cx x, optOpd cx lo, optOpd cx hi, mx, E.P.underlying t with
    | some ⟨f⟩, some lo, some hi, none, some d =>
      (match d with
      | .string => some (.pure fun e fr => sliceV d none (f e fr) (Opd.opt lo e fr) (Opd.opt hi e fr))
      | _ => match sliceElem E d with
        | some n => some (.pure fun e fr => match d, f e fr with
          | .slice _, .row a => cutRow E a (Opd.opt lo e fr) (Opd.opt hi e fr)
          | d, x => sliceV d (some n) x (Opd.opt lo e fr) (Opd.opt hi e fr))
        | none => none)
    | some ⟨f⟩, some lo, some hi, some mx, some d => (match opd cx mx, sliceElem E d with
      | some ⟨g⟩, some n => some (.pure fun e fr => slice3V d (some n) (f e fr) (Opd.opt lo e fr) (Opd.opt hi e fr) (some (g e fr)))
      | _, _ => none)
    | _, _, _, _, _ => none
  | .fieldAddr t x fld => match opd cx x, E.P.underlying t with
    | some ⟨f⟩, some (.struct fields) =>
      (match nthF fields.toList fld with
      | some fd => (match sizeOf E fd.type with
        | some (_ + 1) => force fd.offset fun k => some (.pure fun e fr => match f e fr with
          | .ptr id off => force (off + k) fun o => some (.ptr id o)
          | .gptr id off => force (off + k) fun o => some (.gptr id o)
          | .rptr a i off => force (off + k) fun o => some (.rptr a i o)
          | _ => none)
        | _ => none)
      | none => none)
    | _, _ => none
  | .field t x fld => match opd cx x, E.P.underlying t with
    | some ⟨f⟩, some (.struct fields) =>
      (match nthF fields.toList fld with
      | some fd => (match wide E fd.type with
        | some wd => some (.pure fun e fr => match f e fr with | .agg cs => pick cs fd.offset wd | _ => none)
        | none => none)
      | none => none)
    | _, _ => none
  | .indexAddr t x i => match opd cx x, opd cx i, E.P.underlying t with
    | some ⟨f⟩, some ⟨g⟩, some d =>
      (match d with
      | .array len elem => (match sizeOf E elem with
        | some n => some (.pure fun e fr => match f e fr with
          | .ptr id off => indexV n len (g e fr) fun k => force (off + k) fun o => some (.ptr id o)
          | .gptr id off => indexV n len (g e fr) fun k => force (off + k) fun o => some (.gptr id o)
          | _ => none)
        | none => none)
      | .slice elem => (match sizeOf E elem with
        | some n => some (.pure fun e fr => match f e fr with
          | .slice id off len _ => indexV n len (g e fr) fun k => force (off + k) fun o => some (.ptr id o)
          | .row a => rowAt E a n (g e fr)
          | _ => none)
        | none => none)
      | _ => none)
    | _, _, _ => none
  | .index t x i => match opd cx x, opd cx i, E.P.underlying t with
    | some ⟨f⟩, some ⟨g⟩, some d =>
      (match d with
      | .array len elem => (match sizeOf E elem, wide E elem with
        | some n, some wd => some (.pure fun e fr => match f e fr with
          | .agg cs => indexV n len (g e fr) fun k => pick cs k wd
          | _ => none)
        | _, _ => none)
      | .string => some (.pure fun e fr => match f e fr, asNat (g e fr) with
        | .string s, some i => (match nth s.data.toList i with | some b => some (.int .u8 b.toNat) | none => none)
        | _, _ => none)
      | _ => none)
    | _, _, _ => none
  | .lookup t x k ok => match opd cx x, opd cx k, E.P.underlying t with
    | some ⟨f⟩, some ⟨g⟩, some (.map key elem) =>
      (match E.P.underlying key, zero E elem with
      | some kd, some z => (match keyKind kd with
        | true => some (.rd fun e fr w => lookupV kd z ok w (f e fr) (g e fr))
        | false => none)
      | _, _ => none)
    | _, _, _ => none
  | .mapUpdate t m k v => match opd cx m, opd cx k, opd cx v, E.P.underlying t with
    | some ⟨f⟩, some ⟨g⟩, some ⟨h⟩, some (.map key _) =>
      (match E.P.underlying key with
      | some kd => (match keyKind kd with
        | true => some (.full fun e fr w => done (updateV kd w (f e fr) (g e fr) (h e fr)))
        | false => none)
      | _ => none)
    | _, _, _, _ => none
  | .insert t m k v => match opd cx m, opd cx k, opd cx v, E.P.underlying t with
    | some ⟨f⟩, some ⟨g⟩, some ⟨h⟩, some (.map key _) =>
      (match E.P.underlying key with
      | some kd => (match keyKind kd with
        | true => some (.full fun e fr w => done (updateV kd w (f e fr) (g e fr) (h e fr)))
        | false => none)
      | _ => none)
    | _, _, _, _ => none
  | .range t x => match opd cx x, E.P.underlying t with
    | some ⟨f⟩, some .string => some (.full fun e fr w => match f e fr with
      | .string s => ptrTo (new w (.strIter s 0))
      | _ => none)
    | some ⟨f⟩, some (.map _ _) => some (.full fun e fr w => match f e fr with
      | .nilmap => ptrTo (new w (.mapIter none 0 [] 0))
      | .map m => (match hget w m with
        | some (.map _ c) => ptrTo (new w (.mapIter (some m) c [] c))
        | _ => none)
      | _ => none)
    | _, _ => none
  | .next x isString => match opd cx x, isString with
    | some ⟨f⟩, true => some (.full fun e fr w => nextV w (f e fr))
    | some ⟨f⟩, false => some (.full fun e fr w => nextM w (f e fr))
    | _, _ => none
  | .mapEntry t m k => match opd cx m, opd cx k, E.P.underlying t with
    | some ⟨f⟩, some ⟨g⟩, some (.map key elem) =>
      (match E.P.underlying key, zero E elem with
      | some kd, some z => (match keyKind kd with
        | true => some (.full fun e fr w => entryV kd z w (f e fr) (g e fr))
        | false => none)
      | _, _ => none)
    | _, _, _ => none
  | .entryStore _ m s x => match opd cx m, opd cx s, opd cx x with
    | some ⟨f⟩, some ⟨g⟩, some ⟨h⟩ => some (.full fun e fr w => done (estoreV w (f e fr) (g e fr) (h e fr)))
    | _, _, _ => none
  | .extract x i => match opd cx x with
    | some ⟨f⟩ => some (.pure fun e fr => match f e fr with | .tuple vs => nth vs i | _ => none)
    | none => none
  | .call c => match opds cx c.args.toList with
    | some ⟨g⟩ => (match c.callee with
      | .builtin b => builtinK E cx b c.argTypes c.args.toList
      | .value f => (match f with
        | .func f => (match memNat f E.overs with
          | true => some (.rd fun e fr w => overlapV w (g e fr))
          | false => some (.call fun C e fr w => C.call f (g e fr) w))
        | f => match opd cx f with
          | some ⟨h⟩ => some (.call fun C e fr w => match h e fr with
            | .func f fi cap => C.call f (fi ++ (g e fr ++ cap)) w
            | .yield l => C.round l (g e fr) w
            | _ => none)
          | none => none)
      | .invoke _ _ => none)
    | none => none
  | _ => none

/-- An operation that is not carried out in any run is let pass. -/
def kop (cx : Cx) (o : Oper) : Option KOp :=
  match kop0 E cx o with
  | some k => some k
  | none => match o.op with
    | .defer _ => none
    | _ => some (.full fun _ _ _ => none)

/-- The slots that are read before they are written, as bits. -/
def needs (W : Nat) : List Operand → Nat → Nat
  | [], M => M
  | o :: os, M => match o with
    | .tmp t => (match Nat.testBit W t with | true => needs W os M | false => needs W os (Nat.lor M (Nat.shiftLeft 1 t)))
    | _ => needs W os M

def nthO : List Oper → Nat → Option Oper
  | [], _ => none
  | c :: _, 0 => some c
  | _ :: cs, n + 1 => nthO cs n

def guardSlot (all : List Oper) (o : Oper) : Option Nat :=
  match o.guard with
  | none => none
  | some (j, _) => match nthO all j with
    | some oj => oj.dst
    | none => none

def guardNeeds (all : List Oper) (o : Oper) : List Operand :=
  match guardSlot all o with
  | some d => [.tmp d]
  | none => []

def opsNeed (all : List Oper) : List Oper → Nat → Nat → Nat
  | [], _, M => M
  | o :: os, W, M => opsNeed all os (match o.dst with | some d => Nat.lor W (Nat.shiftLeft 1 d) | none => W) (needs W (guardNeeds all o) (needs W o.op.operands.toList M))

def codeNeeds : Code → Nat → Nat
  | .seq a b, M => codeNeeds b (codeNeeds a M)
  | .cond c a b, M => codeNeeds b (codeNeeds a (needs 0 [c] M))
  | .block _ b, M => codeNeeds b M
  | .loop b, M => codeNeeds b M
  | .scope b, M => codeNeeds b M
  | .region _ os _, M => opsNeed os.toList os.toList 0 M
  | .rangeFunc g _ a b, M => codeNeeds b (codeNeeds a (needs 0 [g] M))
  | _, M => M

def resNeeds : List ResultVar → Nat → Nat
  | [], M => M
  | .tmp t :: rs, M => resNeeds rs (Nat.lor M (Nat.shiftLeft 1 t))
  | .cell t _ :: rs, M => resNeeds rs (Nat.lor M (Nat.shiftLeft 1 t))

/-- The bits of M from t on, n places. -/
def bitsOf (M : Nat) : Nat → Nat → List Nat
  | 0, _ => []
  | n + 1, t => match Nat.testBit M t with | true => t :: bitsOf M n (Nat.succ t) | false => bitsOf M n (Nat.succ t)

def forceL : List Nat → List Nat → List Nat
  | [], acc => acc
  | t :: ts, acc => force t fun t => forceL ts (t :: acc)

/-- A list of operations, compiled. -/
structure KS where
  f : Callee → List SV → List SV → SW → Option (List SV × SW)

/-- Where a result goes: nowhere; into a slot that the frame does not keep; into one that it keeps, at a place. -/
inductive Dst where
  | no
  | lost
  | kept (p : Nat)

/-- The slot of a result (n: none), and where it goes. -/
def dstK (sl : List Nat) (n : Nat) (d : Option Tmp) : Option (Nat × Dst) :=
  match d with
  | none => some (n, .no)
  | some d => match Nat.ble (Nat.succ d) n with
    | true => (match posOf d sl with | none => some (d, .lost) | some p => some (d, .kept p))
    | false => none

def keep (p : Option Nat) (fr : List SV) (v : SV) : List SV :=
  match p with
  | none => fr
  | some p => setNth v fr p

def Dst.keep (p : Dst) (fr : List SV) (v : SV) : List SV :=
  match p with
  | .no => fr
  | .lost => fr
  | .kept p => setNth v fr p

def Dst.push (p : Dst) (v : SV) (e : List SV) : List SV :=
  match p with
  | .no => SV.undef :: e
  | .lost => v :: e
  | .kept _ => v :: e

/-- How a guard is seen. -/
inductive Guard where
  | always
  | never
  | slot (f : List SV → List SV → SV) (want : Bool)

def guardK (cx : Cx) (all : List Oper) (o : Oper) : Guard :=
  match o.guard with
  | none => .always
  | some (_, want) => match guardSlot all o with
    | some d => (match slotK cx d with | ⟨f⟩ => .slot f want)
    | none => .never

/-- One operation of a region: the callee, what has come so far, the frame, the world; what comes of it. -/
structure K1 where
  f : Callee → List SV → List SV → SW → Option (SV × SW)

def k1of (k : KOp) : K1 :=
  match k with
  | .mv f => ⟨fun _ e fr w => some (f e fr, w)⟩
  | .pure f => ⟨fun _ e fr w => match f e fr with | some v => some (v, w) | none => none⟩
  | .rd f => ⟨fun _ e fr w => match f e fr w with | some v => some (v, w) | none => none⟩
  | .full f => ⟨fun _ e fr w => f e fr w⟩
  | .call f => ⟨f⟩

def guarded (g : Guard) (k : K1) : K1 :=
  match g, k with
  | .always, k => k
  | .never, _ => ⟨fun _ _ _ w => some (.undef, w)⟩
  | .slot q want, ⟨f⟩ => ⟨fun C e fr w => match q e fr with
    | .bool b => (match b, want with
      | true, true => f C e fr w
      | false, false => f C e fr w
      | _, _ => some (.undef, w))
    | .tuple _ => some (.undef, w)
    | _ => none⟩

/-- Then the rest of the region. -/
def chain (k : KOp) (g : Guard) (p : Dst) (rest : KS) : KS :=
  match g, k, p, rest with
  | .always, .mv f, .lost, ⟨r⟩ => ⟨fun C e fr w => r C (f e fr :: e) fr w⟩
  | .always, .mv f, .kept p, ⟨r⟩ => ⟨fun C e fr w => r C (f e fr :: e) (setNth (f e fr) fr p) w⟩
  | .always, .pure f, .lost, ⟨r⟩ => ⟨fun C e fr w => match f e fr with | some v => r C (v :: e) fr w | none => none⟩
  | .always, .rd f, .lost, ⟨r⟩ => ⟨fun C e fr w => match f e fr w with | some v => r C (v :: e) fr w | none => none⟩
  | g, k, .no, ⟨r⟩ => match guarded g (k1of k) with
    | ⟨f⟩ => ⟨fun C e fr w => match f C e fr w with | some (_, w) => r C (SV.undef :: e) fr w | none => none⟩
  | g, k, .lost, ⟨r⟩ => match guarded g (k1of k) with
    | ⟨f⟩ => ⟨fun C e fr w => match f C e fr w with | some (v, w) => r C (v :: e) fr w | none => none⟩
  | g, k, .kept p, ⟨r⟩ => match guarded g (k1of k) with
    | ⟨f⟩ => ⟨fun C e fr w => match f C e fr w with | some (v, w) => r C (v :: e) (setNth v fr p) w | none => none⟩

def kops (n : Nat) (sl : List Nat) (all : List Oper) : List Nat → List Oper → Option KS
  | _, [] => some ⟨fun _ _ fr w => some (fr, w)⟩
  | wr, o :: rest =>
    match kop E ⟨wr, sl⟩ o, dstK sl n o.dst with
    | some k, some (d, p) =>
      (match kops n sl all (d :: wr) rest with
      | some r => (match chain k (guardK ⟨wr, sl⟩ all o) p r with | ⟨f⟩ => some ⟨f⟩)
      | none => none)
    | _, _ => none

/-! ### Regions that draw their order -/
/-- The operations that come before an operation, as bits; the bits of what is before those with it. -/
def before (acc : List Nat) : List Edge → Nat → Nat
  | [], m => m
  | ed :: es, m => match Region.binds .any ed with
    | true => before acc es (Nat.lor m (Nat.lor (Nat.shiftLeft 1 ed.on) (nthV 0 acc ed.on)))
    | false => before acc es m

/-- Of each operation: all that come before it, whatever the order. -/
def befores : List Oper → List Nat → List Nat
  | [], acc => acc
  | o :: os, acc => force (before acc o.after.toList 0) fun m => befores os (acc ++ [m])

/-- Every edge that binds in the order of the text or in any goes down. -/
def earlier (i : Nat) : List Edge → Bool
  | [] => true
  | ed :: es => match Region.binds .text ed with
    | false => earlier i es
    | true => match Nat.ble (Nat.succ ed.on) i with | true => earlier i es | false => false

/-! The third order has an end: the operations that it lets pass, found in rounds. -/
def gcReady (L : Nat) : List Edge → Bool
  | [] => true
  | ed :: es => match Region.binds .gc ed with
    | false => gcReady L es
    | true => match Nat.testBit L ed.on with | true => gcReady L es | false => false

def gcScan : List Oper → Nat → Nat → Nat
  | [], _, L => L
  | o :: os, i, L => match gcReady L o.after.toList with
    | true => gcScan os (Nat.succ i) (Nat.lor L (Nat.shiftLeft 1 i))
    | false => gcScan os (Nat.succ i) L

def allBits : Nat → Nat → Bool
  | 0, _ => true
  | n + 1, L => match Nat.testBit L n with | true => allBits n L | false => false

def gcFix (os : List Oper) (n : Nat) : Nat → Nat → Bool
  | 0, L => allBits n L
  | f + 1, L => match allBits n L with
    | true => true
    | false => gcFix os n f (gcScan os 0 L)

/-- Are two operations in order? -/
def inOrder (bs : List Nat) (i j : Nat) : Bool :=
  match Nat.testBit (nthV 0 bs i) j with
  | true => true
  | false => Nat.testBit (nthV 0 bs j) i

def slotsOf : List Operand → List Nat
  | [] => []
  | .tmp t :: os => t :: slotsOf os
  | _ :: os => slotsOf os

/-- The slots that an operation reads or writes. -/
def touches (all : List Oper) (o : Oper) : List Nat :=
  (match o.dst with | some d => [d] | none => []) ++ (slotsOf (guardNeeds all o) ++ slotsOf o.op.operands.toList)

/-- Whoever writes a slot that operation i touches is in order with it. -/
def tidyAt (bs : List Nat) (i : Nat) (ts : List Nat) : List Oper → Nat → Bool
  | [], _ => true
  | o :: os, j => match o.dst with
    | none => tidyAt bs i ts os (Nat.succ j)
    | some d => match memNat d ts with
      | false => tidyAt bs i ts os (Nat.succ j)
      | true => match Nat.beq i j with
        | true => tidyAt bs i ts os (Nat.succ j)
        | false => match inOrder bs i j with
          | true => tidyAt bs i ts os (Nat.succ j)
          | false => false

def tidy (bs : List Nat) (all : List Oper) : List Oper → Nat → Bool
  | [], _ => true
  | o :: os, i => match tidyAt bs i (touches all o) all 0, earlier i o.after.toList with
    | true, true => tidy bs all os (Nat.succ i)
    | _, _ => false

/-- How an operation looks at memory: not at all; at objects that its operands name, or at none; it may write these; anything. -/
inductive Look where
  | no
  | rd
  | wr
  | big

def lookB (b : Builtin) : Look :=
  match b with
  | .append => .wr
  | .copy => .wr
  | .clear => .wr
  | .delete => .wr
  | .len => .rd
  | .cap => .rd
  | _ => .big

def lookO (o : Op) : Look :=
  match o with
  | .load _ _ => .rd
  | .lookup _ _ _ _ => .rd
  | .convert _ _ _ => .rd
  | .range _ _ => .rd
  | .alloc _ => .rd
  | .box _ _ => .rd
  | .buildSlice _ _ _ => .rd
  | .makeSlice _ _ _ => .rd
  | .makeMap _ _ => .rd
  | .store _ _ _ => .wr
  | .mapUpdate _ _ _ _ => .wr
  | .insert _ _ _ _ => .wr
  | .mapEntry _ _ _ => .wr
  | .entryStore _ _ _ _ => .wr
  | .call c => (match c.callee with
    | .builtin b => lookB b
    | _ => .big)
  | _ => .big

def lookOf (k : KOp) (o : Oper) : Look :=
  match k with
  | .mv _ => .no
  | .pure _ => .no
  | _ => lookO o.op

/-- The operands whose objects it looks at. -/
def seenOpds (o : Op) : List Operand :=
  match o with
  | .load _ a => [a]
  | .lookup _ x _ _ => [x]
  | .convert _ _ x => [x]
  | .range _ x => [x]
  | .store _ a _ => [a]
  | .mapUpdate _ m _ _ => [m]
  | .insert _ m _ _ => [m]
  | .mapEntry _ m _ => [m]
  | .entryStore _ m _ _ => [m]
  | .call c => c.args.toList
  | _ => []

/-- The object that a value names. -/
def named : SV → List Nat
  | .ptr id _ => [id]
  | .slice id _ _ _ => [id]
  | .map id => [id]
  | _ => []

def namedL : List SV → List Nat
  | [] => []
  | v :: vs => named v ++ namedL vs

/-- Can two operations meet at an object, one of them writing? -/
def clash (a b : Look) : Bool :=
  match a, b with
  | .no, _ => false
  | _, .no => false
  | .rd, .rd => false
  | _, _ => true

/-- The operations that are not in order with operation i, and might meet it. -/
def rivals (bs : List Nat) (i : Nat) (m : Look) : List Look → Nat → List Nat
  | [], _ => []
  | m' :: ms, j => match clash m m' with
    | false => rivals bs i m ms (Nat.succ j)
    | true => match Nat.beq i j with
      | true => rivals bs i m ms (Nat.succ j)
      | false => match inOrder bs i j with
        | true => rivals bs i m ms (Nat.succ j)
        | false => j :: rivals bs i m ms (Nat.succ j)

/-! Are two objects the same? (What is not surely the same is not.) -/
def capEq : SCap → SCap → Bool
  | .exact a, .exact b => Nat.beq a b
  | .toEnd a b, .toEnd c d => (match Nat.beq a c with | true => Nat.beq b d | false => false)
  | _, _ => false

def boolEq : Bool → Bool → Bool
  | true, b => b
  | false, true => false
  | false, false => true

mutual
def svEq : SV → SV → Bool
  | .bool a, y => (match y with | .bool b => boolEq a b | _ => false)
  | .int k a, y => (match y with | .int k' b => (match kindEq k k' with | true => eqb a b | false => false) | _ => false)
  | .string a, y => (match y with | .string b => strEq a b | _ => false)
  | .ptr i a, y => (match y with | .ptr j b => (match Nat.beq i j with | true => Nat.beq a b | false => false) | _ => false)
  | .gptr i a, y => (match y with | .gptr j b => (match Nat.beq i j with | true => Nat.beq a b | false => false) | _ => false)
  | .nilptr, y => (match y with | .nilptr => true | _ => false)
  | .slice i a n c, y => (match y with
    | .slice j b m d => (match Nat.beq i j, Nat.beq a b, Nat.beq n m with | true, true, true => capEq c d | _, _, _ => false)
    | _ => false)
  | .nilslice, y => (match y with | .nilslice => true | _ => false)
  | .map i, y => (match y with | .map j => Nat.beq i j | _ => false)
  | .nilmap, y => (match y with | .nilmap => true | _ => false)
  | .func f a c, y => (match y with
    | .func g b d => (match Nat.beq f g, svsEq a b with | true, true => svsEq c d | _, _ => false)
    | _ => false)
  | .yield i, y => (match y with | .yield j => Nat.beq i j | _ => false)
  | .nilfunc, y => (match y with | .nilfunc => true | _ => false)
  | .nilIface, y => (match y with | .nilIface => true | _ => false)
  | .iface t v, y => (match y with | .iface u w => (match Nat.beq t u with | true => svEq v w | false => false) | _ => false)
  | .agg a, y => (match y with | .agg b => svsEq a b | _ => false)
  | .row i, y => (match y with | .row j => Nat.beq i j | _ => false)
  | _, _ => false
def svsEq : List SV → List SV → Bool
  | [], y => (match y with | [] => true | _ => false)
  | a :: as, y => (match y with | b :: bs => (match svEq a b with | true => svsEq as bs | false => false) | [] => false)
end

def entsEq : List (SV × SV × Nat) → List (SV × SV × Nat) → Bool
  | [], y => (match y with | [] => true | _ => false)
  | (k, v, n) :: es, y => (match y with
    | (k', v', n') :: fs => (match Nat.beq n n', svEq k k', svEq v v' with | true, true, true => entsEq es fs | _, _, _ => false)
    | [] => false)

def objEq (a b : Option SObj) : Bool :=
  match a, b with
  | none, none => true
  | some (.cells cs e), some (.cells ds f) => (match Nat.beq e f with | true => svsEq cs ds | false => false)
  | some (.map es c), some (.map fs d) => (match Nat.beq c d with | true => entsEq es fs | false => false)
  | _, _ => false

/-- What an operation of a region has met: the objects that it has looked at or made (none: it may have looked at any), and the state before and behind it. -/
structure Ent where
  i : Nat
  sight : Option (List Nat)
  w : SW
  w' : SW

/-- An object that a step leaves as it was, or has made. -/
def kept (w w' : SW) (id : Nat) : Bool :=
  match Nat.ble (Nat.succ id) w'.low with
  | true => true
  | false => match Nat.ble w.next id with
    | true => true
    | false => objEq (hget w id) (hget w' id)

def keptAll (w w' : SW) : List Nat → Bool
  | [] => true
  | id :: l => match kept w w' id with | true => keptAll w w' l | false => false

/-- A step spares what another one looks at. -/
def spares (w w' : SW) (s : Option (List Nat)) : Bool :=
  match Nat.ble w.next w'.low with
  | true => true
  | false => match s with
    | none => false
    | some l => keptAll w w' l

/-- What a region that draws its order hands on besides: what operations with rivals have met. -/
structure KD where
  f : Callee → List Ent → List SV → List SV → SW → Option (List SV × SW)

/-- No rival has been disturbed, or disturbs. -/
def clear (rs : List Nat) (s : Option (List Nat)) (w w' : SW) : List Ent → Bool
  | [] => true
  | ⟨j, s', v, v'⟩ :: l => match memNat j rs with
    | false => clear rs s w w' l
    | true => match spares v v' s, spares w w' s' with
      | true, true => clear rs s w w' l
      | _, _ => false

/-- How an operation of such a region is let pass. -/
inductive Pass where
  /-- It is in order with all that might meet it. -/
  | free
  /-- It has rivals: what it looks at (none: anything) and what it does are held against theirs. -/
  | wary (a : Option (List SV → List SV → List SV)) (rs : List Nat)

def passK (cx : Cx) (bs : List Nat) (ms : List Look) (i : Nat) (k : KOp) (o : Oper) : Option Pass :=
  match rivals bs i (lookOf k o) ms 0 with
  | [] => some .free
  | r :: rs => match lookOf k o with
    | .big => some (.wary none (r :: rs))
    | _ => match opds cx (seenOpds o.op) with
      | some ⟨g⟩ => some (.wary (some g) (r :: rs))
      | none => none

def rangeN : Nat → Nat → List Nat
  | _, 0 => []
  | a, n + 1 => a :: rangeN (Nat.succ a) n

def sightV (a : Option (List SV → List SV → List SV)) (e fr : List SV) (w w' : SW) : Option (List Nat) :=
  match a with
  | none => none
  | some g => some (namedL (g e fr) ++ rangeN w.next (w'.next - w.next))

def lower (a b : Nat) : Nat := match Nat.ble a b with | true => a | false => b

def chainD (i : Nat) (g : Guard) (k : KOp) (p : Dst) (ps : Pass) (rest : KD) : KD :=
  match rest, guarded g (k1of k), ps with
  | ⟨r⟩, ⟨f⟩, .free => ⟨fun C lg e fr w => match f C e fr w with | some (v, w) => r C lg (p.push v e) (p.keep fr v) w | none => none⟩
  | ⟨r⟩, ⟨f⟩, .wary a rs => ⟨fun C lg e fr w => match f C e fr ⟨w.heap, w.next, w.next⟩ with
    | some (v, w') => (match clear rs (sightV a e fr w w') w w' lg with
      | true => r C (⟨i, sightV a e fr w w', w, w'⟩ :: lg) (p.push v e) (p.keep fr v) ⟨w'.heap, w'.next, lower w.low w'.low⟩
      | false => none)
    | none => none⟩

def looks (n : Nat) (sl : List Nat) : List Nat → List Oper → Option (List Look)
  | _, [] => some []
  | wr, o :: rest => match kop E ⟨wr, sl⟩ o, dstK sl n o.dst with
    | some k, some (d, _) => (match looks n sl (d :: wr) rest with | some l => some (lookOf k o :: l) | none => none)
    | _, _ => none

def kopsD (n : Nat) (sl : List Nat) (all : List Oper) (bs : List Nat) (ms : List Look) : List Nat → List Oper → Nat → Option KD
  | _, [], _ => some ⟨fun _ _ _ fr w => some (fr, w)⟩
  | wr, o :: rest, i =>
    match kop E ⟨wr, sl⟩ o, dstK sl n o.dst with
    | some k, some (d, p) =>
      (match kopsD n sl all bs ms (d :: wr) rest (Nat.succ i), passK ⟨wr, sl⟩ bs ms i k o with
      | some r, some ps => (match chainD i (guardK ⟨wr, sl⟩ all o) k p ps r with | ⟨f⟩ => some ⟨f⟩)
      | _, _ => none)
    | _, _ => none

def drawn (n : Nat) (sl : List Nat) (os : Array Oper) : Option KD :=
  match befores os.toList [], looks E n sl [] os.toList with
  | bs, some ms => (match tidy bs os.toList os.toList 0, gcFix os.toList os.toList.length os.toList.length 0 with
    | true, true => kopsD E n sl os.toList bs ms [] os.toList 0
    | _, _ => none)
  | _, none => none

/-- Code, compiled: the functions that it calls, the round in which it runs, the state. -/
structure K where
  f : Callee → Option Nat → St → Option Out

def loopN (f : Callee → Option Nat → St → Option Out) (C : Callee) (r : Option Nat) (n : Nat) : St → Option Out :=
  Nat.rec (motive := fun _ => St → Option Out) (fun _ => none) (fun _ ih st => match f C r st with
    | some (.norm st) => ih st
    | x => x) n

def mark (r : Option Nat) (st : St) : Option (Nat × SW × List Nat) :=
  match r with
  | none => match new st.w (.deferred true) with | some (d, w) => some (d, w, d :: st.defers) | none => none
  | some l0 => match hget st.w l0 with
    | some (.loop L0) => some (L0.defers, st.w, st.defers)
    | _ => none

def endRange (fr : List SV) (defers : List Nat) (l : Nat) (w : SW) : Option Out :=
  match hget w l with
  | some (.loop L) =>
    (match L.state with
    | .busy => none
    | _ =>
      (match put w l (some (.loop { L with state := .exhausted })) with
      | none => none
      | some w =>
        match L.pending with
        | none => some (.norm ⟨fr, defers, w⟩)
        | some .ret => some (.ret ⟨fr, defers, w⟩)
        | some (.exit id) => some (.exit id ⟨fr, defers, w⟩)
        | some _ => none))
  | _ => none

def rangeK (n : Nat) (sl : List Nat) (g : List SV → List SV → SV) (ps : Array Tmp) (assign body : Code) (C : Callee) (r : Option Nat) (st : St) : Option Out :=
  match mark r st with
  | none => none
  | some (d, w, defers) =>
    match new w (.loop { state := .ready, pending := none, fr := st.fr, sl, n, params := ps, assign, body, defers := d }) with
    | none => none
    | some (l, w) =>
      match g [] st.fr with
      | .func f fi cap => (match C.call f (fi ++ (.yield l :: cap)) w with
        | some (_, w) => endRange st.fr defers l w
        | none => none)
      | _ => none

def comp (n : Nat) (sl : List Nat) : Code → Option K
  | .skip => some ⟨fun _ _ st => some (.norm st)⟩
  | .ret => some ⟨fun _ _ st => some (.ret st)⟩
  | .exit id => some ⟨fun _ _ st => some (.exit id st)⟩
  | .seq a b => match comp n sl a, comp n sl b with
    | some ⟨f⟩, some ⟨g⟩ => some ⟨fun C r st => match f C r st with | some (.norm st) => g C r st | x => x⟩
    | _, _ => none
  | .cond c a b => match opd ⟨[], sl⟩ c, comp n sl a, comp n sl b with
    | some ⟨e⟩, some ⟨f⟩, some ⟨g⟩ => some ⟨fun C r st => match e [] st.fr with | .bool true => f C r st | .bool false => g C r st | _ => none⟩
    | _, _, _ => none
  | .block id b => match comp n sl b with
    | some ⟨f⟩ => some ⟨fun C r st => match f C r st with
      | some (.exit id' st) => (match Nat.beq id' id with | true => some (.norm st) | false => some (.exit id' st))
      | x => x⟩
    | none => none
  | .loop b => match comp n sl b with
    | some ⟨f⟩ => some ⟨fun C r st => loopN f C r 1000000 st⟩
    | none => none
  | .region _ os draw => match draw with
    | false => (match kops E n sl os.toList [] os.toList with
      | some ⟨f⟩ => some ⟨fun C _ st => match f C [] st.fr st.w with | some (fr, w) => some (.norm ⟨fr, st.defers, w⟩) | none => none⟩
      | none => none)
    | true => (match drawn E n sl os with
      | some ⟨f⟩ => some ⟨fun C _ st => match f C [] [] st.fr st.w with | some (fr, w) => some (.norm ⟨fr, st.defers, w⟩) | none => none⟩
      | none => none)
  | .rangeFunc g ps a b => match opd ⟨[], sl⟩ g with
    | some ⟨f⟩ => some ⟨fun C r st => rangeK n sl f ps a b C r st⟩
    | none => none
  | .scope b => comp n sl b
  | .label _ => some ⟨fun _ _ st => some (.norm st)⟩
  | _ => some ⟨fun _ _ _ => none⟩

/-- A function, compiled. -/
structure KFn where
  f : Callee → List SV → SW → Option (SV × SW)

def frameOf (args : List SV) : List Nat → List SV
  | [] => []
  | t :: ts => nthV .unknown args t :: frameOf args ts

def shut (w : SW) : List Nat → Option SW
  | [] => some w
  | d :: ds => match hget w d with
    | some (.deferred true) => (match put w d (some (.deferred false)) with | some w => shut w ds | none => none)
    | _ => none

structure Res where
  f : List SV → SW → Option (List SV)

def resK (sl : List Nat) : List ResultVar → Option Res
  | [] => some ⟨fun _ _ => some []⟩
  | .tmp t :: rs => match resK sl rs, slotK ⟨[], sl⟩ t with
    | some ⟨g⟩, ⟨f⟩ => some ⟨fun fr w => match g fr w with | some vs => some (f [] fr :: vs) | none => none⟩
    | none, _ => none
  | .cell a t :: rs => match resK sl rs, wide E t, slotK ⟨[], sl⟩ a with
    | some ⟨g⟩, some wd, ⟨f⟩ => some ⟨fun fr w => match loadW E w wd (f [] fr), g fr w with
      | some v, some vs => some (v :: vs)
      | _, _ => none⟩
    | _, _, _ => none

def leave (g : List SV → SW → Option (List SV)) (st : St) : Option (SV × SW) :=
  match shut st.w st.defers with
  | none => none
  | some w => match g st.fr w with
    | some [v] => some (v, w)
    | some vs => some (.tuple vs, w)
    | none => none

/-- The slots that a function keeps. -/
def slots (fn : Func) (body : Code) : List Nat :=
  forceL (bitsOf (codeNeeds body (resNeeds fn.results.toList 0)) fn.ntmps 0) []

def compFn (f : Nat) : Option KFn :=
  match nth E.P.funcs.toList f with
  | none => none
  | some fn =>
    match fn.name == "runtime.NumGoroutine", fn.body with
    | false, some body =>
      (match slots fn body with
      | sl =>
        match comp E fn.ntmps sl body, resK E sl fn.results.toList with
        | some ⟨k⟩, some ⟨g⟩ => some ⟨fun C args w =>
          match Nat.ble args.length fn.ntmps with
          | false => none
          | true =>
            match k C none ⟨frameOf args sl, [], w⟩ with
            | some (.norm st) => leave g st
            | some (.ret st) => leave g st
            | _ => none⟩
        | _, _ => none)
    | _, _ => none

def setSlots (n : Nat) (sl : List Nat) : List Tmp → List SV → List SV → Option (List SV)
  | [], [], fr => some fr
  | d :: ds, v :: vs, fr => match Nat.ble (Nat.succ d) n with | true => setSlots n sl ds vs (keep (posOf d sl) fr v) | false => none
  | _, _, _ => none

def endRound (l : Nat) (jump : Option Code) (st : St) : Option (SV × SW) :=
  match st.defers with
  | _ :: _ => none
  | [] => match hget st.w l with
    | some (.loop L) =>
      (match put st.w l (some (.loop { L with state := (match jump with | none => .ready | some _ => .done), pending := jump })) with
      | some w => some (.bool (match jump with | none => true | some _ => false), w)
      | none => none)
    | _ => none

def roundSem (C : Callee) (l : Nat) (args : List SV) (w : SW) : Option (SV × SW) :=
  match hget w l with
  | some (.loop L) =>
    (match setSlots L.n L.sl L.params.toList args L.fr, comp E L.n L.sl L.assign, comp E L.n L.sl L.body with
    | some fr, some ⟨fa⟩, some ⟨fb⟩ =>
      (match fa C (some l) ⟨fr, [], w⟩ with
      | some (.norm st) =>
        (match hget st.w l with
        | some (.loop L1) =>
          (match L1.state with
          | .ready =>
            (match put st.w l (some (.loop { L1 with state := .busy })) with
            | some w1 => (match fb C (some l) ⟨st.fr, st.defers, w1⟩ with
              | some (.norm st) => endRound l none st
              | some (.ret st) => endRound l (some .ret) st
              | some (.exit id st) => endRound l (some (.exit id)) st
              | none => none)
            | none => none)
          | _ => none)
        | _ => none)
      | _ => none)
    | _, _, _ => none)
  | _ => none

/-- Does a value name no object? -/
def noRef : SV → Bool
  | .bool _ => true
  | .int _ _ => true
  | .string _ => true
  | .nilptr => true
  | .nilslice => true
  | .nilmap => true
  | .nilfunc => true
  | .nilIface => true
  | .sint _ _ => true
  | .sstr _ => true
  | .row _ => true
  | .rptr _ _ _ => true
  | .agg l => noRefs l
  | .tuple l => noRefs l
  | _ => false
where
  noRefs : List SV → Bool
    | [] => true
    | v :: vs => match noRef v with | true => noRefs vs | false => false

/-- What a call has made is forgotten where its result names nothing and it has written nothing that was there. -/
def forget (w : SW) (r : Option (SV × SW)) : Option (SV × SW) :=
  match r with
  | none => none
  | some (v, w') => match Nat.ble w.next w'.low with
    | true => (match noRef v with
      | true => some (v, ⟨w.heap, w'.next, w.low⟩)
      | false => some (v, ⟨w'.heap, w'.next, w.low⟩))
    | false => (match Nat.ble w.low w'.low with
      | true => some (v, ⟨w'.heap, w'.next, w.low⟩)
      | false => some (v, w'))

def sem : Nat → Callee
  | 0 => ⟨fun _ _ _ => none, fun _ _ _ => none⟩
  | d + 1 => ⟨fun f args w => match compFn E f with | some ⟨g⟩ => forget w (g (sem d) args ⟨w.heap, w.next, w.next⟩) | none => none, fun l args w => roundSem E (sem d) l args w⟩

end Sym
end Go.RX
