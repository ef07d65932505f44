/- Definitions of an abstract evaluator for the model's code: shapes of plain data, abstract values, objects and configurations, and 'run', which steps through code symbolically. Nothing is proved here. -/
import Derived.Calls
import Derived.Below
import Derived.KernelRfl
import Derived.IntWalk
set_option linter.unusedVariables false
namespace Go.Ab

/-- Shapes of plain data. -/
inductive Sh where
  | int (k : IntKind) | bool | str | lst (s : Sh) | unit | pair (a b : Sh)
  deriving DecidableEq

/-- The Lean type of data of a shape. -/
def El : Sh → Type
  | .int _ => Int
  | .bool => Bool
  | .str => ByteArray
  | .lst s => List (El s)
  | .unit => Unit
  | .pair a b => El a × El b

def El.dflt : (s : Sh) → El s
  | .int _ => (0 : Int)
  | .bool => false
  | .str => ByteArray.empty
  | .lst s => ([] : List (El s))
  | .unit => ()
  | .pair a b => (El.dflt a, El.dflt b)

def Sh.size : Sh → Nat
  | .unit => 0
  | .pair a b => a.size + b.size
  | _ => 1

def Sh.isCell : Sh → Bool
  | .unit => false
  | .pair _ _ => false
  | _ => true

def intBeq (x y : Int) : Bool := x == y
def boolBeq (x y : Bool) : Bool := x == y
def strBeq (x y : ByteArray) : Bool := x == y
/-- Equality of data. -/
def El.beq : (s : Sh) → El s → El s → Bool
  | .int _, x, y => intBeq x y
  | .bool, x, y => boolBeq x y
  | .str, x, y => strBeq x y
  | .lst _, _, _ => false
  | .unit, _, _ => true
  | .pair a b, x, y => El.beq a x.1 y.1 && El.beq b x.2 y.2

def castEl {a b : Sh} (h : a = b) (x : El a) : El b := h ▸ x

/-- Base of a pointer: a variable, a row of a slice's array, a row of a frozen list, a package variable. -/
inductive PB where
  | box (id : Nat)
  | row (id i : Nat)
  | lrow (s : Sh) (xs : List (El s)) (i : Nat)
  | glob (g : Nat)

/-- Values of one cell, without closures. -/
inductive A0 where
  | v (s : Sh) (x : El s)
  | und
  | nilsl
  | slw (id : Nat)
  | sl (id lo n : Nat)
  | ptr (b : PB) (off : Nat)
  | iptr (b : PB) (off n sz i o : Nat)
  | nilptr
  | map (id : Nat)
  | nilmap
  | nilfn
  | nilif

inductive Cell where
  | a (x : A0)
  | fn (f : Nat) (caps : List A0)

inductive AV where
  | c (x : Cell)
  | agg (cs : List Cell)
  | tup (vs : List (Bool × List Cell))

/-- Objects of the abstract heap. -/
inductive AObj where
  | box (cells : List Cell)
  | rows (s : Sh) (xs : List (El s))
  | old (s : Sh) (xs : List (El s))
  | map (k v : Sh) (es : List (El k × El v))
  | gone

abbrev Objs := List (Nat × AObj)
abbrev Env := List (Nat × AV)

def look {α : Type} (l : List (Nat × α)) (n : Nat) : Option α :=
  match l with
  | [] => none
  | (m, x) :: r => match Nat.beq m n with | true => some x | false => look r n

def setAt (l : Objs) (n : Nat) (o : AObj) : Objs :=
  match l with
  | [] => []
  | (m, x) :: r => match Nat.beq m n with | true => (m, o) :: r | false => (m, x) :: setAt r n o

def AObj.noOld : AObj → AObj
  | .old _ _ => .gone
  | o => o
/-- Old slices fall away (their array is about to be written). -/
def dropOld : Objs → Objs
  | [] => []
  | (m, x) :: r => (m, x.noOld) :: dropOld r

/-- One list behind another, of one shape. -/
def castL {s' s : Sh} (h : s' = s) (xs : List (El s')) : List (El s) := h ▸ xs
def joined {s' s : Sh} (h : s' = s) (xs : List (El s')) (ys : List (El s)) : List (El s) := castL h xs ++ ys
def maxI (x y : Int) : Int := cond (decide (x < y)) y x
def minI (x y : Int) : Int := cond (decide (y < x)) y x

abbrev int (k : IntKind) (n : Int) : AV := .c (.a (.v (.int k) n))
abbrev bool (b : Bool) : AV := .c (.a (.v .bool b))
abbrev str (s : ByteArray) : AV := .c (.a (.v .str s))

/-! ### Types -/
structure FInfo where
  off : Nat
  size : Nat
  type : Nat
  blank : Bool

inductive TK where
  | int (k : IntKind) | bool | str | ptr (e : Nat) | slice (e : Nat) | array (n e : Nat) | map (k e : Nat) | struct (fs : List FInfo) | func | iface | other

def tkOf (P : Program) (t : Nat) : TK :=
  match P.underlying t with
  | some (.int k) => .int k
  | some .bool => .bool
  | some .string => .str
  | some (.pointer e) => .ptr e
  | some (.slice e) => .slice e
  | some (.array n e) => .array n e
  | some (.map k e) => .map k e
  | some (.struct fs) => .struct (fs.toList.map fun f => ⟨f.offset, P.cellsOf f.type, f.type, f.name == "_"⟩)
  | some (.func ..) => .func
  | some (.interface _) => .iface
  | _ => .other

def pairs : List Sh → Sh
  | [] => .unit
  | [s] => s
  | s :: r => .pair s (pairs r)

/-- The shape of a type of plain data. -/
def shOf (P : Program) : Nat → Nat → Option Sh
  | 0, _ => none
  | d + 1, t =>
    match tkOf P t with
    | .int k => some (.int k)
    | .bool => some .bool
    | .str => some .str
    | .slice e => match shOf P d e with | some s => some (.lst s) | none => none
    | .array n e => match shOf P d e with | some s => some (pairs (List.replicate n s)) | none => none
    | .struct fs => match fs.mapM (fun f => shOf P d f.type) with | some ss => some (pairs ss) | none => none
    | _ => none

def shT (P : Program) (t : Nat) : Option Sh := shOf P 20 t

/-- A constant of one cell. -/
def cellOf : Value → Option Cell
  | .bool b => some (.a (.v .bool b))
  | .int k n => some (.a (.v (.int k) n))
  | .string s => some (.a (.v .str s))
  | .pointer none => some (.a .nilptr)
  | .slice none 0 0 => some (.a .nilsl)
  | .map none => some (.a .nilmap)
  | .nilFunc => some (.a .nilfn)
  | .nilIface => some (.a .nilif)
  | _ => none

def avOf : Value → Option AV
  | .agg cs => match cs.toList.mapM cellOf with | some l => some (.agg l) | none => none
  | v => match cellOf v with | some c => some (.c c) | none => none

def zeroOf (P : Program) (t : Nat) : Option (List Cell) :=
  match P.info? t with
  | some i => match i.zero with | some z => z.cells.toList.mapM cellOf | none => none
  | none => none

/-! ### Cells and data -/
def explode : (s : Sh) → El s → List Cell
  | .unit, _ => []
  | .pair a b, x => explode a x.1 ++ explode b x.2
  | .int k, x => [.a (.v (.int k) x)]
  | .bool, x => [.a (.v .bool x)]
  | .str, x => [.a (.v .str x)]
  | .lst s, x => [.a (.v (.lst s) x)]

def lstOf : (s : Sh) → Option (List (El s)) := fun _ => some []

/-- The data of a shape that a cell holds. -/
def cellEl (s : Sh) : Cell → Option (El s)
  | .a (.v s' x) => if h : s' = s then some (castEl h x) else none
  | .a .nilsl => match s with | .lst _ => some ([] : List _) | _ => none
  | _ => none

def implode : (s : Sh) → List Cell → Option (El s)
  | .unit, cs => match cs with | [] => some () | _ => none
  | .pair a b, cs =>
    match implode a (cs.take a.size), implode b (cs.drop a.size) with
    | some x, some y => some (x, y)
    | _, _ => none
  | .int k, cs => match cs with | [c] => cellEl (.int k) c | _ => none
  | .bool, cs => match cs with | [c] => cellEl .bool c | _ => none
  | .str, cs => match cs with | [c] => cellEl .str c | _ => none
  | .lst s, cs => match cs with | [c] => cellEl (.lst s) c | _ => none

def Cell.real : Cell → Bool
  | .a .und => false
  | _ => true

def AV.cells : AV → List Cell
  | .c x => [x]
  | .agg cs => cs
  | .tup _ => []

def isAggT (P : Program) (t : Nat) : Bool :=
  match tkOf P t with
  | .struct _ => true
  | .array _ _ => true
  | _ => false

/-- A value of a type out of its cells. -/
def tyOk (P : Program) (t : Nat) : Bool := (P.underlying t).isSome && Nat.blt 0 (P.cellsOf t)

def mkAV (P : Program) (t : Nat) (cs : List Cell) : Option AV :=
  match isAggT P t with
  | true => some (.agg cs)
  | false => match cs with | [c] => some (.c c) | _ => none

/-- What a slice holds: its rows, as a list. -/
def rowsOf (O : Objs) (s : Sh) : A0 → Option (List (El s))
  | .nilsl => some []
  | .v s' x =>
    if h : s' = .lst s then some (castEl h x) else none
  | .slw id =>
    match look O id with
    | some (.rows s' xs) => if h : s' = s then some (castL h xs) else none
    | some (.old s' xs) => if h : s' = s then some (castL h xs) else none
    | _ => none
  | .sl id lo n =>
    match look O id with
    | some (.rows s' xs) => if h : s' = s then some ((castL h xs).drop lo |>.take n) else none
    | some (.old s' xs) => if h : s' = s then some ((castL h xs).drop lo |>.take n) else none
    | _ => none
  | _ => none

/-- The length of a slice value. -/
def lenOf (O : Objs) : A0 → Option Nat
  | .nilsl => some 0
  | .v (.lst s) x => some (List.length (α := El s) x)
  | .slw id =>
    match look O id with
    | some (.rows _ xs) => some xs.length
    | some (.old _ xs) => some xs.length
    | _ => none
  | .sl _ _ n => some n
  | _ => none

/-- The cells that a pointer's base stands for; the Bool: the pointer is in bounds. -/
def baseCells (G : Nat → Option (List Cell)) (O : Objs) : PB → Option (Bool × List Cell)
  | .box id => match look O id with | some (.box cs) => some (true, cs) | _ => none
  | .row id i =>
    match look O id with
    | some (.rows s xs) => some (decide (i < xs.length), explode s (xs.getD i (El.dflt s)))
    | some (.old s xs) => some (decide (i < xs.length), explode s (xs.getD i (El.dflt s)))
    | _ => none
  | .lrow s xs i => some (true, explode s (xs.getD i (El.dflt s)))
  | .glob g => match G g with | some cs => some (true, cs) | none => none

/-- All cells hold data of one shape. -/
def allOf (s : Sh) : List Cell → Option (List (El s))
  | [] => some []
  | c :: r => match cellEl s c, allOf s r with | some x, some xs => some (x :: xs) | _, _ => none

def shOfCell : Cell → Option Sh
  | .a (.v s _) => some s
  | _ => none

/-- Every sz-th cell from cell o on, n of them. -/
def column (cs : List Cell) (sz o : Nat) : Nat → Nat → Option (List Cell)
  | _, 0 => some []
  | j, n + 1 => match cs[j * sz + o]?, column cs sz o (j + 1) n with | some c, some r => some (c :: r) | _, _ => none

/-- One cell, chosen by a variable index out of n parts of sz cells. -/
def chosen (cs : List Cell) (n sz i o : Nat) : Option Cell :=
  match column cs sz o 0 n with
  | some (c :: r) =>
    match shOfCell c with
    | some s => match allOf s (c :: r) with | some xs => some (.a (.v s (xs.getD i (El.dflt s)))) | none => none
    | none => none
  | _ => none

def chosenN (cs : List Cell) (n sz i : Nat) : Nat → Nat → Option (List Cell)
  | _, 0 => some []
  | o, m + 1 => match chosen cs n sz i o, chosenN cs n sz i (o + 1) m with | some c, some r => some (c :: r) | _, _ => none

/-- The m cells that a pointer points to. -/
def cellsAt (G : Nat → Option (List Cell)) (O : Objs) (m : Nat) : A0 → Option (Bool × List Cell)
  | .ptr b off =>
    match baseCells G O b with
    | some (g, cs) => match Nat.ble (off + m) cs.length with | true => some (g, (cs.drop off).take m) | false => none
    | none => none
  | .iptr b off n sz i o =>
    match baseCells G O b with
    | some (g, cs) => match chosenN (cs.drop off) n sz i o m with | some r => some (g && decide (i < n), r) | none => none
    | none => none
  | _ => none

def splice (cs : List Cell) (off : Nat) (new : List Cell) : List Cell := cs.take off ++ new ++ cs.drop (off + new.length)

/-! ### Steps -/
section ops
variable {R : Type} (P : Program) (G : Nat → Option (List Cell)) (O : Objs) (ev : Operand → Option AV) (id : Nat)

def evC (x : Operand) : Option Cell := match ev x with | some (.c c) => some c | _ => none
def ev0 (x : Operand) : Option A0 := match ev x with | some (.c (.a a)) => some a | _ => none

def arith (op : BinOp) (k : IntKind) (x y : Int) (κ : AV → Option R) : Option R :=
  match op with
  | .add => κ (int k (k.wrap (x + y)))
  | .sub => κ (int k (k.wrap (x - y)))
  | .mul => κ (int k (k.wrap (x * y)))
  | .quo => cond (decide (y = 0)) none (κ (int k (k.wrap (x.tdiv y))))
  | .rem => cond (decide (y = 0)) none (κ (int k (x.tmod y)))
  | .and => κ (int k (k.wrap (BitVec.ofInt k.bits x &&& BitVec.ofInt k.bits y).toNat))
  | .or => κ (int k (k.wrap (BitVec.ofInt k.bits x ||| BitVec.ofInt k.bits y).toNat))
  | .xor => κ (int k (k.wrap (BitVec.ofInt k.bits x ^^^ BitVec.ofInt k.bits y).toNat))
  | .eql => κ (bool (x == y))
  | .neq => κ (bool (x != y))
  | .lss => κ (bool (decide (x < y)))
  | .leq => κ (bool (decide (x ≤ y)))
  | .gtr => κ (bool (decide (x > y)))
  | .geq => κ (bool (decide (x ≥ y)))
  | _ => none

def strOp (op : BinOp) (x y : ByteArray) (κ : AV → Option R) : Option R :=
  match op with
  | .add => cond (decide (x.size + y.size ≤ 4611686018427387904)) (κ (str (x ++ y))) none
  | .eql => κ (bool (x.toList == y.toList))
  | .neq => κ (bool (!(x.toList == y.toList)))
  | .lss => κ (bool (Op.bytesLess x.toList y.toList))
  | .leq => κ (bool (Op.bytesLess x.toList y.toList || x.toList == y.toList))
  | .gtr => κ (bool (!(Op.bytesLess x.toList y.toList || x.toList == y.toList)))
  | .geq => κ (bool (!(Op.bytesLess x.toList y.toList)))
  | _ => none

/-! Equality of plain data, as Go's '==' of structs and arrays goes through it. -/
def eqFs (eq : Nat → List Cell → List Cell → Option Bool) (cs ds : List Cell) : List FInfo → Option Bool
  | [] => some true
  | f :: fs =>
    match f.blank with
    | true => eqFs eq cs ds fs
    | false =>
      match Nat.ble (f.off + f.size) cs.length, Nat.ble (f.off + f.size) ds.length, eq f.type ((cs.drop f.off).take f.size) ((ds.drop f.off).take f.size) with
      | true, true, some b => match fs with
        | [] => some b
        | _ => match eqFs eq cs ds fs with | some b' => some (b && b') | none => none
      | _, _, _ => none

def eqEs (eq : List Cell → List Cell → Option Bool) (sz : Nat) : Nat → List Cell → List Cell → Option Bool
  | 0, _, _ => some true
  | 1, cs, ds => eq (cs.take sz) (ds.take sz)
  | n + 1, cs, ds => match eq (cs.take sz) (ds.take sz), eqEs eq sz n (cs.drop sz) (ds.drop sz) with | some b, some b' => some (b && b') | _, _ => none

def eqT (P : Program) : Nat → Nat → List Cell → List Cell → Option Bool
  | 0, _, _, _ => none
  | d + 1, t, cs, ds =>
    match tkOf P t with
    | .int _ => match cs, ds with | [.a (.v (.int k) x)], [.a (.v (.int k') y)] => if k = k' then some (intBeq x y) else none | _, _ => none
    | .bool => match cs, ds with | [.a (.v .bool x)], [.a (.v .bool y)] => some (boolBeq x y) | _, _ => none
    | .str => match cs, ds with | [.a (.v .str x)], [.a (.v .str y)] => some (strBeq x y) | _, _ => none
    | .struct fs => match P.stoodInHeld t with | false => eqFs (eqT P d) cs ds fs | true => none
    | .array n e =>
      match Nat.ble (n * P.cellsOf e) cs.length, Nat.ble (n * P.cellsOf e) ds.length, (isAggT P e || Nat.beq (P.cellsOf e) 1) && Nat.blt 0 n with
      | true, true, true => eqEs (eqT P d e) (P.cellsOf e) n cs ds
      | _, _, _ => none
    | _ => none

def shiftA (op : BinOp) (k : IntKind) (a b : Int) (κ : AV → Option R) : Option R :=
  match op with
  | .shl => cond (decide (b < 0)) none (κ (int k (k.wrap (a * 2 ^ (min b.toNat k.bits)))))
  | _ => cond (decide (b < 0)) none (κ (int k (Int.fdiv a (2 ^ (min b.toNat k.bits)))))

def binOpA (op : BinOp) (t : Nat) (x y : AV) (κ : AV → Option R) : Option R :=
  match x, y with
  | .c (.a (.v (.int k) a)), .c (.a (.v (.int k') b)) =>
    match op with
    | .shl => shiftA .shl k a b κ
    | .shr => shiftA .shr k a b κ
    | op => if k = k' then arith op k a b κ else none
  | .c (.a (.v .str a)), .c (.a (.v .str b)) => strOp op a b κ
  | .c (.a (.v .bool a)), .c (.a (.v .bool b)) =>
    match op, tkOf P t with
    | .eql, .bool => κ (bool (boolBeq a b))
    | .neq, .bool => κ (bool (!(boolBeq a b)))
    | _, _ => none
  | .agg cs, .agg ds =>
    match P.eqGuardType P.depth t, isAggT P t, eqT P 20 t cs ds with
    | false, true, some b => match op with
      | .eql => κ (bool b)
      | .neq => κ (bool (!b))
      | _ => none
    | _, _, _ => none
  | _, _ => none

def negI (n : Int) : Int := 0 - n
def unOpA (op : UnOp) (x : AV) (κ : AV → Option R) : Option R :=
  match op, x with
  | .not, .c (.a (.v .bool b)) => κ (bool (!b))
  | .neg, .c (.a (.v (.int k) n)) => κ (int k (k.wrap (negI n)))
  | .xor, .c (.a (.v (.int k) n)) => κ (int k (k.wrap (BitVec.ofInt k.bits (if k.signed then -1 else k.max) ^^^ BitVec.ofInt k.bits n).toNat))
  | _, _ => none

/-- Cells of a composite literal: the zero cells with the parts laid in. -/
def fillA (place : Nat → Option (Nat × Nat)) (cells : List Cell) : List (Nat × List Cell) → Option (List Cell)
  | [] => some cells
  | (i, v) :: rest =>
    match place i with
    | some (off, size) =>
      match Nat.beq v.length size, Nat.ble (off + v.length) cells.length with
      | true, true => fillA place (splice cells off v) rest
      | _, _ => none
    | none => none

def partsA : List (Nat × Operand) → Option (List (Nat × List Cell))
  | [] => some []
  | p :: r =>
    match ev p.2, partsA r with
    | some (.c c), some l => match c.real with | true => some ((p.1, [c]) :: l) | false => none
    | some (.agg cs), some l => some ((p.1, cs) :: l)
    | _, _ => none

def fieldPlaceA (fs : List FInfo) (i : Nat) : Option (Nat × Nat) := match fs[i]? with | some f => some (f.off, f.size) | none => none

def buildA (t : Nat) (parts : List (Nat × Operand)) : Option (List Cell) :=
  match zeroOf P t, partsA ev parts with
  | some z, some ps =>
    match tkOf P t with
    | .struct fs => match fs.all (fun f => (P.info? f.type).isSome) with | true => fillA (fieldPlaceA fs) z ps | false => none
    | .array _ e => match (P.info? e).isSome with | true => fillA (fun i => some (i * P.cellsOf e, P.cellsOf e)) z ps | false => none
    | _ => none
  | _, _ => none

/-- A list's n rows of sz cells, out of their cells. -/
def rowsFrom (s : Sh) (sz : Nat) : Nat → List Cell → Option (List (El s))
  | 0, _ => some []
  | n + 1, cs => match implode s (cs.take sz), rowsFrom s sz n (cs.drop sz) with | some x, some xs => some (x :: xs) | _, _ => none

def buildSliceA (t len : Nat) (parts : List (Nat × Operand)) : Option ((s : Sh) × List (El s)) :=
  match tkOf P t with
  | .slice e =>
    match shT P e, zeroOf P e, partsA ev parts with
    | some s, some z, some ps =>
      match Nat.beq z.length s.size, Nat.beq (P.cellsOf e) s.size, Nat.ble (len * s.size) 65536 && Nat.blt 0 (len * s.size), Nat.blt 0 s.size with
      | true, true, true, true =>
        match fillA (fun i => some (i * s.size, s.size)) (List.replicate len z).flatten ps with
        | some cells => match rowsFrom s s.size len cells with | some xs => some ⟨s, xs⟩ | none => none
        | none => none
      | _, _, _, _ => none
    | _, _, _ => none
  | _ => none

def addOff (n : Nat) : A0 → Option A0
  | .ptr b off => some (.ptr b (off + n))
  | .iptr b off m sz i o => some (.iptr b off m sz i (o + n))
  | _ => none

def isConst : Operand → Bool
  | .const _ => true
  | _ => false

def indexAddrA (t : Nat) (x : A0) (cst : Bool) (i : Int) (κ : AV → Option R) : Option R :=
  match tkOf P t with
  | .array n e =>
    match x, cst && Nat.blt 0 (P.cellsOf e) with
    | .ptr b off, true => cond (decide (0 ≤ i) && decide (i < n)) (κ (.c (.a (.ptr b (off + i.toNat * P.cellsOf e))))) none
    | .ptr b off, false => cond (Nat.blt 0 (P.cellsOf e) && (decide (0 ≤ i) && decide (i < n))) (κ (.c (.a (.iptr b off n (P.cellsOf e) i.toNat 0)))) none
    | _, _ => none
  | .slice e =>
    match shT P e with
    | some s =>
      match Nat.beq (P.cellsOf e) s.size, Nat.blt 0 s.size with
      | true, true =>
        match x with
        | .v (.lst s') xs =>
          if h : s' = s then cond (decide (0 ≤ i) && decide (i < (List.length (α := El s') xs : Int))) (κ (.c (.a (.ptr (.lrow s' xs i.toNat) 0)))) none else none
        | .slw id =>
          match look O id with
          | some (.rows s' xs) => if s' = s then cond (decide (0 ≤ i) && decide (i < (xs.length : Int))) (κ (.c (.a (.ptr (.row id i.toNat) 0)))) none else none
          | some (.old s' xs) => if s' = s then cond (decide (0 ≤ i) && decide (i < (xs.length : Int))) (κ (.c (.a (.ptr (.row id i.toNat) 0)))) none else none
          | _ => none
        | .sl id lo n =>
          match look O id with
          | some (.rows s' _) => if s' = s then cond (decide (0 ≤ i) && decide (i < (n : Int))) (κ (.c (.a (.ptr (.row id (lo + i.toNat)) 0)))) none else none
          | some (.old s' _) => if s' = s then cond (decide (0 ≤ i) && decide (i < (n : Int))) (κ (.c (.a (.ptr (.row id (lo + i.toNat)) 0)))) none else none
          | _ => none
        | _ => none
      | _, _ => none
    | none => none
  | _ => none

def indexA (t : Nat) (x : AV) (cst : Bool) (i : Int) (κ : AV → Option R) : Option R :=
  match tkOf P t, x with
  | .array n e, .agg cs =>
    match tyOk P e with
    | false => none
    | true =>
    match cst with
    | true => match mkAV P e ((cs.drop (i.toNat * P.cellsOf e)).take (P.cellsOf e)) with
      | some v => match Nat.ble ((i.toNat + 1) * P.cellsOf e) cs.length with
        | true => cond (decide (0 ≤ i) && decide (i < n)) (κ v) none
        | false => none
      | none => none
    | false =>
      match chosenN cs n (P.cellsOf e) i.toNat 0 (P.cellsOf e) with
      | some l => match mkAV P e l with | some v => cond (decide (0 ≤ i) && decide (i < n)) (κ v) none | none => none
      | none => none
  | .str, .c (.a (.v .str s)) =>
    cond (decide (0 ≤ i) && decide (i < (ByteArray.size s : Int))) (κ (int .u8 ((ByteArray.get! s i.toNat).toNat : Int))) none
  | _, _ => none

/-- The bounds of a slice expression (none: left out). -/
def boundA (x : Option Operand) (dflt : Int) : Option Int :=
  match x with
  | none => some dflt
  | some o => match ev o with | some (.c (.a (.v (.int _) n))) => some n | _ => none

/-- The object's rows are of a size. -/
def sizeIs (O : Objs) (id sz : Nat) : Bool :=
  match look O id with
  | some (.rows s _) => Nat.beq s.size sz
  | some (.old s _) => Nat.beq s.size sz
  | _ => false

def sliceA (t : Nat) (x : AV) (lo hi : Option Operand) (κ : AV → Option R) : Option R :=
  match tkOf P t, x with
  | .str, .c (.a (.v .str s)) =>
    match boundA ev lo 0, boundA ev hi (ByteArray.size s) with
    | some l, some h => cond (decide (0 ≤ l) && decide (l ≤ h) && decide (h ≤ (ByteArray.size s : Int))) (κ (str (ByteArray.extract s l.toNat h.toNat))) none
    | _, _ => none
  | .slice e, .c (.a a) =>
    match shT P e with
    | some s =>
      match Nat.beq (P.cellsOf e) s.size, Nat.blt 0 s.size with
      | true, true =>
        match a with
        | .v (.lst s') xs =>
          match boundA ev lo 0, (if s' = s then boundA ev hi (List.length (α := El s') xs) else none) with
          | some l, some h =>
            cond (decide (0 ≤ l) && decide (l ≤ h) && decide (h ≤ (List.length (α := El s') xs : Int)))
              (κ (.c (.a (.v (.lst s') (((show List (El s') from xs).drop l.toNat).take (h.toNat - l.toNat)))))) none
          | _, _ => none
        | .slw id =>
          match (if sizeIs O id s.size then lenOf O (.slw id) else none) with
          | some m => match boundA ev lo 0, boundA ev hi m with
            | some l, some h => cond (decide (0 ≤ l) && decide (l ≤ h) && decide (h ≤ (m : Int))) (κ (.c (.a (.sl id l.toNat (h.toNat - l.toNat))))) none
            | _, _ => none
          | none => none
        | .sl id b m =>
          match boundA ev lo 0, (if sizeIs O id s.size then boundA ev hi m else none) with
          | some l, some h => cond (decide (0 ≤ l) && decide (l ≤ h) && decide (h ≤ (m : Int))) (κ (.c (.a (.sl id (b + l.toNat) (h.toNat - l.toNat))))) none
          | _, _ => none
        | .nilsl =>
          match boundA ev lo 0, boundA ev hi 0 with
          | some l, some h => cond (decide (0 ≤ l) && decide (l ≤ h) && decide (h ≤ 0)) (κ (.c (.a .nilsl))) none
          | _, _ => none
        | _ => none
      | _, _ => none
    | none => none
  | _, _ => none

/-- A store of cells through a pointer. -/
def storeA (p : A0) (new : List Cell) (κ : Objs → Option R) : Option R :=
  match new.all Cell.real with
  | false => none
  | true =>
  match p with
  | .ptr (.box id) off =>
    match look O id with
    | some (.box cs) => match Nat.ble (off + new.length) cs.length with | true => κ (setAt O id (.box (splice cs off new))) | false => none
    | _ => none
  | .ptr (.row id i) off =>
    match look O id with
    | some (.rows s xs) =>
      match Nat.ble (off + new.length) s.size, implode s (splice (explode s (xs.getD i (El.dflt s))) off new) with
      | true, some x => cond (decide (i < xs.length)) (κ (setAt (dropOld O) id (.rows s (xs.set i x)))) none
      | _, _ => none
    | _ => none
  | _ => none

/-- The greatest number of rows that an append may come to. -/
def rowLimit : Nat := 1099511627776

def appendA (t : Nat) (x : A0) (s : Sh) (ys : List (El s)) (κ : AV → Objs → Option R) : Option R :=
  match x with
  | .nilsl => cond (decide (ys.length ≤ rowLimit)) (κ (.c (.a (.slw id))) ((id, .rows s ys) :: O)) none
  | .slw j =>
    match look O j with
    | some (.rows s' xs) =>
      if h : s' = s then
        cond (decide ((joined h xs ys).length ≤ rowLimit))
          (κ (.c (.a (.slw id))) ((id, .rows s (joined h xs ys)) :: setAt O j (.old s' xs))) none
      else none
    | _ => none
  | _ => none

def bytesI (s : ByteArray) : List Int := s.data.toList.map fun b => (b.toNat : Int)
def bytesRows (s : ByteArray) : List (El (.int .u8)) := bytesI s

def builtinA (b : Builtin) (argTypes : Array Nat) (args : List (Option AV)) (κ : AV → Objs → Option R) : Option R :=
  match b, args with
  | .len, [some x] =>
    match argTypes[0]? with
    | some t =>
      match tkOf P t, x with
      | .str, .c (.a (.v .str s)) => κ (int .i64 (ByteArray.size s)) O
      | .array n _, _ => κ (int .i64 n) O
      | .slice _, .c (.a a) => match lenOf O a with | some n => κ (int .i64 n) O | none => none
      | .map _ _, .c (.a (.map i)) => match look O i with | some (.map _ _ es) => κ (int .i64 es.length) O | _ => none
      | .map _ _, .c (.a .nilmap) => κ (int .i64 0) O
      | _, _ => none
    | none => none
  | .min, [some (.c (.a (.v (.int k) x))), some (.c (.a (.v (.int _) y)))] => κ (int k (minI x y)) O
  | .max, [some (.c (.a (.v (.int k) x))), some (.c (.a (.v (.int _) y)))] => κ (int k (maxI x y)) O
  | .append, [some (.c (.a x)), some (.c (.a y))] =>
    match argTypes[0]?, argTypes[1]? with
    | some t, some u =>
      match tkOf P t with
      | .slice e =>
        match shT P e with
        | some s =>
          match Nat.beq (P.cellsOf e) s.size && (match zeroOf P e with | some z => Nat.beq z.length s.size | none => false), Nat.blt 0 s.size, Nat.ble (P.bytesOf e) 128 with
          | true, true, true =>
            match tkOf P u, y with
            | .slice _, y => match rowsOf O s y with | some ys => appendA O id t x s ys κ | none => none
            | .str, .v .str z => match s with | .int .u8 => appendA O id t x (.int .u8) (bytesRows z) κ | _ => none
            | _, _ => none
          | _, _, _ => none
        | none => none
      | _ => none
    | _, _ => none
  | _, _ => none

/-- A map's lookup: the last entry under the key. -/
def mapGet {k v : Sh} (es : List (El k × El v)) (x : El k) : Option (El v) :=
  match es with
  | [] => none
  | e :: r => cond (El.beq k x e.1) (some e.2) (mapGet r x)

def mapPut {k v : Sh} (es : List (El k × El v)) (x : El k) (y : El v) : List (El k × El v) :=
  match es with
  | [] => [(x, y)]
  | e :: r => cond (El.beq k x e.1) ((x, y) :: r) (e :: mapPut r x y)

/-- Maps are not covered yet. -/
def lookupA (t : Nat) (m x : AV) (ok : Bool) (κ : AV → Option R) : Option R := let _ := P.underlying t; let _ := O.length; none

def mapUpdateA (t : Nat) (m x y : AV) (κ : Objs → Option R) : Option R := let _ := P.underlying t; let _ := O.length; none

def convertA (src dst : Nat) (x : AV) (κ : AV → Objs → Option R) : Option R :=
  match tkOf P src, tkOf P dst, x with
  | .int _, .int k, .c (.a (.v (.int _) n)) => κ (int k (k.wrap n)) O
  | .str, .str, .c (.a (.v .str s)) => κ (str s) O
  | .slice e, .str, .c (.a a) =>
    match tkOf P e with
    | .int .u8 => match rowsOf O (.int .u8) a with
      | some xs => κ (str ⟨((show List Int from xs).map fun n => UInt8.ofNat n.toNat).toArray⟩) O
      | none => none
    | _ => none
  | _, _, _ => none

def makeA (id : Nat) (O : Objs) (s : Sh) (x : El s) (n m : Int) (κ : AV → Objs → Option R) : Option R :=
  cond (decide (0 ≤ n) && decide (n ≤ m) && decide (m ≤ (rowLimit : Int))) (κ (.c (.a (.slw id))) ((id, .rows s (List.replicate n.toNat x)) :: O)) none

def makeSliceA (t : Nat) (l c : AV) (κ : AV → Objs → Option R) : Option R :=
  match tkOf P t, l, c with
  | .slice e, .c (.a (.v (.int _) n)), .c (.a (.v (.int _) m)) =>
    match shT P e, zeroOf P e with
    | some s, some z =>
      match implode s z, Nat.beq (P.cellsOf e) s.size, Nat.beq z.length s.size, Nat.blt 0 s.size, Nat.ble (P.bytesOf e) 128 with
      | some x, true, true, true, true =>
        makeA id O s x n m κ
      | _, _, _, _, _ => none
    | _, _ => none
  | _, _, _ => none

/-- One operation that is no call of a Go function. -/
def opA (o : Oper) (κ : AV → Objs → Option R) : Option R :=
  match o.op with
  | .move x => match ev x with | some v => κ v O | none => none
  | .assign x => match ev x with | some v => κ v O | none => none
  | .pick c a b =>
    match ev0 ev c, ev a, ev b with
    | some (.v .bool t), some (.c (.a (.v .bool x))), some (.c (.a (.v .bool y))) => κ (bool (cond t x y)) O
    | some (.v .bool t), some x, some y => cond t (κ x O) (κ y O)
    | some (.v .bool t), some x, none => cond t (κ x O) none
    | some (.v .bool t), none, some y => cond t none (κ y O)
    | _, _, _ => none
  | .alloc t =>
    match zeroOf P t with
    | some cs => κ (.c (.a (.ptr (.box id) 0))) ((id, .box cs) :: O)
    | none => none
  | .box t x =>
    match ev x with
    | some (.c c) => match c.real with | true => κ (.c (.a (.ptr (.box id) 0))) ((id, .box [c]) :: O) | false => none
    | some (.agg cs) => κ (.c (.a (.ptr (.box id) 0))) ((id, .box cs) :: O)
    | _ => none
  | .build t parts => match buildA P ev t parts.toList with | some cs => κ (.agg cs) O | none => none
  | .buildSlice t len parts =>
    match buildSliceA P ev t len parts.toList with
    | some ⟨s, xs⟩ => κ (.c (.a (.slw id))) ((id, .rows s xs) :: O)
    | none => none
  | .load t a =>
    match ev0 ev a with
    | some p =>
      match cellsAt G O (P.cellsOf t) p, tyOk P t with
      | some (true, cs), true => match mkAV P t cs with | some v => κ v O | none => none
      | some (g, cs), true => match mkAV P t cs with | some v => cond g (κ v O) none | none => none
      | _, _ => none
    | none => none
  | .store t a x =>
    match ev0 ev a, ev x with
    | some p, some v =>
      match Nat.beq v.cells.length (P.cellsOf t) && tyOk P t, isAggT P t, v with
      | true, true, .agg cs => storeA O p cs (κ (.c (.a .und)))
      | true, false, .c c => storeA O p [c] (κ (.c (.a .und)))
      | _, _, _ => none
    | _, _ => none
  | .nilCheck x => match ev0 ev x with | some (.ptr b off) => κ (.c (.a (.ptr b off))) O | _ => none
  | .binOp op t x y _ => match ev x, ev y with | some a, some b => binOpA P op t a b (fun v => κ v O) | _, _ => none
  | .unOp op _ x => match ev x with | some a => unOpA op a (fun v => κ v O) | none => none
  | .convert src dst x => match ev x with | some a => convertA P O src dst a κ | none => none
  | .makeFunc (.func f) first caps =>
    match first.toList, caps.toList.mapM (ev0 ev) with
    | [], some l => κ (.c (.fn f l)) O
    | _, _ => none
  | .makeMap t none =>
    match tkOf P t with
    | .map kt vt => match shT P kt, shT P vt with | some k, some v => κ (.c (.a (.map id))) ((id, .map k v []) :: O) | _, _ => none
    | _ => none
  | .makeSlice t l c => match ev l, ev c with | some a, some b => makeSliceA P O id t a b κ | _, _ => none
  | .slice t x lo hi none => match ev x with | some a => sliceA P O ev t a lo hi (fun v => κ v O) | none => none
  | .fieldAddr t x f =>
    match tkOf P t, ev0 ev x with
    | .struct fs, some p =>
      match fs[f]? with
      | some fi => match Nat.blt 0 fi.size, addOff fi.off p with | true, some q => κ (.c (.a q)) O | _, _ => none
      | none => none
    | _, _ => none
  | .field t x f =>
    match tkOf P t, ev x with
    | .struct fs, some (.agg cs) =>
      match fs[f]? with
      | some fi => match Nat.ble (fi.off + fi.size) cs.length, tyOk P fi.type, mkAV P fi.type ((cs.drop fi.off).take fi.size) with | true, true, some v => κ v O | _, _, _ => none
      | none => none
    | _, _ => none
  | .indexAddr t x i =>
    match ev0 ev x, ev0 ev i with
    | some p, some (.v (.int _) n) => indexAddrA P O t p (isConst i) n (fun v => κ v O)
    | _, _ => none
  | .index t x i =>
    match ev x, ev0 ev i with
    | some a, some (.v (.int _) n) => indexA P t a (isConst i) n (fun v => κ v O)
    | _, _ => none
  | .lookup t m x ok => match ev m, ev x with | some a, some b => lookupA P O t a b ok (fun v => κ v O) | _, _ => none
  | .mapUpdate t m x y => match ev m, ev x, ev y with | some a, some b, some c => mapUpdateA P O t a b c (κ (.c (.a .und))) | _, _, _ => none
  | .extract x i =>
    match ev x with
    | some (.tup vs) => match vs[i]? with
      | some (true, cs) => κ (.agg cs) O
      | some (false, [c]) => κ (.c c) O
      | _ => none
    | _ => none
  | .call c =>
    match c.callee with
    | .builtin b => builtinA P O id b c.argTypes (c.args.toList.map ev) κ
    | _ => none
  | _ => none
end ops

/-! ### Configurations -/
inductive KI where
  | code (c : Code)
  | exec (c : Code)
  | inBlock (id : Nat)
  | inLoop (c : Code)
  | inScope (c : Code)
  | reg (ops : Array Oper) (base : Nat) (is : List Nat)

structure AFr where
  fid : Nat
  nt : Nat
  env : Env
  todo : List KI

structure Cfg where
  fr : AFr
  cs : List AFr
  objs : Objs
  nx : Nat

structure Ann where
  live : List Nat
  promote : List (Nat × Sh) := []
  freeze : List (Nat × Sh) := []

/-- A function of which a contract is used: how its arguments and results lie in cells, and the Lean function. -/
structure Con where
  args : List (Option Nat)
  ash : Sh
  res : List (Option Nat)
  rsh : Sh
  own : Bool
  F : Nat → El ash → Option (El rsh)

structure Ctx where
  P : Program
  G : Nat → Option (List Cell)
  ann : Nat → Nat → Option Ann
  con : Nat → Option Con

def evalA (G : Nat → Option (List Cell)) (E : Env) : Operand → Option AV
  | .tmp t => look E t
  | .const v => avOf v
  | .global g => match G g with | some _ => some (.c (.a (.ptr (.glob g) 0))) | none => none
  | .func f => some (.c (.fn f []))

def exitK (id : Nat) : List KI → Option (List KI)
  | .inBlock id' :: k => match Nat.beq id' id with | true => some k | false => exitK id k
  | _ :: k => exitK id k
  | [] => none

def PB.ids : PB → List Nat
  | .box id => [id]
  | .row id _ => [id]
  | _ => []
def A0.ids : A0 → List Nat
  | .slw id => [id]
  | .sl id _ _ => [id]
  | .ptr b _ => b.ids
  | .iptr b _ _ _ _ _ => b.ids
  | .map id => [id]
  | _ => []
def Cell.ids : Cell → List Nat
  | .a x => x.ids
  | .fn _ l => l.flatMap A0.ids
def AV.ids : AV → List Nat
  | .c x => x.ids
  | .agg cs => cs.flatMap Cell.ids
  | .tup vs => vs.flatMap fun p => p.2.flatMap Cell.ids
/-! ### Norming: only some slots live on; objects are numbered anew -/
def AObj.ids : AObj → List Nat
  | .box cs => cs.flatMap Cell.ids
  | _ => []
def envIds (E : Env) : List Nat := E.flatMap fun p => p.2.ids

def hasNat (l : List Nat) (n : Nat) : Bool := match l with | [] => false | m :: r => match Nat.beq m n with | true => true | false => hasNat r n

/-- The objects that can be reached, in the order in which they are met. -/
def reach (O : Objs) : Nat → List Nat → List Nat → List Nat
  | 0, _, seen => seen
  | _ + 1, [], seen => seen
  | d + 1, n :: todo, seen =>
    match hasNat seen n, look O n with
    | false, some o => reach O d (todo ++ o.ids) (seen ++ [n])
    | _, _ => reach O d todo seen

def place (l : List Nat) (n : Nat) : Option Nat :=
  match l with
  | [] => none
  | m :: r => match Nat.beq m n with | true => some 0 | false => match place r n with | some i => some (i + 1) | none => none

def PB.ren (f : Nat → Option Nat) : PB → Option PB
  | .box id => match f id with | some j => some (.box j) | none => none
  | .row id i => match f id with | some j => some (.row j i) | none => none
  | b => some b
def A0.ren (f : Nat → Option Nat) : A0 → A0
  | .slw id => match f id with | some j => .slw j | none => .und
  | .sl id lo n => match f id with | some j => .sl j lo n | none => .und
  | .ptr b off => match b.ren f with | some b' => .ptr b' off | none => .und
  | .iptr b off n sz i o => match b.ren f with | some b' => .iptr b' off n sz i o | none => .und
  | .map id => match f id with | some j => .map j | none => .und
  | x => x
def Cell.ren (f : Nat → Option Nat) : Cell → Cell
  | .a x => .a (x.ren f)
  | .fn g l => .fn g (l.map (A0.ren f))
def AV.ren (f : Nat → Option Nat) : AV → AV
  | .c x => .c (x.ren f)
  | .agg cs => .agg (cs.map (Cell.ren f))
  | .tup vs => .tup (vs.map fun p => (p.1, p.2.map (Cell.ren f)))
def AObj.ren (f : Nat → Option Nat) : AObj → AObj
  | .box cs => .box (cs.map (Cell.ren f))
  | o => o
def Env.ren (f : Nat → Option Nat) (E : Env) : Env := List.map (fun p => (p.1, p.2.ren f)) E

def liveEnv (E : Env) : List Nat → Env
  | [] => []
  | t :: r => match look E t with | some v => (t, v) :: liveEnv E r | none => liveEnv E r

def setEnv (E : Env) (t : Nat) (v : AV) : Env :=
  match E with
  | [] => []
  | (u, x) :: r => match Nat.beq u t with | true => (u, v) :: r | false => (u, x) :: setEnv r t v

/-- A nil slice becomes an empty one of the call's own. -/
def promotes (E : Env) (O : Objs) (nx : Nat) : List (Nat × Sh) → Env × Objs × Nat
  | [] => (E, O, nx)
  | (t, s) :: r =>
    match look E t, Nat.blt 0 s.size with
    | some (.c (.a .nilsl)), true => promotes (setEnv E t (.c (.a (.slw nx)))) ((nx, .rows s []) :: O) (nx + 1) r
    | _, _ => promotes E O nx r

/-- A slice of the call's own becomes a list that nobody writes any more. -/
def freezes (E : Env) (O : Objs) : List (Nat × Sh) → Env × Objs
  | [] => (E, O)
  | (t, s) :: r =>
    match look E t with
    | some (.c (.a .nilsl)) => freezes (setEnv E t (.c (.a (.v (.lst s) ([] : List (El s)))))) O r
    | some (.c (.a (.slw id))) =>
      match look O id with
      | some (.rows s' xs) => freezes (setEnv E t (.c (.a (.v (.lst s') xs)))) (setAt (dropOld O) id .gone) r
      | _ => freezes E O r
    | _ => freezes E O r

def renObjs (O : Objs) (f : Nat → Option Nat) : Nat → List Nat → Objs
  | _, [] => []
  | i, n :: r => match look O n with | some o => (i, o.ren f) :: renObjs O f (i + 1) r | none => renObjs O f (i + 1) r

/-- The first number above those that the region at hand in the calling function may still give. -/
def floorOf : List AFr → Nat
  | [] => 0
  | f :: _ => match f.todo with | .reg ops base _ :: _ => base + 8 * ops.size | _ => 0

def renF (l : List Nat) (off : Nat) (n : Nat) : Option Nat := match place l n with | some i => some (off + i) | none => none

def normFin (E : Env) (O : Objs) (c : Cfg) (l : List Nat) (off : Nat) : Cfg :=
  { fr := { c.fr with env := Env.ren (renF l off) E },
    cs := c.cs.map fun fr => { fr with env := Env.ren (renF l off) fr.env },
    objs := renObjs O (renF l off) off l, nx := off + l.length }

def normMid (p : Env × Objs) (c : Cfg) : Cfg :=
  normFin p.1 p.2 c (reach p.2 1000 (envIds p.1 ++ c.cs.flatMap fun f => envIds f.env) []) (floorOf c.cs)

def normPro (p : Env × Objs × Nat) (an : Ann) (c : Cfg) : Cfg := normMid (freezes p.1 p.2.1 an.freeze) c

def norm (an : Ann) (c : Cfg) : Cfg := normPro (promotes (liveEnv c.fr.env an.live) c.objs c.nx an.promote) an c

/-! ### Contracts at a call -/
def layCells : List (Option Nat) → List Cell → Option (List (Bool × List Cell))
  | [], [] => some []
  | none :: r, c :: cs => match layCells r cs with | some l => some ((false, [c]) :: l) | none => none
  | some n :: r, cs => match Nat.ble n cs.length with
    | true => match layCells r (cs.drop n) with | some l => some ((true, cs.take n) :: l) | none => none
    | false => none
  | _, _ => none

def layVal (l : List (Bool × List Cell)) : Option AV :=
  match l with
  | [(false, [c])] => some (.c c)
  | [(true, cs)] => some (.agg cs)
  | [(false, _)] => none
  | l => some (.tup l)

/-- A cell of an argument as plain data: a slice of the call's own is read as the list that it holds. -/
def pureCell (O : Objs) : Cell → Option Cell
  | .a (.slw id) =>
    match look O id with
    | some (.rows s xs) => some (.a (.v (.lst s) xs))
    | some (.old s xs) => some (.a (.v (.lst s) xs))
    | _ => none
  | .a (.sl id lo n) =>
    match look O id with
    | some (.rows s xs) => some (.a (.v (.lst s) ((xs.drop lo).take n)))
    | some (.old s xs) => some (.a (.v (.lst s) ((xs.drop lo).take n)))
    | _ => none
  | .a (.v s x) => some (.a (.v s x))
  | .a .nilsl => some (.a .nilsl)
  | _ => none

def isOwned : Cell → Bool
  | .a (.slw _) => true
  | .a (.sl _ _ _) => true
  | _ => false

def argCells (args : List AV) (lay : List (Option Nat)) : Option (List Cell) :=
  match args, lay with
  | [], [] => some []
  | .c c :: r, none :: l => match argCells r l with | some cs => some (c :: cs) | none => none
  | .agg ds :: r, some n :: l => match Nat.beq ds.length n, argCells r l with | true, some cs => some (ds ++ cs) | _, _ => none
  | _, _ => none

/-- The result's lists become slices of the caller's own. -/
def ownCells (id : Nat) (O : Objs) : List Cell → List Cell × Objs
  | [] => ([], O)
  | .a (.v (.lst s) x) :: r => match ownCells (id + 1) ((id, .rows s x) :: O) r with | (cs, O') => (.a (.slw id) :: cs, O')
  | c :: r => match ownCells id O r with | (cs, O') => (c :: cs, O')

def noLst : Sh → Bool
  | .lst _ => false
  | .pair a b => noLst a && noLst b
  | _ => true
/-- Lists within lists, or lists that are taken over as they are. -/
def flatLst : Sh → Bool
  | .lst s => noLst s
  | .pair a b => flatLst a && flatLst b
  | _ => true

def conA {R : Type} (k : Nat) (O : Objs) (id : Nat) (c : Con) (args : List AV) (κ : AV → Objs → Option R) : Option R :=
  match argCells args c.args with
  | some cs =>
    match cs.mapM (pureCell O), (noLst c.rsh || (c.own && flatLst c.rsh) || !(cs.any isOwned)) with
    | some ps, true =>
      match implode c.ash ps with
      | some x =>
        (c.F k x).bind fun r =>
          match c.own with
          | true => match ownCells id O (explode c.rsh r) with
            | (rs, O') => match layCells c.res rs with
              | some l => match layVal l with | some v => κ v O' | none => none
              | none => none
          | false => match layCells c.res (explode c.rsh r) with
            | some l => match layVal l with | some v => κ v O | none => none
            | none => none
      | none => none
    | _, _ => none
  | none => none

/-! ### The steps of the machine -/
def finishC {R : Type} (ih : Cfg → Option R) (c : Cfg) (v : AV) (dst : Option Nat) (todo : List KI) (O : Objs) : Option R :=
  match dst with
  | some d => match Nat.blt d c.fr.nt with
    | true => ih { c with fr := { c.fr with env := (d, v) :: c.fr.env, todo }, objs := O }
    | false => none
  | none => ih { c with fr := { c.fr with todo }, objs := O }

def resA (X : Ctx) (E : Env) (O : Objs) : ResultVar → Option (Bool × List Cell)
  | .tmp t => match look E t with
    | some (.c c) => some (false, [c])
    | some (.agg cs) => some (true, cs)
    | _ => none
  | .cell a t => match look E a with
    | some (.c (.a p)) => match cellsAt X.G O (X.P.cellsOf t) p, tyOk X.P t with
      | some (true, cs), true => match mkAV X.P t cs with
        | some (.c c) => some (false, [c])
        | some (.agg cs) => some (true, cs)
        | _ => none
      | _, _ => none
    | _ => none

def resultsA (X : Ctx) (fn : Func) (E : Env) (O : Objs) : Option AV :=
  match fn.results.toList.mapM (resA X E O) with
  | some l => layVal l
  | none => none

def base8 (ops : Array Oper) (base : Nat) : Nat := base + 8 * ops.size

section run
variable {R : Type} (X : Ctx) (fin : AV → Objs → Option R)

def leaveC (ih : Cfg → Option R) (c : Cfg) : Option R :=
  match X.P.funcs[c.fr.fid]? with
  | some fn =>
    match resultsA X fn c.fr.env c.objs with
    | some v =>
      match c.cs with
      | [] => fin v c.objs
      | fr :: cs =>
        match fr.todo with
        | .reg ops base (i :: is) :: k =>
          match ops[i]? with
          | some o => finishC ih { c with fr := fr, cs := cs } v o.dst (.reg ops base is :: k) c.objs
          | none => none
        | _ => none
    | none => none
  | none => none

def enterEnv : Nat → List AV → Env
  | _, [] => []
  | i, v :: r => (i, v) :: enterEnv (i + 1) r

/-! A region whose order is not told: each operation is worked out, in the order of the text, from what no operation that may come before or after it touches. -/
/-- What must come before an operation, as a set of bits. -/
def maskOf (acc : List Nat) (es : List Edge) : Nat :=
  es.foldl (fun s e => match Region.binds .any e with | true => s ||| (2 ^ e.on ||| acc.getD e.on 0) | false => s) 0
def masksGo : List Oper → List Nat → List Nat
  | [], acc => acc
  | o :: r, acc => masksGo r (acc ++ [maskOf acc o.after.toList])

/-- One of the two comes before the other in every order. -/
def ordered (M : List Nat) (i j : Nat) : Bool := (M.getD j 0).testBit i || (M.getD i 0).testBit j

/-- Does the operation write this slot? -/
def writes (ops : Array Oper) (q t : Nat) : Bool := match (ops[q]?).bind (·.dst) with | some d => Nat.beq d t | none => false

/-- No operation that may come before or after operation i writes this slot. -/
def calm (ops : Array Oper) (M : List Nat) (i t : Nat) : Bool := (List.range ops.size).all fun q => Nat.beq q i || ordered M q i || !writes ops q t

/-- The slots' values, as far as they are settled when operation i comes. -/
def calmEnv (ops : Array Oper) (M : List Nat) (i : Nat) : Env → Env
  | [] => []
  | (t, v) :: r => match calm ops M i t with | true => (t, v) :: calmEnv ops M i r | false => calmEnv ops M i r

/-- What an operation looked at and what it changed. -/
structure Rec where
  i : Nat
  seen : List Nat
  made : List Nat

def keysOf (O : Objs) : List Nat := O.map (·.1)

/-- No operation that may come before or after operation i, and that was worked out already, changed this object. -/
def calmObj (M : List Nat) (recs : List Rec) (i n : Nat) : Bool := recs.all fun q => ordered M q.i i || !hasNat q.made n

def calmObjs (ids : List Nat) (M : List Nat) (recs : List Rec) (i : Nat) : Objs → Objs
  | [] => []
  | (n, o) :: r => match hasNat ids n && calmObj M recs i n with | true => (n, o) :: calmObjs ids M recs i r | false => calmObjs ids M recs i r

/-- The objects that an operation's operands point to. -/
def opIds (ev : Operand → Option AV) (o : Oper) : List Nat := o.op.operands.toList.flatMap fun x => match ev x with | some v => v.ids | none => []

/-- Operations that never look at an object. -/
def blind (o : Oper) : Bool :=
  match o.op with
  | .move _ => true
  | .assign _ => true
  | .binOp .. => true
  | .unOp .. => true
  | .fieldAddr .. => true
  | .field .. => true
  | .extract .. => true
  | .index .. => true
  | .build .. => true
  | .pick .. => true
  | .nilCheck _ => true
  | .alloc _ => true
  | .box .. => true
  | _ => false

def viewD (ev : Operand → Option AV) (M : List Nat) (recs : List Rec) (i : Nat) (o : Oper) (O : Objs) : Objs := match blind o with | true => [] | false => calmObjs (opIds ev o) M recs i O

/-- The object that a store goes into. -/
def targetOf (ev : Operand → Option AV) : Operand → Option Nat := fun a =>
  match ev a with
  | some (.c (.a (.ptr (.box n) _))) => some n
  | some (.c (.a (.ptr (.row n _) _))) => some n
  | _ => none

/-- What an operation changed: what it laid ahead of the objects that it saw, or the object that it stored into. -/
def effD (ev : Operand → Option AV) (o : Oper) (V N : Objs) : Option Objs :=
  match o.op with
  | .store _ a _ =>
    match targetOf ev a with
    | some n => match look N n with | some x => some [(n, x)] | none => none
    | none => none
  | .mapUpdate .. => none
  | .call cl =>
    match cl.callee with
    | .builtin .append => none
    | _ => some (N.take (N.length - V.length))
  | _ => some (N.take (N.length - V.length))

def hasOld : Objs → Bool
  | [] => false
  | (_, o) :: r => (match o with | .old _ _ => true | _ => false) || hasOld r

/-- What was changed was neither looked at nor changed by an operation that may come before or after it. -/
def apartD (M : List Nat) (recs : List Rec) (i : Nat) (eff : Objs) : Bool :=
  (keysOf eff).all fun n => recs.all fun q => ordered M q.i i || !(hasNat q.seen n || hasNat q.made n)

/-- The slot of the result is touched by no operation that may come before or after it. -/
def dstOk (ops : Array Oper) (M : List Nat) (i : Nat) (o : Oper) : Bool := match o.dst with | some d => calm ops M i d | none => true

/-- One operation, calls with a contract among them. -/
def opX (k0 : Nat) (O : Objs) (ev : Operand → Option AV) (id : Nat) (o : Oper) (κ : AV → Objs → Option R) : Option R :=
  match o.op with
  | .call cl =>
    match cl.callee with
    | .value f =>
      match ev f, cl.args.toList.mapM ev with
      | some (.c (.fn g caps)), some args => match X.con g with
        | some co => conA k0 O id co (args ++ caps.map fun a => .c (.a a)) κ
        | none => none
      | _, _ => none
    | _ => opA X.P X.G O ev id o κ
  | _ => opA X.P X.G O ev id o κ

/-- What follows an operation of a region in no order. -/
def afterD (nt : Nat) (ops : Array Oper) (M : List Nat) (i : Nat) (o : Oper) (seen : List Nat) (E : Env) (O : Objs) (recs : List Rec) (v : AV) (eff : Objs) (κ : Env → Objs → List Rec → Option R) : Option R :=
  match apartD M recs i eff && !hasOld eff, dstOk ops M i o && (match o.dst with | some d => Nat.blt d nt | none => true) with
  | true, true => κ (match o.dst with | some d => (d, v) :: E | none => E) (eff ++ O) (⟨i, seen, keysOf eff⟩ :: recs)
  | _, _ => none

def oneD (k0 nt base : Nat) (ops : Array Oper) (M : List Nat) (i : Nat) (o : Oper) (E : Env) (O : Objs) (recs : List Rec) (κ : Env → Objs → List Rec → Option R) : Option R :=
  opX X k0 (viewD (evalA X.G (calmEnv ops M i E)) M recs i o O) (evalA X.G (calmEnv ops M i E)) (base + 8 * i) o fun v N =>
    match effD (evalA X.G (calmEnv ops M i E)) o (viewD (evalA X.G (calmEnv ops M i E)) M recs i o O) N with
    | some eff => afterD nt ops M i o (keysOf (viewD (evalA X.G (calmEnv ops M i E)) M recs i o O)) E O recs v eff κ
    | none => none

def goD (k0 nt base : Nat) (ops : Array Oper) (M : List Nat) (κ : Env → Objs → Option R) : List Nat → Env → Objs → List Rec → Option R
  | [], E, O, _ => κ E O
  | i :: is, E, O, recs =>
    match ops[i]?, Nat.blt (M.getD i 0) (2 ^ i) with
    | some o, true =>
      match o.guard with
      | none => oneD X k0 nt base ops M i o E O recs (goD k0 nt base ops M κ is)
      | some (j, want) =>
        match (ops[j]?).bind (·.dst) with
        | none => none
        | some d =>
          match look (calmEnv ops M i E) d with
          | some (.c (.a (.v .bool b))) =>
            let yes := fun (t : Bool) => match (t == want) with
              | true => oneD X k0 nt base ops M i o ((d, bool t) :: E) O recs (goD k0 nt base ops M κ is)
              | false => afterD nt ops M i o [] ((d, bool t) :: E) O recs (.c (.a .und)) [] (goD k0 nt base ops M κ is)
            cond b (yes true) (yes false)
          | _ => none
    | _, _ => none

def regionD (k0 : Nat) (ih : Cfg → Option R) (c : Cfg) (ops : Array Oper) (k : List KI) : Option R :=
  match hasOld c.objs with
  | true => none
  | false => goD X k0 c.fr.nt c.nx ops (masksGo ops.toList []) (fun E O => ih { c with fr := { c.fr with env := E, todo := k }, objs := O, nx := base8 ops c.nx }) (List.range ops.size) c.fr.env c.objs []

def regionC (k0 : Nat) (ih : Cfg → Option R) (c : Cfg) (code : Code) (k : List KI) : Option R :=
  match code with
  | .region _ ops draw =>
    match draw with
    | false => ih { c with fr := { c.fr with todo := .reg ops c.nx (List.range ops.size) :: k }, nx := base8 ops c.nx }
    | true => regionD X k0 ih c ops k
  | _ => none

def callC (k0 : Nat) (ih : Cfg → Option R) (c : Cfg) (ops : Array Oper) (base i : Nat) (is : List Nat) (k : List KI) (o : Oper) (f : Nat) (args : List AV) : Option R :=
  match X.con f with
  | some co => conA k0 c.objs (base + 8 * i) co args (fun v O => finishC ih c v o.dst (.reg ops base is :: k) O)
  | none =>
    match X.P.funcs[f]? with
    | some fn =>
      match fn.body with
      | some b => ih { c with fr := { fid := f, nt := max fn.ntmps args.length, env := enterEnv 0 args, todo := [.code b] }, cs := { c.fr with todo := .reg ops base (i :: is) :: k } :: c.cs }
      | none => none
    | none => none

def operC (k0 : Nat) (ih : Cfg → Option R) (c : Cfg) (ops : Array Oper) (base i : Nat) (is : List Nat) (k : List KI) (o : Oper) : Option R :=
  let next := fun v O => finishC ih c v o.dst (.reg ops base is :: k) O
  match o.op with
  | .call cl =>
    match cl.callee with
    | .value f =>
      match evalA X.G c.fr.env f, cl.args.toList.mapM (evalA X.G c.fr.env) with
      | some (.c (.fn g caps)), some args => callC X k0 ih c ops base i is k o g (args ++ caps.map fun a => .c (.a a))
      | _, _ => none
    | _ => opA X.P X.G c.objs (evalA X.G c.fr.env) (base + 8 * i) o next
  | _ => opA X.P X.G c.objs (evalA X.G c.fr.env) (base + 8 * i) o next

def regC (k0 : Nat) (ih : Cfg → Option R) (c : Cfg) (ops : Array Oper) (base : Nat) (k : List KI) : List Nat → Option R
  | [] => ih { c with fr := { c.fr with todo := k } }
  | i :: is =>
    match ops[i]? with
    | none => none
    | some o =>
      match o.guard with
      | none => operC X k0 ih c ops base i is k o
      | some (j, want) =>
        match (ops[j]?).bind (·.dst) with
        | none => none
        | some d =>
          match look c.fr.env d with
          | some (.c (.a (.v .bool b))) =>
            let yes := fun (t : Bool) => match (t == want) with
              | true => operC X k0 ih { c with fr := { c.fr with env := (d, bool t) :: c.fr.env } } ops base i is k o
              | false => finishC ih { c with fr := { c.fr with env := (d, bool t) :: c.fr.env } } (.c (.a .und)) o.dst (.reg ops base is :: k) c.objs
            cond b (yes true) (yes false)
          | some (.c (.a .und)) => none
          | _ => none

def stepC (k0 : Nat) (rec : Cfg → Option R) (ih : Cfg → Option R) (c : Cfg) : Option R :=
  match c.fr.todo with
  | [] => leaveC X fin ih c
  | .exec code :: k => regionC X k0 ih c code k
  | .inBlock _ :: k => ih { c with fr := { c.fr with todo := k } }
  | .inScope _ :: k => ih { c with fr := { c.fr with todo := k } }
  | .inLoop b :: k => ih { c with fr := { c.fr with todo := .code b :: .inLoop b :: k } }
  | .reg ops base is :: k => regC X k0 ih c ops base k is
  | .code code :: k =>
    match code with
    | .skip => ih { c with fr := { c.fr with todo := k } }
    | .label _ => ih { c with fr := { c.fr with todo := k } }
    | .seq a b => ih { c with fr := { c.fr with todo := .code a :: .code b :: k } }
    | .cond x a b =>
      match evalA X.G c.fr.env x with
      | some (.c (.a (.v .bool t))) => cond t (ih { c with fr := { c.fr with todo := .code a :: k } }) (ih { c with fr := { c.fr with todo := .code b :: k } })
      | _ => none
    | .scope b => ih { c with fr := { c.fr with todo := .code b :: .inScope b :: k } }
    | .block id b => ih { c with fr := { c.fr with todo := .code b :: .inBlock id :: k } }
    | .loop b => ih { c with fr := { c.fr with todo := .code b :: .inLoop b :: k } }
    | .exit id => match exitK id k with | some k' => ih { c with fr := { c.fr with todo := k' } } | none => none
    | .ret => leaveC X fin ih c
    | .region id ops draw =>
      match X.ann c.fr.fid id with
      | some an => rec (norm an { c with fr := { c.fr with todo := .exec code :: k } })
      | none => regionC X k0 ih c code k
    | _ => none

/-- As many steps as one unit of the bound on rounds buys. -/
def stretch : Nat := 20000

def runN (k0 : Nat) (rec : Cfg → Option R) (n : Nat) : Cfg → Option R :=
  Nat.rec (motive := fun _ => Cfg → Option R) (fun _ => none) (fun _ ih => stepC X fin k0 rec ih) n

def run (k : Nat) : Cfg → Option R :=
  Nat.rec (motive := fun _ => Cfg → Option R) (fun _ => none) (fun k0 rec => runN X fin k0 rec stretch) k

end run

/-! ### From a run to a contract -/
/-- The arguments, as they lie. -/
def layArgs : List (Option Nat) → List Cell → List AV
  | none :: l, c :: cs => .c c :: layArgs l cs
  | some n :: l, cs => .agg (cs.take n) :: layArgs l (cs.drop n)
  | _, _ => []

/-- The cells of a result. -/
def partCells : List (Option Nat) → List (Bool × List Cell) → Option (List Cell)
  | [], [] => some []
  | none :: l, (false, [c]) :: r => match partCells l r with | some cs => some (c :: cs) | none => none
  | some n :: l, (true, ds) :: r => match Nat.beq ds.length n, partCells l r with | true, some cs => some (ds ++ cs) | _, _ => none
  | _, _ => none

def valParts : AV → List (Bool × List Cell)
  | .c c => [(false, [c])]
  | .agg cs => [(true, cs)]
  | .tup [_] => [(false, [])]
  | .tup l => l

/-- What a function's value and memory tell of its result. -/
def finCon (res : List (Option Nat)) (rsh : Sh) (v : AV) (O : Objs) : Option (El rsh) :=
  match partCells res (valParts v) with
  | some cs => match cs.mapM (pureCell O) with | some ps => implode rsh ps | none => none
  | none => none

def startC (f nt : Nat) (body : Code) (args : List AV) : Cfg :=
  { fr := { fid := f, nt := nt, env := enterEnv 0 args, todo := [.code body] }, cs := [], objs := [], nx := 0 }

/-- The Lean function that a Go function of plain data comes to. -/
def fnRun (X : Ctx) (f nt : Nat) (body : Code) (args : List (Option Nat)) (ash : Sh) (res : List (Option Nat)) (rsh : Sh) (k : Nat) (x : El ash) : Option (El rsh) :=
  run X (finCon res rsh) k (startC f nt body (layArgs args (explode ash x)))

def addCon (X : Ctx) (f : Nat) (co : Con) : Ctx := { X with con := fun g => match Nat.beq f g with | true => some co | false => X.con g }
end Go.Ab
