/- A value semantics for the part of the program's language that the seat's functions use: types, values and the state. -/
import Derived.Calls
import Derived.Orders
import Derived.Below
import Derived.KernelRfl
set_option linter.unusedVariables false
set_option linter.unusedSimpArgs false
namespace Go.Proofs.YtmbmapbdbbnaeaaT
open Go

/-- A place among a row's cells: the element, the offset, the number that its header bears; is it lent? -/
structure Note where
  lent : Bool
  i : Int
  o : Nat
  m : Nat
  deriving DecidableEq

/-- The types of values, cells and elements. -/
inductive Ty where
  | unit
  | int (k : IntKind)
  | bool
  | str
  | row (t : Ty)
  | pair (a b : Ty)
  /-- elements whose rows are the row's own, too; one of them may be noted or lent -/
  | deep (h : Option Note) (t : Ty)
  /-- a cell that nobody looks at -/
  | dead
  /-- elements whose rows are the row's own as long as they are there -/
  | part (t : Ty)
  deriving DecidableEq

@[reducible] def Ty.T : Ty → Type
  | .unit => Unit
  | .int _ => Int
  | .bool => Bool
  | .str => ByteArray
  | .row t => List t.T
  | .pair a b => a.T × b.T
  | .deep _ t => t.T
  | .dead => Bool
  | .part t => Bool × t.T

def Ty.dflt : (t : Ty) → t.T
  | .unit => ()
  | .int _ => (0 : Int)
  | .bool => false
  | .str => ByteArray.empty
  | .row _ => []
  | .pair a b => (a.dflt, b.dflt)
  | .deep _ t => t.dflt
  | .dead => true
  | .part t => (false, t.dflt)

def Ty.size : Ty → Nat
  | .unit => 0
  | .pair a b => a.size + b.size
  | .deep _ t => t.size
  | .part t => t.size
  | _ => 1

/-- One cell's type. -/
def Ty.cell : Ty → Bool
  | .unit => false
  | .pair _ _ => false
  | .deep _ _ => false
  | .part _ => false
  | _ => true
def Ty.hasRow : Ty → Bool
  | .row _ => true
  | .pair a b => a.hasRow || b.hasRow
  | .deep _ t => t.hasRow
  | .part t => t.hasRow
  | .dead => true
  | _ => false
def Ty.holed : Ty → Bool
  | .deep (some _) _ => true
  | _ => false
def Ty.isDeep : Ty → Bool
  | .deep _ _ => true
  | .part _ => true
  | _ => false
def Ty.base : Ty → Ty
  | .deep _ t => t
  | .part t => t
  | t => t
/-- The rows within have no rows. -/
def Ty.one : Ty → Bool
  | .row u => !u.hasRow && !u.isDeep
  | .pair a b => a.one && b.one
  | .deep _ _ => false
  | .part _ => false
  | .dead => false
  | _ => true

def cast? (t u : Ty) (x : t.T) : Option u.T := if h : t = u then some (h ▸ x) else none

def Ty.ofList : List Ty → Ty
  | [] => .unit
  | [t] => t
  | t :: u :: ts => .pair t (Ty.ofList (u :: ts))

/-- The operations on values, by name. -/
def iAdd (k : IntKind) (a b : Int) : Int := k.wrap (a + b)
def iSub (k : IntKind) (a b : Int) : Int := k.wrap (a - b)
def iMul (k : IntKind) (a b : Int) : Int := k.wrap (a * b)
def iQuo (k : IntKind) (a b : Int) : Int := k.wrap (a.tdiv b)
def iRem (a b : Int) : Int := a.tmod b
def iBit (op : BinOp) (k : IntKind) (a b : Int) : Int :=
  match op with
  | .and => k.wrap (BitVec.ofInt k.bits a &&& BitVec.ofInt k.bits b).toNat
  | .or => k.wrap (BitVec.ofInt k.bits a ||| BitVec.ofInt k.bits b).toNat
  | .xor => k.wrap (BitVec.ofInt k.bits a ^^^ BitVec.ofInt k.bits b).toNat
  | _ => k.wrap (BitVec.ofInt k.bits a &&& ~~~(BitVec.ofInt k.bits b)).toNat
def iShl (k : IntKind) (a b : Int) : Int := k.wrap (a * 2 ^ (min b.toNat k.bits))
def iShr (k : IntKind) (a b : Int) : Int := a.fdiv (2 ^ (min b.toNat k.bits))
def iCnv (k : IntKind) (a : Int) : Int := k.wrap a
def iEq (a b : Int) : Bool := a == b
def iNe (a b : Int) : Bool := a != b
def iLt (a b : Int) : Bool := decide (a < b)
def iLe (a b : Int) : Bool := decide (a ≤ b)
def iMin (a b : Int) : Int := if b < a then b else a
def iMax (a b : Int) : Int := if a < b then b else a
def bEq (a b : Bool) : Bool := a == b
def bNe (a b : Bool) : Bool := !(a == b)
def bNot (a : Bool) : Bool := !a
def bAnd (a b : Bool) : Bool := a && b
def sEq (a b : ByteArray) : Bool := a.toList == b.toList
def sNe (a b : ByteArray) : Bool := !(a.toList == b.toList)
def sLen (a : ByteArray) : Int := (a.size : Int)
def sGet (a : ByteArray) (i : Int) : Int := if h : i.toNat < a.size then ((a[i.toNat]'h).toNat : Int) else 0
def rLen {α : Type} (l : List α) : Int := (l.length : Int)
def rGet {α : Type} (d : α) (l : List α) (i : Int) : α := l.getD i.toNat d
def rSet {α : Type} (l : List α) (i : Int) (x : α) : List α := l.set i.toNat x
def rApp {α : Type} (a b : List α) : List α := a ++ b
def rSub {α : Type} (l : List α) (lo hi : Int) : List α := (l.take hi.toNat).drop lo.toNat
def rRep {α : Type} (d : α) (n : Int) : List α := List.replicate n.toNat d
/-- Elements that are there, or gone. -/
def fAll {α : Type} (l : List α) : List (Bool × α) := l.map fun x => (true, x)
def fHas {α : Type} (d : α) (l : List (Bool × α)) (i : Int) : Bool := (l.getD i.toNat (false, d)).1
def fGet {α : Type} (d : α) (l : List (Bool × α)) (i : Int) : α := (l.getD i.toNat (false, d)).2
def fOff {α : Type} (d : α) (l : List (Bool × α)) (i : Int) : List (Bool × α) := l.set i.toNat (false, fGet d l i)
def maxBytes : Nat := 35184372088832
def cNz (b : Int) : Bool := b != 0
def cNn (b : Int) : Bool := decide (0 ≤ b)
def cIdx (i n : Int) : Bool := decide (0 ≤ i ∧ i < n)
def cSub (lo hi n : Int) : Bool := decide (0 ≤ lo ∧ lo ≤ hi ∧ hi ≤ n)
/-- These two are not to be reckoned by the kernel: the number is great. -/
noncomputable def cMake (l c b : Int) : Bool := @decide (0 ≤ l ∧ l ≤ c ∧ c * b ≤ (maxBytes : Int)) (Classical.propDecidable _)
noncomputable def cTab (i n : Int) : Bool := @decide (0 ≤ i ∧ i < n) (Classical.propDecidable _)
noncomputable def cLen (n b : Int) : Bool := @decide (n * b ≤ (maxBytes : Int)) (Classical.propDecidable _)

/-- What one cell holds. -/
inductive AC where
  | v (t : Ty) (x : t.T)
  | own (tok : Nat)
  | nil
  | ptr (box off : Nat)
  | eS (t : Ty) (x : t.T) (off : Nat)
  | eO (tok : Nat) (i : Int) (off : Nat)
  /-- a row within a deep row: its own cell -/
  | inn (tok m s : Nat)
  /-- a part of a row of the state; a row of which at least so much room is known -/
  | sub (tok : Nat) (lo hi : Int)
  | ownR (tok : Nat) (m : Int)

inductive AW where
  | c (x : AC)
  | agg (l : List AC)

inductive AV where
  | w (x : AW)
  | tup (l : List AW)
  | fn (f : FuncId) (caps : List AW)
  | undef
  /-- nothing is known of it -/
  | any

/-- A row of which the state keeps the content. -/
structure RowSt where
  own : Bool
  t : Ty
  l : List t.T

structure St where
  tmps : Nat → Option AV
  boxes : Nat → Option (List AC)
  rows : Nat → Option RowSt
  used : List Nat
  /-- the rows that were handed, by their numbers now -/
  prot : List Nat := []
  /-- rows of rows are made with their rows as their own -/
  deep : Bool := false
  /-- parts of rows are kept as such: 1; and the room of what was appended: 2 -/
  inpl : Nat := 0

def St.put (S : St) (d : Nat) (av : AV) : St := { S with tmps := fun n => match Nat.beq n d with | true => some av | false => S.tmps n }

structure Delta where
  val : AV
  boxes : List (Nat × List AC) := []
  rows : List (Nat × Option RowSt) := []

def setAll {α : Type} (f : Nat → Option α) : List (Nat × Option α) → Nat → Option α
  | [] => f
  | (k, x) :: r => setAll (fun n => match Nat.beq n k with | true => x | false => f n) r
def setBoxes {α : Type} (f : Nat → Option α) : List (Nat × α) → Nat → Option α
  | [] => f
  | (k, x) :: r => setBoxes (fun n => match Nat.beq n k with | true => some x | false => f n) r

def St.app (S : St) (dst : Option Nat) (δ : Delta) : St :=
  { tmps := match dst with | some d => (fun n => match Nat.beq n d with | true => some δ.val | false => S.tmps n) | none => S.tmps
    boxes := setBoxes S.boxes δ.boxes
    rows := setAll S.rows δ.rows
    used := S.used
    prot := S.prot
    deep := S.deep
    inpl := S.inpl }

/-- A row that the state keeps, as a value. -/
def readRow (u : Ty) : (t : Ty) → List t.T → Option u.T
  | .deep (some _) _, _ => none
  | .deep none t, l => match cast? (.row (.deep none t)) u l with
    | some x => some x
    | none => cast? (.row t) u l
  | t, l => cast? (.row t) u l
def viewRow : (t : Ty) → List t.T → Option ((t : Ty) × List t.T)
  | .deep (some _) _, _ => none
  | .deep none t, l => some ⟨t, l⟩
  | t, l => some ⟨t, l⟩
/-- A cell as a value of a type: what the state keeps is read. -/
def asT (S : St) (u : Ty) : AC → Option u.T
  | .v t x => cast? t u x
  | .own tok => match S.rows tok with
    | some r => readRow u r.t r.l
    | none => none
  | .nil => match u with
    | .row _ => some []
    | _ => none
  | _ => none

/-- Cells as an element. -/
def parse (S : St) : (u : Ty) → List AC → Option u.T
  | .unit, [] => some ()
  | .unit, _ => none
  | .pair a b, l => (parse S a (l.take a.size)).bind fun x => (parse S b (l.drop a.size)).bind fun y => some (x, y)
  | .int k, [c] => asT S (.int k) c
  | .bool, [c] => asT S .bool c
  | .str, [c] => asT S .str c
  | .row t, [c] => asT S (.row t) c
  | .deep _ t, l => parse S t l
  | .dead, [c] => asT S .dead c
  | _, _ => none

def flat : (t : Ty) → t.T → List AC
  | .unit, _ => []
  | .pair a b, x => flat a x.1 ++ flat b x.2
  | .int k, x => [.v (.int k) x]
  | .bool, x => [.v .bool x]
  | .str, x => [.v .str x]
  | .row t, x => [.v (.row t) x]
  | .deep _ t, x => flat t x
  | .dead, x => [.v .dead x]
  | .part t, _ => List.replicate t.size (.v .dead true)

/-- The rows that cells name. -/
def toks : List AC → List Nat
  | [] => []
  | .own k :: l => k :: toks l
  | .sub k _ _ :: l => k :: toks l
  | .ownR k _ :: l => k :: toks l
  | _ :: l => toks l

/-- These rows are not written any more. -/
def freeze (S : St) : List Nat → List (Nat × Option RowSt)
  | [] => []
  | k :: l => match S.rows k with
    | some r => match r.t.holed with
      | true => freeze S l
      | false => (k, some { r with own := false }) :: freeze S l
    | none => freeze S l

/-- The cells of a type, by the program's table. -/
def fieldsOf (g : TypeId → Option (List Ty)) : List Field → Option (List Ty)
  | [] => some []
  | f :: fs => (g f.type).bind fun a => (fieldsOf g fs).bind fun b => some (a ++ b)

def cellsOf (P : Program) : Nat → TypeId → Option (List Ty)
  | 0, _ => none
  | n + 1, t =>
    match P.underlying t with
    | some (.int k) => some [.int k]
    | some .bool => some [.bool]
    | some .string => some [.str]
    | some (.slice e) => (cellsOf P n e).bind fun ts => some [.row (Ty.ofList ts)]
    | some (.struct fs) => fieldsOf (cellsOf P n) fs.toList
    | _ => none

def sizeB (P : Program) (t : TypeId) : Option Nat := (P.info? t).map (·.size)
def aggB (P : Program) (t : TypeId) : Option Bool :=
  match P.underlying t with
  | some (.struct _) => some true
  | some (.array _ _) => some true
  | some _ => some false
  | none => none
def zeroB (P : Program) (t : TypeId) : Option (List Value) := (P.info? t).bind fun i => i.zero.map fun z => z.cells.toList

/-- The zero cells are the type's own. -/
def zeroFits : Ty → Value → Bool
  | .int k, .int j n => k == j && n == 0
  | .bool, .bool b => !b
  | .str, .string s => s.size == 0
  | .row _, .slice none 0 0 => true
  | _, _ => false
def zerosFit : List Ty → List Value → Bool
  | [], [] => true
  | t :: ts, v :: vs => zeroFits t v && zerosFit ts vs
  | _, _ => false

/-- An element's type, with its number of bytes: the table's row has been looked at. -/
def elemB (P : Program) (t : TypeId) : Option (Ty × Nat) :=
  (cellsOf P 6 t).bind fun ts => (P.info? t).bind fun i => i.zero.bind fun z =>
    if zerosFit ts z.cells.toList && i.size == ts.length && Nat.blt 0 ts.length && Nat.blt 0 i.bytes && Nat.ble i.bytes 4096 then some (Ty.ofList ts, i.bytes) else none

/-- The tables that package-level variables hold: the variable's number, the kind of the elements, the elements. -/
def TAB : List (Nat × IntKind × List Int) := []
def tabAt : List (Nat × IntKind × List Int) → Nat → Option (IntKind × List Int)
  | [], _ => none
  | (b, x) :: r, n => match Nat.beq n b with | true => some x | false => tabAt r n
def sliceB (P : Program) (t : TypeId) : Option TypeId :=
  match P.underlying t with
  | some (.slice e) => some e
  | _ => none

end Go.Proofs.YtmbmapbdbbnaeaaT
