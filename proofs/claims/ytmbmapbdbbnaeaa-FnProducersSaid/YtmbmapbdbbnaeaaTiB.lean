/- The value semantics: the operations. -/
import Derived.Test.YtmbmapbdbbnaeaaTiA
set_option linter.unusedVariables false
set_option linter.unusedSimpArgs false
namespace Go.Proofs.YtmbmapbdbbnaeaaT
open Go
noncomputable section

def acOf : Value → Option AC
  | .int k n => some (.v (.int k) n)
  | .bool b => some (.v .bool b)
  | .string s => some (.v .str s)
  | .slice none 0 0 => some .nil
  | _ => none
def acsOf : List Value → Option (List AC)
  | [] => some []
  | v :: vs => (acOf v).bind fun c => (acsOf vs).bind fun cs => some (c :: cs)

def evalS (S : St) : Operand → Option AV
  | .tmp t => S.tmps t
  | .const (.agg cs) => (acsOf cs.toList).bind fun l => some (.w (.agg l))
  | .const v => (acOf v).bind fun c => some (.w (.c c))
  | .func f => some (.fn f [])
  | .global _ => none

def evalC (S : St) (x : Operand) : Option AC :=
  match evalS S x with
  | some (.w (.c c)) => some c
  | _ => none
def evalW (S : St) (x : Operand) : Option AW :=
  match evalS S x with
  | some (.w w) => some w
  | _ => none
def AW.cells : AW → List AC
  | .c x => [x]
  | .agg l => l
def evalAs (S : St) (u : Ty) (x : Operand) : Option u.T := (evalC S x).bind (asT S u)

/-- What a row is read as: its type, its content. -/
def rowOf (S : St) : AC → Option ((t : Ty) × List t.T)
  | .v (.row t) l => some ⟨t, l⟩
  | .own tok => (S.rows tok).bind fun r => viewRow r.t r.l
  | _ => none

/-- Rows of the state that become a row's own. -/
def takeOwn (S : St) : List AC → Option (List Nat)
  | [] => some []
  | .own k :: r => match S.rows k with
    | some q => match q.own && !q.t.hasRow && !q.t.isDeep with
      | true => (takeOwn S r).bind fun l => match l.contains k with | true => none | false => some (k :: l)
      | false => none
    | none => none
  | .nil :: r => takeOwn S r
  | .v t _ :: r => match t.hasRow with | true => none | false => takeOwn S r
  | _ => none
def drops : List Nat → List (Nat × Option RowSt)
  | [] => []
  | k :: l => (k, none) :: drops l
def deepB (S : St) (t : Ty) : Bool := S.deep && (t.hasRow && t.one)
def plainCells : List AC → Bool
  | [] => true
  | .v t _ :: r => !t.hasRow && plainCells r
  | _ => false
/-- A deep row with another content; nothing of it is lent. -/
def deepSet : (t : Ty) → (List t.T → List t.T) → List t.T → Option RowSt
  | .deep h t, f, x => match h with
    | some ⟨true, _, _, _⟩ => none
    | _ => some ⟨true, .deep none t, f x⟩
  | _, _, _ => none

structure Out where
  ok : Bool
  d : Delta

def vI (k : IntKind) (n : Int) : Option Out := some ⟨true, { val := .w (.c (.v (.int k) n)) }⟩
def vB (b : Bool) : Option Out := some ⟨true, { val := .w (.c (.v .bool b)) }⟩

def vC (ok : Bool) (k : IntKind) (n : Int) : Option Out := some ⟨ok, { val := .w (.c (.v (.int k) n)) }⟩
def intOp (op : BinOp) (k : IntKind) (a b : Int) : Option Out :=
  match op with
  | .add => vI k (iAdd k a b)
  | .sub => vI k (iSub k a b)
  | .mul => vI k (iMul k a b)
  | .quo => vC (cNz b) k (iQuo k a b)
  | .rem => vC (cNz b) k (iRem a b)
  | .and => vI k (iBit .and k a b)
  | .or => vI k (iBit .or k a b)
  | .xor => vI k (iBit .xor k a b)
  | .andNot => vI k (iBit .andNot k a b)
  | .eql => vB (iEq a b)
  | .neq => vB (iNe a b)
  | .lss => vB (iLt a b)
  | .leq => vB (iLe a b)
  | .gtr => vB (iLt b a)
  | .geq => vB (iLe b a)
  | _ => none
def shOp (op : BinOp) (k : IntKind) (a b : Int) : Option Out :=
  match op with
  | .shl => vC (cNn b) k (iShl k a b)
  | .shr => vC (cNn b) k (iShr k a b)
  | _ => none

def binB (op : BinOp) (isBool : Bool) : AC → AC → Option Out
  | .v (.int k) a, .v (.int j) b =>
    match op with
    | .shl => shOp .shl k a b
    | .shr => shOp .shr k a b
    | _ => if k = j then intOp op k a b else none
  | .v .bool a, .v .bool b =>
    match isBool, op with
    | true, .eql => vB (bEq a b)
    | true, .neq => vB (bNe a b)
    | _, _ => none
  | .v .str a, .v .str b =>
    match op with
    | .eql => vB (sEq a b)
    | .neq => vB (sNe a b)
    | _ => none
  | _, _ => none

def partOff (P : Program) (s : TypeId) (f : Nat) : Option (Nat × TypeId) :=
  match P.underlying s with
  | some (.struct fs) => (fs[f]?).bind fun fd => some (fd.offset, fd.type)
  | _ => none

/-- Some cells of many. -/
def window (l : List AC) (o n : Nat) : Option (List AC) := if Nat.ble (o + n) l.length then some ((l.drop o).take n) else none
def splice (l : List AC) (o : Nat) (vs : List AC) : Option (List AC) :=
  if Nat.ble (o + vs.length) l.length then some (l.take o ++ (vs ++ l.drop (o + vs.length))) else none
def shut (agg : Bool) (l : List AC) : Option AW :=
  if agg then some (.agg l) else match l with
    | [c] => some (.c c)
    | _ => none
/-- A row's own rows: what one of its cells is read as. -/
def deepLoad (ag : Bool) (id k : Nat) (i : Int) (o : Nat) (l : List AC) : (t : Ty) → List t.T → Option (AW × List (Nat × Option RowSt))
  | .deep h t, x => match plainCells l with
    | true => (shut ag l).bind fun w => some (w, [])
    | false => match h, l with
      | none, [.v (.row u) _] => match ag with
        | true => none
        | false => some (.c (.inn k id u.size), [(k, some ⟨true, .deep (some ⟨false, i, o, id⟩) t, x⟩)])
      | _, _ => none
  | _, _ => none
def fillC (place : Nat → Option (Nat × Nat)) (cells : List AC) : List (Nat × AW) → Option (List AC)
  | [] => some cells
  | (i, v) :: r => (place i).bind fun p => if Nat.beq v.cells.length p.2 then (splice cells p.1 v.cells).bind fun c => fillC place c r else none
def partsS (S : St) : List (Nat × Operand) → Option (List (Nat × AW))
  | [] => some []
  | (i, x) :: r => (evalW S x).bind fun v => (partsS S r).bind fun l => some ((i, v) :: l)
/-- Cells as elements. -/
def elems (S : St) (t : Ty) : Nat → List AC → Option (List t.T)
  | 0, [] => some []
  | 0, _ => none
  | n + 1, l => (parse S t (l.take t.size)).bind fun x => (elems S t n (l.drop t.size)).bind fun r => some (x :: r)
def repC (z : List AC) : Nat → List AC
  | 0 => []
  | n + 1 => z ++ repC z n

def placesB (P : Program) : List Field → Option (List (Nat × Nat))
  | [] => some []
  | f :: fs => (sizeB P f.type).bind fun n => (placesB P fs).bind fun r => some ((f.offset, n) :: r)

/-- Two structs of numbers and answers, field by field. -/
def flatB (P : Program) : List Field → Nat → List AC → Bool
  | [], _, [] => true
  | f :: fs, off, .v (.int k) _ :: l => Nat.beq f.offset off && !(f.name == "_") && (match P.underlying f.type with | some (.int j) => decide (j = k) | _ => false) && flatB P fs (off + 1) l
  | f :: fs, off, .v .bool _ :: l => Nat.beq f.offset off && !(f.name == "_") && (match P.underlying f.type with | some .bool => true | _ => false) && flatB P fs (off + 1) l
  | _, _, _ => false
def eqCells : List AC → List AC → Option Bool
  | [], [] => some true
  | .v (.int k) a :: l, .v (.int j) b :: m => if k = j then (eqCells l m).bind fun r => some (bAnd (iEq a b) r) else none
  | .v .bool a :: l, .v .bool b :: m => (eqCells l m).bind fun r => some (bAnd (bEq a b) r)
  | _, _ => none
def aggEq (P : Program) (op : BinOp) (t : TypeId) (l m : List AC) : Option Out :=
  match P.underlying t with
  | some (.struct fs) =>
    match flatB P fs.toList 0 l && flatB P fs.toList 0 m && !P.stoodInHeld t with
    | true => (eqCells l m).bind fun r => match op with
      | .eql => vB r
      | .neq => vB (bNot r)
      | _ => none
    | false => none
  | _ => none

/-- An operation that calls no function. -/
def opB (P : Program) (S : St) (id : Nat) : Op → Option Out
  | .move x | .assign x => match x with
    | .const (.pointer none) => some ⟨true, { val := .any }⟩
    | x => (evalS S x).bind fun v => some ⟨true, { val := v }⟩
  | .pick c a b => (evalC S c).bind fun c => match c with
    | .v .bool c => (evalS S a).bind fun a => (evalS S b).bind fun b => some ⟨true, { val := match c with | true => a | false => b }⟩
    | _ => none
  | .alloc t => (zeroB P t).bind fun z => (acsOf z).bind fun cs => some ⟨true, { val := .w (.c (.ptr id 0)), boxes := [(id, cs)] }⟩
  | .box _ x => (evalW S x).bind fun w => some ⟨true, { val := .w (.c (.ptr id 0)), boxes := [(id, w.cells)] }⟩
  | .build t parts => match P.underlying t with
    | some (.struct fs) => (zeroB P t).bind fun z => (acsOf z).bind fun cs => (partsS S parts.toList).bind fun ps => (placesB P fs.toList).bind fun pl =>
        (fillC (fun i => pl[i]?) cs ps).bind fun l => some ⟨true, { val := .w (.agg l) }⟩
    | _ => none
  | .buildSlice t len parts => (sliceB P t).bind fun e => (elemB P e).bind fun eb => (zeroB P e).bind fun z => (acsOf z).bind fun cs => (partsS S parts.toList).bind fun ps =>
      if Nat.ble (len * eb.1.size) 65536 then
      (fillC (fun i => some (i * eb.1.size, eb.1.size)) (repC cs len) ps).bind fun l => (elems S eb.1 len l).bind fun r =>
        match deepB S eb.1 with
        | true => (takeOwn S l).bind fun ks => some ⟨true, { val := .w (.c (.own id)), rows := drops ks ++ [(id, some ⟨true, .deep none eb.1, r⟩)] }⟩
        | false => some ⟨true, { val := .w (.c (.own id)), rows := freeze S (toks l) ++ [(id, some ⟨true, eb.1, r⟩)] }⟩ else none
  | .load t a => (evalC S a).bind fun a => (sizeB P t).bind fun n => (aggB P t).bind fun ag => match a with
    | .ptr b o => (S.boxes b).bind fun cs => (window cs o n).bind fun l => (shut ag l).bind fun w => some ⟨true, { val := .w w }⟩
    | .eS u x o => (window (flat u x) o n).bind fun l => (shut ag l).bind fun w => some ⟨true, { val := .w w }⟩
    | .eO k i o => (S.rows k).bind fun r => (window (flat r.t (rGet r.t.dflt r.l i)) o n).bind fun l => match r.own && r.t.isDeep with
      | true => (deepLoad ag id k i o l r.t r.l).bind fun p => some ⟨true, { val := .w p.1, rows := p.2 }⟩
      | false => (shut ag l).bind fun w => some ⟨true, { val := .w w }⟩
    | _ => none
  | .store t a x => (evalC S a).bind fun a => (evalW S x).bind fun w => (sizeB P t).bind fun n =>
      if Nat.beq w.cells.length n then match a with
      | .ptr b o => (S.boxes b).bind fun cs => (splice cs o w.cells).bind fun l => some ⟨true, { val := .undef, boxes := [(b, l)] }⟩
      | .eO k i o => (S.rows k).bind fun r => (splice (flat r.t (rGet r.t.dflt r.l i)) o w.cells).bind fun l => (parse S r.t l).bind fun x =>
          if r.own && !((toks w.cells).contains k) then match r.t.isDeep with
            | true => (takeOwn S w.cells).bind fun ks => (deepSet r.t (fun l => rSet l i x) r.l).bind fun q => some ⟨true, { val := .undef, rows := drops ks ++ [(k, some q)] }⟩
            | false => some ⟨true, { val := .undef, rows := freeze S (toks w.cells) ++ [(k, some { r with l := rSet r.l i x })] }⟩ else none
      | _ => none else none
  | .nilCheck x => (evalC S x).bind fun c => match c with
    | .ptr b o => some ⟨true, { val := .w (.c (.ptr b o)) }⟩
    | .eS u y o => some ⟨true, { val := .w (.c (.eS u y o)) }⟩
    | .eO k i o => some ⟨true, { val := .w (.c (.eO k i o)) }⟩
    | _ => none
  | .binOp op xt x y _ => match evalS S x, evalS S y with
    | some (.w (.agg l)), some (.w (.agg m)) => aggEq P op xt l m
    | _, _ => (evalC S x).bind fun a => (evalC S y).bind fun b => binB op (match P.underlying xt with | some .bool => true | _ => false) a b
  | .unOp op _ x => (evalC S x).bind fun a => match op, a with
    | .not, .v .bool b => vB (bNot b)
    | .neg, .v (.int k) n => vI k (iSub k 0 n)
    | _, _ => none
  | .convert s t x => (evalC S x).bind fun a => match P.underlying s, P.underlying t, a with
    | some _, some (.int k), .v (.int _) n => vI k (iCnv k n)
    | _, _, _ => none
  | .makeSlice t l c => (sliceB P t).bind fun e => (elemB P e).bind fun eb => (evalC S l).bind fun l => (evalC S c).bind fun c => match l, c with
    | .v (.int .i64) l, .v (.int .i64) c =>
      match deepB S eb.1 with
      | true => some ⟨cMake l c eb.2, { val := .w (.c (.own id)), rows := [(id, some ⟨true, .deep none eb.1, rRep eb.1.dflt l⟩)] }⟩
      | false => some ⟨cMake l c eb.2, { val := .w (.c (.own id)), rows := [(id, some ⟨true, eb.1, rRep eb.1.dflt l⟩)] }⟩
    | _, _ => none
  | .slice t x lo hi mx => (sliceB P t).bind fun e => (elemB P e).bind fun eb => (evalC S x).bind fun c => (rowOf S c).bind fun r =>
      if decide (r.1 = eb.1) && mx.isNone then
      (match lo with | some y => evalAs S (.int .i64) y | none => some 0).bind fun l =>
      (match hi with | some y => evalAs S (.int .i64) y | none => some (rLen r.2)).bind fun h =>
        some ⟨cSub l h (rLen r.2),
          { val := .w (.c (.v (.row r.1) (rSub r.2 l h))), rows := freeze S (toks [c]) }⟩ else none
  | .fieldAddr s x f => (evalC S x).bind fun c => (partOff P s f).bind fun p => (sizeB P p.2).bind fun n =>
      if Nat.blt 0 n then match c with
      | .ptr b o => some ⟨true, { val := .w (.c (.ptr b (o + p.1))) }⟩
      | .eS u y o => some ⟨true, { val := .w (.c (.eS u y (o + p.1))) }⟩
      | .eO k i o => some ⟨true, { val := .w (.c (.eO k i (o + p.1))) }⟩
      | _ => none else none
  | .field s x f => (evalW S x).bind fun w => (partOff P s f).bind fun p => (sizeB P p.2).bind fun n => (aggB P p.2).bind fun ag => match w with
    | .agg cs => (window cs p.1 n).bind fun l => (shut ag l).bind fun w => some ⟨true, { val := .w w }⟩
    | _ => none
  | .indexAddr t x i => (sliceB P t).bind fun e => (elemB P e).bind fun eb => (evalC S x).bind fun c => (evalC S i).bind fun i => match c, i with
    | .v (.row u) l, .v (.int _) i => if u = eb.1 then some ⟨cIdx i (rLen l), { val := .w (.c (.eS u (rGet u.dflt l i) 0)) }⟩ else none
    | .own k, .v (.int _) i => (S.rows k).bind fun r =>
        if r.t.base = eb.1 then some ⟨cIdx i (rLen r.l), { val := .w (.c (.eO k i 0)) }⟩ else none
    | _, _ => none
  | .index t x i => (evalC S x).bind fun a => (evalC S i).bind fun i => match P.underlying t, a, i with
    | some .string, .v .str s, .v (.int _) i => some ⟨cIdx i (sLen s), { val := .w (.c (.v (.int .u8) (sGet s i))) }⟩
    | _, _, _ => none
  | .extract x n => match evalS S x with
    | some (.tup l) => (l[n]?).bind fun w => some ⟨true, { val := .w w }⟩
    | _ => none
  | .makeFunc fn first caps => match fn, first.toList with
    | .func f, [] => (partsS S (caps.toList.map fun x => (0, x))).bind fun l => some ⟨true, { val := .fn f (l.map (·.2)) }⟩
    | _, _ => none
  | _ => none

def srcB (S : St) (u : Ty) (b : AC) : Option (List u.T) :=
  match b with
  | .nil => some []
  | .own k => match S.rows k with
    | some r => match r.own && r.t.isDeep with
      | true => none
      | false => asT S (.row u) b
    | none => none
  | _ => asT S (.row u) b
/-- A deep row of the state, by its number. -/
def deepOf (S : St) (t : Ty) : AC → Option (Nat × List t.T)
  | .own k => match S.rows k with
    | some r => match r.own with
      | true => (cast? (.row r.t) (.row (.deep none t)) r.l).bind fun l => some (k, l)
      | false => none
    | none => none
  | _ => none
/-- A builtin. -/
def builtinB (P : Program) (S : St) (id : Nat) (b : Builtin) (ts : List TypeId) (xs : List Operand) : Option Out :=
  match b, ts, xs with
  | .len, [t], [x] => (evalC S x).bind fun c => match c with
    | .nil => (sliceB P t).bind fun _ => vI .i64 0
    | .v .str s => (match P.underlying t with | some .string => some () | _ => none).bind fun _ => vI .i64 (sLen s)
    | _ => (sliceB P t).bind fun _ => (rowOf S c).bind fun r => vI .i64 (rLen r.2)
  | .min, _, [x, y] => (evalC S x).bind fun a => (evalC S y).bind fun b => match a, b with
    | .v (.int k) a, .v (.int j) b => if k = j then vI k (iMin a b) else none
    | _, _ => none
  | .max, _, [x, y] => (evalC S x).bind fun a => (evalC S y).bind fun b => match a, b with
    | .v (.int k) a, .v (.int j) b => if k = j then vI k (iMax a b) else none
    | _, _ => none
  | .append, [t, u], [x, y] => (sliceB P t).bind fun e => (sliceB P u).bind fun e' => (elemB P e).bind fun eb =>
      if Nat.beq e e' then
      (evalC S x).bind fun a => (evalC S y).bind fun b => match deepB S eb.1 with
      | true => (deepOf S eb.1 b).bind fun q => match a with
        | .nil => some ⟨cLen (rLen q.2) eb.2, { val := .w (.c (.own id)), rows := [(q.1, none), (id, some ⟨true, .deep none eb.1, q.2⟩)] }⟩
        | _ => (deepOf S eb.1 a).bind fun p => match Nat.beq p.1 q.1 with
          | true => none
          | false => some ⟨cLen (rLen (rApp p.2 q.2)) eb.2, { val := .w (.c (.own id)), rows := [(p.1, none), (q.1, none), (id, some ⟨true, .deep none eb.1, rApp p.2 q.2⟩)] }⟩
      | false => (srcB S eb.1 b).bind fun m => match a with
      | .nil => some ⟨cLen (rLen m) eb.2, { val := .w (.c (.own id)), rows := [(id, some ⟨true, eb.1, m⟩)] }⟩
      | .own k => (S.rows k).bind fun r => (cast? (.row r.t) (.row eb.1) r.l).bind fun l =>
          if r.own && !((toks [b]).contains k) then
          some ⟨cLen (rLen (rApp l m)) eb.2, { val := .w (.c (.own id)), rows := [(k, none), (id, some ⟨true, eb.1, rApp l m⟩)] }⟩ else none
      | _ => none else none
  | _, _, _ => none

/-- Parts of rows, kept as such. -/
def rowTok : AC → Option (Nat × Option Int)
  | .own k => some (k, none)
  | .ownR k m => some (k, some m)
  | _ => none
def roomOf (n : Int) : Option Int → Int
  | some m => m
  | none => n
def ownPlain (S : St) (k : Nat) : Option RowSt := (S.rows k).bind fun r => match r.own && !r.t.isDeep with | true => some r | false => none
def inSlice (P : Program) (S : St) (t : TypeId) (x : Operand) (lo hi mx : Option Operand) : Option Out :=
  (sliceB P t).bind fun e => (elemB P e).bind fun eb => (evalC S x).bind fun c => (rowTok c).bind fun q => (ownPlain S q.1).bind fun r => if r.t = eb.1 then
    (match lo with | some y => evalAs S (.int .i64) y | none => some 0).bind fun l =>
    (match hi with | some y => evalAs S (.int .i64) y | none => some (rLen r.l)).bind fun h =>
      match mx with
      | none => some ⟨cSub l h (roomOf (rLen r.l) q.2), { val := .w (.c (.sub q.1 l h)) }⟩
      | some z => match hi.isSome with
        | true => (evalAs S (.int .i64) z).bind fun m => some ⟨bAnd (cSub l h m) (cSub 0 m (rLen r.l)), { val := .any }⟩
        | false => none
      else none
def inAppend (P : Program) (S : St) (id : Nat) (t u : TypeId) (x y : Operand) : Option Out :=
  (sliceB P t).bind fun e => (sliceB P u).bind fun e' => (elemB P e).bind fun eb => match Nat.beq e e' with
    | false => none
    | true => (evalC S x).bind fun a => (evalC S y).bind fun b => match a, b with
      | .sub k l h, .sub k' l' h' => match Nat.beq k k' with
        | true => (ownPlain S k).bind fun r => if r.t = eb.1 then
            some ⟨bAnd (iEq l 0) (bAnd (iLe h l') (bAnd (iLe h' (rLen r.l)) (cLen (rLen (rApp (rSub r.l 0 h) (rSub r.l l' h'))) eb.2))), { val := .w (.c (match S.inpl with | 1 => .own id | _ => .ownR id (rLen r.l))), rows := [(k, none), (id, some ⟨true, r.t, rApp (rSub r.l 0 h) (rSub r.l l' h')⟩)] }⟩ else none
        | false => none
      | _, _ => none
def inClear (P : Program) (S : St) (t : TypeId) (x : Operand) : Option Out :=
  (sliceB P t).bind fun e => (elemB P e).bind fun eb => (evalC S x).bind fun c => match c with
    | .sub k l _ => (ownPlain S k).bind fun r => if r.t = eb.1 then some ⟨iLe (rLen r.l) l, { val := .any }⟩ else none
    | _ => none
def inLen (P : Program) (S : St) (t : TypeId) (x : Operand) : Option Out :=
  (sliceB P t).bind fun _ => (evalC S x).bind fun c => match c with
    | .ownR k _ => (ownPlain S k).bind fun r => vI .i64 (rLen r.l)
    | _ => none
/-- An element of a table. -/
def inTab (P : Program) (S : St) (t : TypeId) (g : Nat) (i : Operand) : Option Out :=
  match P.underlying t, tabAt TAB g, evalC S i with
  | some (.array n e), some (k, l), some (.v (.int _) j) => match sizeB P e with
    | some 1 => match Nat.beq n l.length with
      | true => some ⟨cTab j (rLen l), { val := .w (.c (.eS (.int k) (rGet (0 : Int) l j) 0)) }⟩
      | false => none
    | _ => none
  | _, _, _ => none
/-- An operation on parts of rows. -/
def inOp (P : Program) (S : St) (id : Nat) : Op → Option Out
  | .slice t x lo hi mx => inSlice P S t x lo hi mx
  | .indexAddr t (.global g) i => inTab P S t g i
  | .call c => match c.callee with
    | .builtin b => match b, c.argTypes.toList, c.args.toList with
      | .append, [t, u], [x, y] => inAppend P S id t u x y
      | .clear, [t], [x] => inClear P S t x
      | .len, [t], [x] => inLen P S t x
      | _, _, _ => none
    | _ => none
  | _ => none
def inB (P : Program) (S : St) (id : Nat) (o : Op) : Option Out :=
  match S.inpl with
  | 0 => none
  | _ + 1 => inOp P S id o

end
end Go.Proofs.YtmbmapbdbbnaeaaT
