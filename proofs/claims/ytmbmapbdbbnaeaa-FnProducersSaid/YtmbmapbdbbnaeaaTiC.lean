/- The value semantics: calls, regions, code, functions. -/
import Derived.Test.YtmbmapbdbbnaeaaTiB
set_option linter.unusedVariables false
set_option linter.unusedSimpArgs false
namespace Go.Proofs.YtmbmapbdbbnaeaaT
open Go
noncomputable section

/-- One cell of a state that is told by its leaves: a value, or a row that may be written. -/
inductive CSh where
  | val (t : Ty)
  | own (t : Ty)
def CSh.ty : CSh → Ty
  | .val t => t
  | .own t => .row t
/-- How a temporary is made of cells. -/
inductive LT where
  | w (g : Bool) (n : Nat)
  | tup (ws : List (Bool × Nat))
  | ptr (b o : Nat)
  | fn (f : FuncId) (caps : List (Bool × Nat))
  | fnp (f : FuncId) (b o : Nat)
  | fnp2 (f : FuncId) (b c : Nat)
def capsN : List (Bool × Nat) → Nat
  | [] => 0
  | (_, n) :: r => n + capsN r
def LT.n : LT → Nat
  | .w _ n => n
  | .tup ws => capsN ws
  | .ptr _ _ => 0
  | .fn _ caps => capsN caps
  | .fnp _ _ _ => 0
  | .fnp2 _ _ _ => 0
/-- How a state is made of cells: the temporaries', then the variables', then rows that nothing names. -/
structure Lay where
  tmps : List (Nat × LT)
  boxes : List (Nat × Nat)

def mkW (g : Bool) (l : List AC) : AW := match g with
  | true => .agg l
  | false => match l with
    | [c] => .c c
    | l => .agg l
def mkWs : List (Bool × Nat) → List AC → List AW
  | [], _ => []
  | (g, n) :: r, cs => mkW g (cs.take n) :: mkWs r (cs.drop n)
def LT.av : LT → List AC → AV
  | .w g _, cs => .w (mkW g cs)
  | .tup ws, cs => .tup (mkWs ws cs)
  | .ptr b o, _ => .w (.c (.ptr b o))
  | .fn f caps, cs => .fn f (mkWs caps cs)
  | .fnp f b o, _ => .fn f [.c (.ptr b o)]
  | .fnp2 f b c, _ => .fn f [.c (.ptr b 0), .c (.ptr c 0)]
def mkAt : Nat → List CSh → List AC → List AC
  | j, .val _ :: ss, c :: cs => c :: mkAt (j + 1) ss cs
  | j, .own _ :: ss, _ :: cs => .own j :: mkAt (j + 1) ss cs
  | _, _, _ => []
def layTmps : List (Nat × LT) → List AC → Nat → Option AV
  | [], _, _ => none
  | (t, l) :: r, cs, n => match Nat.beq n t with
    | true => some (l.av (cs.take l.n))
    | false => layTmps r (cs.drop l.n) n
def layTmpsN : List (Nat × LT) → Nat
  | [] => 0
  | (_, l) :: r => l.n + layTmpsN r
def layBoxes : List (Nat × Nat) → List AC → Nat → Option (List AC)
  | [], _, _ => none
  | (b, k) :: r, cs, n => match Nat.beq n b with
    | true => some (cs.take k)
    | false => layBoxes r (cs.drop k) n
def layRows (ss : List CSh) (fl : List AC) (j : Nat) : Option RowSt :=
  match ss[j]?, fl[j]? with
  | some (.own _), some (.v (.row t) l) => some ⟨true, t, l⟩
  | _, _ => none
def laySt (L : Lay) (ss : List CSh) (fl all : List AC) : St :=
  { tmps := layTmps L.tmps all, boxes := layBoxes L.boxes (all.drop (layTmpsN L.tmps)), rows := layRows ss fl, used := [] }

/-- A whole value's cells, if it has the shape. -/
def fitW (g : Bool) (n : Nat) : AW → Option (List AC)
  | .c x => match g with
    | true => none
    | false => match Nat.beq n 1 with | true => some [x] | false => none
  | .agg l => match g with
    | true => match Nat.beq l.length n with | true => some l | false => none
    | false => none
def fitWs : List (Bool × Nat) → List AW → Option (List AC)
  | [], [] => some []
  | (g, n) :: r, w :: ws => (fitW g n w).bind fun a => (fitWs r ws).bind fun b => some (a ++ b)
  | _, _ => none
/-- The rows that stay writable, the others that are named. -/
def splitToks : List CSh → List AC → Option (List Nat × List Nat)
  | [], [] => some ([], [])
  | .val _ :: ss, .own k :: cs => (splitToks ss cs).bind fun p => some (p.1, k :: p.2)
  | .val _ :: ss, _ :: cs => splitToks ss cs
  | .own _ :: ss, .own k :: cs => (splitToks ss cs).bind fun p => some (k :: p.1, p.2)
  | .own t :: ss, .nil :: cs => match Nat.blt 0 t.size with | true => splitToks ss cs | false => none
  | _, _ => none
def nodupB : List Nat → Bool
  | [] => true
  | k :: l => !l.contains k && nodupB l
/-- Every row among these is kept by the state, and may be written. -/
def ownsAll (S : St) (ks : List Nat) : Bool := ks.all fun k => match S.rows k with | some r => r.own | none => false
def CSh.good : CSh → Bool
  | .own (.deep h t) => (match h with | none => true | some _ => false) && t.one
  | .own (.part t) => t.one
  | _ => true
def ownTys (S : St) : List CSh → List AC → Bool
  | .own t :: ss, .own k :: cs => (match S.rows k with | some r => decide (r.t = t) | none => false) && ownTys S ss cs
  | _ :: ss, _ :: cs => ownTys S ss cs
  | _, _ => true
def shapesTy (ss : List CSh) : Ty := Ty.ofList (ss.map CSh.ty)
/-- The leaves out of the cells. -/
def leaves (S : St) (ss : List CSh) (cs : List AC) : Option (shapesTy ss).T :=
  (splitToks ss cs).bind fun p =>
    match nodupB p.1 && p.1.all (fun k => !p.2.contains k) && ownsAll S p.1 && Nat.ble ss.length 1000 && (ss.all (fun s => s.ty.cell && s.good) && ownTys S ss cs) with
    | true => parse S (shapesTy ss) cs
    | false => none

/-- A parameter's shape: read only; with rows that are written; a pointer to a variable; a function; a function that captured one variable. -/
inductive PSh where
  | w (g : Bool) (ts : List Ty)
  | mut (g : Bool) (ts : List Ty)
  | ref (ts : List CSh)
  | fn (f : FuncId) (caps : List (Bool × List Ty))
  | fnr (f : FuncId) (ts : List CSh)
  /-- a function that captured two variables -/
  | fnr2 (f : FuncId) (ts us : List CSh)
  /-- with rows that are given up -/
  | eat (g : Bool) (ts : List CSh)
structure Sig where
  f : FuncId
  ins : List PSh
  outs : List (Bool × List CSh)
def mutSh : Ty → CSh
  | .row t => match t.hasRow with
    | true => .own (.deep none t)
    | false => .own t
  | t => .val t
def capShs : List (Bool × List Ty) → List CSh
  | [] => []
  | (_, ts) :: r => ts.map .val ++ capShs r
def inShs : List PSh → List CSh
  | [] => []
  | .w _ ts :: r => ts.map .val ++ inShs r
  | .mut _ ts :: r => ts.map mutSh ++ inShs r
  | .ref _ :: r => inShs r
  | .fn _ caps :: r => capShs caps ++ inShs r
  | .fnr _ _ :: r => inShs r
  | .fnr2 _ _ _ :: r => inShs r
  | .eat _ ts :: r => ts ++ inShs r
/-- The same; what is given up does not come back. -/
def keepShs : List PSh → List CSh
  | [] => []
  | .w _ ts :: r => ts.map .val ++ keepShs r
  | .mut _ ts :: r => ts.map mutSh ++ keepShs r
  | .ref _ :: r => keepShs r
  | .fn _ caps :: r => capShs caps ++ keepShs r
  | .fnr _ _ :: r => keepShs r
  | .fnr2 _ _ _ :: r => keepShs r
  | .eat _ ts :: r => ts.map (fun s => .val s.ty) ++ keepShs r
def refShs : List PSh → List CSh
  | [] => []
  | .ref ts :: r => ts ++ refShs r
  | .fnr _ ts :: r => ts ++ refShs r
  | .fnr2 _ ts us :: r => ts ++ (us ++ refShs r)
  | .w _ _ :: r => refShs r
  | .mut _ _ :: r => refShs r
  | .fn _ _ :: r => refShs r
  | .eat _ _ :: r => refShs r
def PSh.lt (i : Nat) : PSh → LT
  | .w g ts => .w g ts.length
  | .mut g ts => .w g ts.length
  | .ref _ => .ptr (2 * i) 0
  | .fn f caps => .fn f (caps.map fun c => (c.1, c.2.length))
  | .fnr f _ => .fnp f (2 * i) 0
  | .fnr2 f _ _ => .fnp2 f (2 * i) (2 * i + 1)
  | .eat g ts => .w g ts.length
def inTmps (i : Nat) : List PSh → List (Nat × LT)
  | [] => []
  | p :: r => (i, p.lt i) :: inTmps (i + 1) r
def refBoxes (i : Nat) : List PSh → List (Nat × Nat)
  | [] => []
  | .ref ts :: r => (2 * i, ts.length) :: refBoxes (i + 1) r
  | .fnr _ ts :: r => (2 * i, ts.length) :: refBoxes (i + 1) r
  | .fnr2 _ ts us :: r => (2 * i, ts.length) :: (2 * i + 1, us.length) :: refBoxes (i + 1) r
  | .w _ _ :: r => refBoxes (i + 1) r
  | .mut _ _ :: r => refBoxes (i + 1) r
  | .fn _ _ :: r => refBoxes (i + 1) r
  | .eat _ _ :: r => refBoxes (i + 1) r
def Sig.shs (s : Sig) : List CSh := inShs s.ins ++ refShs s.ins
def Sig.lay (s : Sig) : Lay := ⟨inTmps 0 s.ins, refBoxes 0 s.ins⟩
def Sig.inTy (s : Sig) : Ty := shapesTy s.shs
def outShs : List (Bool × List CSh) → List CSh
  | [] => []
  | (_, os) :: r => os ++ outShs r
def ownShs : List CSh → List CSh
  | [] => []
  | .own t :: r => .own t :: ownShs r
  | _ :: r => ownShs r
/-- What comes back: the results, the variables, the rows. -/
def Sig.back (s : Sig) : List CSh := outShs s.outs ++ (refShs s.ins ++ ownShs (keepShs s.ins))
def outLT : List (Bool × List CSh) → LT
  | [(g, os)] => .w g os.length
  | l => .tup (l.map fun o => (o.1, o.2.length))
def Sig.outLay (s : Sig) : Lay := ⟨[(0, outLT s.outs)], refBoxes 0 s.ins⟩
def Sig.outTy (s : Sig) : Ty := shapesTy s.back
structure Spec where
  sig : Sig
  fn : Nat → sig.inTy.T → Option sig.outTy.T
  /-- what comes back is a pointer to a new variable that holds the result -/
  boxed : Bool := false
  /-- the one variable that is handed holds the same row in the end as in the beginning -/
  stay : Bool := false
  /-- it deletes one element of a row of such elements -/
  del : Option Ty := none
  /-- it gives slices.Chunk's function value: the closure, the elements' type -/
  chunk : Option (FuncId × Ty) := none
def boxedOk (s : Sig) : Bool := (refBoxes 0 s.ins).isEmpty && (ownShs (inShs s.ins)).isEmpty && (outShs s.outs).all (fun c => match c with | .val _ => true | .own _ => false) &&
  (match s.outs with | [(true, _)] => true | _ => false)

def boxAt : List Nat → List (Nat × Nat) → Nat → Option Nat
  | c :: cs, (b, _) :: r, x => match Nat.beq x b with | true => some c | false => boxAt cs r x
  | _, _, _ => none
def gotT (bs : List Nat) (L : List (Nat × Nat)) : LT → Option AV → Option (List AC)
  | .w g n, some (.w x) => fitW g n x
  | .tup ws, some (.tup xs) => fitWs ws xs
  | .ptr b o, some (.w (.c (.ptr c o'))) => (boxAt bs L b).bind fun c' => match Nat.beq c c' && Nat.beq o o' with | true => some [] | false => none
  | .fn f caps, some (.fn g ws) => match Nat.beq f g with | true => fitWs caps ws | false => none
  | .fnp f b o, some (.fn g [.c (.ptr c o')]) => (boxAt bs L b).bind fun c' => match Nat.beq f g && (Nat.beq c c' && Nat.beq o o') with | true => some [] | false => none
  | .fnp2 f b b2, some (.fn g [.c (.ptr c o), .c (.ptr d o')]) => (boxAt bs L b).bind fun c' => (boxAt bs L b2).bind fun d' => match Nat.beq f g && (Nat.beq c c' && (Nat.beq d d' && (Nat.beq o 0 && Nat.beq o' 0))) with | true => some [] | false => none
  | _, _ => none
/-- The arguments' cells, if they have the shapes. -/
def gotArgs (bs : List Nat) (L : List (Nat × Nat)) (i : Nat) : List PSh → List AV → Option (List AC)
  | [], [] => some []
  | p :: ps, a :: as => (gotT bs L (p.lt i) (some a)).bind fun x => (gotArgs bs L (i + 1) ps as).bind fun y => some (x ++ y)
  | _, _ => none
/-- The variables that are handed. -/
def refIds : List PSh → List AV → List Nat
  | .ref _ :: ps, .w (.c (.ptr b _)) :: as => b :: refIds ps as
  | .fnr _ _ :: ps, .fn _ [.c (.ptr b _)] :: as => b :: refIds ps as
  | .fnr2 _ _ _ :: ps, .fn _ [.c (.ptr b _), .c (.ptr c _)] :: as => b :: c :: refIds ps as
  | _ :: ps, _ :: as => refIds ps as
  | _, _ => []
def boxCells (S : St) : List Nat → List (Nat × Nat) → Option (List AC)
  | [], [] => some []
  | b :: bs, (_, n) :: r => (S.boxes b).bind fun cs => match Nat.beq cs.length n with
    | true => (boxCells S bs r).bind fun l => some (cs ++ l)
    | false => none
  | _, _ => none
def noToks : List AC → Bool
  | [] => true
  | .own _ :: _ => false
  | _ :: l => noToks l

structure Found where
  sp : Spec
  cells : List AC
  cells2 : List AC
  refs : List Nat
  x : sp.sig.inTy.T
def findSpec (S : St) (f : FuncId) (as : List AV) : List Spec → Option Found
  | [] => none
  | sp :: r => match Nat.beq sp.sig.f f with
    | false => findSpec S f as r
    | true => match gotArgs (refIds sp.sig.ins as) (refBoxes 0 sp.sig.ins) 0 sp.sig.ins as with
      | none => findSpec S f as r
      | some c1 => (boxCells S (refIds sp.sig.ins as) (refBoxes 0 sp.sig.ins)).bind fun c2 => (leaves S sp.sig.shs (c1 ++ c2)).bind fun x =>
          match nodupB (refIds sp.sig.ins as) && (refBoxes 0 sp.sig.ins).all (fun b => Nat.ble b.1 1000) && Nat.ble ((outShs sp.sig.outs).length + (refShs sp.sig.ins).length) 63 && sp.sig.outs.all (fun o => o.1 || Nat.beq o.2.length 1) && sp.sig.back.all (fun s => s.ty.cell && s.good) && sp.sig.shs.all (fun s => s.ty.cell) with
          | true => some ⟨sp, c1, c2, refIds sp.sig.ins as, x⟩
          | false => none

def resRows (id : Nat) : List CSh → List AC → List (Nat × Option RowSt)
  | .own _ :: ss, .v (.row t) l :: cs => (id, some ⟨true, t, l⟩) :: resRows (id + 1) ss cs
  | _ :: ss, _ :: cs => resRows (id + 1) ss cs
  | _, _ => []
/-- The rows that were handed, with what they hold now. -/
def backRows : List CSh → List AC → List AC → List (Nat × Option RowSt)
  | .own _ :: ss, .own k :: cs, .v (.row t) l :: fs => (k, some ⟨true, t, l⟩) :: backRows ss cs fs
  | .own _ :: ss, _ :: cs, _ :: fs => backRows ss cs fs
  | .val _ :: ss, _ :: cs, fs => backRows ss cs fs
  | _, _, _ => []
def backBoxes : List Nat → List (Nat × Nat) → List AC → List (Nat × List AC)
  | b :: bs, (_, n) :: r, cs => (b, cs.take n) :: backBoxes bs r (cs.drop n)
  | _, _, _ => []
/-- Does memory come back that may have been the arguments'? -/
def CSh.shares : CSh → Bool
  | .val t => t.hasRow
  | .own t => !t.isDeep && t.hasRow
def freezeIf (b : Bool) (S : St) (ks : List Nat) : List (Nat × Option RowSt) := match b with
  | true => freeze S ks
  | false => []
def postD (S : St) (id : Nat) (s : Sig) (cells c2 : List AC) (refs : List Nat) (y : s.outTy.T) : Delta :=
  let fl := flat s.outTy y
  let n := (outShs s.outs).length
  let m := (refShs s.ins).length
  { val := (outLT s.outs).av (mkAt id (outShs s.outs) (fl.take n))
    boxes := backBoxes refs (refBoxes 0 s.ins) (mkAt (id + n) (refShs s.ins) ((fl.drop n).take m))
    rows := freezeIf (s.back.any CSh.shares) S (match splitToks s.shs (cells ++ c2) with | some p => p.2 | none => []) ++ (drops (match splitToks s.shs (cells ++ c2) with | some p => p.1 | none => []) ++ (resRows id (outShs s.outs ++ refShs s.ins) (fl.take (n + m)) ++ backRows (keepShs s.ins) cells ((fl.drop n).drop m))) }

/-- The result in a new variable. -/
def boxD (S : St) (id : Nat) (s : Sig) (cells c2 : List AC) (refs : List Nat) (y : s.outTy.T) : Delta :=
  { val := .w (.c (.ptr (id + 63) 0)), boxes := [(id + 63, mkAt id (outShs s.outs) ((flat s.outTy y).take (outShs s.outs).length))], rows := (postD S id s cells c2 refs y).rows }
/-- The variable's row has the number that it had. -/
def stayD (S : St) (id : Nat) (s : Sig) (cells c2 : List AC) (refs : List Nat) (y : s.outTy.T) : Delta :=
  match refShs s.ins, refs, c2 with
  | [.own _], [b], [.own k] => match setBoxes S.boxes (postD S id s cells c2 refs y).boxes b, setAll S.rows (postD S id s cells c2 refs y).rows (id + (outShs s.outs).length), S.rows k with
    | some [.own j], some ⟨true, t, l⟩, some r0 => match Nat.beq j (id + (outShs s.outs).length) && decide (r0.t = t) with
      | true => { postD S id s cells c2 refs y with
          boxes := (postD S id s cells c2 refs y).boxes ++ [(b, [.own k])]
          rows := (postD S id s cells c2 refs y).rows ++ [(id + (outShs s.outs).length, none), (k, some ⟨true, t, l⟩)] }
      | false => postD S id s cells c2 refs y
    | _, _, _ => postD S id s cells c2 refs y
  | _, _, _ => postD S id s cells c2 refs y
def post2 (S : St) (id : Nat) (sp : Spec) (cells c2 : List AC) (refs : List Nat) (y : sp.sig.outTy.T) : Delta :=
  match sp.boxed with
  | false => match sp.stay with
    | false => postD S id sp.sig cells c2 refs y
    | true => stayD S id sp.sig cells c2 refs y
  | true => boxD S id sp.sig cells c2 refs y

/-- Named steps of the pure functions. -/
def brB {R : Type} (b : Bool) (x y : Option R) : Option R := match b with | true => x | false => y
def chk {R : Type} (b : Bool) (x : Option R) : Option R := match b with | true => x | false => none
def bnd {A R : Type} (x : Option A) (f : A → Option R) : Option R := match x with | some a => f a | none => none
def iter {X R : Type} (step : (X → Option R) → X → Option R) : Nat → X → Option R
  | 0 => fun _ => none
  | n + 1 => step (iter step n)
def joinPt {X R : Type} (j : X → Option R) (m : (X → Option R) → Option R) : Option R := m j

/-- What is kept is written out first: the same value, all of it known. -/
def forceAC {R : Type} (κ : AC → Option R) : AC → Option R
  | .v t x => κ (.v t x)
  | .own k => κ (.own k)
  | .nil => κ .nil
  | .ptr b o => κ (.ptr b o)
  | .eS t x o => κ (.eS t x o)
  | .eO k i o => κ (.eO k i o)
  | .inn k m s => κ (.inn k m s)
  | .sub k l h => κ (.sub k l h)
  | .ownR k m => κ (.ownR k m)
def forceL {R : Type} : List AC → (List AC → Option R) → Option R
  | [], κ => κ []
  | c :: cs, κ => forceAC (fun c => forceL cs fun cs => κ (c :: cs)) c
def forceW {R : Type} (κ : AW → Option R) : AW → Option R
  | .c x => forceAC (fun x => κ (.c x)) x
  | .agg l => forceL l fun l => κ (.agg l)
def forceWs {R : Type} : List AW → (List AW → Option R) → Option R
  | [], κ => κ []
  | w :: ws, κ => forceW (fun w => forceWs ws fun ws => κ (w :: ws)) w
def forceAV {R : Type} (κ : AV → Option R) : AV → Option R
  | .w x => forceW (fun x => κ (.w x)) x
  | .tup l => forceWs l fun l => κ (.tup l)
  | .fn f l => forceWs l fun l => κ (.fn f l)
  | .undef => κ .undef
  | .any => κ .any
def forceBs {R : Type} : List (Nat × List AC) → (List (Nat × List AC) → Option R) → Option R
  | [], κ => κ []
  | (b, l) :: r, κ => forceL l fun l => forceBs r fun r => κ ((b, l) :: r)
def forceRs {R : Type} : List (Nat × Option RowSt) → (List (Nat × Option RowSt) → Option R) → Option R
  | [], κ => κ []
  | (b, none) :: r, κ => forceRs r fun r => κ ((b, none) :: r)
  | (b, some ⟨o, t, l⟩) :: r, κ => forceRs r fun r => κ ((b, some ⟨o, t, l⟩) :: r)
def forceD {R : Type} (κ : Delta → Option R) (δ : Delta) : Option R :=
  forceAV (fun v => forceBs δ.boxes fun b => forceRs δ.rows fun r => κ ⟨v, b, r⟩) δ.val

/-- A row within a deep row is lent for a call, and taken back. -/
def innArg : List AV → Option (Nat × Nat × Nat)
  | [] => none
  | .w (.c (.inn k m s)) :: _ => some (k, m, s)
  | _ :: r => innArg r
def innSwap (k m : Nat) : List AV → List AV
  | [] => []
  | .w (.c (.inn j n s)) :: r => (match Nat.beq j k && Nat.beq n m with | true => .w (.c (.own m)) | false => .w (.c (.inn j n s))) :: innSwap k m r
  | x :: r => x :: innSwap k m r
def lendRow (k m s : Nat) : (t : Ty) → List t.T → Option (List (Nat × Option RowSt))
  | .deep (some ⟨false, i, o, m'⟩) t, l => match Nat.beq m m' && !Nat.beq k m, (flat t (rGet t.dflt l i))[o]? with
    | true, some (.v (.row u) x) => match Nat.beq s u.size with
      | true => some [(k, some ⟨true, .deep (some ⟨true, i, o, m⟩) t, l⟩), (m, some ⟨true, u, x⟩)]
      | false => none
    | _, _ => none
  | _, _ => none
def lend (S : St) (k m s : Nat) : Option St :=
  match S.rows k with
  | some ⟨true, t, l⟩ => (lendRow k m s t l).bind fun r => some { S with rows := setAll S.rows r }
  | _ => none
def backRow (S : St) (k m : Nat) (u : Ty) (x : List u.T) : (t : Ty) → List t.T → Option (List (Nat × Option RowSt))
  | .deep (some ⟨true, i, o, m'⟩) t, l => match Nat.beq m m', (flat t (rGet t.dflt l i))[o]? with
    | true, some (.v (.row u') _) => if u = u' then (splice (flat t (rGet t.dflt l i)) o [.v (.row u) x]).bind fun cs => (parse S t cs).bind fun e =>
        some [(m, none), (k, some ⟨true, .deep none t, rSet l i e⟩)] else none
    | _, _ => none
  | _, _ => none
def giveBack (S : St) (k m : Nat) (δ : Delta) : Option Delta :=
  match setAll S.rows δ.rows k, setAll S.rows δ.rows m with
  | some ⟨true, t, l⟩, some ⟨true, u, x⟩ => (backRow S k m u x t l).bind fun r => some { δ with rows := δ.rows ++ r }
  | _, _ => none

/-- What is stored stays lent (3): the place and the number of the first row among cells. -/
def ownPos : Nat → List AC → Option (Nat × Nat)
  | _, [] => none
  | j, .own m :: _ => some (j, m)
  | j, _ :: r => ownPos (j + 1) r
def isLent : Option Note → Bool
  | some ⟨true, _, _, _⟩ => true
  | _ => false
def sizeOf' (S : St) (m n : Nat) : Bool := match S.rows m with | some q => Nat.beq q.t.size n | none => false
def keepRow (S : St) (k : Nat) (i : Int) (o : Nat) (cs : List AC) : (t : Ty) → List t.T → Option Out
  | .deep h t, l => match isLent h with
    | true => none
    | false => (splice (flat t (rGet t.dflt l i)) o cs).bind fun l' => (parse S t l').bind fun x => (takeOwn S cs).bind fun ks => (ownPos 0 cs).bind fun p =>
      match ks, (flat t x)[o + p.1]? with
      | [m], some (.v (.row u) y) => match Nat.beq m p.2 && !Nat.beq k m && sizeOf' S m u.size with
        | true => some ⟨true, { val := .undef, rows := [(m, none), (k, some ⟨true, .deep (some ⟨true, i, o + p.1, m⟩) t, rSet l i x⟩), (m, some ⟨true, u, y⟩)] }⟩
        | false => none
      | _, _ => none
  | _, _ => none
def keepStore (P : Program) (S : St) (t : TypeId) (a x : Operand) : Option Out :=
  (evalC S a).bind fun c => (evalW S x).bind fun w => (sizeB P t).bind fun n => match c with
    | .eO k i o => match Nat.beq w.cells.length n && !(toks w.cells).contains k with
      | true => (S.rows k).bind fun r => match r.own with | true => keepRow S k i o w.cells r.t r.l | false => none
      | false => none
    | _ => none
def lentTok (S : St) : List Nat → Option (Nat × Nat)
  | [] => none
  | k :: r => match S.rows k with
    | some ⟨true, .deep (some ⟨true, _, _, m⟩) _, _⟩ => some (k, m)
    | _ => lentTok S r
def keepLoad (P : Program) (S : St) (t : TypeId) (a : Operand) : Option Out :=
  (evalC S a).bind fun c => (sizeB P t).bind fun n => match aggB P t, c with
    | some true, .ptr b o => (S.boxes b).bind fun cs => (window cs o n).bind fun l => (lentTok S (toks l)).bind fun p => (giveBack S p.1 p.2 { val := .w (.agg l) }).bind fun δ => some ⟨true, δ⟩
    | _, _ => none
/-- An element of a deep row is deleted. -/
def delD (k id : Nat) (i j : Int) (t : Ty) (l : List t.T) : Delta :=
  { val := .w (.c (.own id)), rows := [(k, none), (id, some ⟨true, .deep none t, rApp (rSub l 0 i) (rSub l j (rLen l))⟩)] }
def delRow (k id : Nat) (i j : Int) : (t : Ty) → Ty → List t.T → Option Out
  | .deep h t, u, l => match decide (t = u), h with
    | true, some ⟨true, i0, _, _⟩ => some ⟨bAnd (iEq i i0) (bAnd (iEq j (iAdd .i64 i 1)) (cIdx i (rLen l))), delD k id i j t l⟩
    | true, _ => some ⟨bAnd (iEq j (iAdd .i64 i 1)) (cIdx i (rLen l)), delD k id i j t l⟩
    | false, _ => none
  | _, _, _ => none
def delOf (f : FuncId) : List Spec → Option Ty
  | [] => none
  | sp :: r => match Nat.beq sp.sig.f f, sp.del with
    | true, some t => some t
    | _, _ => delOf f r
def keepDel (G : List Spec) (S : St) (id : Nat) (c : Call) : Option Out :=
  match c.callee, c.args.toList with
  | .value f, [x, y, z] => match evalS S f, evalC S x, evalC S y, evalC S z with
    | some (.fn g []), some (.own k), some (.v (.int .i64) i), some (.v (.int .i64) j) => (delOf g G).bind fun u => (S.rows k).bind fun r => match r.own with
      | true => delRow k id i j r.t u r.l
      | false => none
    | _, _, _, _ => none
  | _, _ => none
/-- slices.Chunk. -/
def chunkOf (f : FuncId) : List Spec → Option (FuncId × Ty)
  | [] => none
  | sp :: r => match Nat.beq sp.sig.f f, sp.chunk with
    | true, some q => some q
    | _, _ => chunkOf f r
def chunkOp (G : List Spec) (S : St) (id : Nat) (c : Call) : Option Out :=
  match c.callee, c.args.toList with
  | .value f, [x, y] => match evalS S f, evalC S x, evalC S y with
    | some (.fn g []), some (.v (.row u) l), some (.v (.int .i64) n) => (chunkOf g G).bind fun q => match decide (u = q.2) with
      | true => some ⟨cSub 1 n 65536, { val := .fn q.1 [.c (.ptr id 0), .c (.ptr (id + 1) 0)], boxes := [(id, [.v (.row u) l]), (id + 1, [.v (.int .i64) n])] }⟩
      | false => none
    | _, _, _ => none
  | _, _ => none
/-- A row of which elements are taken out, one by one (4 and more: the number of the operation that begins it). -/
def partRow : (t : Ty) → List t.T → Option RowSt
  | .deep none t, l => some ⟨true, .part t, fAll l⟩
  | _, _ => none
def partStart (P : Program) (S : St) (t : TypeId) (a : Operand) : Option Out :=
  (evalC S a).bind fun c => match c, sizeB P t, aggB P t with
    | .ptr b o, some 1, some false => (S.boxes b).bind fun cs => match cs[o]? with
      | some (.own k) => match S.rows k with
        | some ⟨true, t, l⟩ => (partRow t l).bind fun q => (splice cs o [.v .dead true]).bind fun cs' => some ⟨true, { val := .w (.c (.own k)), boxes := [(b, cs')], rows := [(k, some q)] }⟩
        | _ => none
      | _ => none
    | _, _, _ => none
/-- Cells, with the one row among them taken out. -/
def takeRow (id : Nat) : List AC → Option (List AC × Option RowSt)
  | [] => some ([], none)
  | .v (.row u) m :: r => (takeRow id r).bind fun p => match p.2 with
    | none => some (.own id :: p.1, some ⟨true, u, m⟩)
    | some _ => none
  | .v (.int k) n :: r => (takeRow id r).bind fun p => some (.v (.int k) n :: p.1, p.2)
  | .v .bool b :: r => (takeRow id r).bind fun p => some (.v .bool b :: p.1, p.2)
  | .v .str s :: r => (takeRow id r).bind fun p => some (.v .str s :: p.1, p.2)
  | _ => none
def partElem (id k : Nat) (i : Int) (n : Nat) : (t : Ty) → List t.T → Option Out
  | .part t, l => match Nat.beq t.size n with
    | true => (takeRow id (flat t (fGet t.dflt l i))).bind fun p => match p.2 with
      | some q => some ⟨fHas t.dflt l i, { val := .w (.agg p.1), rows := [(k, some ⟨true, .part t, fOff t.dflt l i⟩), (id, some q)] }⟩
      | none => none
    | false => none
  | _, _ => none
def partLoad (P : Program) (S : St) (id : Nat) (t : TypeId) (a : Operand) : Option Out :=
  (evalC S a).bind fun c => match c, sizeB P t, aggB P t with
    | .eO k i 0, some n, some true => match S.rows k with
      | some ⟨true, t, l⟩ => partElem id k i n t l
      | _ => none
    | _, _, _ => none
def keepB (P : Program) (G : List Spec) (S : St) (id : Nat) (op : Op) : Option Out :=
  match S.inpl with
  | 3 => match op with
    | .store t a x => keepStore P S t a x
    | .load t a => keepLoad P S t a
    | .call c => match keepDel G S id c with
      | some r => some r
      | none => chunkOp G S id c
    | _ => none
  | n => match Nat.ble 4 n, op with
    | true, .load t a => match Nat.beq n id with
      | true => partStart P S t a
      | false => partLoad P S id t a
    | _, _ => none

/-- A value gets a name. -/
def nam {A R : Type} (x : A) (f : A → Option R) : Option R := f x
/-- A deep row's new content gets a name. -/
def shareRs {R : Type} : List (Nat × Option RowSt) → (List (Nat × Option RowSt) → Option R) → Option R
  | [], κ => κ []
  | [(k, some ⟨true, .deep none t, l⟩)], κ => nam l fun l => κ [(k, some ⟨true, .deep none t, l⟩)]
  | x :: r, κ => shareRs r fun r => κ (x :: r)
def shareD {R : Type} (κ : Delta → Option R) (δ : Delta) : Option R := shareRs δ.rows fun r => κ { δ with rows := r }

section
variable {R : Type} (P : Program) (G : List Spec) (k : Nat)

def evalAll (S : St) : List Operand → Option (List AV)
  | [] => some []
  | x :: r => (evalS S x).bind fun a => (evalAll S r).bind fun b => some (a :: b)

/-- One operation. -/
def step0 (S : St) (id : Nat) (o : Oper) (κ : Delta → Option R) : Option R :=
  match o.op with
  | .call c => match c.callee with
    | .builtin b => match builtinB P S id b c.argTypes.toList c.args.toList with
      | some r => chk r.ok (forceD κ r.d)
      | none => none
    | .value f => match evalS S f, evalAll S c.args.toList with
      | some (.fn g caps), some as => match innArg as with
        | none => match findSpec S g (as ++ caps.map AV.w) G with
          | some r => bnd (r.sp.fn k r.x) (fun y => forceD κ (post2 S id r.sp r.cells r.cells2 r.refs y))
          | none => none
        | some (j, m, s) => match lend S j m s with
          | some S1 => match findSpec S1 g (innSwap j m as ++ caps.map AV.w) G with
            | some r => bnd (r.sp.fn k r.x) (fun y => match giveBack S1 j m (post2 S1 id r.sp r.cells r.cells2 r.refs y) with
              | some δ => shareD (forceD κ) δ
              | none => none)
            | none => none
          | none => none
      | _, _ => none
    | _ => none
  | .store t a x => match opB P S id (.store t a x) with
    | some r => chk r.ok (shareD (forceD κ) r.d)
    | none => none
  | op => match opB P S id op with
    | some r => chk r.ok (forceD κ r.d)
    | none => none

def step (S : St) (id : Nat) (o : Oper) (κ : Delta → Option R) : Option R :=
  match keepB P G S id o.op with
  | some r => chk r.ok (shareD (forceD κ) r.d)
  | none => match inB P S id o.op with
    | some r => chk r.ok (forceD κ r.d)
    | none => step0 P G k S id o κ

inductive GV where
  | undef
  | bool (d : Nat) (b : Bool)
  | bad
def guardOf (ops : List Oper) (S : St) (j : Nat) : GV :=
  match ops[j]? with
  | some o => match o.dst with
    | some d => match S.tmps d with
      | some (.w (.c (.v .bool b))) => .bool d b
      | some .undef => .undef
      | _ => .bad
    | none => .bad
  | none => .bad
def St.skip (S : St) (dst : Option Nat) : St := S.app dst { val := .undef }
def lit (b : Bool) : AV := .w (.c (.v .bool b))

/-- Operations, one after the other. -/
def runOps (base : Nat) (ops : List Oper) : Nat → List Oper → St → (St → Option R) → Option R
  | _, [], S, κ => κ S
  | i, o :: r, S, κ => match o.guard with
    | none => step P G k S (base + 64 * i) o fun δ => runOps base ops (i + 1) r (S.app o.dst δ) κ
    | some (j, want) => match guardOf ops S j with
      | .undef => runOps base ops (i + 1) r (S.skip o.dst) κ
      | .bool d b => brB b
          (match want with
            | true => step P G k (S.put d (lit true)) (base + 64 * i) o fun δ => runOps base ops (i + 1) r ((S.put d (lit true)).app o.dst δ) κ
            | false => runOps base ops (i + 1) r ((S.put d (lit true)).skip o.dst) κ)
          (match want with
            | true => runOps base ops (i + 1) r ((S.put d (lit false)).skip o.dst) κ
            | false => step P G k (S.put d (lit false)) (base + 64 * i) o fun δ => runOps base ops (i + 1) r ((S.put d (lit false)).app o.dst δ) κ)
      | .bad => none

/-- The operations before each one, as bits, are given; here they are looked at: each comes by an edge. -/
def edgeUnion (bs : List Nat) : List Edge → Nat
  | [] => 0
  | e :: r => match Region.binds .any e with
    | true => Nat.lor (Nat.lor (2 ^ e.on) (bs.getD e.on 0)) (edgeUnion bs r)
    | false => edgeUnion bs r
def sensitive (o : Oper) : Bool :=
  match o.op with
  | .move _ | .assign _ | .pick .. | .binOp .. | .unOp .. | .extract .. | .build .. | .field .. | .fieldAddr .. | .alloc _ | .box .. | .nilCheck _ | .convert .. | .makeFunc .. | .makeSlice .. => false
  | _ => true
structure Done where
  i : Nat
  dst : Option Nat
  d : Delta
def applyIf (S : St) (p : Nat → Bool) : List Done → St
  | [] => S
  | x :: r => applyIf (if p x.i then S.app x.dst x.d else S) p r
def setLit (j : Nat) (b : Bool) : List Done → List Done
  | [] => []
  | x :: r => (if Nat.beq x.i j then { x with d := { x.d with val := lit b } } else x) :: setLit j b r
def related (bs : List Nat) (i j : Nat) : Bool := Nat.testBit (bs.getD i 0) j || Nat.testBit (bs.getD j 0) i
def memB (n : Nat) : List Nat → Bool
  | [] => false
  | m :: r => match Nat.beq n m with | true => true | false => memB n r
def tmpsOf (o : Oper) : List Nat := o.op.operands.toList.filterMap fun x => match x with | .tmp t => some t | _ => none
def dstIs (o : Oper) (d : Nat) : Bool := match o.dst with | some e => Nat.beq d e | none => false
/-- Of two operations: they write apart; what comes ahead of one that comes ahead comes ahead; if they are not ordered neither looks at what the other writes. -/
def pairOk (bs : List Nat) (i j : Nat) (o p : Oper) : Bool :=
  (match o.dst with
    | some d => !dstIs p d && (related bs i j || !memB d (tmpsOf p))
    | none => true) &&
  (!Nat.testBit (bs.getD i 0) j || Nat.beq (Nat.land (bs.getD j 0) (bs.getD i 0)) (bs.getD j 0))
/-- The operations of a region that draws: each that is told to come before comes by an edge, and by text. -/
def drawOk (ops : List Oper) (bs : List Nat) : Bool :=
  (List.range ops.length).all fun i => match ops[i]? with
    | none => false
    | some o => o.after.toList.all (fun e => !Region.binds .any e || Nat.blt e.on i) &&
        Nat.blt (bs.getD i 0) (2 ^ i) &&
        Nat.beq (Nat.land (bs.getD i 0) (edgeUnion bs o.after.toList)) (bs.getD i 0) &&
        (match o.guard with
          | some (g, _) => Nat.testBit (bs.getD i 0) g
          | none => true) &&
        (List.range ops.length).all fun j => Nat.beq i j || (match ops[j]? with
          | none => false
          | some p => pairOk bs i j o p)
/-- What arguments name: variables with the rows that they hold, rows. -/
def cellKeys (S : St) : List AC → Option (List Nat)
  | [] => some []
  | .ptr b _ :: r => (cellKeys S r).bind fun l => some (b :: ((match S.boxes b with | some cs => toks cs | none => []) ++ l))
  | .eO k _ _ :: r => (cellKeys S r).bind fun l => some (k :: l)
  | .inn _ _ _ :: _ => none
  | c :: r => (cellKeys S r).bind fun l => some (toks [c] ++ l)
def argKeys (S : St) : List AV → Option (List Nat)
  | [] => some []
  | .w x :: r => (cellKeys S x.cells).bind fun a => (argKeys S r).bind fun l => some (a ++ l)
  | .fn _ ws :: r => (cellKeys S (ws.flatMap AW.cells)).bind fun a => (argKeys S r).bind fun l => some (a ++ l)
  | _ :: _ => none
/-- The numbers that an operation may look at: all of them, or these. -/
def touches (S : St) (o : Oper) : Option (List Nat) :=
  match sensitive o with
  | false => some []
  | true => match o.op with
    | .load _ a => match evalC S a with
      | some (.ptr b _) => some [b]
      | some (.eS _ _ _) => some []
      | some (.eO k _ _) => some [k]
      | _ => none
    | .store _ a x => match evalC S a, evalW S x with
      | some (.ptr b _), some _ => some [b]
      | some (.eO k _ _), some w => some (k :: toks w.cells)
      | _, _ => none
    | .indexAddr _ x _ => (evalC S x).bind fun c => some (toks [c])
    | .slice _ x _ _ _ => (evalC S x).bind fun c => some (toks [c])
    | .call c => match c.callee with
      | .value f => match evalS S f with
        | some (.fn _ caps) => (evalAll S c.args.toList).bind fun as => argKeys S (caps.map AV.w ++ as)
        | _ => none
      | _ => (evalAll S c.args.toList).bind (argKeys S)
    | .buildSlice _ _ ps => (partsS S ps.toList).bind fun l => some (toks (l.flatMap fun p => p.2.cells))
    | _ => none
def touchB : Option (List Nat) → Nat → Bool
  | none, _ => true
  | some l, n => memB n l
def keysOf (δ : Delta) : List Nat := δ.boxes.map (·.1) ++ δ.rows.map (·.1)
/-- What i writes, j neither writes nor looks at. -/
def apart1 (S : St) (ops : List Oper) (bs : List Nat) (D : List Done) (i j : Nat) : Bool :=
  match D[i]?, D[j]?, ops[j]? with
  | some x, some y, some o => (keysOf x.d).all fun n => !touchB (touches (applyIf S (Nat.testBit (bs.getD j 0)) D) o) n && !memB n (keysOf y.d)
  | _, _, _ => false
/-- Operations that are not ordered are apart. -/
def fenceAll (S : St) (ops : List Oper) (bs : List Nat) (D : List Done) : Bool :=
  (List.range ops.length).all fun i => (List.range ops.length).all fun j => Nat.beq i j || related bs i j || apart1 S ops bs D i j
/-- What an operation may look at. -/
def view (S : St) (o : Oper) : St :=
  { tmps := fun n => match memB n (tmpsOf o) with | true => S.tmps n | false => none
    boxes := fun n => match touchB (touches S o) n with | true => S.boxes n | false => none
    rows := fun n => match touchB (touches S o) n with | true => S.rows n | false => none
    used := S.used
    prot := S.prot
    deep := S.deep
    inpl := S.inpl }

def runDraw (base : Nat) (ops : List Oper) (bs : List Nat) (S : St) : Nat → List Oper → List Done → (St → Option R) → Option R
  | _, [], acc, κ => match fenceAll S ops bs acc with | true => κ (applyIf S (fun _ => true) acc) | false => none
  | i, o :: r, acc, κ =>
    let X (a : List Done) : Option R := step P G k (view (applyIf S (Nat.testBit (bs.getD i 0)) a) o) (base + 64 * i) o fun δ =>
      runDraw base ops bs S (i + 1) r (a ++ [⟨i, o.dst, δ⟩]) κ
    let Y (a : List Done) : Option R := runDraw base ops bs S (i + 1) r (a ++ [⟨i, o.dst, { val := .undef }⟩]) κ
    match o.guard with
    | none => X acc
    | some (j, want) => match guardOf ops (applyIf S (Nat.testBit (bs.getD i 0)) acc) j with
      | .undef => Y acc
      | .bool d b => brB b
          (match want with | true => X (setLit j true acc) | false => Y (setLit j true acc))
          (match want with | true => Y (setLit j false acc) | false => X (setLit j false acc))
      | .bad => none

/-- A loop's head, or a place where ways meet: what the state is told by. -/
structure Head where
  lay : Lay
  /-- where each variable's pointer stands -/
  at_ : List Nat
  shs : List CSh
  /-- where the rows that were handed stand among the cells -/
  keep : List Nat := []
def Head.ty (h : Head) : Ty := shapesTy h.shs
def ptrsAt (S : St) : List Nat → Option (List Nat)
  | [] => some []
  | t :: r => match S.tmps t with
    | some (.w (.c (.ptr c 0))) => (ptrsAt S r).bind fun l => some (c :: l)
    | some (.fn _ [.c (.ptr c 0)]) => (ptrsAt S r).bind fun l => some (c :: l)
    | some (.fn _ [.c (.ptr c 0), .c (.ptr d 0)]) => (ptrsAt S r).bind fun l => some (c :: d :: l)
    | _ => none
def gotTmps (S : St) (bs : List Nat) (L : List (Nat × Nat)) : List (Nat × LT) → Option (List AC)
  | [] => some []
  | (t, l) :: r => (gotT bs L l (S.tmps t)).bind fun a => (gotTmps S bs L r).bind fun b => some (a ++ b)
def keepOk (cells : List AC) : List Nat → List Nat → Bool
  | [], [] => true
  | p :: ps, j :: js => (match cells[p]? with | some (.own i) => Nat.beq i j | _ => false) && keepOk cells ps js
  | _, _ => false
def pinsOk (bs : List Nat) (L : List (Nat × Nat)) : List Nat → Bool
  | [] => true
  | b :: r => (match boxAt bs L b with | some c => Nat.beq c b | none => false) && pinsOk bs L r
def extract (pins : List Nat) (h : Head) (S : St) : Option h.ty.T :=
  (ptrsAt S h.at_).bind fun bs => (gotTmps S bs h.lay.boxes h.lay.tmps).bind fun a => (boxCells S bs h.lay.boxes).bind fun b =>
    match nodupB bs && h.lay.boxes.all (fun b => Nat.ble b.1 1000) && keepOk (a ++ b) h.keep S.prot && pinsOk bs h.lay.boxes pins with
    | true => leaves S h.shs (a ++ b)
    | false => none

structure Hints where
  heads : List (Nat × Head)
  joins : List (Nat × Head)
  befores : List (Nat × List Nat)
  pins : List Nat := []
  deep : Bool := false
  inpl : Nat := 0
  stay : Bool := false
def hintAt {α : Type} : List (Nat × α) → Nat → Option α
  | [], _ => none
  | (i, h) :: r, j => if Nat.beq i j then some h else hintAt r j
def firstRegion : Code → Option Nat
  | .region id _ _ => some id
  | .seq a _ => firstRegion a
  | .block _ c => firstRegion c
  | .loop c => firstRegion c
  | _ => none

/-- The numbers that a region's operations give. -/
def baseOf (id : Nat) : Nat := 100000 + 16384 * id

def headSt (d : Bool) (m : Nat) (h : Head) (x : h.ty.T) (all : List AC) : St := { laySt h.lay h.shs (flat h.ty x) all with prot := h.keep, deep := d, inpl := m }

inductive Ex where
  | normal
  | exit (id : Nat)
  | ret

/-- A range over slices.Chunk. -/
def closureOf (g : FuncId) : List Spec → Option Ty
  | [] => none
  | sp :: r => match sp.chunk with
    | some q => match Nat.beq q.1 g with | true => some q.2 | false => closureOf g r
    | none => closureOf g r
def noRange : Code → Bool
  | .rangeFunc _ _ _ _ => false
  | .seq a b => noRange a && noRange b
  | .cond _ a b => noRange a && noRange b
  | .block _ c => noRange c
  | .loop c => noRange c
  | _ => true
def allV : List AC → Bool
  | [] => true
  | .v _ _ :: r => allV r
  | _ => false
/-- What a temporary holds that no round changes. -/
def constAV : Option AV → Option AV
  | some (.w (.c (.v t x))) => some (.w (.c (.v t x)))
  | some (.w (.agg l)) => match allV l with | true => some (.w (.agg l)) | false => none
  | _ => none
def ptrsIn (L : List Nat) : List (Nat × LT) → Bool
  | [] => true
  | (_, .ptr b _) :: r => memB b L && ptrsIn L r
  | _ => false
def roundSt (H : Hints) (S : St) (h : Head) (x : h.ty.T) (all : List AC) : St :=
  { headSt H.deep H.inpl h x all with tmps := fun t => match layTmps h.lay.tmps all t with | some av => some av | none => constAV (S.tmps t) }
def Hints.inRange (H : Hints) (h : Head) : Hints := { H with pins := h.lay.boxes.map (·.1) }
def St.hide (S : St) (b c : Nat) : St := { S with boxes := fun n => match Nat.beq n b || Nat.beq n c with | true => none | false => S.boxes n }
structure RangeArgs where
  p : Nat
  h : Head
  b : Nat
  c : Nat
  u : Ty
  l : List u.T
  n : Int
def rangeArgs (G : List Spec) (H : Hints) (S : St) (g : Operand) (ps : Array Nat) (assign body : Code) : Option RangeArgs :=
  match evalS S g, ps.toList, (firstRegion assign).bind (hintAt H.heads) with
  | some (.fn f [.c (.ptr b 0), .c (.ptr c 0)]), [p], some h => match closureOf f G, S.boxes b, S.boxes c with
    | some u, some [.v (.row u') l], some [.v (.int .i64) n] => match decide (u = u') && (noRange assign && (noRange body && (!Nat.beq b c && ptrsIn (h.lay.boxes.map (·.1)) h.lay.tmps))) with
      | true => some ⟨p, h, b, c, u', l, n⟩
      | false => none
    | _, _, _ => none
  | _, _, _ => none
def chunkAt {α : Type} (l : List α) (i n : Int) : List α := rSub l i (iMin (iAdd .i64 i n) (rLen l))

def runC (H : Hints) : Code → (Ex → St → Option R) → St → Option R
  | .skip, κ, S => κ .normal S
  | .region id ops draw, κ, S =>
    if S.used.contains id || Nat.ble 200 ops.toList.length then none else
    match draw with
    | false => runOps P G k (baseOf id) ops.toList 0 ops.toList S fun S' => κ .normal { S' with used := id :: S.used }
    | true => match hintAt H.befores id with
      | some bs =>
        if drawOk ops.toList bs then
          runDraw P G k (baseOf id) ops.toList bs S 0 ops.toList [] fun S' => κ .normal { S' with used := id :: S.used }
        else none
      | none => none
  | .seq a b, κ, S =>
    match (firstRegion b).bind (hintAt H.joins) with
    | none => runC H a (fun e S' => match e with
        | .normal => runC H b κ S'
        | e => κ e S') S
    | some h => joinPt (fun x => forceL (mkAt 0 h.shs (flat h.ty x)) fun all => runC H b κ (headSt H.deep H.inpl h x all)) fun j => runC H a (fun e S' => match e with
        | .normal => bnd (extract H.pins h S') j
        | e => κ e S') S
  | .cond c x y, κ, S => match evalC S c with
    | some (.v .bool b) => brB b (runC H x κ S) (runC H y κ S)
    | _ => none
  | .block id c, κ, S => runC H c (fun e S' => match e with
      | .exit j => if Nat.beq j id then κ .normal S' else κ (.exit j) S'
      | e => κ e S') S
  | .loop c, κ, S => match (firstRegion c).bind (hintAt H.heads) with
    | some h => bnd (extract H.pins h S) (iter (fun rec x => forceL (mkAt 0 h.shs (flat h.ty x)) fun all => runC H c (fun e S' => match e with
        | .normal => bnd (extract H.pins h S') rec
        | e => κ e S') (headSt H.deep H.inpl h x all)) k)
    | none => none
  | .exit id, κ, S => κ (.exit id) S
  | .ret, κ, S => κ .ret S
  | .rangeFunc g ps assign body, κ, S => match rangeArgs G H S g ps assign body with
    | some r => chk (bAnd (cSub 1 r.n 65536) (cLen (rLen r.l) 8)) (bnd (extract H.pins r.h (S.hide r.b r.c)) fun x0 =>
        iter (fun rec (x : Int × r.h.ty.T) => forceL (mkAt 0 r.h.shs (flat r.h.ty x.2)) fun all => brB (iLt x.1 (rLen r.l))
          (runC (H.inRange r.h) assign (fun e S1 => match e with
            | .normal => runC (H.inRange r.h) body (fun e S2 => match e with
              | .normal => bnd (extract (H.inRange r.h).pins r.h { S2 with tmps := (roundSt H S r.h x.2 all).tmps }) fun y => rec (iAdd .i64 x.1 r.n, y)
              | .ret => κ .ret { S2 with tmps := (roundSt H S r.h x.2 all).tmps }
              | .exit _ => none) S1
            | _ => none) ((roundSt H S r.h x.2 all).put r.p (.w (.c (.v (.row r.u) (chunkAt r.l x.1 r.n))))))
          (κ .normal (roundSt H S r.h x.2 all))) k ((0 : Int), x0))
    | none => none
  | _, _, _ => none
end

/-- What is known of a row's room is forgotten. -/
def AW.norm : AW → AW
  | .c (.ownR k _) => .c (.own k)
  | w => w
/-- A function's results. -/
def resultsB (P : Program) (S : St) : List ResultVar → Option (List AW)
  | [] => some []
  | .tmp t :: r => match S.tmps t with
    | some (.w w) => (resultsB P S r).bind fun l => some (w.norm :: l)
    | _ => none
  | .cell t u :: r => match S.tmps t, sizeB P u, aggB P u with
    | some (.w (.c (.ptr b o))), some n, some g => (S.boxes b).bind fun cs => (window cs o n).bind fun l => (shut g l).bind fun w => (resultsB P S r).bind fun ws => some (w :: ws)
    | _, _, _ => none
/-- The numbers of the rows that came in. -/
def ownIds : Nat → List CSh → List AC
  | _, [] => []
  | j, .own _ :: r => .own j :: ownIds (j + 1) r
  | j, _ :: r => ownIds (j + 1) r
/-- The rows that came in, without the one that stays in its variable. -/
def protOf (st : Bool) (l : List Nat) (b : List AC) : Option (List Nat) := match st with
  | false => some l
  | true => match b, l with
    | [.own k], j :: r => match Nat.beq k j with | true => some r | false => none
    | _, _ => none
def finish (P : Program) (fn : Func) (s : Sig) (st : Bool) (S : St) : Option s.outTy.T :=
  (resultsB P S fn.results.toList).bind fun ws => (fitWs (s.outs.map fun o => (o.1, o.2.length)) ws).bind fun a =>
    (boxCells S ((refBoxes 0 s.ins).map (·.1)) (refBoxes 0 s.ins)).bind fun b => (protOf st S.prot b).bind fun l => leaves S s.back (a ++ (b ++ l.map AC.own))
def ownNums : Nat → List CSh → List Nat
  | _, [] => []
  | j, .own _ :: r => j :: ownNums (j + 1) r
  | j, _ :: r => ownNums (j + 1) r
/-- The numbers of the rows that must be there in the end; ahead of them the one that stays in its variable. -/
def Sig.prot0 (s : Sig) (st : Bool) : List Nat := match st with
  | false => ownNums 0 (keepShs s.ins)
  | true => (inShs s.ins).length :: ownNums 0 (keepShs s.ins)
def Sig.H (s : Sig) (H : Hints) : Hints := { H with pins := (refBoxes 0 s.ins).map (·.1) }
def runF (P : Program) (G : List Spec) (H : Hints) (fn : Func) (s : Sig) (k : Nat) (x : s.inTy.T) : Option s.outTy.T :=
  match fn.body with
  | some c => forceL (mkAt 0 s.shs (flat s.inTy x)) fun all => runC P G k (s.H H) c (fun e S => match e with
      | .normal => finish P fn s H.stay S
      | .ret => finish P fn s H.stay S
      | _ => none) { laySt s.lay s.shs (flat s.inTy x) all with prot := s.prot0 H.stay, deep := H.deep, inpl := H.inpl }
  | none => none

/-- The same for a function that gives a pointer to a new variable. -/
def finishB (P : Program) (fn : Func) (s : Sig) (S : St) : Option s.outTy.T :=
  match resultsB P S fn.results.toList with
  | some [.c (.ptr b 0)] => (S.boxes b).bind fun cs => match Nat.beq cs.length s.back.length with
    | true => leaves S s.back cs
    | false => none
  | _ => none
def runB (P : Program) (G : List Spec) (H : Hints) (fn : Func) (s : Sig) (k : Nat) (x : s.inTy.T) : Option s.outTy.T :=
  match fn.body with
  | some c => forceL (mkAt 0 s.shs (flat s.inTy x)) fun all => runC P G k (s.H H) c (fun e S => match e with
      | .normal => finishB P fn s S
      | .ret => finishB P fn s S
      | _ => none) { laySt s.lay s.shs (flat s.inTy x) all with prot := ownNums 0 (keepShs s.ins), deep := H.deep, inpl := H.inpl }
  | none => none

end
end Go.Proofs.YtmbmapbdbbnaeaaT
