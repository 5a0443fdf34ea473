/- The abstract machine: values, state, operations, code, and its evaluation. Definitions alone. -/
import Derived.Test.YtnglcmfgkcdgcaaGreatAmA0
namespace Go.AM
open Go

/-- Values of the abstract machine. -/
inductive DV where
  | any
  | val (x : Value)
  | lst (own : Bool) (rows : List (List DV))
  | agg (cs : List DV)
  | tup (cs : List DV)
  | pim (cs : List DV)
  | ref (g i c : Nat)
  | arr (g off len : Nat)
  | lref (s i c : Nat)
  | larr (s off len : Nat)
  | clo (f : FuncId) (caps : List DV)
  deriving Inhabited

abbrev Rows := List (List DV)

def upd {α : Type} (f : Nat → α) (i : Nat) (v : α) : Nat → α := fun j => if j = i then v else f j

/-- What all frames share: objects and how many there have been. -/
structure Gl where
  ob : Nat → Option Rows
  nx : Nat

def Gl.empty : Gl := ⟨fun _ => none, 0⟩

/-- The state of one activation: slots, its own objects (by the slot that made them), the shared ones. -/
structure St where
  fr : Nat → DV
  lo : Nat → Option Rows
  gl : Gl

inductive Opd where
  | t (n : Nat)
  | k (v : Value)
  | f (n : FuncId)
  deriving Inhabited

inductive AOp where
  | mv (d : Nat) (x : Opd) (tr : Bool)
  | nilc (d : Nat) (x : Opd)
  | pick (d : Nat) (c a b : Opd)
  | alloc (d : Nat) (T : TypeId) (zero : List Value) (g : Bool)
  | box (d : Nat) (T : TypeId) (x : Opd) (mode : Nat)
  | build (d : Nat) (T : TypeId) (zero : List Value) (parts : List (Nat × Nat × Opd))
  | bsl (d : Nat) (T : TypeId) (sz : Nat) (zero : List Value) (n : Nat) (parts : List (Nat × Opd))
  | ld (d : Nat) (T : TypeId) (n : Nat) (ag : Bool) (a : Opd) (tr : Bool)
  | st (T : TypeId) (n : Nat) (a x : Opd) (tr : Bool)
  | bin (d : Nat) (op : BinOp) (T : TypeId) (x y : Opd)
  | un (d : Nat) (op : UnOp) (x : Opd)
  | conv (d : Nat) (src dst : TypeId) (x : Opd)
  | slc (d : Nat) (T : TypeId) (str : Bool) (sz : Nat) (x : Opd) (lo hi mx : Option Opd)
  | fad (d : Nat) (T : TypeId) (fi off n : Nat) (x : Opd)
  | iad (d : Nat) (T : TypeId) (sz : Nat) (x i : Opd)
  | idx (d : Nat) (T : TypeId) (x i : Opd)
  | ext (d : Nat) (x : Opd) (i : Nat)
  | call (d : Option Nat) (f : FuncId) (args : List Opd) (op : Bool)
  | callv (d : Option Nat) (x : Opd) (args : List Opd) (op : Bool)
  | len (d : Nat) (str : Bool) (x : Opd)
  | app (d : Nat) (T : TypeId) (sz : Nat) (x y : Opd)
  | mnx (d : Nat) (mx : Bool) (args : List Opd)
  | mkf (d : Nat) (f : FuncId) (caps : List Opd)
  | mks (d : Nat) (T : TypeId) (sz : Nat) (zero : List Value) (len cap : Opd) (lo : Bool)
  deriving Inhabited

/-- One operation of a region, with its guard: a slot and what it must hold. -/
structure GOp where
  op : AOp
  gd : Option (Nat × Bool)
  /-- evaluated with no object at hand -/
  pu : Bool := false
  /-- the type of the elements that it makes -/
  ty : Ty := .unit
  deriving Inhabited

inductive AC where
  | frz (l : Nat) (b : AC)
  | skip
  | reg (ops : List GOp) (draw : Bool)
  | seq (a b : AC)
  | cond (c : Opd) (a b : AC)
  | block (id : Nat) (b : AC)
  | loop (H : KS) (outs : List (Ex × KS)) (b : AC)
  | scope (outs : List (Ex × KS)) (b : AC)
  | exit (id : Nat)
  | ret
  deriving Inhabited

inductive RV where
  | tmp (t : Nat)
  | cell (t : Nat) (T : TypeId) (n : Nat) (ag : Bool)
  deriving Inhabited

structure AF where
  nparams : Nat
  body : AC
  res : List RV
  deriving Inhabited

def mapO {α β : Type} (f : α → Option β) : List α → Option (List β)
  | [] => some []
  | x :: r => (f x).bind fun y => (mapO f r).map fun l => y :: l

/-- A pure computation that asks the program at most. -/
def calcP {α : Type} (P : Program) : Sem α → Option α
  | .pure a => some a
  | .program k => calcP P (k P)
  | _ => none

def oneV : Value → DV
  | .slice none 0 0 => .lst true []
  | v => .val v

def dvOf : Value → DV
  | .agg vs => .agg (vs.toList.map oneV)
  | v => oneV v

def wk1 : DV → DV
  | .lst _ r => .lst false r
  | d => d

def wk : DV → DV
  | .lst _ r => .lst false r
  | .agg cs => .agg (cs.map wk1)
  | d => d

def cellsD : DV → List DV
  | .agg cs => cs
  | d => [d]

/-- Plain data of one cell: nothing of it can change. -/
def pureC : DV → Bool
  | .val x => (match x with | .agg _ | .tuple _ => false | _ => true)
  | .lst _ _ => true
  | .pim _ => true
  | .clo _ caps => caps.all fun | .val _ => true | .lst _ _ => true | .pim _ => true | _ => false
  | _ => false

/-- What an object's cell may hold. -/
def cellC : DV → Bool
  | .ref .. | .arr .. => true
  | d => pureC d

def exact1 : DV → Option Value
  | .val x => some x
  | _ => none

def exact : DV → Option Value
  | .val x => some x
  | .agg cs => (mapO exact1 cs).map fun l => .agg l.toArray
  | _ => none

def getO (fr : Nat → DV) : Opd → DV
  | .t n => fr n
  | .k v => dvOf v
  | .f n => .clo n []

/-- An operand's value, with no right to append; a constant nil slice may be appended to. -/
def getW (fr : Nat → DV) : Opd → DV
  | .t n => wk (fr n)
  | .k v => dvOf v
  | .f n => .clo n []

/-- A slot makes a new object: what points to the elder one of that slot is forgotten. -/
def kill (s : Nat) : DV → DV
  | .lref s' i c => if s' = s then .any else .lref s' i c
  | .larr s' i c => if s' = s then .any else .larr s' i c
  | .clo f caps => if caps.any (fun | .lref s' _ _ => s' == s | .larr s' _ _ => s' == s | _ => false) then .any else .clo f caps
  | d => d

/-- What an operation does to the state. -/
inductive De where
  /-- its slot gets a value; the slot 'src', if any, loses its right to append -/
  | put (v : DV) (src : Option Nat)
  /-- a new object of the slot itself, with a value for the slot -/
  | loc (rows : Rows) (v : DV)
  /-- a new shared object; the slot points to it -/
  | glo (rows : Rows)
  /-- an object's rows are written -/
  | wr (p : DV) (rows : Rows) (src : Option Nat) (v : Option DV)
  /-- a call that may write shared objects -/
  | opn (v : DV) (gl : Gl)

def putO (fr : Nat → DV) (d : Option Nat) (v : DV) : Nat → DV :=
  match d with
  | some d => upd fr d v
  | none => fr

def wkO (fr : Nat → DV) (src : Option Nat) : Nat → DV :=
  match src with
  | some n => upd fr n (wk (fr n))
  | none => fr

def setOb (s : St) (p : DV) (rows : Rows) : St :=
  match p with
  | .ref g _ _ => { s with gl := { s.gl with ob := upd s.gl.ob g (some rows) } }
  | .lref l _ _ => { s with lo := upd s.lo l (some rows) }
  | _ => s

def St.ap (s : St) (d : Option Nat) : De → St
  | .put v src => { s with fr := putO (wkO s.fr src) d v }
  | .loc rows v => { s with fr := putO (fun i => kill (d.getD 0) (s.fr i)) d v, lo := upd s.lo (d.getD 0) (some rows) }
  | .glo rows => { s with fr := putO s.fr d (.ref s.gl.nx 0 0), gl := ⟨upd s.gl.ob s.gl.nx (some rows), s.gl.nx + 1⟩ }
  | .wr p rows src v =>
    let s' := setOb s p rows
    { s' with fr := match v with | some v => putO (wkO s.fr src) d v | none => wkO s.fr src }
  | .opn v gl => { s with fr := putO s.fr d v, gl := gl }

/-- The object that a pointer points into: its rows, the row, the cell. -/
def look (s : St) : DV → Option (Rows × Nat × Nat)
  | .ref g i c => (s.gl.ob g).map fun r => (r, i, c)
  | .lref l i c => (s.lo l).map fun r => (r, i, c)
  | _ => none

def setCells (row : List DV) (c : Nat) (vs : List DV) : List DV := row.take c ++ vs ++ row.drop (c + vs.length)

def mkV (ag : Bool) (cs : List DV) : Option DV :=
  if ag then some (.agg cs) else match cs with | [d] => some d | _ => none

/-- The rows of a list, of whatever kind. -/
def rowsOf (s : St) : DV → Option Rows
  | .lst _ r => some r
  | .arr g off len => (s.gl.ob g).bind fun r => if off + len ≤ r.length then some ((r.drop off).take len) else none
  | .larr l off len => (s.lo l).bind fun r => if off + len ≤ r.length then some ((r.drop off).take len) else none
  | _ => none

def intOfD : DV → Option Int
  | .val (.int _ n) => some n
  | _ => none

/-- How many elements a slice may come to hold: of whatever size, no memory is short of that. -/
def roomN : Nat := 4294967296

/-- An argument of a call that sees nothing of the objects: a view of what they hold now. -/
def closeC (s : St) : DV → Option DV
  | .val x => some (.val x)
  | .lst _ r => some (.lst false r)
  | .pim cs => some (.pim cs)
  | .clo f caps => if pureC (.clo f caps) then some (.clo f caps) else none
  | .ref g i c => (s.gl.ob g).bind fun r => (r[i]?).bind fun row => if (row.drop c).all pureC then some (.pim ((row.drop c).map wk1)) else none
  | .lref l i c => (s.lo l).bind fun r => (r[i]?).bind fun row => if (row.drop c).all pureC then some (.pim ((row.drop c).map wk1)) else none
  | .arr g off len => (s.gl.ob g).bind fun r => if off + len ≤ r.length && ((r.drop off).take len).all (·.all pureC) then some (.lst false (((r.drop off).take len).map (·.map wk1))) else none
  | .larr l off len => (s.lo l).bind fun r => if off + len ≤ r.length && ((r.drop off).take len).all (·.all pureC) then some (.lst false (((r.drop off).take len).map (·.map wk1))) else none
  | _ => none

def closeA (s : St) : DV → Option DV
  | .agg cs => (mapO (closeC s) cs).map .agg
  | .clo f caps => (mapO (closeC s) caps).map (.clo f)
  | d => closeC s d

/-- Does an argument look into objects? -/
def looks1 : DV → Bool
  | .ref .. | .lref .. | .arr .. | .larr .. => true
  | _ => false
def looks : DV → Bool
  | .agg cs => cs.any looks1
  | .clo _ caps => caps.any looks1
  | d => looks1 d

def flatC : DV → Bool
  | .val _ => true
  | _ => false

/-- A result that shares nothing with what was there. -/
def flatR : DV → Bool
  | .val _ => true
  | .agg cs => cs.all flatC
  | .tup cs => cs.all flatC
  | .lst true rows => rows.all (·.all flatC)
  | _ => false

/-- A result that holds nothing of objects. -/
def closedC : DV → Bool
  | .ref .. | .arr .. | .lref .. | .larr .. | .any => false
  | .clo f caps => pureC (.clo f caps)
  | _ => true
def closedR : DV → Bool
  | .agg cs => cs.all closedC
  | .tup cs => cs.all (fun | .agg cs => cs.all closedC | d => closedC d)
  | d => closedC d

abbrev Call := FuncId → List DV → Gl → Option (DV × Gl)

def noLocA1 : DV → Bool
  | .lref .. | .larr .. | .any => false
  | _ => true
def noLocA : DV → Bool
  | .lref .. | .larr .. | .any => false
  | .clo _ caps => caps.all noLocA1
  | .agg cs => cs.all noLocA1
  | .tup _ => false
  | _ => true

def resNoLoc1 : DV → Bool
  | .lref .. | .larr .. | .any => false
  | _ => true
def resNoLoc : DV → Bool
  | .lref .. | .larr .. | .any => false
  | .clo _ caps => caps.all resNoLoc1
  | .agg cs => cs.all resNoLoc1
  | .tup cs => cs.all resNoLoc1
  | _ => true

def doCall (call : Call) (s : St) (f : FuncId) (args : List DV) (op : Bool) : Option De :=
  if op then
    if args.all noLocA then (call f args s.gl).bind fun r => if resNoLoc r.1 then some (.opn r.1 r.2) else none else none
  else
    (mapO (closeA s) args).bind fun as =>
    (call f as Gl.empty).bind fun r =>
    if closedR r.1 && (!(args.any looks) || flatR r.1) then some (.put r.1 none) else none

def fillParts (fr : Nat → DV) (cells : List DV) : List (Nat × Nat × Opd) → Option (List DV)
  | [] => some cells
  | (off, n, x) :: rest =>
    let vs := cellsD (getW fr x)
    if vs.length = n ∧ off + n ≤ cells.length ∧ vs.all cellC = true then fillParts fr (setCells cells off vs) rest else none

def fillRows (fr : Nat → DV) (rows : Rows) (sz : Nat) : List (Nat × Opd) → Option Rows
  | [] => some rows
  | (i, x) :: rest =>
    let vs := (cellsD (getW fr x)).map wk1
    if vs.length = sz ∧ i < rows.length ∧ vs.all pureC = true then fillRows fr (rows.set i vs) sz rest else none

def sliceRows (x : DV) (lo hi : Nat) (mx : Option Nat) : Option DV :=
  match x with
  | .lst _ r => if lo ≤ hi ∧ hi ≤ r.length ∧ (∀ m, mx = some m → hi ≤ m ∧ m ≤ r.length) then
      some (if mx = some lo then .lst true [] else .lst false ((r.take hi).drop lo)) else none
  | .arr g off len => if lo ≤ hi ∧ hi ≤ len ∧ mx = none then some (.arr g (off + lo) (hi - lo)) else none
  | .larr g off len => if lo ≤ hi ∧ hi ≤ len ∧ mx = none then some (.larr g (off + lo) (hi - lo)) else none
  | _ => none

def natOfD : DV → Option Nat
  | .val (.int _ n) => if 0 ≤ n then some n.toNat else none
  | _ => none

def optN (fr : Nat → DV) (dflt : Nat) : Option Opd → Option Nat
  | none => some dflt
  | some x => natOfD (getO fr x)

def bytesOf : List (List DV) → Option (List UInt8)
  | [] => some []
  | [.val (.int .u8 n)] :: r => (bytesOf r).map fun l => n.toNat.toUInt8 :: l
  | _ => none

def isSliceV : Value → Bool
  | .slice .. => true
  | _ => false

def srcOf : Bool → Opd → Option Nat
  | true, .t m => some m
  | _, _ => none

/-- The value of 'load' at a place. -/
def loadD (s : St) (n : Nat) (ag : Bool) : DV → Option DV
  | .pim cs => if n ≤ cs.length && (cs.take n).all cellC then mkV ag (cs.take n) else none
  | p => (look s p).bind fun x => (x.1[x.2.1]?).bind fun row =>
    if x.2.2 + n ≤ row.length && ((row.drop x.2.2).take n).all cellC then mkV ag (((row.drop x.2.2).take n).map wk1) else none

def bin2 (P : Program) (op : BinOp) (T : TypeId) (a b : Value) : Option DV :=
  match a, b with
  | .nilIface, _ | _, .nilIface => none
  | _, _ => (calcP P (do eqGuard op T (.tmp 0) (.tmp 0) a b; binOp op T a b)).bind fun v => match v with
    | .int k n => some (.val (.int k n))
    | .bool t => some (.val (.bool t))
    | .string t => some (.val (.string t))
    | _ => none

def scal (v : Value) : Option DV :=
  match v with
  | .int k n => some (.val (.int k n))
  | .bool t => some (.val (.bool t))
  | .string t => some (.val (.string t))
  | _ => none

/-- A part of a tuple that names no object of the activation's own. -/
def extOK : DV → Bool
  | .lref .. | .larr .. => false
  | .clo _ caps => caps.all fun | .lref .. | .larr .. => false | _ => true
  | _ => true

def stepD (P : Program) (call : Call) (s : St) : AOp → Option De
  | .mv d x tr =>
    if tr then match x with
      | .t n => if n = d then none else some (.put (s.fr n) (some n))
      | x => some (.put (getW s.fr x) none)
    else some (.put (getW s.fr x) none)
  | .nilc _ x => match getW s.fr x with
    | .pim cs => some (.put (.pim cs) none)
    | .ref g i c => some (.put (.ref g i c) none)
    | .lref g i c => some (.put (.lref g i c) none)
    | .clo f caps => some (.put (.clo f caps) none)
    | _ => none
  | .pick _ c a b => match getO s.fr c with
    | .val (.bool t) => some (.put (if t then getW s.fr a else getW s.fr b) none)
    | _ => none
  | .alloc d _ zero g => if g then some (.glo [zero.map oneV]) else some (.loc [zero.map oneV] (.lref d 0 0))
  | .box d _ x mode =>
    let vs := cellsD (getW s.fr x)
    if mode = 0 then if vs.all pureC then some (.put (.pim (vs.map wk1)) none) else none
    else if vs.all cellC then
      if mode = 1 then some (.loc [vs] (.lref d 0 0)) else some (.glo [vs])
    else none
  | .build _ _ zero parts => (fillParts s.fr (zero.map oneV) parts).map fun cs => .put (.agg cs) none
  | .bsl _ _ sz zero n parts =>
    if zero.length = sz ∧ n * sz ≤ 16777216 then (fillRows s.fr (List.replicate n (zero.map fun v => wk1 (oneV v))) sz parts).map fun rows => .put (.lst true rows) none else none
  | .ld _ _ n ag a tr =>
    if tr then (look s (getO s.fr a)).bind fun x => (x.1[x.2.1]?).bind fun row =>
      match row[x.2.2]? with
      | some v => if ag ∨ n ≠ 1 ∨ cellC v = false then none else some (.wr (getO s.fr a) (x.1.set x.2.1 (setCells row x.2.2 [wk1 v])) none (some v))
      | none => none
    else (loadD s n ag (getO s.fr a)).map fun v => .put v none
  | .st _ n a x tr =>
    (look s (getO s.fr a)).bind fun y => (y.1[y.2.1]?).bind fun row =>
    let vs := cellsD (if tr then getO s.fr x else getW s.fr x)
    if vs.length = n ∧ y.2.2 + n ≤ row.length ∧ vs.all cellC = true then
      some (.wr (getO s.fr a) (y.1.set y.2.1 (setCells row y.2.2 vs)) (srcOf tr x) none)
    else none
  | .bin _ op T x y => (exact (getW s.fr x)).bind fun a => (exact (getW s.fr y)).bind fun b => (bin2 P op T a b).map fun v => .put v none
  | .un _ op x => (exact1 (getW s.fr x)).bind fun a => (calcP P (Op.unary op a)).bind fun v => (scal v).map fun v => .put v none
  | .conv _ src dst x => (exact1 (getW s.fr x)).bind fun a => (calcP P (convert src dst a)).bind fun v => (scal v).map fun v => .put v none
  | .slc _ _ str sz x lo hi mx =>
    if str then match getW s.fr x with
      | .val (.string b) => (optN s.fr 0 lo).bind fun l => (optN s.fr b.size hi).bind fun h =>
        if l ≤ h ∧ h ≤ b.size ∧ mx.isNone = true then some (.put (.val (.string (b.extract l h))) none) else none
      | _ => none
    else (rowsOf s (getW s.fr x)).bind fun r => (optN s.fr 0 lo).bind fun l => (optN s.fr r.length hi).bind fun h =>
      if !r.all (·.length = sz) then none else
      match mx with
      | none => (sliceRows (getW s.fr x) l h none).map fun v => .put v none
      | some m => (natOfD (getO s.fr m)).bind fun m => (sliceRows (getW s.fr x) l h (some m)).map fun v => .put v none
  | .fad _ _ _ off n x => match getO s.fr x with
    | .pim cs => some (.put (.pim ((cs.drop off).take n)) none)
    | .ref g i c => some (.put (.ref g i (c + off)) none)
    | .lref g i c => some (.put (.lref g i (c + off)) none)
    | _ => none
  | .iad _ _ sz x i => (intOfD (getO s.fr i)).bind fun n => match getO s.fr x with
    | .lst _ rows => if 0 ≤ n ∧ n < rows.length then (rows[n.toNat]?).bind fun row => if row.length = sz then some (.put (.pim row) none) else none else none
    | .arr g off len => if 0 ≤ n ∧ n < len then (s.gl.ob g).bind fun r => (r[off + n.toNat]?).bind fun row => if row.length = sz then some (.put (.ref g (off + n.toNat) 0) none) else none else none
    | .larr g off len => if 0 ≤ n ∧ n < len then (s.lo g).bind fun r => (r[off + n.toNat]?).bind fun row => if row.length = sz then some (.put (.lref g (off + n.toNat) 0) none) else none else none
    | _ => none
  | .idx _ T x i => (exact1 (getW s.fr x)).bind fun a => (exact1 (getW s.fr i)).bind fun b => (calcP P (Instr.index T a b)).bind fun v => (scal v).map fun v => .put v none
  | .ext _ x i => match getO s.fr x with
    | .tup cs => (cs[i]?).bind fun c => if extOK c then some (.put (wk c) none) else none
    | _ => none
  | .call _ f args op => doCall call s f (args.map (getW s.fr)) op
  | .callv _ x args op => match getW s.fr x with
    | .clo f caps => doCall call s f (args.map (getW s.fr) ++ caps) op
    | _ => none
  | .len _ str x =>
    if str then match getW s.fr x with
      | .val (.string b) => some (.put (.val (.int .i64 b.size)) none)
      | _ => none
    else (rowsOf s (getW s.fr x)).map fun r => .put (.val (.int .i64 r.length)) none
  | .app d _ sz x y => (rowsOf s (getW s.fr y)).bind fun ys => match getO s.fr x with
    | .lst true rows =>
      if ys.all (fun r => r.length = sz && r.all pureC) && rows.all (·.length = sz) && (rows.length + ys.length ≤ roomN) then
        match x with
        | .t n => if n = d then none else some (.put (.lst true (rows ++ ys.map (·.map wk1))) (some n))
        | _ => some (.put (.lst true (rows ++ ys.map (·.map wk1))) none)
      else none
    | _ => none
  | .mnx _ mx args => (mapO exact1 (args.map (getW s.fr))).bind fun vs =>
    (calcP P (if mx then Builtin.max_ #[] 0 vs.toArray else Builtin.min_ #[] 0 vs.toArray)).bind fun v => (scal v).map fun v => .put v none
  | .mkf _ f caps => if (caps.map (getW s.fr)).all (fun | .agg _ | .tup _ | .any => false | .clo .. => false | _ => true) then some (.put (.clo f (caps.map (getW s.fr))) none) else none
  | .mks d _ sz zero l c lo => (natOfD (getO s.fr l)).bind fun n => (natOfD (getO s.fr c)).bind fun m =>
    if n = m ∧ n ≤ roomN ∧ zero.length = sz ∧ sz ≠ 0 then
      (if lo then some (.loc (List.replicate n (zero.map fun v => wk1 (oneV v))) (.larr d 0 n)) else some (.put (.lst true (List.replicate n (zero.map fun v => wk1 (oneV v)))) none)) else none

def dstOf : AOp → Option Nat
  | .mv d .. | .nilc d .. | .pick d .. | .alloc d .. | .box d .. | .build d .. | .bsl d .. | .ld d .. | .bin d .. | .un d .. | .conv d .. | .slc d .. | .fad d .. | .iad d ..
  | .idx d .. | .ext d .. | .len d .. | .app d .. | .mnx d .. | .mkf d .. | .mks d .. => some d
  | .st .. => none
  | .call d .. | .callv d .. => d

def skipV : DV := .tup []

/-- The same slots, no object. -/
def St.noMem (s : St) : St := ⟨s.fr, fun _ => none, Gl.empty⟩

def isPut : De → Option De
  | .put v src => some (.put v src)
  | _ => none

/-- An operation, its guard aside. -/
def oneD (P : Program) (call : Call) (s : St) (o : GOp) : Option De :=
  if o.pu then (stepD P call s.noMem o.op).bind isPut else stepD P call s o.op

/-- An operation with its guard. -/
def gD (P : Program) (call : Call) (s : St) (o : GOp) : Option De :=
  match o.gd with
  | none => oneD P call s o
  | some (g, b) => match s.fr g with
    | .val (.bool t) => if t = b then oneD P call s o else some (.put skipV none)
    | .tup [] => some (.put skipV none)
    | _ => none

def gstep (P : Program) (call : Call) (s : St) (o : GOp) : Option St := (gD P call s o).map (s.ap (dstOf o.op))

def steps (P : Program) (call : Call) : St → List GOp → Option St
  | s, [] => some s
  | s, o :: r => (gstep P call s o).bind fun s => steps P call s r

/-- The objects that a region makes. -/
def locOf : AOp → Option Nat
  | .alloc d _ _ false => some d
  | .box d _ _ 1 => some d
  | .mks d _ _ _ _ _ true => some d
  | _ => none

/-- An object is forgotten, with all that points to it. -/
def St.forget (s : St) (d : Nat) : St := ⟨fun i => kill d (s.fr i), upd s.lo d none, s.gl⟩

def forgets (s : St) : List GOp → St
  | [] => s
  | o :: r => match locOf o.op with
    | some d => forgets (s.forget d) r
    | none => forgets s r

/-- A value, where an array of the activation's own is a list from now on. -/
def frzV (l : Nat) (rows : Rows) : DV → DV
  | .larr s off len => if s = l then (if off + len ≤ rows.length then .lst false (((rows.drop off).take len).map (·.map wk1)) else .any) else .larr s off len
  | d => kill l d

/-- An array of the activation's own is no longer written to. -/
def St.freeze (s : St) (l : Nat) : Option St :=
  (s.lo l).bind fun rows => if rows.all (·.all pureC) then some ⟨fun i => frzV l rows (s.fr i), upd s.lo l none, s.gl⟩ else none

/-- What a border lets through. -/
def St.keep (s : St) (k : KS) : St :=
  ⟨fun i => match k.how i with | none => .any | some true => s.fr i | some false => wk (s.fr i), fun l => if k.its.any (fun x => x.loc? == some l) then s.lo l else none, s.gl⟩

def outOf : List (Ex × KS) → Ex → Option KS
  | [], _ => none
  | (e, k) :: r, x => if e = x then some k else outOf r x

def keepX (outs : List (Ex × KS)) (r : Ex × St) : Option (Ex × St) := (outOf outs r.1).map fun k => (r.1, r.2.keep k)

def iter {α : Type} (f : α → Option (Ex × α)) : Nat → α → Option (Ex × α)
  | 0, _ => none
  | n + 1, s => (f s).bind fun r => if r.1 = .normal then iter f n r.2 else some r

def exec (P : Program) (call : Call) (n : Nat) : AC → St → Option (Ex × St)
  | .frz l b, s => (s.freeze l).bind (exec P call n b)
  | .skip, s => some (.normal, s)
  | .reg ops dr, s => (steps P call (if dr then forgets s ops else s) ops).map fun s => (.normal, s)
  | .seq a b, s => (exec P call n a s).bind fun r => if r.1 = .normal then exec P call n b r.2 else some r
  | .cond c a b, s => match getO s.fr c with
    | .val (.bool t) => if t then exec P call n a s else exec P call n b s
    | _ => none
  | .block id b, s => (exec P call n b s).map fun r => if r.1 = .exit id then (.normal, r.2) else r
  | .loop H outs b, s => iter (fun s => (exec P call n b s).bind (keepX ((.normal, H) :: outs))) n (s.keep H)
  | .scope outs b, s => (exec P call n b s).bind (keepX outs)
  | .exit id, s => some (.exit id, s)
  | .ret, s => some (.ret, s)

def resOf (s : St) : RV → Option DV
  | .tmp t => some (s.fr t)
  | .cell t _ n ag => loadD s n ag (s.fr t)

/-- One of several results. -/
def okMulti : DV → Bool
  | .agg cs => cs.all pureC
  | .clo f caps => pureC (.clo f caps)
  | .ref .. | .arr .. | .val _ | .lst .. | .pim .. => true
  | _ => false

def results (s : St) (rs : List RV) : Option DV :=
  (mapO (resOf s) rs).bind fun ds => match ds with
  | [d] => if resNoLoc d then some d else none
  | ds => if ds.all okMulti then some (.tup (ds.map wk)) else none

def args0 (args : List DV) : Nat → DV := fun i => (args[i]?).getD .any

/-- 'L': how many rounds a loop may make; 'k': how deep calls may go. -/
def den (P : Program) (tbl : FuncId → List DV → Option AF) (L : Nat) : Nat → Call
  | 0, _, _, _ => none
  | k + 1, f, args, gl => (tbl f args).bind fun af =>
    if args.length = af.nparams then
      (exec P (den P tbl L k) L af.body ⟨args0 args, fun _ => none, gl⟩).bind fun r =>
      match r.1 with
      | .exit _ => none
      | _ => (results r.2 af.res).map fun d => (d, r.2.gl)
    else none

end Go.AM
