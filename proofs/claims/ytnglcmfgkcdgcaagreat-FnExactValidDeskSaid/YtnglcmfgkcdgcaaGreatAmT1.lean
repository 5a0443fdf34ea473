/- The typed machine: values with typed lists, its state, its operations, its code. Definitions alone. -/
import Derived.Test.YtnglcmfgkcdgcaaGreatAmA1
set_option linter.unusedVariables false
set_option linter.unusedSimpArgs false
namespace Go.AM
open Go

def Ty.cells : (t : Ty) → t.den → List TV
  | .unit, _ => []
  | .int k, n => [.val (.int k n)]
  | .bool, b => [.val (.bool b)]
  | .str, s => [.val (.string s)]
  | .lst t, xs => [.lst false t xs]
  | .pair a b, x => a.cells x.1 ++ b.cells x.2
  | .pim t, x => [.pim (t.cells x)]
  | .clo f t, x => [.clo f (t.cells x)]

def Ty.row : (t : Ty) → t.den → List DV
  | .unit, _ => []
  | .int k, n => [.val (.int k n)]
  | .bool, b => [.val (.bool b)]
  | .str, s => [.val (.string s)]
  | .lst t, xs => [.lst false (xs.map t.row)]
  | .pair a b, x => a.row x.1 ++ b.row x.2
  | .pim t, x => [.pim (t.row x)]
  | .clo f t, x => [.clo f (t.row x)]

def Ty.w : Ty → Nat
  | .unit => 0
  | .pair a b => a.w + b.w
  | _ => 1

mutual
/-- What a typed value says. -/
def TV.er : TV → DV
  | .any => .any
  | .val x => .val x
  | .lst o t xs => .lst o (xs.map t.row)
  | .agg cs => .agg (TV.ers cs)
  | .tup cs => .tup (TV.ers cs)
  | .pim cs => .pim (TV.ers cs)
  | .ref g i c => .ref g i c
  | .arr g o l => .arr g o l
  | .lref s i c => .lref s i c
  | .larr s o l => .larr s o l
  | .clo f cs => .clo f (TV.ers cs)
def TV.ers : List TV → List DV
  | [] => []
  | c :: r => c.er :: TV.ers r
end

def castL (t t' : Ty) (xs : List t.den) : Option (List t'.den) :=
  if h : t = t' then some (h ▸ xs) else match xs with | [] => some [] | _ => none

/-- A row's front as a typed value. -/
def Ty.dec : (t : Ty) → List TV → Option (t.den × List TV)
  | .unit, cs => some ((), cs)
  | .int k, cs => match cs with | .val (.int k' n) :: r => (if k' = k then some (n, r) else none) | _ => none
  | .bool, cs => match cs with | .val (.bool b) :: r => some (b, r) | _ => none
  | .str, cs => match cs with | .val (.string s) :: r => some (s, r) | _ => none
  | .lst t, cs => match cs with | .lst false t' xs :: r => (castL t' t xs).map fun ys => (ys, r) | _ => none
  | .pair a b, cs => (a.dec cs).bind fun x => (b.dec x.2).map fun y => ((x.1, y.1), y.2)
  | .pim t, cs => match cs with | .pim ds :: r => (match t.dec ds with | some (x, []) => some (x, r) | _ => none) | _ => none
  | .clo f t, cs => match cs with | .clo g ds :: r => (if g = f then (match t.dec ds with | some (x, []) => some (x, r) | _ => none) else none) | _ => none

def Ty.of (t : Ty) (cs : List TV) : Option t.den := match t.dec cs with | some (x, []) => some x | _ => none

def wkT1 : TV → TV
  | .lst _ t xs => .lst false t xs
  | d => d
def wkT : TV → TV
  | .lst _ t xs => .lst false t xs
  | .agg cs => .agg (cs.map wkT1)
  | d => d

def eqT1 : TV → TV → Bool
  | .ref g i c, .ref g' i' c' => Nat.beq g g' && Nat.beq i i' && Nat.beq c c'
  | .lref g i c, .lref g' i' c' => Nat.beq g g' && Nat.beq i i' && Nat.beq c c'
  | _, _ => false
def eqTs : List TV → List TV → Bool
  | [], [] => true
  | a :: r, b :: q => eqT1 a b && eqTs r q
  | _, _ => false
def eqT : TV → TV → Bool
  | .clo f a, .clo g b => Nat.beq f g && eqTs a b
  | a, b => eqT1 a b

@[reducible] def VT.times : VT → Type → Type
  | .c t, B => t.den × B
  | .own t, B => List t.den × B
  | .agg t, B => t.den × B
  | .gr _, B => B
  | .larr _, B => (Nat × Nat) × B
  | .arr _, B => (Nat × Nat) × B
  | .lref _ _, B => Nat × B
  | .ref _ _, B => Nat × B

def VT.put (w : Bool) : (v : VT) → TV → {B : Type} → B → Option (v.times B)
  | .c t, x, _, b => (t.of [bif w then wkT x else x]).map fun y => (y, b)
  | .own t, x, _, b => match x with | .lst true t' xs => (castL t' t xs).map fun y => (y, b) | _ => none
  | .agg t, x, _, b => match x with | .agg cs => (t.of (bif w then cs.map wkT1 else cs)).map fun y => (y, b) | _ => none
  | .gr g, x, _, b => bif eqT g x then some b else none
  | .larr s, x, _, b => match x with | .larr s' o l => (bif Nat.beq s' s then some ((o, l), b) else none) | _ => none
  | .arr s, x, _, b => match x with | .arr s' o l => (bif Nat.beq s' s then some ((o, l), b) else none) | _ => none
  | .lref s q, x, _, b => match x with | .lref s' i q' => (bif Nat.beq s' s && Nat.beq q' q then some (i, b) else none) | _ => none
  | .ref s q, x, _, b => match x with | .ref s' i q' => (bif Nat.beq s' s && Nat.beq q' q then some (i, b) else none) | _ => none

def cell1 : List TV → TV
  | [c] => c
  | _ => .any

def VT.tk : (v : VT) → {B : Type} → v.times B → TV × B
  | .c t, _, x => (cell1 (t.cells x.1), x.2)
  | .own t, _, x => (.lst true t x.1, x.2)
  | .agg t, _, x => (.agg (t.cells x.1), x.2)
  | .gr g, _, x => (g, x)
  | .larr s, _, x => (.larr s x.1.1 x.1.2, x.2)
  | .arr s, _, x => (.arr s x.1.1 x.1.2, x.2)
  | .lref s q, _, x => (.lref s x.1 q, x.2)
  | .ref s q, _, x => (.ref s x.1 q, x.2)

@[reducible] def denL : List VT → Type
  | [] => Unit
  | v :: r => v.times (denL r)

def decL : (l : List VT) → List TV → Option (denL l)
  | [], cs => match cs with | [] => some () | _ => none
  | v :: r, cs => match cs with | c :: q => (decL r q).bind (v.put false c) | [] => none

def encL : (l : List VT) → denL l → List TV
  | [], _ => []
  | v :: r, x => (v.tk x).1 :: encL r (v.tk x).2

/-- An object's rows. -/
inductive TR where
  | one (cs : List TV)
  | many (t : Ty) (xs : List t.den)
  deriving Inhabited

def TR.er : TR → Rows
  | .one cs => [TV.ers cs]
  | .many t xs => xs.map t.row

@[reducible] def OT.times : OT → Type → Type
  | .one cs, B => denL cs × B
  | .many t, B => List t.den × B

def OT.put : (o : OT) → TR → {B : Type} → B → Option (o.times B)
  | .one cs, x, _, b => match x with | .one ds => (decL cs ds).map fun y => (y, b) | _ => none
  | .many t, x, _, b => match x with | .many t' xs => (castL t' t xs).map fun y => (y, b) | _ => none

def OT.tk : (o : OT) → {B : Type} → o.times B → TR × B
  | .one cs, _, x => (.one (encL cs x.1), x.2)
  | .many t, _, x => (.many t x.1, x.2)

def aget {α : Type} : List (Nat × α) → Nat → Option α
  | [], _ => none
  | (i, v) :: r, j => bif Nat.beq i j then some v else aget r j
def aset {α : Type} : List (Nat × α) → Nat → α → List (Nat × α)
  | [], i, v => [(i, v)]
  | (j, w) :: r, i, v => bif Nat.beq j i then (j, v) :: r else (j, w) :: aset r i v
def adel {α : Type} : List (Nat × α) → Nat → List (Nat × α)
  | [], _ => []
  | (j, w) :: r, i => bif Nat.beq j i then adel r i else (j, w) :: adel r i

abbrev TFr := List (Nat × TV)
def TFr.get (f : TFr) (i : Nat) : TV := (aget f i).getD .any

structure TGl where
  ob : List (Nat × TR)
  nx : Nat

structure TSt where
  fr : TFr
  lo : List (Nat × TR)
  gl : TGl

def TGl.er (g : TGl) : Gl := ⟨fun i => (aget g.ob i).map TR.er, g.nx⟩
def TSt.er (T : TSt) : St := ⟨fun i => (T.fr.get i).er, fun i => (aget T.lo i).map TR.er, T.gl.er⟩

@[reducible] def itsDen : List It → Type
  | [] => Unit
  | .sl _ v :: r => v.times (itsDen r)
  | .lo _ o :: r => o.times (itsDen r)
  | .gl _ o :: r => o.times (itsDen r)

def itsDec (w : Bool) : (l : List It) → TSt → Option (itsDen l)
  | [], _ => some ()
  | .sl i v :: r, T => (itsDec w r T).bind (v.put w (T.fr.get i))
  | .lo i o :: r, T => (itsDec w r T).bind fun b => match aget T.lo i with | some x => o.put x b | none => none
  | .gl i o :: r, T => (itsDec w r T).bind fun b => match aget T.gl.ob i with | some x => o.put x b | none => none

def itsEnc : (l : List It) → itsDen l → TSt
  | [], _ => ⟨[], [], ⟨[], 0⟩⟩
  | .sl i v :: r, x => let y := v.tk x; let T := itsEnc r y.2; ⟨(i, y.1) :: T.fr, T.lo, T.gl⟩
  | .lo i o :: r, x => let y := o.tk x; let T := itsEnc r y.2; ⟨T.fr, (i, y.1) :: T.lo, T.gl⟩
  | .gl i o :: r, x => let y := o.tk x; let T := itsEnc r y.2; ⟨T.fr, T.lo, ⟨(i, y.1) :: T.gl.ob, T.gl.nx⟩⟩

/-- Are all of these objects among what is kept? -/
def glsIn (its : List It) : List (Nat × TR) → Bool
  | [] => true
  | (g, _) :: r => its.any (fun | .gl h _ => Nat.beq h g | _ => false) && glsIn its r

@[reducible] def KS.den (k : KS) : Type := itsDen k.its
def KS.dec (k : KS) (w : Bool) (T : TSt) : Option k.den := bif Nat.beq k.nx T.gl.nx && glsIn k.its T.gl.ob then itsDec w k.its T else none
def KS.enc (k : KS) (x : k.den) : TSt := let T := itsEnc k.its x; ⟨T.fr, T.lo, ⟨T.gl.ob, k.nx⟩⟩

@[reducible] def outDen : List (Ex × KS) → Type
  | [] => Empty
  | [(_, k)] => k.den
  | (_, k) :: p :: r => k.den ⊕ outDen (p :: r)

def outPut : (outs : List (Ex × KS)) → Ex → TSt → Option (outDen outs)
  | [], _, _ => none
  | [(e, k)], x, T => if e = x then k.dec true T else none
  | (e, k) :: p :: r, x, T => if e = x then (k.dec true T).map .inl else (outPut (p :: r) x T).map .inr

def outK {β : Type} : (outs : List (Ex × KS)) → outDen outs → (Ex → TSt → Option β) → Option β
  | [], _, _ => none
  | [(e, k)], x, K => K e (k.enc x)
  | (e, k) :: p :: r, x, K => Sum.elim (fun x => K e (k.enc x)) (fun y => outK (p :: r) y K) x

/-- Rounds. -/
def iterS {α β : Type} (f : α → Option (α ⊕ β)) : Nat → α → Option β
  | 0, _ => none
  | n + 1, x => (f x).bind (Sum.elim (iterS f n) some)

inductive TDe where
  | put (v : TV) (src : Option Nat)
  | loc (rows : TR) (v : TV)
  | glo (rows : TR)
  | wr (p : TV) (rows : TR) (src : Option Nat) (v : Option TV)
  | opn (v : TV) (gl : TGl)

def killT (s : Nat) : TV → TV
  | .lref s' i c => bif Nat.beq s' s then .any else .lref s' i c
  | .larr s' i c => bif Nat.beq s' s then .any else .larr s' i c
  | .clo f caps => bif caps.any (fun | .lref s' _ _ => Nat.beq s' s | .larr s' _ _ => Nat.beq s' s | _ => false) then .any else .clo f caps
  | d => d

def aput {α : Type} (l : List (Nat × α)) (d : Option Nat) (v : α) : List (Nat × α) := match d with | some d => aset l d v | none => l
def wkA (l : TFr) (src : Option Nat) : TFr := match src with | some n => aset l n (wkT (l.get n)) | none => l

def TSt.setOb (T : TSt) (p : TV) (rows : TR) : TSt :=
  match p with
  | .ref g _ _ => ⟨T.fr, T.lo, ⟨aset T.gl.ob g rows, T.gl.nx⟩⟩
  | .lref l _ _ => ⟨T.fr, aset T.lo l rows, T.gl⟩
  | _ => T

def amap (f : TV → TV) : TFr → TFr
  | [] => []
  | (i, v) :: r => (i, f v) :: amap f r

def TSt.ap (T : TSt) (d : Option Nat) : TDe → TSt
  | .put v src => ⟨aput (wkA T.fr src) d v, T.lo, T.gl⟩
  | .loc rows v => ⟨aput (amap (killT (d.getD 0)) T.fr) d v, aset T.lo (d.getD 0) rows, T.gl⟩
  | .glo rows => ⟨aput T.fr d (.ref T.gl.nx 0 0), T.lo, ⟨aset T.gl.ob T.gl.nx rows, T.gl.nx + 1⟩⟩
  | .wr p rows src v => let U := T.setOb p rows; ⟨match v with | some v => aput (wkA U.fr src) d v | none => wkA U.fr src, U.lo, U.gl⟩
  | .opn v gl => ⟨aput T.fr d v, T.lo, gl⟩

def oneT : Value → TV
  | .slice none 0 0 => .lst true .unit []
  | v => .val v
def tvOf : Value → TV
  | .agg vs => .agg (vs.toList.map oneT)
  | v => oneT v

def getT (fr : TFr) : Opd → TV
  | .t n => fr.get n
  | .k v => tvOf v
  | .f n => .clo n []
def getTW (fr : TFr) : Opd → TV
  | .t n => wkT (fr.get n)
  | .k v => tvOf v
  | .f n => .clo n []

def cellsT : TV → List TV
  | .agg cs => cs
  | d => [d]

def pureT : TV → Bool
  | .val x => (match x with | .agg _ | .tuple _ => false | _ => true)
  | .lst .. => true
  | .pim _ => true
  | .clo _ caps => caps.all fun | .val _ => true | .lst .. => true | .pim _ => true | _ => false
  | _ => false
def cellCT : TV → Bool
  | .ref .. | .arr .. => true
  | d => pureT d

def setCellsT (row : List TV) (c : Nat) (vs : List TV) : List TV := row.take c ++ vs ++ row.drop (c + vs.length)

def exactT1 : TV → Option Value
  | .val x => some x
  | _ => none
def exactT : TV → Option Value
  | .val x => some x
  | .agg cs => (mapO exactT1 cs).map fun l => .agg l.toArray
  | _ => none

/-- A row of an object, the object behind a pointer. -/
def rowK {β : Type} (r : TR) (i : Nat) (K : List TV → Option β) : Option β :=
  match r with
  | .one cs => match i with | 0 => K cs | _ + 1 => none
  | .many t xs => (xs[i]?).bind fun x => K (t.cells x)

def lookT (T : TSt) : TV → Option (TR × Nat × Nat)
  | .ref g i c => (aget T.gl.ob g).map fun r => (r, i, c)
  | .lref l i c => (aget T.lo l).map fun r => (r, i, c)
  | _ => none

def setRow (r : TR) (i : Nat) (row : List TV) : Option TR :=
  match r with
  | .one _ => some (.one row)
  | .many t xs => (t.of row).map fun x => .many t (xs.set i x)

def mkVT (ag : Bool) (cs : List TV) : Option TV := bif ag then some (.agg cs) else match cs with | [d] => some d | _ => none

def natK {β : Type} (v : TV) (K : Nat → Option β) : Option β :=
  match v with
  | .val (.int _ n) => if 0 ≤ n then K n.toNat else none
  | _ => none
def optK {β : Type} (fr : TFr) (dflt : Nat) (o : Option Opd) (K : Nat → Option β) : Option β :=
  match o with
  | none => K dflt
  | some x => natK (getT fr x) K

/-- An object's rows, from 'off' on. -/
def winK {β : Type} (r : TR) (off len : Nat) (K : (t : Ty) → List t.den → Option β) : Option β :=
  match r with
  | .many t xs => if off + len ≤ xs.length then K t ((xs.drop off).take len) else none
  | _ => none

def rowsK {β : Type} (T : TSt) (v : TV) (K : (t : Ty) → List t.den → Option β) : Option β :=
  match v with
  | .lst _ t xs => K t xs
  | .arr g off len => (aget T.gl.ob g).bind fun r => winK r off len K
  | .larr l off len => (aget T.lo l).bind fun r => winK r off len K
  | _ => none

/-- Are a row's cells plain data? -/
def Ty.cap : Ty → Bool
  | .pair a b => a.cap && b.cap
  | .clo _ _ => false
  | _ => true
def Ty.pureB : Ty → Bool
  | .pair a b => a.pureB && b.pureB
  | .clo _ t => t.cap
  | _ => true

def closeKT {β : Type} (T : TSt) (v : TV) (K : TV → Option β) : Option β :=
  match v with
  | .val x => K (.val x)
  | .lst _ t xs => K (.lst false t xs)
  | .pim cs => K (.pim cs)
  | .clo f caps => bif pureT (.clo f caps) then K (.clo f caps) else none
  | .ref g i c => (aget T.gl.ob g).bind fun r => rowK r i fun row => bif (row.drop c).all pureT then K (.pim ((row.drop c).map wkT1)) else none
  | .lref l i c => (aget T.lo l).bind fun r => rowK r i fun row => bif (row.drop c).all pureT then K (.pim ((row.drop c).map wkT1)) else none
  | .arr g off len => (aget T.gl.ob g).bind fun r => winK r off len fun t xs => bif t.pureB then K (.lst false t xs) else none
  | .larr l off len => (aget T.lo l).bind fun r => winK r off len fun t xs => bif t.pureB then K (.lst false t xs) else none
  | _ => none

def closeLK {β : Type} (T : TSt) : List TV → (List TV → Option β) → Option β
  | [], K => K []
  | v :: r, K => closeKT T v fun x => closeLK T r fun l => K (x :: l)

def closeAK {β : Type} (T : TSt) (v : TV) (K : TV → Option β) : Option β :=
  match v with
  | .agg cs => closeLK T cs fun l => K (.agg l)
  | .clo f caps => closeLK T caps fun l => K (.clo f l)
  | d => closeKT T d K

def closeAllK {β : Type} (T : TSt) : List TV → (List TV → Option β) → Option β
  | [], K => K []
  | v :: r, K => closeAK T v fun x => closeAllK T r fun l => K (x :: l)

def looksT1 : TV → Bool
  | .ref .. | .lref .. | .arr .. | .larr .. => true
  | _ => false
def looksT : TV → Bool
  | .agg cs => cs.any looksT1
  | .clo _ caps => caps.any looksT1
  | d => looksT1 d

def flatCT : TV → Bool
  | .val _ => true
  | _ => false
def Ty.flat : Ty → Bool
  | .unit | .int _ | .bool | .str => true
  | .pair a b => a.flat && b.flat
  | _ => false
def flatT : TV → Bool
  | .val _ => true
  | .agg cs => cs.all flatCT
  | .tup cs => cs.all flatCT
  | .lst true t _ => t.flat
  | _ => false

def closedT1 : TV → Bool
  | .ref .. | .arr .. | .lref .. | .larr .. | .any => false
  | .clo f caps => pureT (.clo f caps)
  | _ => true
def closedT : TV → Bool
  | .agg cs => cs.all closedT1
  | .tup cs => cs.all (fun | .agg cs => cs.all closedT1 | d => closedT1 d)
  | d => closedT1 d

def noLocT1 : TV → Bool
  | .lref .. | .larr .. | .any => false
  | _ => true
def noLocT : TV → Bool
  | .lref .. | .larr .. | .any => false
  | .clo _ caps => caps.all noLocT1
  | .agg cs => cs.all noLocT1
  | .tup _ => false
  | _ => true
def resNoLocT : TV → Bool
  | .lref .. | .larr .. | .any => false
  | .clo _ caps => caps.all noLocT1
  | .agg cs => cs.all noLocT1
  | .tup cs => cs.all noLocT1
  | _ => true

/-- What a function computes, in Lean's own terms. -/
structure Sm where
  f : FuncId
  np : Nat
  kin : KS
  nres : Nat
  kout : KS
  R : Type
  un : R → kout.den
  fn : kin.den → Option R

/-- Arguments' values, and shared objects. -/
def KS.args (k : KS) (np : Nat) : Bool :=
  (List.range np).all (fun i => k.its.any fun | .sl j _ => Nat.beq j i | _ => false) && k.its.all fun | .sl j _ => Nat.ble (j + 1) np | .lo .. => false | .gl .. => true

/-- The value of a call's results. -/
def resT (fr : TFr) (n : Nat) : TV := match n with
  | 1 => fr.get 0
  | n => .tup ((List.range n).map fr.get)

def frameOf : Nat → List TV → TFr
  | _, [] => []
  | n, v :: r => (n, v) :: frameOf (n + 1) r

def callK {β : Type} : List Sm → FuncId → Nat → TSt → (TSt → Nat → Option β) → Option β
  | [], _, _, _, _ => none
  | S :: r, f, n, T, K => bif Nat.beq S.f f && Nat.beq S.np n then (match S.kin.dec false T with
    | some v => (S.fn v).bind fun x => K (S.kout.enc (S.un x)) S.nres
    | none => callK r f n T K) else callK r f n T K

def doCallK {β : Type} (sig : List Sm) (T : TSt) (f : FuncId) (args : List TV) (op : Bool) (K : TDe → Option β) : Option β :=
  bif op then
    bif args.all noLocT then callK sig f args.length ⟨frameOf 0 args, [], T.gl⟩ fun U n => bif resNoLocT (resT U.fr n) then K (.opn (resT U.fr n) U.gl) else none else none
  else closeAllK T args fun as => callK sig f as.length ⟨frameOf 0 as, [], ⟨[], 0⟩⟩ fun U n =>
    bif closedT (resT U.fr n) && (!(args.any looksT) || flatT (resT U.fr n)) then K (.put (resT U.fr n) none) else none

def fillPartsT (fr : TFr) (cells : List TV) : List (Nat × Nat × Opd) → Option (List TV)
  | [] => some cells
  | (off, n, x) :: rest =>
    let vs := cellsT (getTW fr x)
    bif Nat.beq vs.length n && Nat.ble (off + n) cells.length && vs.all cellCT then fillPartsT fr (setCellsT cells off vs) rest else none

def fillRowsT (fr : TFr) (t : Ty) (xs : List t.den) : List (Nat × Opd) → Option (List t.den)
  | [] => some xs
  | (i, x) :: rest => bif Nat.ble (i + 1) xs.length then (match t.of ((cellsT (getTW fr x)).map wkT1) with | some y => fillRowsT fr t (xs.set i y) rest | none => none) else none

def ibits (op : BinOp) (k : IntKind) (x y : Int) : Int :=
  let a := BitVec.ofInt k.bits x
  let b := BitVec.ofInt k.bits y
  k.wrap (match op with | .and => a &&& b | .or => a ||| b | .xor => a ^^^ b | _ => a &&& ~~~b).toNat

def vintK {β : Type} (op : BinOp) (k : IntKind) (x : Int) (k' : IntKind) (y : Int) (K : Value → Option β) : Option β :=
  match op with
  | .shl => if y < 0 then none else K (.int k (k.wrap (x * 2 ^ (min y.toNat k.bits))))
  | .shr => if y < 0 then none else K (.int k (x.fdiv (2 ^ (min y.toNat k.bits))))
  | op => if k = k' then match op with
    | .add => K (.int k (k.wrap (x + y)))
    | .sub => K (.int k (k.wrap (x - y)))
    | .mul => K (.int k (k.wrap (x * y)))
    | .quo => if y = 0 then none else K (.int k (k.wrap (x.tdiv y)))
    | .rem => if y = 0 then none else K (.int k (x.tmod y))
    | .and => K (.int k (ibits .and k x y))
    | .or => K (.int k (ibits .or k x y))
    | .xor => K (.int k (ibits .xor k x y))
    | .andNot => K (.int k (ibits .andNot k x y))
    | .eql => K (.bool (x == y))
    | .neq => K (.bool (x != y))
    | .lss => K (.bool (x < y))
    | .leq => K (.bool (x ≤ y))
    | .gtr => K (.bool (x > y))
    | .geq => K (.bool (x ≥ y))
    | _ => none
    else none

def strEq (x y : ByteArray) : Bool := x.toList == y.toList
def strLt (x y : ByteArray) : Bool := Op.bytesLess x.toList y.toList

def vstrK {β : Type} (op : BinOp) (x y : ByteArray) (K : Value → Option β) : Option β :=
  match op with
  | .add => if ((x.size + y.size : Nat) : Int) > IntKind.i64.max then none else K (.string (x ++ y))
  | .eql => K (.bool (strEq x y))
  | .neq => K (.bool (!strEq x y))
  | .lss => K (.bool (strLt x y))
  | .leq => K (.bool (strLt x y || strEq x y))
  | .gtr => K (.bool (!(strLt x y || strEq x y)))
  | .geq => K (.bool (!strLt x y))
  | _ => none

/-- Two structs' cells are equal, field by field: none but numbers, truth values and strings. -/
def eqF (P : Program) (xs ys : Array Value) : List Field → Option Bool
  | [] => some true
  | f :: r => if f.name ≠ "_" then (match P.underlying f.type, xs[f.offset]?, ys[f.offset]? with
    | some (.int _), some (.int k x), some (.int k' y) => if k = k' then (eqF P xs ys r).map fun b => (x == y) && b else none
    | some .string, some (.string x), some (.string y) => (eqF P xs ys r).map fun b => (x == y) && b
    | some .bool, some (.bool x), some (.bool y) => (eqF P xs ys r).map fun b => (x == y) && b
    | _, _, _ => none) else none

def veqK {β : Type} (P : Program) (T : TypeId) (a b : Value) (K : Bool → Option β) : Option β :=
  match a, b with
  | .bool x, .bool y => (match P.underlying T with | some .bool => K (x == y) | _ => none)
  | .agg xs, .agg ys => (match P.underlying T with
    | some (.struct fs) => bif P.stoodInHeld T || P.eqGuardType P.depth T then none else (match eqF P xs ys fs.toList with | some t => K t | none => none)
    | _ => none)
  | _, _ => none

def vbinK {β : Type} (P : Program) (op : BinOp) (T : TypeId) (a b : Value) (K : Value → Option β) : Option β :=
  match a, b with
  | .int k x, .int k' y => vintK op k x k' y K
  | .string x, .string y => vstrK op x y K
  | a, b => match op with
    | .eql => veqK P T a b fun t => K (.bool t)
    | .neq => veqK P T a b fun t => K (.bool (!t))
    | _ => none

def vunK {β : Type} (op : UnOp) (a : Value) (K : Value → Option β) : Option β :=
  match op, a with
  | .neg, .int k n => K (.int k (k.wrap (0 - n)))
  | .not, .bool b => K (.bool (!b))
  | _, _ => none

def vconvK {β : Type} (P : Program) (src dst : TypeId) (a : Value) (K : Value → Option β) : Option β :=
  match P.underlying src, P.underlying dst, a with
  | some (.int _), some (.int k), .int _ n => K (.int k (k.wrap n))
  | some .string, some .string, .string s => K (.string s)
  | _, _, _ => none

def byteAt (s : ByteArray) (i : Int) : Option Int := if 0 ≤ i then (s[i.toNat]?).map fun b => (b.toNat : Int) else none

def mx (x y : Int) : Int := if y > x then y else x
def mn (x y : Int) : Int := if y < x then y else x

def vmnx (b : Bool) : Value → List Value → Option Value
  | .int k x, [] => some (.int k x)
  | .int k x, .int k' y :: r => if k = k' then vmnx b (.int k (bif b then mx x y else mn x y)) r else none
  | _, _ => none

def getI {α : Type} (xs : List α) (n : Int) : Option α := if 0 ≤ n ∧ n < xs.length then xs[n.toNat]? else none
def appL {α : Type} (xs ys : List α) : Option (List α) := if xs.length + ys.length ≤ roomN then some (xs ++ ys) else none
def cutL {α : Type} (xs : List α) (l h : Nat) : Option (List α) := if l ≤ h ∧ h ≤ xs.length then some ((xs.take h).drop l) else none
def cutS (b : ByteArray) (l h : Nat) : Option ByteArray := if l ≤ h ∧ h ≤ b.size then some (b.extract l h) else none

def tstepK {β : Type} (P : Program) (sig : List Sm) (T : TSt) (ty : Ty) (o : AOp) (K : TDe → Option β) : Option β :=
  match o with
  | .mv d x tr =>
    bif tr then (match x with
      | .t n => bif Nat.beq n d then none else K (.put (T.fr.get n) (some n))
      | x => K (.put (getTW T.fr x) none))
    else K (.put (getTW T.fr x) none)
  | .nilc _ x => (match getTW T.fr x with
    | .pim cs => K (.put (.pim cs) none)
    | .ref g i c => K (.put (.ref g i c) none)
    | .lref g i c => K (.put (.lref g i c) none)
    | .clo f caps => K (.put (.clo f caps) none)
    | _ => none)
  | .pick _ c a b => (match getT T.fr c with
    | .val (.bool t) => if t = true then K (.put (getTW T.fr a) none) else K (.put (getTW T.fr b) none)
    | _ => none)
  | .alloc d _ zero g => bif g then K (.glo (.one (zero.map oneT))) else K (.loc (.one (zero.map oneT)) (.lref d 0 0))
  | .box d _ x mode =>
    let vs := cellsT (getTW T.fr x)
    bif Nat.beq mode 0 then (bif vs.all pureT then K (.put (.pim (vs.map wkT1)) none) else none)
    else bif vs.all cellCT then (bif Nat.beq mode 1 then K (.loc (.one vs) (.lref d 0 0)) else K (.glo (.one vs))) else none
  | .build _ _ zero parts => (match fillPartsT T.fr (zero.map oneT) parts with | some cs => K (.put (.agg cs) none) | none => none)
  | .bsl _ _ sz zero n parts =>
    (match ty.of (zero.map fun v => wkT1 (oneT v)) with
    | some z => bif Nat.beq zero.length sz && Nat.ble (n * sz) 16777216 && ty.pureB then (match fillRowsT T.fr ty (List.replicate n z) parts with | some xs => K (.put (.lst true ty xs) none) | none => none) else none
    | none => none)
  | .ld _ _ n ag a tr =>
    bif tr then (match lookT T (getT T.fr a) with
      | some (.one cs, 0, c) => (match cs[c]? with
        | some v => bif ag || !(Nat.beq n 1) || !(cellCT v) then none else K (.wr (getT T.fr a) (.one (setCellsT cs c [wkT1 v])) none (some v))
        | none => none)
      | _ => none)
    else (match getT T.fr a with
      | .pim cs => bif Nat.ble n cs.length && (cs.take n).all cellCT then (match mkVT ag (cs.take n) with | some v => K (.put v none) | none => none) else none
      | p => (match lookT T p with
        | some (r, i, c) => rowK r i fun row => bif Nat.ble (c + n) row.length && ((row.drop c).take n).all cellCT then (match mkVT ag (((row.drop c).take n).map wkT1) with | some v => K (.put v none) | none => none) else none
        | none => none))
  | .st _ n a x tr =>
    (match lookT T (getT T.fr a) with
    | some (r, i, c) =>
      let vs := cellsT (bif tr then getT T.fr x else getTW T.fr x)
      rowK r i fun row => bif Nat.beq vs.length n && Nat.ble (c + n) row.length && vs.all cellCT then (match setRow r i (setCellsT row c vs) with | some r' => K (.wr (getT T.fr a) r' (srcOf tr x) none) | none => none) else none
    | none => none)
  | .bin _ op U x y => (match exactT (getTW T.fr x), exactT (getTW T.fr y) with
    | some a, some b => vbinK P op U a b fun v => K (.put (.val v) none)
    | _, _ => none)
  | .un _ op x => (match exactT1 (getTW T.fr x) with
    | some a => vunK op a fun v => K (.put (.val v) none)
    | _ => none)
  | .conv _ src dst x => (match exactT1 (getTW T.fr x) with
    | some a => vconvK P src dst a fun v => K (.put (.val v) none)
    | _ => none)
  | .slc _ _ str sz x lo hi mx =>
    bif str then (match getTW T.fr x, mx with
      | .val (.string b), none => optK T.fr 0 lo fun l => optK T.fr b.size hi fun h => (cutS b l h).bind fun c => K (.put (.val (.string c)) none)
      | _, _ => none)
    else (match getTW T.fr x, mx with
      | .lst _ t xs, none => bif Nat.beq t.w sz then optK T.fr 0 lo fun l => optK T.fr xs.length hi fun h => (cutL xs l h).bind fun c => K (.put (.lst false t c) none) else none
      | .larr s off len, none => (match aget T.lo s with
        | some (.many t xs) => bif Nat.beq t.w sz then optK T.fr 0 lo fun l => optK T.fr len hi fun h => if l ≤ h then (if h ≤ len then (if off + len ≤ xs.length then K (.put (.larr s (off + l) (h - l)) none) else none) else none) else none else none
        | _ => none)
      | .arr s off len, none => (match aget T.gl.ob s with
        | some (.many t xs) => bif Nat.beq t.w sz then optK T.fr 0 lo fun l => optK T.fr len hi fun h => if l ≤ h then (if h ≤ len then (if off + len ≤ xs.length then K (.put (.arr s (off + l) (h - l)) none) else none) else none) else none else none
        | _ => none)
      | _, _ => none)
  | .fad _ _ _ off n x => (match getT T.fr x with
    | .pim cs => K (.put (.pim ((cs.drop off).take n)) none)
    | .ref g i c => K (.put (.ref g i (c + off)) none)
    | .lref g i c => K (.put (.lref g i (c + off)) none)
    | _ => none)
  | .iad _ _ sz x i => (match getT T.fr i with
    | .val (.int _ n) => (match getT T.fr x with
      | .lst _ t xs => bif Nat.beq t.w sz then (getI xs n).bind fun y => K (.put (.pim (t.cells y)) none) else none
      | .arr g off len => if 0 ≤ n then (if n < len then (match aget T.gl.ob g with
        | some r => rowK r (off + n.toNat) fun row => bif Nat.beq row.length sz then K (.put (.ref g (off + n.toNat) 0) none) else none
        | none => none) else none) else none
      | .larr g off len => if 0 ≤ n then (if n < len then (match aget T.lo g with
        | some r => rowK r (off + n.toNat) fun row => bif Nat.beq row.length sz then K (.put (.lref g (off + n.toNat) 0) none) else none
        | none => none) else none) else none
      | _ => none)
    | _ => none)
  | .idx _ U x i => (match getTW T.fr x, getTW T.fr i with
    | .val (.string s), .val (.int _ n) => (match P.underlying U with | some .string => (byteAt s n).bind fun c => K (.put (.val (.int .u8 c)) none) | _ => none)
    | _, _ => none)
  | .ext _ x i => (match getT T.fr x with
    | .tup cs => (match cs[i]? with
      | some c => (match c with | .lref .. => none | .larr .. => none | .clo .. => none | c => K (.put (wkT c) none))
      | none => none)
    | _ => none)
  | .call _ f args op => doCallK sig T f (args.map (getTW T.fr)) op K
  | .callv _ x args op => (match getTW T.fr x with
    | .clo f caps => doCallK sig T f (args.map (getTW T.fr) ++ caps) op K
    | _ => none)
  | .len _ str x =>
    bif str then (match getTW T.fr x with
      | .val (.string b) => K (.put (.val (.int .i64 b.size)) none)
      | _ => none)
    else (match getTW T.fr x with
      | .lst _ _ xs => K (.put (.val (.int .i64 xs.length)) none)
      | .larr s off len => (match aget T.lo s with | some (.many _ xs) => if off + len ≤ xs.length then K (.put (.val (.int .i64 len)) none) else none | _ => none)
      | .arr s off len => (match aget T.gl.ob s with | some (.many _ xs) => if off + len ≤ xs.length then K (.put (.val (.int .i64 len)) none) else none | _ => none)
      | _ => none)
  | .app d _ sz x y => (match getT T.fr x with
    | .lst true t xs => rowsK T (getTW T.fr y) fun t' ys => (match castL t ty xs, castL t' ty ys with
      | some xs, some ys => bif Nat.beq ty.w sz && ty.pureB then (match x with
        | .t n => bif Nat.beq n d then none else (appL xs ys).bind fun zs => K (.put (.lst true ty zs) (some n))
        | _ => (appL xs ys).bind fun zs => K (.put (.lst true ty zs) none)) else none
      | _, _ => none)
    | _ => none)
  | .mnx _ b args => (match mapO exactT1 (args.map (getTW T.fr)) with
    | some (v :: vs) => (match vmnx b v vs with | some v => K (.put (.val v) none) | none => none)
    | _ => none)
  | .mkf _ f caps => bif (caps.map (getTW T.fr)).all (fun | .agg _ | .tup _ | .any => false | .clo .. => false | _ => true) then K (.put (.clo f (caps.map (getTW T.fr))) none) else none
  | .mks d _ sz zero l c lo => (match ty.of (zero.map fun v => wkT1 (oneT v)) with
    | some z => natK (getT T.fr l) fun n => natK (getT T.fr c) fun m => if n = m then (if n ≤ roomN then (bif Nat.beq zero.length sz && !(Nat.beq sz 0) then
        (bif lo then K (.loc (.many ty (List.replicate n z)) (.larr d 0 n)) else K (.put (.lst true ty (List.replicate n z)) none)) else none) else none) else none
    | none => none)

def TSt.noMem (T : TSt) : TSt := ⟨T.fr, [], ⟨[], 0⟩⟩

def putK {β : Type} (K : TDe → Option β) : TDe → Option β
  | .put v src => K (.put v src)
  | _ => none

def oneK {β : Type} (P : Program) (sig : List Sm) (T : TSt) (o : GOp) (K : TDe → Option β) : Option β :=
  bif o.pu then tstepK P sig T.noMem o.ty o.op (putK K) else tstepK P sig T o.ty o.op K

/-- A truth value that is known now. -/
def TSt.know (T : TSt) (n : Nat) (b : Bool) : TSt := ⟨aset T.fr n (.val (.bool b)), T.lo, T.gl⟩
def TSt.knowO (T : TSt) (x : Opd) (b : Bool) : TSt := match x with | .t n => T.know n b | _ => T

def gK {β : Type} (P : Program) (sig : List Sm) (T : TSt) (o : GOp) (K : TSt → TDe → Option β) : Option β :=
  match o.gd with
  | none => oneK P sig T o (K T)
  | some (g, b) => match T.fr.get g with
    | .val (.bool t) => (match b with
      | true => if t = true then oneK P sig (T.know g true) o (K (T.know g true)) else K (T.know g false) (.put (.tup []) none)
      | false => if t = true then K (T.know g true) (.put (.tup []) none) else oneK P sig (T.know g false) o (K (T.know g false)))
    | .tup [] => K T (.put (.tup []) none)
    | _ => none

def regK {β : Type} (P : Program) (sig : List Sm) : List GOp → TSt → (TSt → Option β) → Option β
  | [], T, K => K T
  | o :: r, T, K => gK P sig T o fun T e => regK P sig r (T.ap (dstOf o.op) e) K

def TSt.forget (T : TSt) (d : Nat) : TSt := ⟨amap (killT d) T.fr, adel T.lo d, T.gl⟩

def forgetsT (T : TSt) : List GOp → TSt
  | [] => T
  | o :: r => match locOf o.op with
    | some d => forgetsT (T.forget d) r
    | none => forgetsT T r

/-- A value, where an array of the activation's own is a list from now on. -/
def frzVK {β : Type} (l : Nat) (r : TR) (v : TV) (K : TV → Option β) : Option β :=
  match v with
  | .larr s off len => bif Nat.beq s l then winK r off len fun t xs => K (.lst false t xs) else K (.larr s off len)
  | d => K (killT l d)

def frzFK {β : Type} (l : Nat) (r : TR) : TFr → (TFr → Option β) → Option β
  | [], K => K []
  | (i, v) :: q, K => frzVK l r v fun w => frzFK l r q fun q => K ((i, w) :: q)

def frzK {β : Type} (T : TSt) (l : Nat) (K : TSt → Option β) : Option β :=
  match aget T.lo l with
  | some r => (match r with
    | .many t xs => bif t.pureB then frzFK l (.many t xs) T.fr fun fr => K ⟨fr, adel T.lo l, T.gl⟩ else none
    | .one _ => none)
  | none => none

def codeK {β : Type} (P : Program) (sig : List Sm) (L : Nat) : AC → TSt → (Ex → TSt → Option β) → Option β
  | .frz l b, T, K => frzK T l fun T => codeK P sig L b T K
  | .skip, T, K => K .normal T
  | .reg ops dr, T, K => regK P sig ops (bif dr then forgetsT T ops else T) (K .normal)
  | .seq a b, T, K => codeK P sig L a T fun e T => match e with | .normal => codeK P sig L b T K | e => K e T
  | .cond c a b, T, K => match getT T.fr c with
    | .val (.bool t) => if t = true then codeK P sig L a (T.knowO c true) K else codeK P sig L b (T.knowO c false) K
    | _ => none
  | .block id b, T, K => codeK P sig L b T fun e T => match e with | .exit i => (bif Nat.beq i id then K .normal T else K e T) | e => K e T
  | .loop H outs b, T, K => match H.dec true T with
    | some v => (iterS (fun v => codeK P sig L b (H.enc v) fun e T => match e with | .normal => (match H.dec true T with | some w => some (.inl w) | none => none) | e => (match outPut outs e T with | some w => some (.inr w) | none => none)) L v).bind fun o => outK outs o K
    | none => none
  | .scope outs b, T, K => (codeK P sig L b T fun e T => outPut outs e T).bind fun o => outK outs o K
  | .exit id, T, K => K (.exit id) T
  | .ret, T, K => K .ret T

def resK {β : Type} (T : TSt) (r : RV) (K : TV → Option β) : Option β :=
  match r with
  | .tmp t => K (T.fr.get t)
  | .cell t _ n ag => match T.fr.get t with
    | .pim cs => bif Nat.ble n cs.length && (cs.take n).all cellCT then (match mkVT ag (cs.take n) with | some v => K v | none => none) else none
    | p => (match lookT T p with
      | some (r, i, c) => rowK r i fun row => bif Nat.ble (c + n) row.length && ((row.drop c).take n).all cellCT then (match mkVT ag (((row.drop c).take n).map wkT1) with | some v => K v | none => none) else none
      | none => none)

def resAllK {β : Type} (T : TSt) : List RV → (List TV → Option β) → Option β
  | [], K => K []
  | r :: rs, K => resK T r fun v => resAllK T rs fun l => K (v :: l)

def okMultiT : TV → Bool
  | .agg cs => cs.all pureT
  | .clo f caps => pureT (.clo f caps)
  | .ref .. | .arr .. | .val _ | .lst .. | .pim .. => true
  | _ => false

/-- A function: its code, its arguments' values, what it returns. -/
def funK (P : Program) (sig : List Sm) (L : Nat) (af : AF) (kin : KS) (nres : Nat) (kout : KS) {R : Type} (pr : kout.den → R) (v : kin.den) : Option R :=
  bif kin.args af.nparams && kout.args nres then codeK P sig L af.body (kin.enc v) fun e T => match e with
  | .exit _ => none
  | _ => resAllK T af.res fun ds => bif Nat.beq ds.length nres && (match ds with | [d] => resNoLocT d | ds => ds.all okMultiT) then
      (match kout.dec false ⟨frameOf 0 (match ds with | [d] => [d] | ds => ds.map wkT), [], T.gl⟩ with | some y => some (pr y) | none => none) else none
  else none

end Go.AM
