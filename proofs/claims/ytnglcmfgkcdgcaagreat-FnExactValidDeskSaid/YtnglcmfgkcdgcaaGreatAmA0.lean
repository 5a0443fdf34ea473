/- Types of the abstract machine's values, typed values, and what is kept at a loop's or a part's border. Definitions alone. -/
import Derived.Orders
namespace Go.AM
open Go

/-- Types of cells and of rows of cells. -/
inductive Ty where
  | unit
  | int (k : IntKind)
  | bool
  | str
  | lst (t : Ty)
  | pair (a b : Ty)
  | pim (t : Ty)
  | clo (f : FuncId) (t : Ty)
  deriving DecidableEq, Inhabited

@[reducible] def Ty.den : Ty → Type
  | .unit => Unit
  | .int _ => Int
  | .bool => Bool
  | .str => ByteArray
  | .lst t => List t.den
  | .pair a b => a.den × b.den
  | .pim t => t.den
  | .clo _ t => t.den

/-- Typed values. -/
inductive TV where
  | any
  | val (x : Value)
  | lst (own : Bool) (t : Ty) (xs : List t.den)
  | agg (cs : List TV)
  | tup (cs : List TV)
  | pim (cs : List TV)
  | ref (g i c : Nat)
  | arr (g off len : Nat)
  | lref (s i c : Nat)
  | larr (s off len : Nat)
  | clo (f : FuncId) (caps : List TV)
  deriving Inhabited

/-- Types of slots and of objects' cells. -/
inductive VT where
  | c (t : Ty)
  | own (t : Ty)
  | agg (t : Ty)
  | gr (v : TV)
  | larr (s : Nat)
  | lref (s c : Nat)
  | arr (g : Nat)
  | ref (g c : Nat)
  deriving Inhabited

/-- Types of objects. -/
inductive OT where
  | one (cs : List VT)
  | many (t : Ty)
  deriving Inhabited

inductive It where
  | sl (i : Nat) (t : VT)
  | lo (l : Nat) (t : OT)
  | gl (g : Nat) (t : OT)
  deriving Inhabited

/-- What is kept: slots, objects. -/
structure KS where
  its : List It
  nx : Nat
  deriving Inhabited

/-- May what is kept still be appended to? -/
def VT.strong : VT → Bool
  | .own _ => true
  | _ => false

/-- How a slot is kept. -/
def KS.how (k : KS) (i : Nat) : Option Bool := k.its.findSome? fun
  | .sl j v => if j = i then some v.strong else none
  | _ => none

def It.loc? : It → Option Nat
  | .lo l _ => some l
  | _ => none

inductive Ex where
  | normal
  | exit (id : Nat)
  | ret
  deriving DecidableEq, Inhabited

end Go.AM
