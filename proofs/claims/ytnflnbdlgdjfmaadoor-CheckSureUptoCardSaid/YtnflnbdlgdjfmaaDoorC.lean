/-
  Values as they are meant: cells, values, blocks. Conditions: none.
-/
import Derived.Test.YtnflnbdlgdjfmaaDoorSwap
import Derived.Deep.Upon
import Derived.Deep.MidRow
namespace Go.Proofs.YtnflnbdlgdjfmaaDoor
open Go.RowKit
set_option linter.unusedVariables false

/-- A cell's value, as it is meant. Pointers and rows of the call's own by names; what turns no more as it reads. -/
inductive C where
  | any
  | int (k : IntKind) (n : Int)
  | bool (b : Bool)
  | str (s : ByteArray)
  | nilp
  | nilf
  | nilsl
  | fn (f : FuncId)
  | ptr (b o : Nat)
  | eptr (b v k i o : Nat)
  | own (b v n : Nat)
  | sl (n k : Nat) (f : Nat → Nat → C)
  | slF (n k : Nat) (f : Nat → Nat → C)
  | fp (k : Nat) (f : Nat → C)

/-- A value: of one cell, of some, or more values. -/
inductive U where
  | any
  | one (c : C)
  | agg (l : List C)
  | tup (l : List U)

/-- A block of the call's own: a variable of some cells; a row of elements (element type, cells of an element, version, elements). -/
inductive Blk where
  | obj (cells : List C)
  | row (e : TypeId) (k v : Nat) (rows : List (List C))

def rowF (l : List C) : Nat → C := fun j => l.getD j .any
/-- Elements that turn no more. -/
def slOf (k : Nat) (rows : List (List C)) : C := .sl rows.length k (fun i => rowF (rows.getD i []))
/-- A pointer to cell o of a block that turns no more. -/
def fpo (cells : List C) (o : Nat) : C := .fp (cells.length - o) (fun j => rowF cells (o + j))
/-- Elements that turn no more, with no room behind them. -/
def slFOf (k : Nat) (rows : List (List C)) : C := .slF rows.length k (fun i => rowF (rows.getD i []))

end Go.Proofs.YtnflnbdlgdjfmaaDoor
