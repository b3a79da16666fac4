/-
  The package variable that is read: how many parts each term has. Conditions: none.
-/
import Derived.Test.YtnflnbdlgdjfmaaDoorC
namespace Go.Proofs.YtnflnbdlgdjfmaaDoor
def i64 (n : Int) : C := .int .i64 n
def arityC : List C := [.int .i64 0, .int .i64 0, .int .i64 0, .int .i64 0, .int .i64 2, .int .i64 2, .int .i64 3, .int .i64 1, .int .i64 2, .int .i64 1]
/-- What a package variable's address points to. -/
def glob (g : Nat) : Option C := bif g.beq 0 then some (fpo arityC 0) else none
end Go.Proofs.YtnflnbdlgdjfmaaDoor
