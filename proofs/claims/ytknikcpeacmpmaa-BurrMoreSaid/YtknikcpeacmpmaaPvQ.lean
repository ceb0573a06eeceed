/- Equality of structs of three and of four fields. Seat-independent. -/
import Derived.Test.YtknikcpeacmpmaaPvY
set_option linter.all false
namespace Go.Pv
open Go Go.RowKit Go.Sh
/-- What follows behind so many statements of a function. -/
def rgt : Code → Code
  | .seq _ b => b
  | c => c
def rgtN : Nat → Code → Code
  | 0, c => c
  | n + 1, c => rgt (rgtN n c)
def fnCode (f : Func) : Code := f.body.getD .skip
end Go.Pv
