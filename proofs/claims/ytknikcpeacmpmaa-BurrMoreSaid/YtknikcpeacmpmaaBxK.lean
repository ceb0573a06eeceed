/- burr, plain: a truth, and tests that are right. -/
import Derived.Test.YtknikcpeacmpmaaBxJ
import Derived.Test.YtknikcpeacmpmaaBxF
import Derived.Test.YtknikcpeacmpmaaBxE
set_option linter.all false
namespace Go.Proofs.Ytknikcpeacmpmaa
open Go Go.RowKit Go.Sh Go.Pv
/-- Tests that are right. -/
def trT (h : Nat) (tests : List (Int × Bool)) : List (Int × Bool) := tests.map fun t => (t.1, h.testBit t.1.toNat)
/-- The bales that truly hold one. -/
def trH (bales : List (Int × Int)) (m o : Nat) : Nat := hitF (sN bales) m bales.length ||| (hitF (pN bales) m bales.length &&& o)
section
variable {N L U T : Nat} {bales : List (Int × Int)} {tests : List (Int × Bool)}
variable {m h : Nat}
/-- What is found in the bales of a set. -/
def opT (S h : Nat) : Nat → List (Int × Bool)
  | 0 => []
  | k + 1 => opT S h k ++ if S.testBit k = true then [((k : Int), h.testBit k)] else []
end
end Go.Proofs.Ytknikcpeacmpmaa
