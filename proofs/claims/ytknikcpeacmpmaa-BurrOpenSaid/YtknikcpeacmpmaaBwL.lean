/- burr: the document's truths, walked. -/
import Derived.Test.YtknikcpeacmpmaaBwF
import Derived.Test.YtknikcpeacmpmaaBwI
import Derived.Test.YtknikcpeacmpmaaBxF
set_option linter.all false
namespace Go.Proofs.Ytknikcpeacmpmaa
open Go Go.RowKit Go.Sh Go.Pv
set_option maxHeartbeats 8000000
set_option maxRecDepth 8000
set_option pp.maxSteps 60000
/-- A row of a truth. -/
def rowT (x : Nat × Nat) : List PV := [iP (x.1 : Int), iP (x.2 : Int)]
section
variable {N L U T : Nat} {bales : List (Int × Int)} {tests : List (Int × Bool)}
/-- Is it so, of a bale? -/
def baleR (bales : List (Int × Int)) (m h i : Nat) : Prop := (sN bales i &&& m ≠ 0 → h.testBit i = true) ∧ (h.testBit i = true → pN bales i &&& m ≠ 0)
attribute [local go_sem] rowB get_someB
end
end Go.Proofs.Ytknikcpeacmpmaa
