/- burr, the law BurrTrue: tests that are right, walked. -/
import Derived.Test.YtknikcpeacmpmaaBwU
import Derived.Test.YtknikcpeacmpmaaBxK
set_option linter.all false
namespace Go.Proofs.Ytknikcpeacmpmaa
open Go Go.RowKit Go.Sh Go.Pv
set_option maxHeartbeats 8000000
set_option maxRecDepth 8000
set_option pp.maxSteps 60000
attribute [local go_sem] rowB get_someB
section
variable {N L U T : Nat} {bales : List (Int × Int)} {tests : List (Int × Bool)}
end
end Go.Proofs.Ytknikcpeacmpmaa
 
