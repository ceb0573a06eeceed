/- THE LAW BurrTrue, walked: what it tests of the bales that are opened. -/
import Derived.Test.YtknikcpeacmpmaaByE
import Derived.Test.YtknikcpeacmpmaaBwF
set_option linter.all false
namespace Go.Proofs.Ytknikcpeacmpmaa
open Go Go.RowKit Go.Sh Go.Pv
set_option maxHeartbeats 8000000
set_option maxRecDepth 8000
set_option pp.maxSteps 60000
section
variable {N L U T : Nat} {bales : List (Int × Int)} {tests ts : List (Int × Bool)}
end
end Go.Proofs.Ytknikcpeacmpmaa
