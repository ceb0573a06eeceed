/- THE LAW BurrTrue, walked: its end (the bale that is opened next). -/
import Derived.Test.YtknikcpeacmpmaaByC
import Derived.Test.YtknikcpeacmpmaaPvQ
set_option linter.all false
namespace Go.Proofs.Ytknikcpeacmpmaa
open Go Go.RowKit Go.Sh Go.Pv
set_option maxHeartbeats 8000000
set_option maxRecDepth 8000
set_option pp.maxSteps 60000
abbrev QT6 : Exit → St → Prop := fun e st => (e = .normal ∨ e = .ret) ∧ resA Try.prog st [.tmp 6] = some (.one (.one (.v (.bool true))))
def bxC (N L U T : Nat) (bales : List (Int × Int)) (tests : List (Int × Bool)) : Obj' := .box [.p (iP N), .p (iP L), .p (iP U), .p (.sl (bales.map row2)), .p (iP T), .p (.sl (tests.map rowB))]
section
variable {N L U T : Nat} {bales : List (Int × Int)} {tests ts ys : List (Int × Bool)}
end
end Go.Proofs.Ytknikcpeacmpmaa
