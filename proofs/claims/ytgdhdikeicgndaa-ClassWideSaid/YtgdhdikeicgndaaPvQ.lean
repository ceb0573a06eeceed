/- Equality of structs of three and of four fields. Seat-independent. -/
import Derived.Test.YtgdhdikeicgndaaPvY
set_option linter.all false
namespace Go.Pv
open Go Go.RowKit Go.Sh
theorem eqIn_three {P : Program} {T : TypeId} {f0 f1 f2 : Field} {xs ys : Array Value} {x0 x1 x2 y0 y1 y2 : Value} {b0 b1 b2 : Bool} {d : Nat} (h : P.underlying T = some (.struct #[f0, f1, f2])) (hs : P.stoodInHeld T = false) (n0 : (f0.name == "_") = false) (n1 : (f1.name == "_") = false) (n2 : (f2.name == "_") = false)
    (p0 : peek P (part f0.type xs f0.offset) = some x0) (q0 : peek P (part f0.type ys f0.offset) = some y0) (p1 : peek P (part f1.type xs f1.offset) = some x1) (q1 : peek P (part f1.type ys f1.offset) = some y1) (p2 : peek P (part f2.type xs f2.offset) = some x2) (q2 : peek P (part f2.type ys f2.offset) = some y2)
    (e0 : peek P (Op.equalIn d f0.type x0 y0) = some b0) (e1 : peek P (Op.equalIn d f1.type x1 y1) = some b1) (e2 : peek P (Op.equalIn d f2.type x2 y2) = some b2) : peek P (Op.equalIn (d + 1) T (.agg xs) (.agg ys)) = some (b0 && b1 && b2) := by
  have n0 : f0.name ≠ "_" := by simpa using n0
  have n1 : f1.name ≠ "_" := by simpa using n1
  have n2 : f2.name ≠ "_" := by simpa using n2
  unfold Op.equalIn
  rw [peek_bind, peek_und h, Option.bind_some]
  cases b0 <;> cases b1 <;> cases b2 <;> simp [peek_bind, peek_prog, hs, n0, n1, n2, p0, p1, p2, q0, q1, q2, e0, e1, e2, peek_pure]
/-- What follows behind so many statements of a function. -/
def rgt : Code → Code
  | .seq _ b => b
  | c => c
def rgtN : Nat → Code → Code
  | 0, c => c
  | n + 1, c => rgt (rgtN n c)
def fnCode (f : Func) : Code := f.body.getD .skip
end Go.Pv
