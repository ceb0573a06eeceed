/- The logic of plain data: equality of records of three and of five fields. Seat-independent. -/
import Derived.Test.YtgdhdikeicgndaaPvY
set_option linter.all false
namespace Go.Pv
open Go Go.RowKit Go.Sh
theorem eqIn_bool {P : Program} {T : TypeId} {a b : Bool} {d : Nat} (h : P.underlying T = some .bool) : peek P (Op.equalIn (d + 1) T (.bool a) (.bool b)) = some (a == b) := by
  unfold Op.equalIn
  rw [peek_bind, peek_und h, Option.bind_some]
  simp only [if_true, peek_pure]
theorem eqIn_three {P : Program} {T : TypeId} {f0 f1 f2 : Field} {xs ys : Array Value} {x0 x1 x2 y0 y1 y2 : Value} {b0 b1 b2 : Bool} {d : Nat} (h : P.underlying T = some (.struct #[f0, f1, f2])) (hs : P.stoodInHeld T = false) (n0 : (f0.name == "_") = false) (n1 : (f1.name == "_") = false) (n2 : (f2.name == "_") = false)
    (p0 : peek P (part f0.type xs f0.offset) = some x0) (q0 : peek P (part f0.type ys f0.offset) = some y0)
    (p1 : peek P (part f1.type xs f1.offset) = some x1) (q1 : peek P (part f1.type ys f1.offset) = some y1)
    (p2 : peek P (part f2.type xs f2.offset) = some x2) (q2 : peek P (part f2.type ys f2.offset) = some y2)
    (e0 : peek P (Op.equalIn d f0.type x0 y0) = some b0)
    (e1 : peek P (Op.equalIn d f1.type x1 y1) = some b1)
    (e2 : peek P (Op.equalIn d f2.type x2 y2) = some b2) : peek P (Op.equalIn (d + 1) T (.agg xs) (.agg ys)) = some (b0 && b1 && b2) := by
  have n0 : f0.name ≠ "_" := by simpa using n0
  have n1 : f1.name ≠ "_" := by simpa using n1
  have n2 : f2.name ≠ "_" := by simpa using n2
  unfold Op.equalIn
  rw [peek_bind, peek_und h, Option.bind_some]
  cases b0 <;> cases b1 <;> cases b2 <;> simp [peek_bind, peek_prog, hs, n0, p0, q0, e0, n1, p1, q1, e1, n2, p2, q2, e2, peek_pure]
theorem eqIn_five {P : Program} {T : TypeId} {f0 f1 f2 f3 f4 : Field} {xs ys : Array Value} {x0 x1 x2 x3 x4 y0 y1 y2 y3 y4 : Value} {b0 b1 b2 b3 b4 : Bool} {d : Nat} (h : P.underlying T = some (.struct #[f0, f1, f2, f3, f4])) (hs : P.stoodInHeld T = false) (n0 : (f0.name == "_") = false) (n1 : (f1.name == "_") = false) (n2 : (f2.name == "_") = false) (n3 : (f3.name == "_") = false) (n4 : (f4.name == "_") = false)
    (p0 : peek P (part f0.type xs f0.offset) = some x0) (q0 : peek P (part f0.type ys f0.offset) = some y0)
    (p1 : peek P (part f1.type xs f1.offset) = some x1) (q1 : peek P (part f1.type ys f1.offset) = some y1)
    (p2 : peek P (part f2.type xs f2.offset) = some x2) (q2 : peek P (part f2.type ys f2.offset) = some y2)
    (p3 : peek P (part f3.type xs f3.offset) = some x3) (q3 : peek P (part f3.type ys f3.offset) = some y3)
    (p4 : peek P (part f4.type xs f4.offset) = some x4) (q4 : peek P (part f4.type ys f4.offset) = some y4)
    (e0 : peek P (Op.equalIn d f0.type x0 y0) = some b0)
    (e1 : peek P (Op.equalIn d f1.type x1 y1) = some b1)
    (e2 : peek P (Op.equalIn d f2.type x2 y2) = some b2)
    (e3 : peek P (Op.equalIn d f3.type x3 y3) = some b3)
    (e4 : peek P (Op.equalIn d f4.type x4 y4) = some b4) : peek P (Op.equalIn (d + 1) T (.agg xs) (.agg ys)) = some (b0 && b1 && b2 && b3 && b4) := by
  have n0 : f0.name ≠ "_" := by simpa using n0
  have n1 : f1.name ≠ "_" := by simpa using n1
  have n2 : f2.name ≠ "_" := by simpa using n2
  have n3 : f3.name ≠ "_" := by simpa using n3
  have n4 : f4.name ≠ "_" := by simpa using n4
  unfold Op.equalIn
  rw [peek_bind, peek_und h, Option.bind_some]
  cases b0 <;> cases b1 <;> cases b2 <;> cases b3 <;> cases b4 <;> simp [peek_bind, peek_prog, hs, n0, p0, q0, e0, n1, p1, q1, e1, n2, p2, q2, e2, n3, p3, q3, e3, n4, p4, q4, e4, peek_pure]
end Go.Pv
