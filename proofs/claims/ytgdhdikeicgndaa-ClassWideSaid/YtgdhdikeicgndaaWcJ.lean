/- classer: equality of bales and of the document's states. -/
import Derived.Test.YtgdhdikeicgndaaKwc8
import Derived.Test.YtgdhdikeicgndaaPvEq
set_option linter.all false
namespace Go.Proofs.Ytgdhdikeicgndaa
open Go Go.RowKit Go.Sh Go.Pv
theorem bale_in (a b c x y z : Int) (n : Nat) : peek Try.prog (Op.equalIn (n + 1 + 1) 44 (.agg #[.int .i64 a, .int .i64 b, .int .i64 c]) (.agg #[.int .i64 x, .int .i64 y, .int .i64 z])) = some (a == x && b == y && c == z) :=
  eqIn_three (T := 44) (f0 := fieldN Try.prog 44 0) (f1 := fieldN Try.prog 44 1) (f2 := fieldN Try.prog 44 2) (by kernel_rfl) (by kernel_rfl) (by kernel_rfl) (by kernel_rfl) (by kernel_rfl) (by kernel_rfl) (by kernel_rfl) (by kernel_rfl) (by kernel_rfl) (by kernel_rfl) (by kernel_rfl) (eqIn_int (k0 := .i64) (k := .i64) (by kernel_rfl)) (eqIn_int (k0 := .i64) (k := .i64) (by kernel_rfl)) (eqIn_int (k0 := .i64) (k := .i64) (by kernel_rfl))
theorem bale_neq (a b c x y z : Int) (p q : Operand) : binA Try.prog .neq 44 p q (.agg #[.int .i64 a, .int .i64 b, .int .i64 c]) (.agg #[.int .i64 x, .int .i64 y, .int .i64 z]) = some (.bool (!(a == x && b == y && c == z))) := bin_ne_agg (by kernel_rfl) (bale_in a b c x y z 9998) p q
theorem st_in (a b c e x y z u : Int) (d v : Bool) (n : Nat) : peek Try.prog (Op.equalIn (n + 1 + 1) 67 (.agg #[.int .i64 a, .int .i64 b, .int .i64 c, .bool d, .int .i64 e]) (.agg #[.int .i64 x, .int .i64 y, .int .i64 z, .bool v, .int .i64 u])) = some (a == x && b == y && c == z && d == v && e == u) :=
  eqIn_five (T := 67) (f0 := fieldN Try.prog 67 0) (f1 := fieldN Try.prog 67 1) (f2 := fieldN Try.prog 67 2) (f3 := fieldN Try.prog 67 3) (f4 := fieldN Try.prog 67 4) (by kernel_rfl) (by kernel_rfl) (by kernel_rfl) (by kernel_rfl) (by kernel_rfl) (by kernel_rfl) (by kernel_rfl) (by kernel_rfl) (by kernel_rfl) (by kernel_rfl) (by kernel_rfl) (by kernel_rfl) (by kernel_rfl) (by kernel_rfl) (by kernel_rfl) (by kernel_rfl) (by kernel_rfl) (eqIn_int (k0 := .i64) (k := .i64) (by kernel_rfl)) (eqIn_int (k0 := .i64) (k := .i64) (by kernel_rfl)) (eqIn_int (k0 := .i64) (k := .i64) (by kernel_rfl)) (eqIn_bool (by kernel_rfl)) (eqIn_int (k0 := .i64) (k := .i64) (by kernel_rfl))
theorem st_eql (a b c e x y z u : Int) (d v : Bool) (p q : Operand) : binA Try.prog .eql 67 p q (.agg #[.int .i64 a, .int .i64 b, .int .i64 c, .bool d, .int .i64 e]) (.agg #[.int .i64 x, .int .i64 y, .int .i64 z, .bool v, .int .i64 u]) = some (.bool (a == x && b == y && c == z && d == v && e == u)) := bin_eq_agg (by kernel_rfl) (st_in a b c e x y z u d v 9998) p q
end Go.Proofs.Ytgdhdikeicgndaa
