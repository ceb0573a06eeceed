/- Equality of spans. -/
import Derived.Test.YtojbkpnkcpcioaaPvY
import Derived.Test.YtojbkpnkcpcioaaPvL
set_option linter.all false
namespace Go.Proofs.Ytojbkpnkcpcioaa
open Go Go.RowKit Go.Sh Go.Pv
theorem span_in (a b c d : Int) (n : Nat) : peek Try.prog (Op.equalIn (n + 1 + 1) 23 (.agg #[.int .i64 a, .int .i64 b]) (.agg #[.int .i64 c, .int .i64 d])) = some (a == c && b == d) :=
  eqIn_two (T := 23) (f0 := fieldN Try.prog 23 0) (f1 := fieldN Try.prog 23 1) (by kernel_rfl) (by kernel_rfl) (by kernel_rfl) (by kernel_rfl) (by kernel_rfl) (by kernel_rfl) (by kernel_rfl) (by kernel_rfl) (eqIn_int (k0 := .i64) (k := .i64) (by kernel_rfl)) (eqIn_int (k0 := .i64) (k := .i64) (by kernel_rfl))
theorem span_eql (a b c d : Int) (x y : Operand) : binA Try.prog .eql 23 x y (.agg #[.int .i64 a, .int .i64 b]) (.agg #[.int .i64 c, .int .i64 d]) = some (.bool (a == c && b == d)) := bin_eq_agg (by kernel_rfl) (span_in a b c d 9998) x y
theorem span_neq (a b c d : Int) (x y : Operand) : binA Try.prog .neq 23 x y (.agg #[.int .i64 a, .int .i64 b]) (.agg #[.int .i64 c, .int .i64 d]) = some (.bool (!(a == c && b == d))) := bin_ne_agg (by kernel_rfl) (span_in a b c d 9998) x y
end Go.Proofs.Ytojbkpnkcpcioaa
