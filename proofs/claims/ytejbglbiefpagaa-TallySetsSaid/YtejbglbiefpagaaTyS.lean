/- tally, the law: equality of spans, conversions. -/
import Derived.Test.YtejbglbiefpagaaTvA
set_option linter.all false
namespace Go.Proofs.Ytejbglbiefpagaa
open Go Go.RowKit Go.Sh Go.Pv
theorem span_in (a b c d : Int) (n : Nat) : peek Try.prog (Op.equalIn (n + 1 + 1) 27 (.agg #[.int .i64 a, .int .i64 b]) (.agg #[.int .i64 c, .int .i64 d])) = some (a == c && b == d) :=
  eqIn_two (T := 27) (f0 := fieldN Try.prog 27 0) (f1 := fieldN Try.prog 27 1) (by kernel_rfl) (by kernel_rfl) (by kernel_rfl) (by kernel_rfl) (by kernel_rfl) (by kernel_rfl) (by kernel_rfl) (by kernel_rfl) (eqIn_int (k0 := .i64) (k := .i64) (by kernel_rfl)) (eqIn_int (k0 := .i64) (k := .i64) (by kernel_rfl))
theorem span_eql (a b c d : Int) (x y : Operand) : binA Try.prog .eql 27 x y (.agg #[.int .i64 a, .int .i64 b]) (.agg #[.int .i64 c, .int .i64 d]) = some (.bool (a == c && b == d)) := bin_eq_agg (by kernel_rfl) (span_in a b c d 9998) x y
theorem span_neq (a b c d : Int) (x y : Operand) : binA Try.prog .neq 27 x y (.agg #[.int .i64 a, .int .i64 b]) (.agg #[.int .i64 c, .int .i64 d]) = some (.bool (!(a == c && b == d))) := bin_ne_agg (by kernel_rfl) (span_in a b c d 9998) x y
theorem conv5' (a : Int) : convA Try.prog 5 3 (.int .u8 a) = some (.int .i64 (IntKind.i64.wrap a)) := conv_int (d := .int .u8) (by kernel_rfl) (by kernel_rfl) .u8 a
theorem conv121 (a : Int) : convA Try.prog 121 3 (.int .u16 a) = some (.int .i64 (IntKind.i64.wrap a)) := conv_int (d := .int .u16) (by kernel_rfl) (by kernel_rfl) .u16 a
theorem eql4 (x y : Operand) (a b : Bool) : binA Try.prog .eql 4 x y (.bool a) (.bool b) = some (.bool (a == b)) := bin_eql_bool (by kernel_rfl) x y a b
theorem neq4 (x y : Operand) (a b : Bool) : binA Try.prog .neq 4 x y (.bool a) (.bool b) = some (.bool (a != b)) := bin_neq_bool (by kernel_rfl) x y a b
theorem rowsK_nil' (k : Nat) : rowsK k [] = True := eq_true fun i r h => by simp at h
theorem rowsK_cons' (k : Nat) (r : List PV) (l : List (List PV)) : rowsK k (r :: l) = (r.length = k ∧ rowsK k l) := propext ⟨fun h => ⟨h 0 r rfl, fun i r' hi => h (i + 1) r' hi⟩, fun h i r' hi => by
  cases i with
  | zero => cases hi; exact h.1
  | succ i => exact h.2 i r' hi⟩
theorem rowsK_r1 (l : List Int) : rowsK 1 (l.map row1) = True := eq_true fun i r h => by rw [List.getElem?_map] at h; obtain ⟨x, _, rfl⟩ := Option.map_eq_some_iff.1 h; rfl
theorem rowsK_r2 (l : List (Int × Int)) : rowsK 2 (l.map row2) = True := eq_true fun i r h => by rw [List.getElem?_map] at h; obtain ⟨x, _, rfl⟩ := Option.map_eq_some_iff.1 h; rfl
theorem rowsK_r4 (l : List (Int × Int × Int × Int)) : rowsK 4 (l.map row4) = True := eq_true fun i r h => by rw [List.getElem?_map] at h; obtain ⟨x, _, rfl⟩ := Option.map_eq_some_iff.1 h; rfl
theorem not_isEmpty_nil {α : Type} : (!([] : List α).isEmpty) = false := rfl
end Go.Proofs.Ytejbglbiefpagaa
