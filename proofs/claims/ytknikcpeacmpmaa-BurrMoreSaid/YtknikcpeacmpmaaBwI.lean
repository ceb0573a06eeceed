/- burr, the laws: small facts on operations. -/
import Derived.Test.YtknikcpeacmpmaaBwE
set_option linter.all false
namespace Go.Proofs.Ytknikcpeacmpmaa
open Go Go.RowKit Go.Sh Go.Pv
theorem undB4 : Try.prog.underlying 4 = some .bool := by kernel_rfl
theorem neq4 (x y : Operand) (a b : Bool) : binA Try.prog .neq 4 x y (.bool a) (.bool b) = some (.bool (a != b)) := bin_neq_bool undB4 x y a b
theorem eql4 (x y : Operand) (a b : Bool) : binA Try.prog .eql 4 x y (.bool a) (.bool b) = some (.bool (a == b)) := bin_eql_bool undB4 x y a b
attribute [go_sem] neq4 eql4 bne_self_eq_false
theorem bne_tf : (true != false) = true := rfl
theorem bne_ft : (false != true) = true := rfl
theorem beq_tf : (true == false) = false := rfl
theorem beq_ft : (false == true) = false := rfl
attribute [go_sem] bne_tf bne_ft beq_tf beq_ft
theorem conv5_3 (a : Int) (h : 0 ≤ a ∧ a ≤ 255) : convA Try.prog 5 3 (.int .u8 a) = some (.int .i64 a) := by
  rw [conv_int (d := .int .u8) (by kernel_rfl) (by kernel_rfl) .u8 a, show a = ((a.toNat : Nat) : Int) by omega, wrap_nat (by omega)]
end Go.Proofs.Ytknikcpeacmpmaa
