/- StandMore: equalities of structs, the closure, reversed looks. -/
import Derived.Test.YtojbkpnkcpcioaaPvV
import Derived.Test.YtojbkpnkcpcioaaSvO
set_option linter.all false
namespace Go.Proofs.Ytojbkpnkcpcioaa
open Go Go.RowKit Go.Sh Go.Sh.Stand Go.Pv
theorem run_in (a b c d : Int) (n : Nat) : peek Try.prog (Op.equalIn (n + 1 + 1) 50 (.agg #[.int .i64 a, .int .i64 b]) (.agg #[.int .i64 c, .int .i64 d])) = some (a == c && b == d) :=
  eqIn_two (T := 50) (f0 := fieldN Try.prog 50 0) (f1 := fieldN Try.prog 50 1) (by kernel_rfl) (by kernel_rfl) (by kernel_rfl) (by kernel_rfl) (by kernel_rfl) (by kernel_rfl) (by kernel_rfl) (by kernel_rfl) (eqIn_int (k0 := .i64) (k := .i64) (by kernel_rfl)) (eqIn_int (k0 := .i64) (k := .i64) (by kernel_rfl))
theorem run_neq (a b c d : Int) (x y : Operand) : binA Try.prog .neq 50 x y (.agg #[.int .i64 a, .int .i64 b]) (.agg #[.int .i64 c, .int .i64 d]) = some (.bool (!(a == c && b == d))) := bin_ne_agg (by kernel_rfl) (run_in a b c d 9998) x y
theorem ty581 : (fieldN Try.prog 58 1).type = 23 := by kernel_rfl
theorem look_in (a b c a' b' c' : Int) (n : Nat) : peek Try.prog (Op.equalIn (n + 1 + 1 + 1) 58 (.agg #[.int .i64 a, .int .i64 b, .int .i64 c]) (.agg #[.int .i64 a', .int .i64 b', .int .i64 c'])) = some (a == a' && (b == b' && c == c')) :=
  eqIn_two (T := 58) (f0 := fieldN Try.prog 58 0) (f1 := fieldN Try.prog 58 1) (x1 := .agg #[.int .i64 b, .int .i64 c]) (y1 := .agg #[.int .i64 b', .int .i64 c']) (by kernel_rfl) (by kernel_rfl) (by kernel_rfl) (by kernel_rfl) (by kernel_rfl) (by kernel_rfl) (by kernel_rfl) (by kernel_rfl) (eqIn_int (k0 := .i64) (k := .i64) (by kernel_rfl)) (by rw [ty581]; exact span_in b c b' c' n)
theorem look_neq (a b c a' b' c' : Int) (x y : Operand) : binA Try.prog .neq 58 x y (.agg #[.int .i64 a, .int .i64 b, .int .i64 c]) (.agg #[.int .i64 a', .int .i64 b', .int .i64 c']) = some (.bool (!(a == a' && (b == b' && c == c')))) := bin_ne_agg (by kernel_rfl) (look_in a b c a' b' c' 9997) x y
theorem ok_in37 (a1 a2 b1 b2 : Int) (h : b1 ≤ a1 ∧ a2 ≤ b2) : FunOK Try.prog 37 [.agg [iP a1, iP a2], .agg [iP b1, iP b2]] (.one (.one (.v (.bool true)))) := by
  refine fun_ok (nt := 17) (rs := [.tmp 4]) Try.func37 rfl rfl rfl (by simp) fun Z w0 => ?_; simp only [initFr, avR, List.map_cons, List.map_nil]
  (repeat (first | refine aw_seq ?_ | refine aw_block ?_ | refine aw_skip ?_ | refine aw_exit ?_ | with_reducible refine then_n ?_ | with_reducible refine block_n ?_ | with_reducible refine then_x ?_ | with_reducible refine then_r ?_ | with_reducible refine block_r ?_ | with_reducible refine block_e (by decide) ?_ | with_reducible refine block_x (by decide) ?_ | (first | refine aw_region (hideO fun QQ hQQ => ?_) | refine aw_draw mixed (hideD fun QQ hQQ => ?_)); simp (maxSteps := 400000) (disch := first | decide | omega) only [go_sem, Nat.reduceLT, Nat.reduceLeDiff, Nat.reduceEqDiff, Nat.reduceAdd, Nat.reduceSub, Nat.reduceMul, Nat.reduceBEq, ↓reduceIte, reduceCtorEq, Int.reduceToNat, Int.reduceAdd, Int.reduceSub, Int.reduceMul, Int.reduceLT, Int.reduceLE, Int.reduceNeg, Int.reduceBEq, Int.reduceBNe]; try (first | with_reducible refine unhide hQQ ?_ | refine ⟨by kernel_rfl, unhide hQQ ?_⟩); clear hQQ QQ))
  refine aw_ret ?_; refine ⟨.inr rfl, ?_⟩; simp only [resA, res1, go_sem, Nat.reduceLT, Nat.reduceLeDiff, Nat.reduceEqDiff, Nat.reduceAdd, Nat.reduceSub, Nat.reduceMul, Nat.reduceBEq, ↓reduceIte, reduceCtorEq]
def revT (looks : List (Int × Int × Int)) : Nat → List (Int × Int × Int)
  | 0 => []
  | i + 1 => revT looks i ++ [looks.getD (looks.length - 1 - i) (0, 0, 0)]
theorem revT_len (looks : List (Int × Int × Int)) : ∀ i, (revT looks i).length = i
  | 0 => rfl
  | i + 1 => by rw [revT, List.length_append, revT_len looks i]; rfl
def nar (par : Bool) (m : Int × Int) : Int × Int := if par = true then (min m.2 (m.1 + 1), m.2) else (m.1, max m.1 (m.2 - 1))
def zM (kind : Int) (par : Bool) (k : Int) (m : Int × Int) : Int × Int := if kind = k then nar par m else m
def stRow (m0 m1 m2 : Int × Int) (runs : List (Int × Int)) (sheep : List Int) (looks : List (Int × Int × Int)) : List PV := [iP m0.1, iP m0.2, iP m1.1, iP m1.2, iP m2.1, iP m2.2, .sl (runs.map row2), .sl (sheep.map row1), .sl (looks.map row3)]
/-- What is asked of the i-th of the stands that are known better. -/
def VOK (minute kind : Int) (runs : List (Int × Int)) (sheep : List Int) (a b : Int × Int) (e late : Int) (i : Nat) (M0 M1 M2 : Int × Int) (L : List (Int × Int × Int)) : Prop :=
  ∃ vb, FunOK Try.prog 32 [stR M0 M1 M2 runs sheep L] (.one (.one (.v (.bool vb)))) ∧ (vb = true → ∃ (c d : Int × Int) (k l h : Int),
    FunOK Try.prog 15 [stR M0 M1 M2 runs sheep L, .one (iP minute)] (.tup [.agg [iP c.1, iP c.2], .one (iP h)]) ∧
    FunOK Try.prog 17 [stR M0 M1 M2 runs sheep L, .one (iP kind)] (.tup [.agg [iP d.1, iP d.2], .one (iP h)]) ∧
    FunOK Try.prog 23 [stR M0 M1 M2 runs sheep L, .one (iP (runs.length - 1))] (.tup [.one (iP k), .one (iP l)]) ∧
    (h = 0 ∨ h = 10) ∧ (1 < runs.length → l = h) ∧ (h = 0 → e = 0 ∧ (a.1 ≤ c.1 ∧ c.2 ≤ a.2) ∧ (b.1 ≤ d.1 ∧ d.2 ≤ b.2) ∧ (1 < runs.length → late ≠ 1 → k = late)) ∧ (i = 3 → c = a ∧ h = e ∧ d = b ∧ k = late))
end Go.Proofs.Ytojbkpnkcpcioaa
