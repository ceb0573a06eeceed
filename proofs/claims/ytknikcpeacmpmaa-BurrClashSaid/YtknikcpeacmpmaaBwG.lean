/- burr, the law BurrNext: how many truths are left. -/
import Derived.Test.YtknikcpeacmpmaaBwF
import Derived.Test.YtknikcpeacmpmaaBxE
set_option linter.all false
namespace Go.Proofs.Ytknikcpeacmpmaa
open Go Go.RowKit Go.Sh Go.Pv
set_option maxHeartbeats 8000000
set_option maxRecDepth 8000
set_option pp.maxSteps 60000
section
variable {n lo hi top : Int} {bales : List (Int × Int)} {tests : List (Int × Bool)}
theorem s_after (hv : burrB n lo hi top bales tests = true) (ht5 : tests.length < 6) (i : Int) (hiB : 0 ≤ i ∧ i < bales.length) (f : Bool) :
    FunS Try.prog 43 [.one (.p (iP i)), .one (.p (.v (.bool f))), .one (.box 0 0)] [(0, .box (buC n lo hi top bales tests))] 1 (.one (.one (iP (cntB n lo hi bales (tests ++ [(i, f)]) : Nat)))) := by
  have hv2 : burrB n lo hi top bales (tests ++ [(i, f)]) = true := burr_snoc hv (by simp; omega) (fun t h => by simp at h; rw [h]; exact hiB)
  have hwhy : whyV n lo hi top bales (tests ++ [(i, f)]) = 0 := by simp [whyV, hv2]
  have hc := ok_Count (n := n) (lo := lo) (hi := hi) (top := top) (bales := bales) (tests := tests ++ [(i, f)])
  rw [hwhy] at hc
  have h38 := ok_test38 i f
  have hrow : tests.map rowB ++ [[iP i, PV.v (.bool f)]] = (tests ++ [(i, f)]).map rowB := by simp [rowB]
  have hlen : tests.length + 1 = ((tests ++ [(i, f)]).map rowB).length := by simp
  have hlb : (tests.length + 1) * 16 ≤ 140737488355328 := by omega
  have hlb0 : tests.length * 16 ≤ 140737488355328 := by omega
  have hrk : rowsK 2 [[iP i, PV.v (.bool f)]] = True := rowsK_2 (i, f)
  have hrB : rowsK 2 (tests.map rowB) = True := eq_true (rowsK_B tests)
  simp only [buR, ansN] at hc
  have htk : List.take (tests.length + 1) (List.map rowB (tests ++ [(i, f)])) = List.map rowB (tests ++ [(i, f)]) := List.take_of_length_le (by simp)
  have hll : (tests ++ [(i, f)]).length = tests.length + 1 := by simp
  generalize cntB n lo hi bales (tests ++ [(i, f)]) = c at *
  simp only [if_true] at hc
  unfold buC
  refine funS_ok (nt := 28) (rs := [.tmp 5]) Try.func43 rfl rfl rfl (by simp) fun Z w0 cap pan dk tm => ?_; simp only [initV, pins, pinOf, List.map_cons, List.map_nil]
  (repeat (first | apply aw_seq | apply aw_block | apply aw_skip | apply aw_label | apply aw_exit | ((first | refine aw_region (hideO fun QQ hQQ => ?_) | refine aw_draw mixed (hideD fun QQ hQQ => ?_)); simp (maxSteps := 400000) (disch := first | decide | omega) only [hlb, hlb0, hrk, hrB, List.isEmpty_nil, List.length_map, hrow, htk, hll, go_sem, ↓reduceIte]; try (first | with_reducible refine unhide hQQ ?_ | refine ⟨by kernel_rfl, unhide hQQ ?_⟩); clear hQQ QQ) | with_reducible first | apply then_n | apply block_n | apply then_x | apply then_r | apply nog_n | apply nog_r | apply block_r | apply block_e (by decide) | apply block_x (by decide)))
  ((refine callO_ok rfl rfl 38 true rfl (by simp (disch := first | decide | omega) only [hlb, hlb0, hrk, hrB, List.isEmpty_nil, List.length_map, hrow, htk, hll, go_sem, ↓reduceIte]; try rfl) (fun _ => rfl) (h38) Try.func38 rfl (by decide) ?_); simp (maxSteps := 400000) (disch := first | decide | omega) only [hlb, hlb0, hrk, hrB, List.isEmpty_nil, List.length_map, hrow, htk, hll, go_sem, ↓reduceIte]; try (with_reducible refine unhide hQQ ?_; clear hQQ QQ)); (repeat (first | apply aw_seq | apply aw_block | apply aw_skip | apply aw_label | apply aw_exit | ((first | refine aw_region (hideO fun QQ hQQ => ?_) | refine aw_draw mixed (hideD fun QQ hQQ => ?_)); simp (maxSteps := 400000) (disch := first | decide | omega) only [hlb, hlb0, hrk, hrB, List.isEmpty_nil, List.length_map, hrow, htk, hll, go_sem, ↓reduceIte]; try (first | with_reducible refine unhide hQQ ?_ | refine ⟨by kernel_rfl, unhide hQQ ?_⟩); clear hQQ QQ) | with_reducible first | apply then_n | apply block_n | apply then_x | apply then_r | apply nog_n | apply nog_r | apply block_r | apply block_e (by decide) | apply block_x (by decide)))
  ((refine callO_ok rfl rfl 22 true rfl (by simp (disch := first | decide | omega) only [hlb, hlb0, hrk, hrB, List.isEmpty_nil, List.length_map, hrow, htk, hll, go_sem, ↓reduceIte]; try rfl) (fun _ => rfl) (hc) Try.func22 rfl (by decide) ?_); simp (maxSteps := 400000) (disch := first | decide | omega) only [hlb, hlb0, hrk, hrB, List.isEmpty_nil, List.length_map, hrow, htk, hll, go_sem, ↓reduceIte]; try (with_reducible refine unhide hQQ ?_; clear hQQ QQ)); (repeat (first | apply aw_seq | apply aw_block | apply aw_skip | apply aw_label | apply aw_exit | ((first | refine aw_region (hideO fun QQ hQQ => ?_) | refine aw_draw mixed (hideD fun QQ hQQ => ?_)); simp (maxSteps := 400000) (disch := first | decide | omega) only [hlb, hlb0, hrk, hrB, List.isEmpty_nil, List.length_map, hrow, htk, hll, go_sem, ↓reduceIte]; try (first | with_reducible refine unhide hQQ ?_ | refine ⟨by kernel_rfl, unhide hQQ ?_⟩); clear hQQ QQ) | with_reducible first | apply then_n | apply block_n | apply then_x | apply then_r | apply nog_n | apply nog_r | apply block_r | apply block_e (by decide) | apply block_x (by decide)))
  refine aw_cond2 (by simp (disch := first | decide | omega) only [hlb, hlb0, hrk, hrB, List.isEmpty_nil, List.length_map, hrow, htk, hll, go_sem, ↓reduceIte]; rfl) ?_; first | refine .inl ⟨by first | rfl | exact decide_eq_true (by omega) | exact decide_eq_true (by assumption) | (simp (disch := first | decide | omega) only [if_pos_d, if_neg_d, decide_eq_true_eq, Bool.not_eq_true', decide_eq_false_iff_not]; omega), ?_⟩ | refine .inr ⟨by first | rfl | exact decide_eq_false (by omega) | exact decide_eq_false (by assumption) | (simp (disch := first | decide | omega) only [if_pos_d, if_neg_d, decide_eq_true_eq, Bool.not_eq_true', decide_eq_false_iff_not]; omega), ?_⟩
  (repeat (first | apply aw_seq | apply aw_block | apply aw_skip | apply aw_label | apply aw_exit | ((first | refine aw_region (hideO fun QQ hQQ => ?_) | refine aw_draw mixed (hideD fun QQ hQQ => ?_)); simp (maxSteps := 400000) (disch := first | decide | omega) only [hlb, hlb0, hrk, hrB, List.isEmpty_nil, List.length_map, hrow, htk, hll, go_sem, ↓reduceIte]; try (first | with_reducible refine unhide hQQ ?_ | refine ⟨by kernel_rfl, unhide hQQ ?_⟩); clear hQQ QQ) | with_reducible first | apply then_n | apply block_n | apply then_x | apply then_r | apply nog_n | apply nog_r | apply block_r | apply block_e (by decide) | apply block_x (by decide)))
  (refine aw_ret ⟨.inr rfl, (by simp (maxSteps := 400000) (disch := first | decide | omega) only [go_sem, ↓reduceIte]; try rfl), (by simp (maxSteps := 400000) (disch := first | decide | omega) only [go_sem, ↓reduceIte]; try rfl), (by simp only [List.mem_cons, List.mem_nil_iff, forall_eq_or_imp, forall_eq, false_imp_iff, implies_true, or_false, and_true]; simp (maxSteps := 400000) (disch := first | decide | omega) only [go_sem, ↓reduceIte]; try exact ⟨rfl, rfl⟩)⟩)
end
end Go.Proofs.Ytknikcpeacmpmaa
