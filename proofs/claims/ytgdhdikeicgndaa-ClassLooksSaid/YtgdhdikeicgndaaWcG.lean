/- classer: the document's every, Has, far. -/
import Derived.Test.YtgdhdikeicgndaaKwc22
set_option linter.all false
namespace Go.Proofs.Ytgdhdikeicgndaa
open Go Go.RowKit Go.Sh Go.Pv Go.Cl
set_option maxHeartbeats 2000000
set_option maxRecDepth 20000
set_option pp.maxSteps 60000
theorem ok_HasD (s i : Nat) (hs : s < 2 ^ 40) (hi : i ≤ 40) : FunOK Try.prog 87 [.one (iP (s : Int)), .one (iP (i : Int))] (.one (.one (.v (.bool (s.testBit i))))) := by
  have hp := ok_power i hi
  have hpos : 0 < 2 ^ i := Nat.two_pow_pos i
  have hq := fun T a b => bin_quo_nat T a b (s := s) (d := 2 ^ i) (by omega) hpos
  have hr := fun T a b => bin_rem_two T a b (s / 2 ^ i)
  rw [Nat.testBit_eq_decide_div_mod_eq]
  have hm : s / 2 ^ i % 2 < 2 := Nat.mod_lt _ (by decide)
  generalize s / 2 ^ i = y at *
  generalize 2 ^ i = z at *
  generalize y % 2 = m at *
  by_cases h1 : m = 1
  · subst h1
    rw [decide_eq_true rfl]
    refine fun_ok (nt := 11) (rs := [.tmp 4]) Try.func87 rfl rfl rfl (by simp) fun Z w0 => ?_; simp only [initFr, avR, List.map_cons, List.map_nil]
    refine tw ?_; try with_reducible intro QQ hQQ
    ((refine callO_ok rfl rfl 88 true rfl (by simp (disch := first | decide | omega) only [hq, hr, go_sem, ↓reduceIte]; try rfl) (fun _ => rfl) (hp) Try.func88 rfl (by decide) ?_); simp (maxSteps := 400000) (disch := first | decide | omega) only [hq, hr, go_sem, ↓reduceIte]; try (with_reducible refine unhide hQQ ?_; clear hQQ QQ)); (repeat (first | apply aw_seq | apply aw_block | apply aw_skip | apply aw_label | apply aw_exit | ((first | refine aw_region (hideO fun QQ hQQ => ?_) | refine aw_draw mixed (hideD fun QQ hQQ => ?_)); simp (maxSteps := 400000) (disch := first | decide | omega) only [hq, hr, go_sem, ↓reduceIte]; try (first | with_reducible refine unhide hQQ ?_ | refine ⟨by kernel_rfl, unhide hQQ ?_⟩); clear hQQ QQ) | with_reducible first | apply then_n | apply block_n | apply then_x | apply then_r | apply nog_n | apply nog_r | apply block_r | apply block_e (by decide) | apply block_x (by decide)))
    refine aw_ret ?_; refine ⟨.inr rfl, ?_⟩; simp only [resA, res1, go_sem, ↓reduceIte]
  · have h0 : m = 0 := by omega
    subst h0
    rw [decide_eq_false (by decide)]
    refine fun_ok (nt := 11) (rs := [.tmp 4]) Try.func87 rfl rfl rfl (by simp) fun Z w0 => ?_; simp only [initFr, avR, List.map_cons, List.map_nil]
    refine tw ?_; try with_reducible intro QQ hQQ
    ((refine callO_ok rfl rfl 88 true rfl (by simp (disch := first | decide | omega) only [hq, hr, go_sem, ↓reduceIte]; try rfl) (fun _ => rfl) (hp) Try.func88 rfl (by decide) ?_); simp (maxSteps := 400000) (disch := first | decide | omega) only [hq, hr, go_sem, ↓reduceIte]; try (with_reducible refine unhide hQQ ?_; clear hQQ QQ)); (repeat (first | apply aw_seq | apply aw_block | apply aw_skip | apply aw_label | apply aw_exit | ((first | refine aw_region (hideO fun QQ hQQ => ?_) | refine aw_draw mixed (hideD fun QQ hQQ => ?_)); simp (maxSteps := 400000) (disch := first | decide | omega) only [hq, hr, go_sem, ↓reduceIte]; try (first | with_reducible refine unhide hQQ ?_ | refine ⟨by kernel_rfl, unhide hQQ ?_⟩); clear hQQ QQ) | with_reducible first | apply then_n | apply block_n | apply then_x | apply then_r | apply nog_n | apply nog_r | apply block_r | apply block_e (by decide) | apply block_x (by decide)))
    refine aw_ret ?_; refine ⟨.inr rfl, ?_⟩; simp only [resA, res1, go_sem, ↓reduceIte]
theorem ok_everyD {bales : List (Int × Int × Int)} {may drift mist : Int} (hl : bales.length ≤ 40) : FunOK Try.prog 64 [.agg [.sl (bales.map row3), iP may, iP drift, iP mist]] (.one (.one (iP ((2 ^ bales.length - 1 : Nat) : Int)))) := by
  have hp := ok_power bales.length hl
  have hll : (bales.map row3).length = bales.length := List.length_map _
  have hpos : 0 < 2 ^ bales.length := Nat.two_pow_pos _
  have hlt : 2 ^ bales.length ≤ 2 ^ 40 := Nat.pow_le_pow_right (by decide) hl
  generalize 2 ^ bales.length = z at *
  have he : ((z : Nat) : Int) - 1 = ((z - 1 : Nat) : Int) := by omega
  refine fun_ok (nt := 8) (rs := [.tmp 2]) Try.func64 rfl rfl rfl (by simp) fun Z w0 => ?_; simp only [initFr, avR, List.map_cons, List.map_nil]
  (repeat (first | apply aw_seq | apply aw_block | apply aw_skip | apply aw_label | apply aw_exit | ((first | refine aw_region (hideO fun QQ hQQ => ?_) | refine aw_draw mixed (hideD fun QQ hQQ => ?_)); simp (maxSteps := 400000) (disch := first | decide | omega) only [hll, he, go_sem, ↓reduceIte]; try (first | with_reducible refine unhide hQQ ?_ | refine ⟨by kernel_rfl, unhide hQQ ?_⟩); clear hQQ QQ) | with_reducible first | apply then_n | apply block_n | apply then_x | apply then_r | apply nog_n | apply nog_r | apply block_r | apply block_e (by decide) | apply block_x (by decide)))
  ((refine callO_ok rfl rfl 88 true rfl (by simp (disch := first | decide | omega) only [hll, he, go_sem, ↓reduceIte]; try rfl) (fun _ => rfl) (hp) Try.func88 rfl (by decide) ?_); simp (maxSteps := 400000) (disch := first | decide | omega) only [hll, he, go_sem, ↓reduceIte]; try (with_reducible refine unhide hQQ ?_; clear hQQ QQ)); (repeat (first | apply aw_seq | apply aw_block | apply aw_skip | apply aw_label | apply aw_exit | ((first | refine aw_region (hideO fun QQ hQQ => ?_) | refine aw_draw mixed (hideD fun QQ hQQ => ?_)); simp (maxSteps := 400000) (disch := first | decide | omega) only [hll, he, go_sem, ↓reduceIte]; try (first | with_reducible refine unhide hQQ ?_ | refine ⟨by kernel_rfl, unhide hQQ ?_⟩); clear hQQ QQ) | with_reducible first | apply then_n | apply block_n | apply then_x | apply then_r | apply nog_n | apply nog_r | apply block_r | apply block_e (by decide) | apply block_x (by decide)))
  refine aw_ret ?_; refine ⟨.inr rfl, ?_⟩; simp only [resA, res1, go_sem, ↓reduceIte]
end Go.Proofs.Ytgdhdikeicgndaa
