/- THE LAW TallyFalse, walked. -/
import Derived.Test.YtejbglbiefpagaaTyF
import Derived.Test.YtejbglbiefpagaaTxE
import Derived.Test.YtejbglbiefpagaaTyC
set_option linter.all false
namespace Go.Proofs.Ytejbglbiefpagaa
open Go Go.RowKit Go.Sh Go.Pv
set_option maxHeartbeats 8000000
set_option maxRecDepth 8000
section
variable {n most : Int} {strays : List (Int × Int)} {calls : List (Int × Int × Int × Int)}
theorem s_wo {N : Nat} (h : TOK N most strays calls) (set : Nat) (hs : set < 256) : FunS Try.prog 43 [.one (.p (iP set)), .one (.box 0 0)] [(0, .box [.p (iP N), .p (iP most), .p (.sl (strays.map row2)), .p (.sl (calls.map row4))])] 1 (.one (.one (.v (.bool (pW N most strays calls set))))) := by
  have hq : ∀ i, i < calls.length → (!set.testBit i) = (diffN (2 ^ calls.length - 1) set).testBit i := fun i hi => by rw [diff_every_bit]; simp [hi]
  have hwp := whole_pick (N := N) (most := most) (strays := strays) (calls := calls) (fun i => !set.testBit i) hq
  have htp := tok_pick h (fun i => !set.testBit i)
  by_cases hf : Feas N most strays calls (diffN (2 ^ calls.length - 1) set)
  · have h1 := s_wo43 (n := N) (most := most) (strays := strays) h.cl set hs 0 4 (x_Clash htp (hwp.2 hf))
    rw [(pW_F h set).2 hf]
    exact h1
  · obtain ⟨w, hK, _⟩ := c_Clash htp (fun hw => hf (hwp.1 hw))
    have h1 := s_wo43 (n := N) (most := most) (strays := strays) h.cl set hs w 0 hK
    have : pW N most strays calls set = false := by rw [← Bool.not_eq_true, pW_F h]; exact hf
    rw [this]
    exact h1
attribute [local go_sem] eql4 neq4 bne_tf bne_ft beq_tf beq_ft conv5'
theorem main_false_arg (b : Int) (hlv : longB strays calls = true ∨ validB n most strays calls = false) : FunOK Try.prog 9 [tyR n most strays calls, .one (.v (.int .u8 b))] (.one (.one (.v (.bool true)))) := by
  have hal := ok_alive
  have hl := ok_long n most strays calls
  have ht := ok_Tally36 n most strays calls
  simp only [tyR] at hl ht
  refine fun_ok (nt := 187) (rs := [.tmp 4]) Try.func9 rfl rfl rfl (by simp) fun Z w0 => ?_; simp only [initFr, avR, List.map_cons, List.map_nil]
  simp only [tyR, List.map_cons, List.map_nil]
  cases hlb : longB strays calls
  · have hv : validB n most strays calls = false := by
      rcases hlv with h | h
      · rw [hlb] at h; cases h
      · exact h
    rw [hlb] at hl
    rw [hv] at ht
    refine tw ?_; try with_reducible intro QQ hQQ
    (refine cO 35 rfl rfl rfl (hl) Try.func35 rfl ?_); refine ts ?_; try clear hQQ QQ
    ((refine cO 36 rfl rfl rfl (ht) Try.func36 rfl ?_); refine tu ?_; try clear hQQ QQ); refine tw ?_; try with_reducible intro QQ hQQ
    refine ti ?_; try clear hQQ QQ
    refine tw ?_; try with_reducible intro QQ hQQ
    ((refine cO 13 rfl rfl rfl (hal) Try.func13 rfl ?_); refine tu ?_; try clear hQQ QQ); refine tw ?_; try with_reducible intro QQ hQQ
    refine aw_ret ?_; refine ⟨.inr rfl, ?_⟩; simp only [resA, res1, go_sem, ↓reduceIte]
  · rw [hlb] at hl
    refine tw ?_; try with_reducible intro QQ hQQ
    ((refine cO 35 rfl rfl rfl (hl) Try.func35 rfl ?_); refine tu ?_; try clear hQQ QQ); refine tw ?_; try with_reducible intro QQ hQQ
    refine ti ?_; try clear hQQ QQ
    refine tw ?_; try with_reducible intro QQ hQQ
    ((refine cO 13 rfl rfl rfl (hal) Try.func13 rfl ?_); refine tu ?_; try clear hQQ QQ); refine tw ?_; try with_reducible intro QQ hQQ
    refine aw_ret ?_; refine ⟨.inr rfl, ?_⟩; simp only [resA, res1, go_sem, ↓reduceIte]
theorem main_false_x {N : Nat} (b : Nat) (hb : b < 256) (h : TOK N most strays calls) (hf : ¬ Feas N most strays calls 0) : FunOK Try.prog 9 [tyR N most strays calls, .one (.v (.int .u8 b))] (.one (.one (.v (.bool true)))) := by
  have hal := ok_alive
  have hl := ok_long N most strays calls
  have ht := ok_Tally36 N most strays calls
  have hlb : longB strays calls = false := by have := h.sl; have := h.n5; have := h.cl; unfold longB; simp; omega
  rw [hlb] at hl
  rw [tok_to h] at ht
  have h2 := two_le h
  have hx := x_False h hf
  obtain ⟨hx1, hx2⟩ := hx
  have hwo := s_wo h (2 ^ calls.length - 1) (by omega)
  have hpe : pW N most strays calls (2 ^ calls.length - 1) = false := by
    rw [← Bool.not_eq_true, pW_F h]
    exact fun hw => hf (feas_mono (fun i hi hb => by rw [Nat.zero_testBit] at hb; cases hb) hw)
  rw [hpe] at hwo
  simp only [tyR] at hl ht hx1 hx2
  have hcl := h.cl
  have hsh := fun T x y => bin_shl_one (P := Try.prog) .i64 T x y (n := calls.length) (by omega)
  generalize 2 ^ calls.length = p at *
  obtain ⟨E, rfl⟩ : ∃ E, p = E + 1 := ⟨p - 1, by omega⟩
  have hE : ((E + 1 : Nat) : Int) - 1 = (E : Int) := by omega
  rw [show E + 1 - 1 = E by omega] at hwo
  refine fun_ok (nt := 187) (rs := [.tmp 4]) Try.func9 rfl rfl rfl (by simp) fun Z w0 => ?_; simp only [initFr, avR, List.map_cons, List.map_nil]
  simp only [tyR, List.map_cons, List.map_nil]
  (repeat (first | apply aw_seq | apply aw_block | apply aw_skip | apply aw_label | apply aw_exit | ((first | refine aw_region (hideO fun QQ hQQ => ?_) | refine aw_draw mixed (hideD fun QQ hQQ => ?_)); simp (maxSteps := 400000) (disch := first | decide | omega) only [hsh, hE, go_sem, ↓reduceIte]; try (first | with_reducible refine unhide hQQ ?_ | refine ⟨by kernel_rfl, unhide hQQ ?_⟩); clear hQQ QQ) | with_reducible first | apply then_n | apply block_n | apply then_x | apply then_r | apply nog_n | apply nog_r | apply block_r | apply block_e (by decide) | apply block_x (by decide)))
  (refine callO_ok rfl rfl 35 true rfl (by simp (disch := first | decide | omega) only [hsh, hE, go_sem, ↓reduceIte]; try rfl) (fun _ => rfl) (hl) Try.func35 rfl (by decide) ?_); simp (maxSteps := 400000) (disch := first | decide | omega) only [hsh, hE, go_sem, ↓reduceIte]; (try (with_reducible refine unhide hQQ ?_; clear hQQ QQ; (repeat with_reducible first | apply then_n | apply block_n | apply then_x | apply then_r | apply nog_n | apply nog_r | apply block_r | apply block_e (by decide) | apply block_x (by decide))))
  ((refine callO_ok rfl rfl 36 true rfl (by simp (disch := first | decide | omega) only [hsh, hE, go_sem, ↓reduceIte]; try rfl) (fun _ => rfl) (ht) Try.func36 rfl (by decide) ?_); simp (maxSteps := 400000) (disch := first | decide | omega) only [hsh, hE, go_sem, ↓reduceIte]; try (with_reducible refine unhide hQQ ?_; clear hQQ QQ)); (repeat (first | apply aw_seq | apply aw_block | apply aw_skip | apply aw_label | apply aw_exit | ((first | refine aw_region (hideO fun QQ hQQ => ?_) | refine aw_draw mixed (hideD fun QQ hQQ => ?_)); simp (maxSteps := 400000) (disch := first | decide | omega) only [hsh, hE, go_sem, ↓reduceIte]; try (first | with_reducible refine unhide hQQ ?_ | refine ⟨by kernel_rfl, unhide hQQ ?_⟩); clear hQQ QQ) | with_reducible first | apply then_n | apply block_n | apply then_x | apply then_r | apply nog_n | apply nog_r | apply block_r | apply block_e (by decide) | apply block_x (by decide)))
  refine aw_cond2 (by simp (disch := first | decide | omega) only [hsh, hE, go_sem, ↓reduceIte]; rfl) ?_; first | refine .inl ⟨by first | rfl | exact decide_eq_true (by omega) | exact decide_eq_true (by assumption) | (simp (disch := first | decide | omega) only [if_pos_d, if_neg_d, decide_eq_true_eq, Bool.not_eq_true', decide_eq_false_iff_not]; omega), ?_⟩ | refine .inr ⟨by first | rfl | exact decide_eq_false (by omega) | exact decide_eq_false (by assumption) | (simp (disch := first | decide | omega) only [if_pos_d, if_neg_d, decide_eq_true_eq, Bool.not_eq_true', decide_eq_false_iff_not]; omega), ?_⟩
  (repeat (first | apply aw_seq | apply aw_block | apply aw_skip | apply aw_label | apply aw_exit | ((first | refine aw_region (hideO fun QQ hQQ => ?_) | refine aw_draw mixed (hideD fun QQ hQQ => ?_)); simp (maxSteps := 400000) (disch := first | decide | omega) only [hsh, hE, go_sem, ↓reduceIte]; try (first | with_reducible refine unhide hQQ ?_ | refine ⟨by kernel_rfl, unhide hQQ ?_⟩); clear hQQ QQ) | with_reducible first | apply then_n | apply block_n | apply then_x | apply then_r | apply nog_n | apply nog_r | apply block_r | apply block_e (by decide) | apply block_x (by decide)))
  ((refine callO_ok rfl rfl 24 true rfl (by simp (disch := first | decide | omega) only [hsh, hE, go_sem, ↓reduceIte]; try rfl) (fun _ => rfl) (hx1) Try.func24 rfl (by decide) ?_); simp (maxSteps := 400000) (disch := first | decide | omega) only [hsh, hE, go_sem, ↓reduceIte]; try (with_reducible refine unhide hQQ ?_; clear hQQ QQ)); (repeat (first | apply aw_seq | apply aw_block | apply aw_skip | apply aw_label | apply aw_exit | ((first | refine aw_region (hideO fun QQ hQQ => ?_) | refine aw_draw mixed (hideD fun QQ hQQ => ?_)); simp (maxSteps := 400000) (disch := first | decide | omega) only [hsh, hE, go_sem, ↓reduceIte]; try (first | with_reducible refine unhide hQQ ?_ | refine ⟨by kernel_rfl, unhide hQQ ?_⟩); clear hQQ QQ) | with_reducible first | apply then_n | apply block_n | apply then_x | apply then_r | apply nog_n | apply nog_r | apply block_r | apply block_e (by decide) | apply block_x (by decide)))
  ((refine callO_ok rfl rfl 26 true rfl (by simp (disch := first | decide | omega) only [hsh, hE, go_sem, ↓reduceIte]; try rfl) (fun _ => rfl) (hx2) Try.func26 rfl (by decide) ?_); simp (maxSteps := 400000) (disch := first | decide | omega) only [hsh, hE, go_sem, ↓reduceIte]; try (with_reducible refine unhide hQQ ?_; clear hQQ QQ)); (repeat (first | apply aw_seq | apply aw_block | apply aw_skip | apply aw_label | apply aw_exit | ((first | refine aw_region (hideO fun QQ hQQ => ?_) | refine aw_draw mixed (hideD fun QQ hQQ => ?_)); simp (maxSteps := 400000) (disch := first | decide | omega) only [hsh, hE, go_sem, ↓reduceIte]; try (first | with_reducible refine unhide hQQ ?_ | refine ⟨by kernel_rfl, unhide hQQ ?_⟩); clear hQQ QQ) | with_reducible first | apply then_n | apply block_n | apply then_x | apply then_r | apply nog_n | apply nog_r | apply block_r | apply block_e (by decide) | apply block_x (by decide)))
  (refine callO_S [0] (hwo) rfl rfl (by simp (disch := first | decide | omega) only [hsh, hE, go_sem, ↓reduceIte]; try rfl) (by simp (disch := first | decide | omega) only [hsh, hE, go_sem, ↓reduceIte]; try rfl) Try.func43 rfl (by decide) (by rfl) (by repeat' (first | trivial | apply And.intro | (simp (disch := first | decide | omega) only [hsh, hE, go_sem, ↓reduceIte]; first | done | rfl))) (by decide) (by decide) (by first | rfl | (simp (disch := first | decide | omega) only [hsh, hE, go_sem, ↓reduceIte]; try rfl)) ?_); simp (maxSteps := 400000) (disch := first | decide | omega) only [hsh, hE, go_sem, ↓reduceIte]; (try (with_reducible refine unhide hQQ ?_; clear hQQ QQ; (repeat with_reducible first | apply then_n | apply block_n | apply then_x | apply then_r | apply nog_n | apply nog_r | apply block_r | apply block_e (by decide) | apply block_x (by decide))))
  (repeat (first | apply aw_seq | apply aw_block | apply aw_skip | apply aw_label | apply aw_exit | ((first | refine aw_region (hideO fun QQ hQQ => ?_) | refine aw_draw mixed (hideD fun QQ hQQ => ?_)); simp (maxSteps := 400000) (disch := first | decide | omega) only [hsh, hE, go_sem, ↓reduceIte]; try (first | with_reducible refine unhide hQQ ?_ | refine ⟨by kernel_rfl, unhide hQQ ?_⟩); clear hQQ QQ) | with_reducible first | apply then_n | apply block_n | apply then_x | apply then_r | apply nog_n | apply nog_r | apply block_r | apply block_e (by decide) | apply block_x (by decide)))
  refine aw_cond2 (by simp (disch := first | decide | omega) only [hsh, hE, go_sem, ↓reduceIte]; rfl) ?_; first | refine .inl ⟨by first | rfl | exact decide_eq_true (by omega) | exact decide_eq_true (by assumption) | (simp (disch := first | decide | omega) only [if_pos_d, if_neg_d, decide_eq_true_eq, Bool.not_eq_true', decide_eq_false_iff_not]; omega), ?_⟩ | refine .inr ⟨by first | rfl | exact decide_eq_false (by omega) | exact decide_eq_false (by assumption) | (simp (disch := first | decide | omega) only [if_pos_d, if_neg_d, decide_eq_true_eq, Bool.not_eq_true', decide_eq_false_iff_not]; omega), ?_⟩
  (repeat (first | apply aw_seq | apply aw_block | apply aw_skip | apply aw_label | apply aw_exit | ((first | refine aw_region (hideO fun QQ hQQ => ?_) | refine aw_draw mixed (hideD fun QQ hQQ => ?_)); simp (maxSteps := 400000) (disch := first | decide | omega) only [hsh, hE, go_sem, ↓reduceIte]; try (first | with_reducible refine unhide hQQ ?_ | refine ⟨by kernel_rfl, unhide hQQ ?_⟩); clear hQQ QQ) | with_reducible first | apply then_n | apply block_n | apply then_x | apply then_r | apply nog_n | apply nog_r | apply block_r | apply block_e (by decide) | apply block_x (by decide)))
  refine aw_cond2 (by simp (disch := first | decide | omega) only [hsh, hE, go_sem, ↓reduceIte]; rfl) ?_; first | refine .inl ⟨by first | rfl | exact decide_eq_true (by omega) | exact decide_eq_true (by assumption) | (simp (disch := first | decide | omega) only [if_pos_d, if_neg_d, decide_eq_true_eq, Bool.not_eq_true', decide_eq_false_iff_not]; omega), ?_⟩ | refine .inr ⟨by first | rfl | exact decide_eq_false (by omega) | exact decide_eq_false (by assumption) | (simp (disch := first | decide | omega) only [if_pos_d, if_neg_d, decide_eq_true_eq, Bool.not_eq_true', decide_eq_false_iff_not]; omega), ?_⟩
  (repeat (first | apply aw_seq | apply aw_block | apply aw_skip | apply aw_label | apply aw_exit | ((first | refine aw_region (hideO fun QQ hQQ => ?_) | refine aw_draw mixed (hideD fun QQ hQQ => ?_)); simp (maxSteps := 400000) (disch := first | decide | omega) only [hsh, hE, go_sem, ↓reduceIte]; try (first | with_reducible refine unhide hQQ ?_ | refine ⟨by kernel_rfl, unhide hQQ ?_⟩); clear hQQ QQ) | with_reducible first | apply then_n | apply block_n | apply then_x | apply then_r | apply nog_n | apply nog_r | apply block_r | apply block_e (by decide) | apply block_x (by decide)))
  ((refine callO_ok rfl rfl 13 true rfl (by simp (disch := first | decide | omega) only [hsh, hE, go_sem, ↓reduceIte]; try rfl) (fun _ => rfl) (hal) Try.func13 rfl (by decide) ?_); simp (maxSteps := 400000) (disch := first | decide | omega) only [hsh, hE, go_sem, ↓reduceIte]; try (with_reducible refine unhide hQQ ?_; clear hQQ QQ)); (repeat (first | apply aw_seq | apply aw_block | apply aw_skip | apply aw_label | apply aw_exit | ((first | refine aw_region (hideO fun QQ hQQ => ?_) | refine aw_draw mixed (hideD fun QQ hQQ => ?_)); simp (maxSteps := 400000) (disch := first | decide | omega) only [hsh, hE, go_sem, ↓reduceIte]; try (first | with_reducible refine unhide hQQ ?_ | refine ⟨by kernel_rfl, unhide hQQ ?_⟩); clear hQQ QQ) | with_reducible first | apply then_n | apply block_n | apply then_x | apply then_r | apply nog_n | apply nog_r | apply block_r | apply block_e (by decide) | apply block_x (by decide)))
  refine aw_ret ?_; refine ⟨.inr rfl, ?_⟩; simp only [resA, res1, go_sem, ↓reduceIte]
end
end Go.Proofs.Ytejbglbiefpagaa
