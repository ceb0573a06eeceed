/- THE LAW ClassEnds, walked. -/
import Derived.Test.YtgdhdikeicgndaaWdE
import Derived.Test.YtgdhdikeicgndaaKcx18
set_option linter.all false
namespace Go.Proofs.Ytgdhdikeicgndaa
open Go Go.RowKit Go.Sh Go.Pv Go.Cl
set_option maxHeartbeats 8000000
set_option maxRecDepth 20000
set_option pp.maxSteps 60000
attribute [local go_sem] eql4 neq4 bne_tf bne_ft beq_tf beq_ft span_eql span_neq
theorem bin_rem_natE (T : TypeId) (x y : Operand) {s d : Nat} (hd : 0 < d) : binA Try.prog .rem T x y (.int .i64 (s : Int)) (.int .i64 (d : Int)) = some (.int .i64 ((s % d : Nat) : Int)) := by
  rw [bin_rem _ _ _ _ _ _ (by omega), Int.tmod_eq_emod_of_nonneg (by omega)]
  rfl
section
variable {bs : List (Nat × Nat × Nat)} {May D : Nat}
theorem pinL_len {j n : Nat} : (pinL bs j n).length = bs.length := by unfold pinL; split <;> simp
theorem pinL_ok (h : LOK bs) {j n : Nat} (hj : j < bs.length) (hn : n ≤ (bG bs j).1) : LOK (pinL bs j n) := by
  unfold pinL
  split
  · have := h.ba j hj
    exact h.set hj ⟨by dsimp only; omega, by dsimp only; omega, by dsimp only; omega, by dsimp only; omega⟩
  · exact h
theorem lineR_z : lineR (bs.map castB) May D 0 = .agg [.sl (bs.map baleP), iP (May : Int), iP (D : Int), iP 0] := lineR_cast (M := 0)
/-- A number of wrong fleeces leaves a truth. -/
def endB (D : Nat) (bs : List (Nat × Nat × Nat)) (j n : Nat) : Bool := pinB bs j n && decide (Go.Cl.mist D (pinL bs j n) (2 ^ bs.length - 1) ≤ 0)
theorem end_iff (h : LOK bs) {j n : Nat} (hj : j < bs.length) (hn : n ≤ (bG bs j).1) : endB D bs j n = true ↔ ∃ f, AllT D 0 bs f ∧ f j = n := by
  have hM' : 0 < FAR := by unfold FAR; omega
  have hl := pinL_len (bs := bs) (j := j) (n := n)
  have hm := mist_iff (D := D) (M := 0) (pinL_ok h hj hn) hM'
  rw [hl] at hm
  unfold endB
  rw [Bool.and_eq_true, decide_eq_true_eq, hm]
  obtain ⟨⟨F, K, W⟩, hb⟩ : ∃ b, bG bs j = b := ⟨_, rfl⟩
  rw [hb] at hn
  constructor
  · rintro ⟨h1, h2⟩
    have hc : costB (F, K, W) n = 0 := by rw [← hb]; exact of_decide_eq_true h1
    unfold pinL at h2
    rw [if_pos h1, hb] at h2
    exact (pin_iff hj hb hn hc).1 h2
  · rintro ⟨f, hf, hfj⟩
    obtain ⟨-, hc⟩ := zero_pin hj hb hf hfj
    have h1 : pinB bs j n = true := decide_eq_true (by rw [hb]; exact hc)
    refine ⟨h1, ?_⟩
    unfold pinL
    rw [if_pos h1, hb]
    exact (pin_iff hj hb hn hc).2 ⟨f, hf, hfj⟩
theorem ends_in (h : LOK bs) {j n : Nat} (hj : j < bs.length) (hn : n ≤ (bG bs j).1) (he : ∃ f, AllT D 0 bs f) :
    (endB D bs j n = true → (wrongS D 0 bs j).1 ≤ n ∧ n ≤ (wrongS D 0 bs j).2) ∧ (endB D bs j n = false → n ≠ (wrongS D 0 bs j).1 ∧ n ≠ (wrongS D 0 bs j).2) := by
  have hM' : 0 < FAR := by unfold FAR; omega
  obtain ⟨⟨f1, e1, h1⟩, ⟨f2, e2, h2⟩⟩ := wrong_mem h hM' hj he
  refine ⟨fun h0 => ?_, fun h0 => ⟨fun e => ?_, fun e => ?_⟩⟩
  · obtain ⟨f, hf, rfl⟩ := (end_iff h hj hn).1 h0
    exact wrong_in h hM' hj hf
  · rw [(end_iff h hj hn).2 ⟨f1, h1, by rw [e1, e]⟩] at h0; cases h0
  · rw [(end_iff h hj hn).2 ⟨f2, h2, by rw [e2, e]⟩] at h0; cases h0
end
section
variable {bales : List (Int × Int × Int)} {may drift mist : Int}
theorem ok_ClassEnds (which : Int) (hw : 0 ≤ which ∧ which ≤ 255) : FunOK Try.prog 6 [lineR bales may drift mist, .one (.v (.int .u8 which))] (.one (.one (.v (.bool true)))) := by
  have haw := ok_awake
  have hfa := ok_far (bales := bales) (may := may) (drift := drift) (mist := mist)
  cases hf : farB bales
  rotate_left
  · rw [hf] at hfa
    clear hf
    refine fun_ok (nt := 163) (rs := [.tmp 4]) Try.func6 rfl rfl rfl (by simp) fun Z w0 => ?_; simp only [initFr, avR, List.map_cons, List.map_nil]
    simp only [lineR, List.map_cons, List.map_nil]
    refine tw ?_; try with_reducible intro QQ hQQ
    ((refine cO 33 rfl rfl rfl (hfa) Try.func33 rfl ?_); refine tu ?_; try clear hQQ QQ); refine tw ?_; try with_reducible intro QQ hQQ
    refine ti ?_; try clear hQQ QQ
    refine tw ?_; try with_reducible intro QQ hQQ
    ((refine cO 13 rfl rfl rfl (haw) Try.func13 rfl ?_); refine tu ?_; try clear hQQ QQ); refine tw ?_; try with_reducible intro QQ hQQ
    refine aw_ret ?_; refine ⟨.inr rfl, ?_⟩; simp only [resA, res1, go_sem, ↓reduceIte]
  rw [hf] at hfa
  have hLn := ok_LineD (bales := bales) (may := may) (drift := drift) (mist := mist)
  cases hv : lineB bales may drift mist
  · rw [hv] at hLn
    have hA := ok_All (bales := bales) (may := may) (drift := drift) (mist := mist)
    have hM := ok_Mistaken (bales := bales) (may := may) (drift := drift) (mist := mist)
    rw [show whyL bales may drift mist true = 1 by simp [whyL, hv]] at hA
    rw [hv, if_neg (by decide)] at hM
    simp only [ansR, ansN, if_false, show ((1 : Int) = 0) = False from by decide] at hA hM
    clear hf hv
    refine fun_ok (nt := 163) (rs := [.tmp 4]) Try.func6 rfl rfl rfl (by simp) fun Z w0 => ?_; simp only [initFr, avR, List.map_cons, List.map_nil]
    simp only [lineR, List.map_cons, List.map_nil] at hA hM ⊢
    refine tw ?_; try with_reducible intro QQ hQQ
    ((refine cO 33 rfl rfl rfl (hfa) Try.func33 rfl ?_); refine tu ?_; try clear hQQ QQ); refine tw ?_; try with_reducible intro QQ hQQ
    refine ti ?_; try clear hQQ QQ
    refine tw ?_; try with_reducible intro QQ hQQ
    ((refine cO 34 rfl rfl rfl (hLn) Try.func34 rfl ?_); refine tu ?_; try clear hQQ QQ); refine tw ?_; try with_reducible intro QQ hQQ
    refine ti ?_; try clear hQQ QQ
    refine tw ?_; try with_reducible intro QQ hQQ
    ((refine cO 16 rfl rfl rfl (hA) Try.func16 rfl ?_); refine tu ?_; try clear hQQ QQ); refine tw ?_; try with_reducible intro QQ hQQ
    ((refine cO 24 rfl rfl rfl (hM) Try.func24 rfl ?_); refine tu ?_; try clear hQQ QQ); refine tw ?_; try with_reducible intro QQ hQQ
    ((refine cO 13 rfl rfl rfl (haw) Try.func13 rfl ?_); refine tu ?_; try clear hQQ QQ); refine tw ?_; try with_reducible intro QQ hQQ
    refine aw_ret ?_; refine ⟨.inr rfl, ?_⟩; simp only [resA, res1, go_sem, ↓reduceIte]
  rw [hv] at hLn
  obtain ⟨bs, May, D, M, rfl, rfl, rfl, rfl, hL, hMay, hD, hM⟩ := line_of hv
  obtain ⟨wh, rfl⟩ : ∃ j : Nat, which = j := ⟨which.toNat, by omega⟩
  have hcv := conv5_3 wh hw
  have hn1 := hL.n1
  have hn6 := hL.n6
  have hrm : ∀ (T : TypeId) (x y : Operand), binA Try.prog .rem T x y (.int .i64 (wh : Int)) (.int .i64 (bs.length : Int)) = some (.int .i64 ((wh % bs.length : Nat) : Int)) := fun T x y => bin_rem_natE T x y (by omega)
  have hj : wh % bs.length < bs.length := Nat.mod_lt _ (by omega)
  generalize wh % bs.length = j at *
  have hll : (bs.map baleP).length = bs.length := List.length_map _
  have hg : (bs.map baleP)[j]? = some [iP ((bG bs j).1 : Int), iP ((bG bs j).2.1 : Int), iP ((bG bs j).2.2 : Int)] := by rw [List.getElem?_map, get_someBale hj]; rfl
  have hba := hL.ba j hj
  have w1 := ok_Wrong (bales := bs.map castB) (may := May) (drift := D) (mist := M) (bs.length : Int)
  have w2 := ok_Keeps (bales := bs.map castB) (may := May) (drift := D) (mist := M) (-1)
  have w3 := ok_More (bales := bs.map castB) (may := May) (drift := D) (mist := M) (-1)
  have hi1 : inB (bs.length : Int) 0 (((bs.map castB).length : Int) - 1) = false := by
    rw [List.length_map]; simp [inB]; omega
  have hi2 : inB (-1) 0 (((bs.map castB).length : Int) - 1) = false := by simp [inB]
  have hwf : whyL (bs.map castB) May D M false = 2 := by simp [whyL, hv]
  have hwm : whyM (bs.map castB) May D M (-1) = 2 := by
    unfold whyM
    rw [hi2, hwf, if_neg (by decide)]
  rw [hi1, hwf] at w1
  rw [hi2, hwf] at w2
  rw [hwm] at w3
  have e0 : ((0 : Nat) : Int) = 0 := rfl
  have w4 := ok_Wrong (bales := bs.map castB) (may := May) (drift := D) (mist := ((0 : Nat) : Int)) (j : Int)
  have hi3 : inB (j : Int) 0 (((bs.map castB).length : Int) - 1) = true := by
    rw [List.length_map]; simp [inB]; omega
  have hv0 : lineB (bs.map castB) May D ((0 : Nat) : Int) = true := line_to hL hMay hD (by omega)
  simp only [ansR, ansN, if_false, show ((2 : Int) = 0) = False from by decide, lineR_cast, rows_cast] at w1 w2 w3 hfa hLn ⊢
  rw [hi3] at w4
  cases hc : canB (bs.map castB) D ((0 : Nat) : Int)
  · rw [show whyL (bs.map castB) May D ((0 : Nat) : Int) true = 10 by simp only [whyL, hv0, hc, if_true]; rfl] at w4
    simp only [ansR, if_false, show ((10 : Int) = 0) = False from by decide, lineR_cast, lineR_z, e0, Int.toNat_zero] at w4
    clear hf hv hi1 hi2 hi3 hwf hwm hv0 hc hL
    refine fun_ok (nt := 163) (rs := [.tmp 4]) Try.func6 rfl rfl rfl (by simp) fun Z w0 => ?_; simp only [initFr, avR, List.map_cons, List.map_nil]
    refine tw ?_; try with_reducible intro QQ hQQ
    ((refine cO 33 rfl rfl rfl (hfa) Try.func33 rfl ?_); refine tu ?_; try clear hQQ QQ); refine tw ?_; try with_reducible intro QQ hQQ
    refine ti ?_; try clear hQQ QQ
    refine tw ?_; try with_reducible intro QQ hQQ
    ((refine cO 34 rfl rfl rfl (hLn) Try.func34 rfl ?_); refine tu ?_; try clear hQQ QQ); refine tw ?_; try with_reducible intro QQ hQQ
    refine ti ?_; try clear hQQ QQ
    (repeat (first | apply aw_seq | apply aw_block | apply aw_skip | apply aw_label | apply aw_exit | ((first | refine aw_region (hideO fun QQ hQQ => ?_) | refine aw_draw mixed (hideD fun QQ hQQ => ?_)); simp (maxSteps := 400000) (disch := first | decide | omega) only [hll, go_sem, ↓reduceIte]; try (first | with_reducible refine unhide hQQ ?_ | refine ⟨by kernel_rfl, unhide hQQ ?_⟩); clear hQQ QQ) | with_reducible first | apply then_n | apply block_n | apply then_x | apply then_r | apply nog_n | apply nog_r | apply block_r | apply block_e (by decide) | apply block_x (by decide)))
    ((refine callO_ok rfl rfl 14 true rfl (by simp (disch := first | decide | omega) only [hll, go_sem, ↓reduceIte]; try rfl) (fun _ => rfl) (w1) Try.func14 rfl (by decide) ?_); simp (maxSteps := 400000) (disch := first | decide | omega) only [hll, go_sem, ↓reduceIte]; try (with_reducible refine unhide hQQ ?_; clear hQQ QQ)); (repeat (first | apply aw_seq | apply aw_block | apply aw_skip | apply aw_label | apply aw_exit | ((first | refine aw_region (hideO fun QQ hQQ => ?_) | refine aw_draw mixed (hideD fun QQ hQQ => ?_)); simp (maxSteps := 400000) (disch := first | decide | omega) only [hll, go_sem, ↓reduceIte]; try (first | with_reducible refine unhide hQQ ?_ | refine ⟨by kernel_rfl, unhide hQQ ?_⟩); clear hQQ QQ) | with_reducible first | apply then_n | apply block_n | apply then_x | apply then_r | apply nog_n | apply nog_r | apply block_r | apply block_e (by decide) | apply block_x (by decide)))
    ((refine callO_ok rfl rfl 18 true rfl (by simp (disch := first | decide | omega) only [hll, go_sem, ↓reduceIte]; try rfl) (fun _ => rfl) (w2) Try.func18 rfl (by decide) ?_); simp (maxSteps := 400000) (disch := first | decide | omega) only [hll, go_sem, ↓reduceIte]; try (with_reducible refine unhide hQQ ?_; clear hQQ QQ)); (repeat (first | apply aw_seq | apply aw_block | apply aw_skip | apply aw_label | apply aw_exit | ((first | refine aw_region (hideO fun QQ hQQ => ?_) | refine aw_draw mixed (hideD fun QQ hQQ => ?_)); simp (maxSteps := 400000) (disch := first | decide | omega) only [hll, go_sem, ↓reduceIte]; try (first | with_reducible refine unhide hQQ ?_ | refine ⟨by kernel_rfl, unhide hQQ ?_⟩); clear hQQ QQ) | with_reducible first | apply then_n | apply block_n | apply then_x | apply then_r | apply nog_n | apply nog_r | apply block_r | apply block_e (by decide) | apply block_x (by decide)))
    ((refine callO_ok rfl rfl 26 true rfl (by simp (disch := first | decide | omega) only [hll, go_sem, ↓reduceIte]; try rfl) (fun _ => rfl) (w3) Try.func26 rfl (by decide) ?_); simp (maxSteps := 400000) (disch := first | decide | omega) only [hll, go_sem, ↓reduceIte]; try (with_reducible refine unhide hQQ ?_; clear hQQ QQ)); (repeat (first | apply aw_seq | apply aw_block | apply aw_skip | apply aw_label | apply aw_exit | ((first | refine aw_region (hideO fun QQ hQQ => ?_) | refine aw_draw mixed (hideD fun QQ hQQ => ?_)); simp (maxSteps := 400000) (disch := first | decide | omega) only [hll, go_sem, ↓reduceIte]; try (first | with_reducible refine unhide hQQ ?_ | refine ⟨by kernel_rfl, unhide hQQ ?_⟩); clear hQQ QQ) | with_reducible first | apply then_n | apply block_n | apply then_x | apply then_r | apply nog_n | apply nog_r | apply block_r | apply block_e (by decide) | apply block_x (by decide)))
    refine aw_cond2 (by simp (disch := first | decide | omega) only [hll, go_sem, ↓reduceIte]; rfl) ?_; first | refine .inl ⟨by first | rfl | exact decide_eq_true (by omega) | exact decide_eq_true (by assumption) | (simp (disch := first | decide | omega) only [if_pos_d, if_neg_d, decide_eq_true_eq, Bool.not_eq_true', decide_eq_false_iff_not]; omega), ?_⟩ | refine .inr ⟨by first | rfl | exact decide_eq_false (by omega) | exact decide_eq_false (by assumption) | (simp (disch := first | decide | omega) only [if_pos_d, if_neg_d, decide_eq_true_eq, Bool.not_eq_true', decide_eq_false_iff_not]; omega), ?_⟩
    (repeat (first | apply aw_seq | apply aw_block | apply aw_skip | apply aw_label | apply aw_exit | ((first | refine aw_region (hideO fun QQ hQQ => ?_) | refine aw_draw mixed (hideD fun QQ hQQ => ?_)); simp (maxSteps := 400000) (disch := first | decide | omega) only [hll, hcv, hrm, hg, go_sem, ↓reduceIte]; try (first | with_reducible refine unhide hQQ ?_ | refine ⟨by kernel_rfl, unhide hQQ ?_⟩); clear hQQ QQ) | with_reducible first | apply then_n | apply block_n | apply then_x | apply then_r | apply nog_n | apply nog_r | apply block_r | apply block_e (by decide) | apply block_x (by decide)))
    ((refine callO_ok rfl rfl 14 true rfl (by simp (disch := first | decide | omega) only [hll, hcv, hrm, hg, go_sem, ↓reduceIte]; try rfl) (fun _ => rfl) (w4) Try.func14 rfl (by decide) ?_); simp (maxSteps := 400000) (disch := first | decide | omega) only [hll, hcv, hrm, hg, go_sem, ↓reduceIte]; try (with_reducible refine unhide hQQ ?_; clear hQQ QQ)); (repeat (first | apply aw_seq | apply aw_block | apply aw_skip | apply aw_label | apply aw_exit | ((first | refine aw_region (hideO fun QQ hQQ => ?_) | refine aw_draw mixed (hideD fun QQ hQQ => ?_)); simp (maxSteps := 400000) (disch := first | decide | omega) only [hll, hcv, hrm, hg, go_sem, ↓reduceIte]; try (first | with_reducible refine unhide hQQ ?_ | refine ⟨by kernel_rfl, unhide hQQ ?_⟩); clear hQQ QQ) | with_reducible first | apply then_n | apply block_n | apply then_x | apply then_r | apply nog_n | apply nog_r | apply block_r | apply block_e (by decide) | apply block_x (by decide)))
    refine aw_cond2 (by simp (disch := first | decide | omega) only [hll, hcv, hrm, hg, go_sem, ↓reduceIte]; rfl) ?_; first | refine .inl ⟨by first | rfl | exact decide_eq_true (by omega) | exact decide_eq_true (by assumption) | (simp (disch := first | decide | omega) only [if_pos_d, if_neg_d, decide_eq_true_eq, Bool.not_eq_true', decide_eq_false_iff_not]; omega), ?_⟩ | refine .inr ⟨by first | rfl | exact decide_eq_false (by omega) | exact decide_eq_false (by assumption) | (simp (disch := first | decide | omega) only [if_pos_d, if_neg_d, decide_eq_true_eq, Bool.not_eq_true', decide_eq_false_iff_not]; omega), ?_⟩
    (repeat (first | apply aw_seq | apply aw_block | apply aw_skip | apply aw_label | apply aw_exit | ((first | refine aw_region (hideO fun QQ hQQ => ?_) | refine aw_draw mixed (hideD fun QQ hQQ => ?_)); simp (maxSteps := 400000) (disch := first | decide | omega) only [hll, hcv, hrm, hg, go_sem, ↓reduceIte]; try (first | with_reducible refine unhide hQQ ?_ | refine ⟨by kernel_rfl, unhide hQQ ?_⟩); clear hQQ QQ) | with_reducible first | apply then_n | apply block_n | apply then_x | apply then_r | apply nog_n | apply nog_r | apply block_r | apply block_e (by decide) | apply block_x (by decide)))
    ((refine callO_ok rfl rfl 13 true rfl (by simp (disch := first | decide | omega) only [hll, hcv, hrm, hg, go_sem, ↓reduceIte]; try rfl) (fun _ => rfl) (haw) Try.func13 rfl (by decide) ?_); simp (maxSteps := 400000) (disch := first | decide | omega) only [hll, hcv, hrm, hg, go_sem, ↓reduceIte]; try (with_reducible refine unhide hQQ ?_; clear hQQ QQ)); (repeat (first | apply aw_seq | apply aw_block | apply aw_skip | apply aw_label | apply aw_exit | ((first | refine aw_region (hideO fun QQ hQQ => ?_) | refine aw_draw mixed (hideD fun QQ hQQ => ?_)); simp (maxSteps := 400000) (disch := first | decide | omega) only [hll, hcv, hrm, hg, go_sem, ↓reduceIte]; try (first | with_reducible refine unhide hQQ ?_ | refine ⟨by kernel_rfl, unhide hQQ ?_⟩); clear hQQ QQ) | with_reducible first | apply then_n | apply block_n | apply then_x | apply then_r | apply nog_n | apply nog_r | apply block_r | apply block_e (by decide) | apply block_x (by decide)))
    refine aw_ret ?_; refine ⟨.inr rfl, ?_⟩; simp only [resA, res1, go_sem, ↓reduceIte]
  · rw [show whyL (bs.map castB) May D ((0 : Nat) : Int) true = 0 by simp only [whyL, hv0, hc, if_true]] at w4
    simp only [ansR, if_true, nB_cast, Int.toNat_natCast, lineR_cast, lineR_z, e0, Int.toNat_zero] at w4
    have hM0 : 0 < FAR := by unfold FAR; omega
    have hc2 := hc
    rw [canB_cast] at hc2
    have he : ∃ f, AllT D 0 bs f := (mist_iff hL hM0).1 (of_decide_eq_true hc2)
    have hends := fun n hn => ends_in hL hj (n := n) hn he
    have hws := wrong_ends hL hM0 hj he
    have hpin := fun n (hn : n ≤ (bG bs j).1) => ok_pinned (may := May) (drift := D) (mist := 0) hL hj hn
    have hcl := fun n (hn : n ≤ (bG bs j).1) => ok_Clash (bales := (pinL bs j n).map castB) (may := May) (drift := D) (mist := ((0 : Nat) : Int))
    have hcl' : ∀ n, n ≤ (bG bs j).1 → FunOK Try.prog 28 [.agg [.sl ((pinL bs j n).map baleP), iP (May : Int), iP (D : Int), iP 0]] (ansN (if 0 < Go.Cl.mist D (pinL bs j n) (2 ^ bs.length - 1) then 0 else 4) (clS D 0 (pinL bs j n) : Nat)) := fun n hn => by
      have := hcl n hn
      have hwy : whyC ((pinL bs j n).map castB) May D ((0 : Nat) : Int) = if 0 < Go.Cl.mist D (pinL bs j n) (2 ^ bs.length - 1) then 0 else 4 := by
        unfold whyC
        rw [line_to (pinL_ok hL hj hn) hMay hD (by omega), if_pos rfl, nB_cast, List.length_map, pinL_len]
        unfold clP
        simp only [Int.toNat_natCast, decide_eq_true_eq]
      rw [hwy] at this
      simp only [nB_cast, Int.toNat_natCast, lineR_cast, lineR_z, e0, Int.toNat_zero] at this
      exact this
    unfold endB at hends
    generalize wrongS D 0 bs j = W at *
    obtain ⟨lo, hi⟩ := W
    dsimp only at hends hws w4
    clear hf hv hi1 hi2 hi3 hwf hwm hv0 hc hc2 hL he hcl
    refine fun_ok (nt := 163) (rs := [.tmp 4]) Try.func6 rfl rfl rfl (by simp) fun Z w0 => ?_; simp only [initFr, avR, List.map_cons, List.map_nil]
    refine tw ?_; try with_reducible intro QQ hQQ
    ((refine cO 33 rfl rfl rfl (hfa) Try.func33 rfl ?_); refine tu ?_; try clear hQQ QQ); refine tw ?_; try with_reducible intro QQ hQQ
    refine ti ?_; try clear hQQ QQ
    refine tw ?_; try with_reducible intro QQ hQQ
    ((refine cO 34 rfl rfl rfl (hLn) Try.func34 rfl ?_); refine tu ?_; try clear hQQ QQ); refine tw ?_; try with_reducible intro QQ hQQ
    refine ti ?_; try clear hQQ QQ
    (repeat (first | apply aw_seq | apply aw_block | apply aw_skip | apply aw_label | apply aw_exit | ((first | refine aw_region (hideO fun QQ hQQ => ?_) | refine aw_draw mixed (hideD fun QQ hQQ => ?_)); simp (maxSteps := 400000) (disch := first | decide | omega) only [hll, go_sem, ↓reduceIte]; try (first | with_reducible refine unhide hQQ ?_ | refine ⟨by kernel_rfl, unhide hQQ ?_⟩); clear hQQ QQ) | with_reducible first | apply then_n | apply block_n | apply then_x | apply then_r | apply nog_n | apply nog_r | apply block_r | apply block_e (by decide) | apply block_x (by decide)))
    ((refine callO_ok rfl rfl 14 true rfl (by simp (disch := first | decide | omega) only [hll, go_sem, ↓reduceIte]; try rfl) (fun _ => rfl) (w1) Try.func14 rfl (by decide) ?_); simp (maxSteps := 400000) (disch := first | decide | omega) only [hll, go_sem, ↓reduceIte]; try (with_reducible refine unhide hQQ ?_; clear hQQ QQ)); (repeat (first | apply aw_seq | apply aw_block | apply aw_skip | apply aw_label | apply aw_exit | ((first | refine aw_region (hideO fun QQ hQQ => ?_) | refine aw_draw mixed (hideD fun QQ hQQ => ?_)); simp (maxSteps := 400000) (disch := first | decide | omega) only [hll, go_sem, ↓reduceIte]; try (first | with_reducible refine unhide hQQ ?_ | refine ⟨by kernel_rfl, unhide hQQ ?_⟩); clear hQQ QQ) | with_reducible first | apply then_n | apply block_n | apply then_x | apply then_r | apply nog_n | apply nog_r | apply block_r | apply block_e (by decide) | apply block_x (by decide)))
    ((refine callO_ok rfl rfl 18 true rfl (by simp (disch := first | decide | omega) only [hll, go_sem, ↓reduceIte]; try rfl) (fun _ => rfl) (w2) Try.func18 rfl (by decide) ?_); simp (maxSteps := 400000) (disch := first | decide | omega) only [hll, go_sem, ↓reduceIte]; try (with_reducible refine unhide hQQ ?_; clear hQQ QQ)); (repeat (first | apply aw_seq | apply aw_block | apply aw_skip | apply aw_label | apply aw_exit | ((first | refine aw_region (hideO fun QQ hQQ => ?_) | refine aw_draw mixed (hideD fun QQ hQQ => ?_)); simp (maxSteps := 400000) (disch := first | decide | omega) only [hll, go_sem, ↓reduceIte]; try (first | with_reducible refine unhide hQQ ?_ | refine ⟨by kernel_rfl, unhide hQQ ?_⟩); clear hQQ QQ) | with_reducible first | apply then_n | apply block_n | apply then_x | apply then_r | apply nog_n | apply nog_r | apply block_r | apply block_e (by decide) | apply block_x (by decide)))
    ((refine callO_ok rfl rfl 26 true rfl (by simp (disch := first | decide | omega) only [hll, go_sem, ↓reduceIte]; try rfl) (fun _ => rfl) (w3) Try.func26 rfl (by decide) ?_); simp (maxSteps := 400000) (disch := first | decide | omega) only [hll, go_sem, ↓reduceIte]; try (with_reducible refine unhide hQQ ?_; clear hQQ QQ)); (repeat (first | apply aw_seq | apply aw_block | apply aw_skip | apply aw_label | apply aw_exit | ((first | refine aw_region (hideO fun QQ hQQ => ?_) | refine aw_draw mixed (hideD fun QQ hQQ => ?_)); simp (maxSteps := 400000) (disch := first | decide | omega) only [hll, go_sem, ↓reduceIte]; try (first | with_reducible refine unhide hQQ ?_ | refine ⟨by kernel_rfl, unhide hQQ ?_⟩); clear hQQ QQ) | with_reducible first | apply then_n | apply block_n | apply then_x | apply then_r | apply nog_n | apply nog_r | apply block_r | apply block_e (by decide) | apply block_x (by decide)))
    refine aw_cond2 (by simp (disch := first | decide | omega) only [hll, go_sem, ↓reduceIte]; rfl) ?_; first | refine .inl ⟨by first | rfl | exact decide_eq_true (by omega) | exact decide_eq_true (by assumption) | (simp (disch := first | decide | omega) only [if_pos_d, if_neg_d, decide_eq_true_eq, Bool.not_eq_true', decide_eq_false_iff_not]; omega), ?_⟩ | refine .inr ⟨by first | rfl | exact decide_eq_false (by omega) | exact decide_eq_false (by assumption) | (simp (disch := first | decide | omega) only [if_pos_d, if_neg_d, decide_eq_true_eq, Bool.not_eq_true', decide_eq_false_iff_not]; omega), ?_⟩
    (repeat (first | apply aw_seq | apply aw_block | apply aw_skip | apply aw_label | apply aw_exit | ((first | refine aw_region (hideO fun QQ hQQ => ?_) | refine aw_draw mixed (hideD fun QQ hQQ => ?_)); simp (maxSteps := 400000) (disch := first | decide | omega) only [hll, hcv, hrm, hg, go_sem, ↓reduceIte]; try (first | with_reducible refine unhide hQQ ?_ | refine ⟨by kernel_rfl, unhide hQQ ?_⟩); clear hQQ QQ) | with_reducible first | apply then_n | apply block_n | apply then_x | apply then_r | apply nog_n | apply nog_r | apply block_r | apply block_e (by decide) | apply block_x (by decide)))
    ((refine callO_ok rfl rfl 14 true rfl (by simp (disch := first | decide | omega) only [hll, hcv, hrm, hg, go_sem, ↓reduceIte]; try rfl) (fun _ => rfl) (w4) Try.func14 rfl (by decide) ?_); simp (maxSteps := 400000) (disch := first | decide | omega) only [hll, hcv, hrm, hg, go_sem, ↓reduceIte]; try (with_reducible refine unhide hQQ ?_; clear hQQ QQ)); (repeat (first | apply aw_seq | apply aw_block | apply aw_skip | apply aw_label | apply aw_exit | ((first | refine aw_region (hideO fun QQ hQQ => ?_) | refine aw_draw mixed (hideD fun QQ hQQ => ?_)); simp (maxSteps := 400000) (disch := first | decide | omega) only [hll, hcv, hrm, hg, go_sem, ↓reduceIte]; try (first | with_reducible refine unhide hQQ ?_ | refine ⟨by kernel_rfl, unhide hQQ ?_⟩); clear hQQ QQ) | with_reducible first | apply then_n | apply block_n | apply then_x | apply then_r | apply nog_n | apply nog_r | apply block_r | apply block_e (by decide) | apply block_x (by decide)))
    refine aw_cond2 (by simp (disch := first | decide | omega) only [hll, hcv, hrm, hg, go_sem, ↓reduceIte]; rfl) ?_; first | refine .inl ⟨by first | rfl | exact decide_eq_true (by omega) | exact decide_eq_true (by assumption) | (simp (disch := first | decide | omega) only [if_pos_d, if_neg_d, decide_eq_true_eq, Bool.not_eq_true', decide_eq_false_iff_not]; omega), ?_⟩ | refine .inr ⟨by first | rfl | exact decide_eq_false (by omega) | exact decide_eq_false (by assumption) | (simp (disch := first | decide | omega) only [if_pos_d, if_neg_d, decide_eq_true_eq, Bool.not_eq_true', decide_eq_false_iff_not]; omega), ?_⟩
    (repeat (first | apply aw_seq | apply aw_block | apply aw_skip | apply aw_label | apply aw_exit | ((first | refine aw_region (hideO fun QQ hQQ => ?_) | refine aw_draw mixed (hideD fun QQ hQQ => ?_)); simp (maxSteps := 400000) (disch := first | decide | omega) only [hll, hcv, hrm, hg, go_sem, ↓reduceIte]; try (first | with_reducible refine unhide hQQ ?_ | refine ⟨by kernel_rfl, unhide hQQ ?_⟩); clear hQQ QQ) | with_reducible first | apply then_n | apply block_n | apply then_x | apply then_r | apply nog_n | apply nog_r | apply block_r | apply block_e (by decide) | apply block_x (by decide)))
    refine aw_weak (weak_keep [2, 15, 16, 119, 120] (by simp only [hll, hcv, hrm, hg, go_sem, ↓reduceIte]; rfl)) ?_
    refine aw_loop_ov (ι := { n : Nat // n ≤ (bG bs j).1 + 1 }) (fun n => [(120, iA n.1)]) (fun _ => []) (fun n => (bG bs j).1 + 1 - n.1) ⟨0, by omega⟩ (by first | rfl | (simp only [hll, hcv, hrm, hg, go_sem, ↓reduceIte]; first | done | rfl | (simp; try rfl))) ?_
    rintro ⟨n, hn⟩
    simp (disch := decide) only [ov, ovL, AL.get_nil, AL.get_eq, AL.get_ne, Option.getD_some, Option.getD_none]
    by_cases hnl : n ≤ (bG bs j).1
    · have hp := hpin n hnl
      have hc1 := hcl' n hnl
      have hE := hends n hnl
      clear hpin hcl' hends w4 w1 w2 w3 hLn hfa haw
      generalize pinL bs j n = P at *
      generalize Go.Cl.mist D P (2 ^ bs.length - 1) = mm at *
      generalize clS D 0 P = cs at *
      generalize (bG bs j).1 = F at *
      cases hb : pinB bs j n
      · rw [hb] at hp hE
        have hE2 := hE.2 rfl
        have hn1 : ¬ ((n : Int) = (lo : Int)) := by omega
        have hn2 : ¬ ((n : Int) = (hi : Int)) := by omega
        refine tw ?_; try with_reducible intro QQ hQQ
        refine ti ?_; try clear hQQ QQ
        refine tw ?_; try with_reducible intro QQ hQQ
        ((refine cB 35 rfl rfl rfl (hp) Try.func35 rfl ?_); refine tu ?_; try clear hQQ QQ); refine tw ?_; try with_reducible intro QQ hQQ
        refine ti ?_; try clear hQQ QQ
        refine tw ?_; try with_reducible intro QQ hQQ
        refine ti ?_; try clear hQQ QQ
        refine tw ?_; try with_reducible intro QQ hQQ
        (refine ⟨⟨n + 1, by omega⟩, ?_, weak_round (by simp only [go_sem, ↓reduceIte]; first | done | rfl) (by first | rfl | (simp only [go_sem, ↓reduceIte]))⟩; (simp only; omega))
      · rw [hb] at hp hE
        by_cases hm : mm ≤ 0
        · have hE1 := hE.1 (by rw [decide_eq_true hm]; rfl)
          rw [if_neg (by omega)] at hc1
          simp only [ansN, if_false, show ((4 : Int) = 0) = False from by decide] at hc1
          have hin := ok_inside (n : Int) (lo : Int) (hi : Int)
          rw [show inB (n : Int) lo hi = true by simp [inB]; omega] at hin
          refine tw ?_; try with_reducible intro QQ hQQ
          refine ti ?_; try clear hQQ QQ
          refine tw ?_; try with_reducible intro QQ hQQ
          ((refine cB 35 rfl rfl rfl (hp) Try.func35 rfl ?_); refine tu ?_; try clear hQQ QQ); refine tw ?_; try with_reducible intro QQ hQQ
          refine ti ?_; try clear hQQ QQ
          refine tw ?_; try with_reducible intro QQ hQQ
          ((refine cO 28 rfl rfl rfl (hc1) Try.func28 rfl ?_); refine tu ?_; try clear hQQ QQ); refine tw ?_; try with_reducible intro QQ hQQ
          ((refine cO 32 rfl rfl rfl (hin) Try.func32 rfl ?_); refine tu ?_; try clear hQQ QQ); refine tw ?_; try with_reducible intro QQ hQQ
          refine ti ?_; try clear hQQ QQ
          refine tw ?_; try with_reducible intro QQ hQQ
          (refine ⟨⟨n + 1, by omega⟩, ?_, weak_round (by simp only [go_sem, ↓reduceIte]; first | done | rfl) (by first | rfl | (simp only [go_sem, ↓reduceIte]))⟩; (simp only; omega))
        · have hE2 := hE.2 (by rw [decide_eq_false hm]; rfl)
          rw [if_pos (by omega)] at hc1
          simp only [ansN, if_true] at hc1
          have hn1 : ¬ ((n : Int) = (lo : Int)) := by omega
          have hn2 : ¬ ((n : Int) = (hi : Int)) := by omega
          refine tw ?_; try with_reducible intro QQ hQQ
          refine ti ?_; try clear hQQ QQ
          refine tw ?_; try with_reducible intro QQ hQQ
          ((refine cB 35 rfl rfl rfl (hp) Try.func35 rfl ?_); refine tu ?_; try clear hQQ QQ); refine tw ?_; try with_reducible intro QQ hQQ
          refine ti ?_; try clear hQQ QQ
          refine tw ?_; try with_reducible intro QQ hQQ
          ((refine cO 28 rfl rfl rfl (hc1) Try.func28 rfl ?_); refine tu ?_; try clear hQQ QQ); refine tw ?_; try with_reducible intro QQ hQQ
          refine ti ?_; try clear hQQ QQ
          refine tw ?_; try with_reducible intro QQ hQQ
          (refine ⟨⟨n + 1, by omega⟩, ?_, weak_round (by simp only [go_sem, ↓reduceIte]; first | done | rfl) (by first | rfl | (simp only [go_sem, ↓reduceIte]))⟩; (simp only; omega))
    · clear hpin hcl' hends w4 w1 w2 w3 hLn hfa
      refine tw ?_; try with_reducible intro QQ hQQ
      refine ti ?_; try clear hQQ QQ
      refine tw ?_; try with_reducible intro QQ hQQ
      ((refine cO 13 rfl rfl rfl (haw) Try.func13 rfl ?_); refine tu ?_; try clear hQQ QQ); refine tw ?_; try with_reducible intro QQ hQQ
      refine aw_ret ?_; refine ⟨.inr rfl, ?_⟩; simp only [resA, res1, go_sem, ↓reduceIte]
end
end Go.Proofs.Ytgdhdikeicgndaa
