/- THE LAW ClassReads, walked. -/
import Derived.Test.YtgdhdikeicgndaaWcQ
import Derived.Test.YtgdhdikeicgndaaKwc8
set_option linter.all false
namespace Go.Proofs.Ytgdhdikeicgndaa
open Go Go.RowKit Go.Sh Go.Pv Go.Cl
set_option maxHeartbeats 8000000
set_option maxRecDepth 20000
set_option pp.maxSteps 60000
attribute [local go_sem] eql4 neq4 bne_tf bne_ft beq_tf beq_ft span_eql span_neq
section
variable {bales : List (Int × Int × Int)} {may drift mist : Int}
theorem ok_heavy (most : Int) : ∃ B, FunOK Try.prog 12 [lineR bales may drift mist, .one (iP most)] (.one (.one (.v (.bool B)))) ∧ (B = false → bales.length ≤ 40) := by
  have hfa := ok_far (bales := bales) (may := may) (drift := drift) (mist := mist)
  have hLn := ok_LineD (bales := bales) (may := may) (drift := drift) (mist := mist)
  have hf40 : farB bales = false → bales.length ≤ 40 := fun h => by
    unfold farB at h
    have := of_decide_eq_false h
    omega
  cases hf : farB bales
  rotate_left
  · refine ⟨true, ?_, fun h => by cases h⟩
    rw [hf] at hfa
    clear hf hf40
    refine fun_ok (nt := 32) (rs := [.tmp 4]) Try.func12 rfl rfl rfl (by simp) fun Z w0 => ?_; simp only [initFr, avR, List.map_cons, List.map_nil]
    simp only [lineR, List.map_cons, List.map_nil]
    refine tw ?_; try with_reducible intro QQ hQQ
    ((refine cO 33 rfl rfl rfl (hfa) Try.func33 rfl ?_); refine tu ?_; try clear hQQ QQ); refine tw ?_; try with_reducible intro QQ hQQ
    refine ti ?_; try clear hQQ QQ
    refine tw ?_; try with_reducible intro QQ hQQ
    ((refine cO 33 rfl rfl rfl (hfa) Try.func33 rfl ?_); refine tu ?_; try clear hQQ QQ); refine tw ?_; try with_reducible intro QQ hQQ
    refine aw_ret ?_; refine ⟨.inr rfl, ?_⟩; simp only [resA, res1, go_sem, ↓reduceIte]
  have h40 := hf40 hf
  rw [hf] at hfa
  cases hv : lineB bales may drift mist
  · refine ⟨false, ?_, fun _ => h40⟩
    rw [hv] at hLn
    clear hf hf40 hv
    refine fun_ok (nt := 32) (rs := [.tmp 4]) Try.func12 rfl rfl rfl (by simp) fun Z w0 => ?_; simp only [initFr, avR, List.map_cons, List.map_nil]
    simp only [lineR, List.map_cons, List.map_nil]
    refine tw ?_; try with_reducible intro QQ hQQ
    (refine cO 33 rfl rfl rfl (hfa) Try.func33 rfl ?_); refine ts ?_; try clear hQQ QQ
    ((refine cO 34 rfl rfl rfl (hLn) Try.func34 rfl ?_); refine tu ?_; try clear hQQ QQ); refine tw ?_; try with_reducible intro QQ hQQ
    refine ti ?_; try clear hQQ QQ
    refine tw ?_; try with_reducible intro QQ hQQ
    ((refine cO 33 rfl rfl rfl (hfa) Try.func33 rfl ?_); refine tu ?_; try clear hQQ QQ); refine tw ?_; try with_reducible intro QQ hQQ
    refine aw_ret ?_; refine ⟨.inr rfl, ?_⟩; simp only [resA, res1, go_sem, ↓reduceIte]
  rw [hv] at hLn
  obtain ⟨bs, May, D, M, rfl, rfl, rfl, rfl, hL, hMay, hD, hM⟩ := line_of hv
  refine ⟨decide (most < (sumN (fun i => (bG bs i).1) bs.length : Nat)), ?_, fun _ => h40⟩
  have h6 := hL.n6
  have hs := fun k => sumN_30 (f := fun i => (bG bs i).1) k (fun i hi => (hL.bd i).1)
  have hss : ∀ k, sumN (fun i => (bG bs i).1) (k + 1) = sumN (fun i => (bG bs i).1) k + (bG bs k).1 := fun k => rfl
  have hs0 : sumN (fun i => (bG bs i).1) 0 = 0 := rfl
  have hgb : ∀ i, i < bs.length → (bs.map baleP)[i]? = some [iP ((bG bs i).1 : Int), iP ((bG bs i).2.1 : Int), iP ((bG bs i).2.2 : Int)] := fun i hi => by rw [List.getElem?_map, get_someBale hi]; rfl
  have hbd := fun i => (hL.bd i).1
  have hll : (bs.map baleP).length = bs.length := List.length_map _
  simp only [lineR_cast, rows_cast] at hfa hLn ⊢
  generalize sumN (fun i => (bG bs i).1) = S at *
  clear hf hf40 hv h40
  refine fun_ok (nt := 32) (rs := [.tmp 4]) Try.func12 rfl rfl rfl (by simp) fun Z w0 => ?_; simp only [initFr, avR, List.map_cons, List.map_nil]
  refine tw ?_; try with_reducible intro QQ hQQ
  (refine cO 33 rfl rfl rfl (hfa) Try.func33 rfl ?_); refine ts ?_; try clear hQQ QQ
  ((refine cO 34 rfl rfl rfl (hLn) Try.func34 rfl ?_); refine tu ?_; try clear hQQ QQ); refine tw ?_; try with_reducible intro QQ hQQ
  refine ti ?_; try clear hQQ QQ
  (repeat (first | apply aw_seq | apply aw_block | apply aw_skip | apply aw_label | apply aw_exit | ((first | refine aw_region (hideO fun QQ hQQ => ?_) | refine aw_draw mixed (hideD fun QQ hQQ => ?_)); simp (maxSteps := 400000) (disch := first | decide | omega) only [hs0, hll, go_sem, ↓reduceIte]; try (first | with_reducible refine unhide hQQ ?_ | refine ⟨by kernel_rfl, unhide hQQ ?_⟩); clear hQQ QQ) | with_reducible first | apply then_n | apply block_n | apply then_x | apply then_r | apply nog_n | apply nog_r | apply block_r | apply block_e (by decide) | apply block_x (by decide)))
  refine aw_weak (weak_keep [1, 5, 18, 19, 20] (by simp only [hs0, hll, go_sem, ↓reduceIte]; rfl)) ?_
  refine aw_loop_ov (ι := { k : Nat // k ≤ bs.length }) (fun k => [(5, iA (S k.1)), (20, iA k.1)]) (fun _ => []) (fun k => bs.length - k.1) ⟨0, by omega⟩ (by first | rfl | (simp only [hs0, hll, go_sem, ↓reduceIte]; first | done | rfl | (simp; try rfl))) ?_
  rintro ⟨k, hk⟩
  simp (disch := decide) only [ov, ovL, AL.get_nil, AL.get_eq, AL.get_ne, Option.getD_some, Option.getD_none]
  by_cases hkl : k < bs.length
  · have hg := hgb k hkl
    have hsk := hss k
    have hb := hbd k
    have hsb := hs k
    (repeat (first | apply aw_seq | apply aw_block | apply aw_skip | apply aw_label | apply aw_exit | ((first | refine aw_region (hideO fun QQ hQQ => ?_) | refine aw_draw mixed (hideD fun QQ hQQ => ?_)); simp (maxSteps := 400000) (disch := first | decide | omega) only [hll, hg, go_sem, ↓reduceIte]; try (first | with_reducible refine unhide hQQ ?_ | refine ⟨by kernel_rfl, unhide hQQ ?_⟩); clear hQQ QQ) | with_reducible first | apply then_n | apply block_n | apply then_x | apply then_r | apply nog_n | apply nog_r | apply block_r | apply block_e (by decide) | apply block_x (by decide)))
    refine aw_cond2 (by simp (disch := first | decide | omega) only [hll, hg, go_sem, ↓reduceIte]; rfl) ?_; first | refine .inl ⟨by first | rfl | exact decide_eq_true (by omega) | exact decide_eq_true (by assumption) | (simp (disch := first | decide | omega) only [if_pos_d, if_neg_d, decide_eq_true_eq, Bool.not_eq_true', decide_eq_false_iff_not]; omega), ?_⟩ | refine .inr ⟨by first | rfl | exact decide_eq_false (by omega) | exact decide_eq_false (by assumption) | (simp (disch := first | decide | omega) only [if_pos_d, if_neg_d, decide_eq_true_eq, Bool.not_eq_true', decide_eq_false_iff_not]; omega), ?_⟩
    (repeat (first | apply aw_seq | apply aw_block | apply aw_skip | apply aw_label | apply aw_exit | ((first | refine aw_region (hideO fun QQ hQQ => ?_) | refine aw_draw mixed (hideD fun QQ hQQ => ?_)); simp (maxSteps := 400000) (disch := first | decide | omega) only [hll, hg, go_sem, ↓reduceIte]; try (first | with_reducible refine unhide hQQ ?_ | refine ⟨by kernel_rfl, unhide hQQ ?_⟩); clear hQQ QQ) | with_reducible first | apply then_n | apply block_n | apply then_x | apply then_r | apply nog_n | apply nog_r | apply block_r | apply block_e (by decide) | apply block_x (by decide)))
    refine ⟨⟨k + 1, by omega⟩, ?_, weak_round ?_ (by first | rfl | (simp only [hll, hg, go_sem, ↓reduceIte]))⟩
    rotate_left
    · simp only [hsk]
      (simp only [hll, hg, go_sem, ↓reduceIte]; try rfl)
    · simp only; omega
  · have hke : k = bs.length := by omega
    subst hke
    by_cases hm : most < (S bs.length : Nat)
    · rw [decide_eq_true hm]
      (repeat (first | apply aw_seq | apply aw_block | apply aw_skip | apply aw_label | apply aw_exit | ((first | refine aw_region (hideO fun QQ hQQ => ?_) | refine aw_draw mixed (hideD fun QQ hQQ => ?_)); simp (maxSteps := 400000) (disch := first | decide | omega) only [hll, go_sem, ↓reduceIte]; try (first | with_reducible refine unhide hQQ ?_ | refine ⟨by kernel_rfl, unhide hQQ ?_⟩); clear hQQ QQ) | with_reducible first | apply then_n | apply block_n | apply then_x | apply then_r | apply nog_n | apply nog_r | apply block_r | apply block_e (by decide) | apply block_x (by decide)))
      refine aw_cond2 (by simp (disch := first | decide | omega) only [hll, go_sem, ↓reduceIte]; rfl) ?_; first | refine .inl ⟨by first | rfl | exact decide_eq_true (by omega) | exact decide_eq_true (by assumption) | (simp (disch := first | decide | omega) only [if_pos_d, if_neg_d, decide_eq_true_eq, Bool.not_eq_true', decide_eq_false_iff_not]; omega), ?_⟩ | refine .inr ⟨by first | rfl | exact decide_eq_false (by omega) | exact decide_eq_false (by assumption) | (simp (disch := first | decide | omega) only [if_pos_d, if_neg_d, decide_eq_true_eq, Bool.not_eq_true', decide_eq_false_iff_not]; omega), ?_⟩
      (repeat (first | apply aw_seq | apply aw_block | apply aw_skip | apply aw_label | apply aw_exit | ((first | refine aw_region (hideO fun QQ hQQ => ?_) | refine aw_draw mixed (hideD fun QQ hQQ => ?_)); simp (maxSteps := 400000) (disch := first | decide | omega) only [hll, go_sem, ↓reduceIte]; try (first | with_reducible refine unhide hQQ ?_ | refine ⟨by kernel_rfl, unhide hQQ ?_⟩); clear hQQ QQ) | with_reducible first | apply then_n | apply block_n | apply then_x | apply then_r | apply nog_n | apply nog_r | apply block_r | apply block_e (by decide) | apply block_x (by decide)))
      refine aw_ret ?_; refine ⟨.inr rfl, ?_⟩; simp only [resA, res1, go_sem, ↓reduceIte]
    · rw [decide_eq_false hm]
      (repeat (first | apply aw_seq | apply aw_block | apply aw_skip | apply aw_label | apply aw_exit | ((first | refine aw_region (hideO fun QQ hQQ => ?_) | refine aw_draw mixed (hideD fun QQ hQQ => ?_)); simp (maxSteps := 400000) (disch := first | decide | omega) only [hll, go_sem, ↓reduceIte]; try (first | with_reducible refine unhide hQQ ?_ | refine ⟨by kernel_rfl, unhide hQQ ?_⟩); clear hQQ QQ) | with_reducible first | apply then_n | apply block_n | apply then_x | apply then_r | apply nog_n | apply nog_r | apply block_r | apply block_e (by decide) | apply block_x (by decide)))
      refine aw_cond2 (by simp (disch := first | decide | omega) only [hll, go_sem, ↓reduceIte]; rfl) ?_; first | refine .inl ⟨by first | rfl | exact decide_eq_true (by omega) | exact decide_eq_true (by assumption) | (simp (disch := first | decide | omega) only [if_pos_d, if_neg_d, decide_eq_true_eq, Bool.not_eq_true', decide_eq_false_iff_not]; omega), ?_⟩ | refine .inr ⟨by first | rfl | exact decide_eq_false (by omega) | exact decide_eq_false (by assumption) | (simp (disch := first | decide | omega) only [if_pos_d, if_neg_d, decide_eq_true_eq, Bool.not_eq_true', decide_eq_false_iff_not]; omega), ?_⟩
      (repeat (first | apply aw_seq | apply aw_block | apply aw_skip | apply aw_label | apply aw_exit | ((first | refine aw_region (hideO fun QQ hQQ => ?_) | refine aw_draw mixed (hideD fun QQ hQQ => ?_)); simp (maxSteps := 400000) (disch := first | decide | omega) only [hll, go_sem, ↓reduceIte]; try (first | with_reducible refine unhide hQQ ?_ | refine ⟨by kernel_rfl, unhide hQQ ?_⟩); clear hQQ QQ) | with_reducible first | apply then_n | apply block_n | apply then_x | apply then_r | apply nog_n | apply nog_r | apply block_r | apply block_e (by decide) | apply block_x (by decide)))
      refine aw_ret ?_; refine ⟨.inr rfl, ?_⟩; simp only [resA, res1, go_sem, ↓reduceIte]
theorem ok_ClassReads (bale : Int) : FunOK Try.prog 3 [lineR bales may drift mist, .one (iP bale)] (.one (.one (.v (.bool true)))) := by
  have haw := ok_awake
  obtain ⟨B, hB, h40⟩ := ok_heavy (bales := bales) (may := may) (drift := drift) (mist := mist) 24
  cases B
  rotate_left
  · simp only [lineR] at hB ⊢
    refine fun_ok (nt := 109) (rs := [.tmp 4]) Try.func3 rfl rfl rfl (by simp) fun Z w0 => ?_; simp only [initFr, avR, List.map_cons, List.map_nil]
    refine tw ?_; try with_reducible intro QQ hQQ
    ((refine cO 12 rfl rfl rfl (hB) Try.func12 rfl ?_); refine tu ?_; try clear hQQ QQ); refine tw ?_; try with_reducible intro QQ hQQ
    refine ti ?_; try clear hQQ QQ
    refine tw ?_; try with_reducible intro QQ hQQ
    ((refine cO 13 rfl rfl rfl (haw) Try.func13 rfl ?_); refine tu ?_; try clear hQQ QQ); refine tw ?_; try with_reducible intro QQ hQQ
    refine aw_ret ?_; refine ⟨.inr rfl, ?_⟩; simp only [resA, res1, go_sem, ↓reduceIte]
  have hl := h40 rfl
  have w1 := ok_Wrong (bales := bales) (may := may) (drift := drift) (mist := mist) bale
  have w2 := ok_WrongD (may := may) (drift := drift) (mist := mist) hl bale
  have a1 := ok_All (bales := bales) (may := may) (drift := drift) (mist := mist)
  have a2 := ok_AllD (bales := bales) (may := may) (drift := drift) (mist := mist)
  have k1 := ok_Keeps (bales := bales) (may := may) (drift := drift) (mist := mist) bale
  have k2 := ok_KeepsD (may := may) (drift := drift) (mist := mist) hl bale
  have l1 := ok_Line (bales := bales) (may := may) (drift := drift) (mist := mist)
  have l2 := ok_LineOfD (bales := bales) (may := may) (drift := drift) (mist := mist)
  unfold ansR at w1 w2 a1 a2
  unfold ansN at k1 k2 l1 l2
  dsimp only at w1 w2 a1 a2
  generalize (if whyL bales may drift mist (inB bale 0 ((bales.length : Int) - 1)) = 0 then (((wrongS drift.toNat mist.toNat (nB bales) bale.toNat).1 : Nat) : Int) else 0) = x1 at *
  generalize (if whyL bales may drift mist (inB bale 0 ((bales.length : Int) - 1)) = 0 then (((wrongS drift.toNat mist.toNat (nB bales) bale.toNat).2 : Nat) : Int) else 0) = x2 at *
  generalize (if whyL bales may drift mist (inB bale 0 ((bales.length : Int) - 1)) = 0 then ((toldS may.toNat (wrongS drift.toNat mist.toNat (nB bales) bale.toNat) : Nat) : Int) else 0) = x3 at *
  generalize (if whyL bales may drift mist true = 0 then (allS drift.toNat mist.toNat (nB bales)).1 else 0) = x4 at *
  generalize (if whyL bales may drift mist true = 0 then (allS drift.toNat mist.toNat (nB bales)).2 else 0) = x5 at *
  generalize (if whyL bales may drift mist true = 0 then ((lineS drift.toNat mist.toNat may.toNat (nB bales) : Nat) : Int) else 0) = x6 at *
  generalize whyL bales may drift mist (inB bale 0 ((bales.length : Int) - 1)) = e1 at *
  generalize whyL bales may drift mist true = e2 at *
  clear hl h40
  simp only [lineR] at *
  generalize bales.map row3 = rows at *
  refine fun_ok (nt := 109) (rs := [.tmp 4]) Try.func3 rfl rfl rfl (by simp) fun Z w0 => ?_; simp only [initFr, avR, List.map_cons, List.map_nil]
  refine tw ?_; try with_reducible intro QQ hQQ
  ((refine cO 12 rfl rfl rfl (hB) Try.func12 rfl ?_); refine tu ?_; try clear hQQ QQ); refine tw ?_; try with_reducible intro QQ hQQ
  refine ti ?_; try clear hQQ QQ
  refine tw ?_; try with_reducible intro QQ hQQ
  ((refine cO 14 rfl rfl rfl (w1) Try.func14 rfl ?_); refine tu ?_; try clear hQQ QQ); refine tw ?_; try with_reducible intro QQ hQQ
  ((refine cO 15 rfl rfl rfl (w2) Try.func15 rfl ?_); refine tu ?_; try clear hQQ QQ); refine tw ?_; try with_reducible intro QQ hQQ
  ((refine cO 16 rfl rfl rfl (a1) Try.func16 rfl ?_); refine tu ?_; try clear hQQ QQ); refine tw ?_; try with_reducible intro QQ hQQ
  ((refine cO 17 rfl rfl rfl (a2) Try.func17 rfl ?_); refine tu ?_; try clear hQQ QQ); refine tw ?_; try with_reducible intro QQ hQQ
  ((refine cO 18 rfl rfl rfl (k1) Try.func18 rfl ?_); refine tu ?_; try clear hQQ QQ); refine tw ?_; try with_reducible intro QQ hQQ
  ((refine cO 19 rfl rfl rfl (k2) Try.func19 rfl ?_); refine tu ?_; try clear hQQ QQ); refine tw ?_; try with_reducible intro QQ hQQ
  ((refine cO 20 rfl rfl rfl (l1) Try.func20 rfl ?_); refine tu ?_; try clear hQQ QQ); refine tw ?_; try with_reducible intro QQ hQQ
  (refine cO 21 rfl rfl rfl (l2) Try.func21 rfl ?_); refine ts ?_; try clear hQQ QQ
  (repeat (first | apply aw_seq | apply aw_block | apply aw_skip | apply aw_label | apply aw_exit | ((first | refine aw_region (hideO fun QQ hQQ => ?_) | refine aw_draw mixed (hideD fun QQ hQQ => ?_)); simp (maxSteps := 400000) (disch := first | decide | omega) only [beq_self_eq_true, Bool.and_self, go_sem, ↓reduceIte]; try (first | with_reducible refine unhide hQQ ?_ | refine ⟨by kernel_rfl, unhide hQQ ?_⟩); clear hQQ QQ) | with_reducible first | apply then_n | apply block_n | apply then_x | apply then_r | apply nog_n | apply nog_r | apply block_r | apply block_e (by decide) | apply block_x (by decide)))
  ((refine callO_ok rfl rfl 13 true rfl (by simp (disch := first | decide | omega) only [beq_self_eq_true, Bool.and_self, go_sem, ↓reduceIte]; try rfl) (fun _ => rfl) (haw) Try.func13 rfl (by decide) ?_); simp (maxSteps := 400000) (disch := first | decide | omega) only [beq_self_eq_true, Bool.and_self, go_sem, ↓reduceIte]; try (with_reducible refine unhide hQQ ?_; clear hQQ QQ)); (repeat (first | apply aw_seq | apply aw_block | apply aw_skip | apply aw_label | apply aw_exit | ((first | refine aw_region (hideO fun QQ hQQ => ?_) | refine aw_draw mixed (hideD fun QQ hQQ => ?_)); simp (maxSteps := 400000) (disch := first | decide | omega) only [beq_self_eq_true, Bool.and_self, go_sem, ↓reduceIte]; try (first | with_reducible refine unhide hQQ ?_ | refine ⟨by kernel_rfl, unhide hQQ ?_⟩); clear hQQ QQ) | with_reducible first | apply then_n | apply block_n | apply then_x | apply then_r | apply nog_n | apply nog_r | apply block_r | apply block_e (by decide) | apply block_x (by decide)))
  refine aw_ret ?_; refine ⟨.inr rfl, ?_⟩; simp only [resA, res1, go_sem, ↓reduceIte]
end
end Go.Proofs.Ytgdhdikeicgndaa
