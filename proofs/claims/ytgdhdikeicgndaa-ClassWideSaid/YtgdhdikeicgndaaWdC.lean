/- classer: the law's closure that asks whether so many fleeces more are enough, and the law More, walked. -/
import Derived.Test.YtgdhdikeicgndaaWdA
import Derived.Test.YtgdhdikeicgndaaKwc8
import Derived.Test.YtgdhdikeicgndaaKcx18
set_option linter.all false
namespace Go.Proofs.Ytgdhdikeicgndaa
open Go Go.RowKit Go.Sh Go.Pv Go.Cl
set_option maxHeartbeats 2000000
set_option maxRecDepth 20000
set_option pp.maxSteps 60000
theorem first_range {p : Nat → Bool} {n : Nat} (h : (List.range n).any p = true) : firstF p (List.range n) < n ∧ p (firstF p (List.range n)) = true ∧ ∀ i, i < firstF p (List.range n) → p i = false := by
  obtain ⟨h1, h2⟩ := first_mem h
  refine ⟨List.mem_range.1 h1, h2, fun i hi => ?_⟩
  have hi1 : (List.range n).findIdx p < (List.range n).length := List.findIdx_lt_length_of_exists (by simpa [List.any_eq_true] using h)
  have hg : firstF p (List.range n) = (List.range n).findIdx p := by
    rw [List.length_range] at hi1
    unfold firstF; simp [List.getD, hi1]
  rw [hg] at hi
  have := List.not_of_lt_findIdx hi
  simpa using this
section
variable {bs : List (Nat × Nat × Nat)} {May D M j : Nat}
theorem more_zero (hj : j < bs.length) : moreL bs j 0 = bs := by
  unfold moreL
  show bs.set j ((bG bs j).1, (bG bs j).2.1, (bG bs j).2.2) = bs
  have : bG bs j = bs[j] := by unfold bG; rw [List.getD_eq_getElem?_getD, List.getElem?_eq_getElem hj]; rfl
  rw [this]
  exact List.set_getElem_self hj
/-- Whether a bale keeps the line: two answers. -/
theorem keeps_two (h : LOK bs) (hMay : May ≤ 30) (hD : D ≤ 30) (hM : M ≤ 6) (hj : j < bs.length) :
    (enB D M May bs j 31 = true ∧ FunOK Try.prog 18 [.agg [.sl (bs.map baleP), iP (May : Int), iP (D : Int), iP (M : Int)], .one (iP (j : Int))] (.tup [.one (iP 0), .one (iP 10)]) ∧ canB (bs.map castB) D M = false) ∨
    ∃ k : Nat, k ≤ 2 ∧ (enB D M May bs j 31 = true ↔ k = 2) ∧ FunOK Try.prog 18 [.agg [.sl (bs.map baleP), iP (May : Int), iP (D : Int), iP (M : Int)], .one (iP (j : Int))] (.tup [.one (iP (k : Int)), .one (iP 0)]) ∧ canB (bs.map castB) D M = true := by
  have hM' : M < FAR := by unfold FAR; omega
  have hk := ok_Keeps (bales := bs.map castB) (may := May) (drift := D) (mist := M) (j : Int)
  have hib : inB (j : Int) 0 (((bs.map castB).length : Int) - 1) = true := by
    rw [List.length_map]; simp [inB]; omega
  have hv := line_to h hMay hD hM
  cases hc : canB (bs.map castB) D M
  · left
    have hw : whyL (bs.map castB) May D M (inB (j : Int) 0 (((bs.map castB).length : Int) - 1)) = 10 := by rw [hib]; simp [whyL, hv, hc]
    rw [hw] at hk
    simp only [ansN, show ((10 : Int) = 0) = False from by decide, if_false, lineR_cast] at hk
    refine ⟨(en_iff h hM' hj).2 fun f hf => ?_, hk, rfl⟩
    rw [canB_cast] at hc
    exact absurd ((mist_iff h hM').2 ⟨f, hf⟩) (of_decide_eq_false hc)
  · right
    have hw : whyL (bs.map castB) May D M (inB (j : Int) 0 (((bs.map castB).length : Int) - 1)) = 0 := by rw [hib]; simp [whyL, hv, hc]
    rw [hw] at hk
    simp only [ansN, if_true, nB_cast, Int.toNat_natCast, lineR_cast] at hk
    rw [canB_cast] at hc
    have he := (mist_iff h hM').1 (of_decide_eq_true hc)
    exact ⟨_, told_le _, (told_en h hM' hj he).symm, hk, rfl⟩
theorem s_enough36 (h : LOK bs) (hMay : May ≤ 30) (hD : D ≤ 30) (hM : M ≤ 6) (hj : j < bs.length) (m : Nat) (hm : (bG bs j).2.1 + m ≤ (bG bs j).1) :
    FunS Try.prog 36 [.one (.p (iP (m : Int))), .one (.box 0 0), .one (.box 1 0)] [(1, .box [.p (iP (j : Int))]), (0, .box [.p (.sl (bs.map baleP)), .p (iP (May : Int)), .p (iP (D : Int)), .p (iP (M : Int))])] 2 (.one (.one (.v (.bool (enM D M May bs j m))))) := by
  have hL := moreL_ok h hj hm
  have hb6 := h.n6
  have hjl : j < (moreL bs j m).length := by rw [moreL_len]; exact hj
  have hl2 : (moreL bs j m).length = bs.length := moreL_len
  have hba := (h.ba j hj).2.1
  have hsum : (bG bs j).2.1 + m ≤ 30 := by omega
  have hg : (bs.map baleP)[j]? = some [iP ((bG bs j).1 : Int), iP ((bG bs j).2.1 : Int), iP ((bG bs j).2.2 : Int)] := by rw [List.getElem?_map, get_someBale hj]; rfl
  have hrows : (bs.map baleP).set j [iP ((bG bs j).1 : Int), iP (((bG bs j).2.1 + m : Nat) : Int), iP ((bG bs j).2.2 : Int)] = (moreL bs j m).map baleP := by
    unfold moreL
    rw [List.map_set]; rfl
  have hll : (bs.map baleP).length = bs.length := List.length_map _
  have hk := keeps_two (j := j) hL hMay hD hM hjl
  unfold enM
  have htk : ((moreL bs j m).map baleP).take bs.length = (moreL bs j m).map baleP := List.take_of_length_le (by rw [List.length_map, hl2]; exact Nat.le_refl _)
  generalize enB D M May (moreL bs j m) j 31 = b at *
  generalize moreL bs j m = bs2 at *
  rcases hk with ⟨rfl, hk, -⟩ | ⟨k, hk2, hbk, hk, -⟩
  · refine funS_ok (nt := 36) (rs := [.tmp 4]) Try.func36 rfl rfl rfl (by simp) fun Z w0 cap pan dk tm => ?_; simp only [initV, pins, pinOf, List.map_cons, List.map_nil]
    refine tw ?_; try with_reducible intro QQ hQQ
    refine callS_ok rfl rfl 37 (by simp (disch := first | decide | omega) only [go_sem, ↓reduceIte]; try rfl) (by simp (disch := first | decide | omega) only [go_sem, ↓reduceIte]; try rfl) Try.func37 rfl (by decide) (CallF.mono (c_copyN h) ?_); rintro _ _ ⟨rfl, rfl⟩; refine ts ?_; try clear hQQ QQ
    (repeat (first | apply aw_seq | apply aw_block | apply aw_skip | apply aw_label | apply aw_exit | ((first | refine aw_region (hideO fun QQ hQQ => ?_) | refine aw_draw mixed (hideD fun QQ hQQ => ?_)); simp (maxSteps := 400000) (disch := first | decide | omega) only [hg, hll, htk, hrows, go_sem, ↓reduceIte]; try (first | with_reducible refine unhide hQQ ?_ | refine ⟨by kernel_rfl, unhide hQQ ?_⟩); clear hQQ QQ) | with_reducible first | apply then_n | apply block_n | apply then_x | apply then_r | apply nog_n | apply nog_r | apply block_r | apply block_e (by decide) | apply block_x (by decide)))
    ((refine callO_ok rfl rfl 18 true rfl (by simp (disch := first | decide | omega) only [hg, hll, htk, hrows, go_sem, ↓reduceIte]; try rfl) (fun _ => rfl) (hk) Try.func18 rfl (by decide) ?_); simp (maxSteps := 400000) (disch := first | decide | omega) only [hg, hll, htk, hrows, go_sem, ↓reduceIte]; try (with_reducible refine unhide hQQ ?_; clear hQQ QQ)); (repeat (first | apply aw_seq | apply aw_block | apply aw_skip | apply aw_label | apply aw_exit | ((first | refine aw_region (hideO fun QQ hQQ => ?_) | refine aw_draw mixed (hideD fun QQ hQQ => ?_)); simp (maxSteps := 400000) (disch := first | decide | omega) only [hg, hll, htk, hrows, go_sem, ↓reduceIte]; try (first | with_reducible refine unhide hQQ ?_ | refine ⟨by kernel_rfl, unhide hQQ ?_⟩); clear hQQ QQ) | with_reducible first | apply then_n | apply block_n | apply then_x | apply then_r | apply nog_n | apply nog_r | apply block_r | apply block_e (by decide) | apply block_x (by decide)))
    (refine aw_ret ⟨.inr rfl, (by simp (maxSteps := 400000) (disch := first | decide | omega) only [hg, hll, htk, hrows, go_sem, ↓reduceIte]; try rfl), (by simp (maxSteps := 400000) (disch := first | decide | omega) only [hg, hll, htk, hrows, go_sem, ↓reduceIte]; try rfl), (by simp only [List.mem_cons, List.mem_nil_iff, forall_eq_or_imp, forall_eq, false_imp_iff, implies_true, or_false, and_true]; simp (maxSteps := 400000) (disch := first | decide | omega) only [hg, hll, htk, hrows, go_sem, ↓reduceIte]; try exact ⟨rfl, rfl⟩)⟩)
  · cases hb : b
    · have hkn : ¬ k = 2 := fun e => by rw [hbk.2 e] at hb; cases hb
      refine funS_ok (nt := 36) (rs := [.tmp 4]) Try.func36 rfl rfl rfl (by simp) fun Z w0 cap pan dk tm => ?_; simp only [initV, pins, pinOf, List.map_cons, List.map_nil]
      refine tw ?_; try with_reducible intro QQ hQQ
      refine callS_ok rfl rfl 37 (by simp (disch := first | decide | omega) only [go_sem, ↓reduceIte]; try rfl) (by simp (disch := first | decide | omega) only [go_sem, ↓reduceIte]; try rfl) Try.func37 rfl (by decide) (CallF.mono (c_copyN h) ?_); rintro _ _ ⟨rfl, rfl⟩; refine ts ?_; try clear hQQ QQ
      (repeat (first | apply aw_seq | apply aw_block | apply aw_skip | apply aw_label | apply aw_exit | ((first | refine aw_region (hideO fun QQ hQQ => ?_) | refine aw_draw mixed (hideD fun QQ hQQ => ?_)); simp (maxSteps := 400000) (disch := first | decide | omega) only [hg, hll, htk, hrows, go_sem, ↓reduceIte]; try (first | with_reducible refine unhide hQQ ?_ | refine ⟨by kernel_rfl, unhide hQQ ?_⟩); clear hQQ QQ) | with_reducible first | apply then_n | apply block_n | apply then_x | apply then_r | apply nog_n | apply nog_r | apply block_r | apply block_e (by decide) | apply block_x (by decide)))
      ((refine callO_ok rfl rfl 18 true rfl (by simp (disch := first | decide | omega) only [hg, hll, htk, hrows, go_sem, ↓reduceIte]; try rfl) (fun _ => rfl) (hk) Try.func18 rfl (by decide) ?_); simp (maxSteps := 400000) (disch := first | decide | omega) only [hg, hll, htk, hrows, go_sem, ↓reduceIte]; try (with_reducible refine unhide hQQ ?_; clear hQQ QQ)); (repeat (first | apply aw_seq | apply aw_block | apply aw_skip | apply aw_label | apply aw_exit | ((first | refine aw_region (hideO fun QQ hQQ => ?_) | refine aw_draw mixed (hideD fun QQ hQQ => ?_)); simp (maxSteps := 400000) (disch := first | decide | omega) only [hg, hll, htk, hrows, go_sem, ↓reduceIte]; try (first | with_reducible refine unhide hQQ ?_ | refine ⟨by kernel_rfl, unhide hQQ ?_⟩); clear hQQ QQ) | with_reducible first | apply then_n | apply block_n | apply then_x | apply then_r | apply nog_n | apply nog_r | apply block_r | apply block_e (by decide) | apply block_x (by decide)))
      (refine aw_ret ⟨.inr rfl, (by simp (maxSteps := 400000) (disch := first | decide | omega) only [hg, hll, htk, hrows, go_sem, ↓reduceIte]; try rfl), (by simp (maxSteps := 400000) (disch := first | decide | omega) only [hg, hll, htk, hrows, go_sem, ↓reduceIte]; try rfl), (by simp only [List.mem_cons, List.mem_nil_iff, forall_eq_or_imp, forall_eq, false_imp_iff, implies_true, or_false, and_true]; simp (maxSteps := 400000) (disch := first | decide | omega) only [hg, hll, htk, hrows, go_sem, ↓reduceIte]; try exact ⟨rfl, rfl⟩)⟩)
    · have hkn : k = 2 := hbk.1 hb
      subst hkn
      refine funS_ok (nt := 36) (rs := [.tmp 4]) Try.func36 rfl rfl rfl (by simp) fun Z w0 cap pan dk tm => ?_; simp only [initV, pins, pinOf, List.map_cons, List.map_nil]
      refine tw ?_; try with_reducible intro QQ hQQ
      refine callS_ok rfl rfl 37 (by simp (disch := first | decide | omega) only [go_sem, ↓reduceIte]; try rfl) (by simp (disch := first | decide | omega) only [go_sem, ↓reduceIte]; try rfl) Try.func37 rfl (by decide) (CallF.mono (c_copyN h) ?_); rintro _ _ ⟨rfl, rfl⟩; refine ts ?_; try clear hQQ QQ
      (repeat (first | apply aw_seq | apply aw_block | apply aw_skip | apply aw_label | apply aw_exit | ((first | refine aw_region (hideO fun QQ hQQ => ?_) | refine aw_draw mixed (hideD fun QQ hQQ => ?_)); simp (maxSteps := 400000) (disch := first | decide | omega) only [hg, hll, htk, hrows, go_sem, ↓reduceIte]; try (first | with_reducible refine unhide hQQ ?_ | refine ⟨by kernel_rfl, unhide hQQ ?_⟩); clear hQQ QQ) | with_reducible first | apply then_n | apply block_n | apply then_x | apply then_r | apply nog_n | apply nog_r | apply block_r | apply block_e (by decide) | apply block_x (by decide)))
      ((refine callO_ok rfl rfl 18 true rfl (by simp (disch := first | decide | omega) only [hg, hll, htk, hrows, go_sem, ↓reduceIte]; try rfl) (fun _ => rfl) (hk) Try.func18 rfl (by decide) ?_); simp (maxSteps := 400000) (disch := first | decide | omega) only [hg, hll, htk, hrows, go_sem, ↓reduceIte]; try (with_reducible refine unhide hQQ ?_; clear hQQ QQ)); (repeat (first | apply aw_seq | apply aw_block | apply aw_skip | apply aw_label | apply aw_exit | ((first | refine aw_region (hideO fun QQ hQQ => ?_) | refine aw_draw mixed (hideD fun QQ hQQ => ?_)); simp (maxSteps := 400000) (disch := first | decide | omega) only [hg, hll, htk, hrows, go_sem, ↓reduceIte]; try (first | with_reducible refine unhide hQQ ?_ | refine ⟨by kernel_rfl, unhide hQQ ?_⟩); clear hQQ QQ) | with_reducible first | apply then_n | apply block_n | apply then_x | apply then_r | apply nog_n | apply nog_r | apply block_r | apply block_e (by decide) | apply block_x (by decide)))
      (refine aw_ret ⟨.inr rfl, (by simp (maxSteps := 400000) (disch := first | decide | omega) only [hg, hll, htk, hrows, go_sem, ↓reduceIte]; try rfl), (by simp (maxSteps := 400000) (disch := first | decide | omega) only [hg, hll, htk, hrows, go_sem, ↓reduceIte]; try rfl), (by simp only [List.mem_cons, List.mem_nil_iff, forall_eq_or_imp, forall_eq, false_imp_iff, implies_true, or_false, and_true]; simp (maxSteps := 400000) (disch := first | decide | omega) only [hg, hll, htk, hrows, go_sem, ↓reduceIte]; try exact ⟨rfl, rfl⟩)⟩)
end
end Go.Proofs.Ytgdhdikeicgndaa
