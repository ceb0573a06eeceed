/- THE LAW TallyTrue, walked. -/
import Derived.Test.YtejbglbiefpagaaTyQ
import Derived.Test.YtejbglbiefpagaaTyVa
set_option linter.all false
namespace Go.Proofs.Ytejbglbiefpagaa
open Go Go.RowKit Go.Sh Go.Pv
set_option maxHeartbeats 8000000
set_option maxRecDepth 8000
set_option pp.maxSteps 60000
section
variable {n most : Int} {strays : List (Int × Int)} {calls : List (Int × Int × Int × Int)}
attribute [local go_sem] eql4 neq4 bne_tf bne_ft beq_tf beq_ft conv5' span_eql span_neq bin_rem min_eq max_eq row4 get_some4 rowsK_r4 rowsK_r1 rowsK_nil' rowsK_cons' not_isEmpty_nil Bool.false_or
theorem main_true_arg (by_ : List Int) (a b : Int) (hlv : longB strays calls = true ∨ validB n most strays calls = false) : FunOK Try.prog 6 [tyR n most strays calls, .one (.sl (by_.map rowH)), .one (.v (.int .u8 a)), .one (.v (.int .u8 b))] (.one (.one (.v (.bool true)))) := by
  have hal := ok_alive
  have hl := ok_long n most strays calls
  have ht := ok_Tally36 n most strays calls
  simp only [tyR] at hl ht
  refine fun_ok (nt := 324) (rs := [.tmp 8]) Try.func6 rfl rfl rfl (by simp) fun Z w0 => ?_; simp only [initFr, avR, List.map_cons, List.map_nil]
  simp only [tyR, List.map_cons, List.map_nil]
  cases hlb : longB strays calls
  · have hv : validB n most strays calls = false := by
      rcases hlv with h | h
      · rw [hlb] at h; cases h
      · exact h
    rw [hlb] at hl
    rw [hv] at ht
    refine tw ?_; try with_reducible intro QQ hQQ
    (refine cO 35 rfl rfl rfl (hl) Try.func35 rfl ?_); refine ts ?_; try clear hQQ QQ
    ((refine cO 36 rfl rfl rfl (ht) Try.func36 rfl ?_); refine tu ?_; try clear hQQ QQ); refine tw ?_; try with_reducible intro QQ hQQ
    refine ti ?_; try clear hQQ QQ
    refine tw ?_; try with_reducible intro QQ hQQ
    ((refine cO 13 rfl rfl rfl (hal) Try.func13 rfl ?_); refine tu ?_; try clear hQQ QQ); refine tw ?_; try with_reducible intro QQ hQQ
    refine aw_ret ?_; refine ⟨.inr rfl, ?_⟩; simp only [resA, res1, go_sem, ↓reduceIte]
  · rw [hlb] at hl
    refine tw ?_; try with_reducible intro QQ hQQ
    ((refine cO 35 rfl rfl rfl (hl) Try.func35 rfl ?_); refine tu ?_; try clear hQQ QQ); refine tw ?_; try with_reducible intro QQ hQQ
    refine ti ?_; try clear hQQ QQ
    refine tw ?_; try with_reducible intro QQ hQQ
    ((refine cO 13 rfl rfl rfl (hal) Try.func13 rfl ?_); refine tu ?_; try clear hQQ QQ); refine tw ?_; try with_reducible intro QQ hQQ
    refine aw_ret ?_; refine ⟨.inr rfl, ?_⟩; simp only [resA, res1, go_sem, ↓reduceIte]
theorem main_true_ok {N : Nat} {by_ : List Int} (hby : ∀ x ∈ by_, 0 ≤ x ∧ x ≤ 65535) (a b : Nat) (ha : a < 256) (hb : b < 256) (h : TOK N most strays calls) : FunOK Try.prog 6 [tyR N most strays calls, .one (.sl (by_.map rowH)), .one (.v (.int .u8 a)), .one (.v (.int .u8 b))] (.one (.one (.v (.bool true)))) := by
  have hal := ok_alive
  have hl := ok_long N most strays calls
  have ht := ok_Tally36 N most strays calls
  have hlb : longB strays calls = false := by have := h.sl; have := h.n5; have := h.cl; unfold longB; simp; omega
  rw [hlb] at hl
  rw [tok_to h] at ht
  have n1 := h.n1
  have n5 := h.n5
  have m0 := h.m0
  have m60 := h.m60
  have hcl := h.cl
  have hsl := h.sl
  have sm := ok_span31 0 most
  simp only [tyR] at hl ht
  refine fun_ok (nt := 324) (rs := [.tmp 8]) Try.func6 rfl rfl rfl (by simp) fun Z w0 => ?_; simp only [initFr, avR, List.map_cons, List.map_nil]
  simp only [tyR, List.map_cons, List.map_nil]
  refine tw ?_; try with_reducible intro QQ hQQ
  (refine cO 35 rfl rfl rfl (hl) Try.func35 rfl ?_); refine ts ?_; try clear hQQ QQ
  ((refine cO 36 rfl rfl rfl (ht) Try.func36 rfl ?_); refine tu ?_; try clear hQQ QQ); refine tw ?_; try with_reducible intro QQ hQQ
  refine ti ?_; try clear hQQ QQ
  refine tw ?_; try with_reducible intro QQ hQQ
  (refine callS_ok rfl rfl 37 (by simp (maxSteps := 400000) (disch := first | decide | omega) only [go_sem, ↓reduceIte]; try rfl) (by simp (maxSteps := 400000) (disch := first | decide | omega) only [go_sem, ↓reduceIte]; try rfl) Try.func37 rfl (by decide) ?_); (refine callF_in (nt := 5) (rs := [.tmp 2]) Try.func37 rfl rfl rfl (by simp) fun tm Ds => ?_); simp only [initV, capV, List.map_cons, List.map_nil, List.cons_append, List.nil_append]
  refine tw ?_; try with_reducible intro QQ hQQ
  (refine aw_ret ⟨.inr rfl, _, by (simp (maxSteps := 400000) (disch := first | decide | omega) only [go_sem, ↓reduceIte]; try rfl), by (simp (maxSteps := 400000) (disch := first | decide | omega) only [go_sem, ↓reduceIte]; try rfl), ?_⟩); refine ts ?_; try clear hQQ QQ
  refine tw ?_; try with_reducible intro QQ hQQ
  (refine callS_ok rfl rfl 38 (by simp (maxSteps := 400000) (disch := first | decide | omega) only [go_sem, ↓reduceIte]; try rfl) (by simp (maxSteps := 400000) (disch := first | decide | omega) only [go_sem, ↓reduceIte]; try rfl) Try.func38 rfl (by decide) ?_); (refine callF_in (nt := 75) (rs := [.tmp 4, .tmp 5, .tmp 6, .tmp 7]) Try.func38 rfl rfl rfl (by simp) fun tm Ds => ?_); simp only [initV, capV, List.map_cons, List.map_nil, List.cons_append, List.nil_append]
  refine tw ?_; try with_reducible intro QQ hQQ
  refine aw_weak (weak_own 4 3 1 (by simp (disch := first | decide | omega) only [go_sem, ↓reduceIte]; try rfl)) ?_
  refine aw_weak (weak_own 5 3 1 (by simp (disch := first | decide | omega) only [go_sem, ↓reduceIte]; try rfl)) ?_
  refine aw_weak (weak_own 6 3 1 (by simp (disch := first | decide | omega) only [go_sem, ↓reduceIte]; try rfl)) ?_
  refine aw_weak (weak_keepA [1, 2, 4, 5, 6, 13, 14] (by simp only [go_sem, ↓reduceIte]; rfl)) ?_
  refine aw_loop_ov (ι := { q : List Int // q.length ≤ N ∧ ∀ x ∈ q, 0 ≤ x ∧ x ≤ most }) (fun q => [(4, .one (.own 6 q.1.length)), (14, iA q.1.length)]) (fun q => [(6, shR q.1), (3, .box [.p (iP (q.1.length : Int))])]) (fun q => N - q.1.length) ⟨[], by simp, by simp⟩ (by first | rfl | (simp only [go_sem, ↓reduceIte]; first | done | rfl | (simp; try rfl))) ?_
  rintro ⟨X, hXl, hX⟩
  simp (disch := decide) only [ov, ovL, AL.get_nil, AL.get_eq, AL.get_ne, Option.getD_some, Option.getD_none]
  dsimp only [shR]
  by_cases hxl : X.length < N
  · as_aux_lemma =>
      refine tw ?_; try with_reducible intro QQ hQQ
      refine ti ?_; try clear hQQ QQ
      refine tw ?_; try with_reducible intro QQ hQQ
      (refine cO 31 rfl rfl rfl (sm) Try.func31 rfl ?_); refine ts ?_; try clear hQQ QQ
      refine callS_ok rfl rfl 95 (by simp (disch := first | decide | omega) only [go_sem, ↓reduceIte]; try rfl) (by simp (disch := first | decide | omega) only [go_sem, ↓reduceIte]; try rfl) Try.func95 rfl (by decide) ((c_draw (A := 3) (B := 2) (a := X.length) (by_ := by_) (by omega) hby 0 most (by omega) (by omega) (by omega) ?_ ?_ (by decide)).mono ?_)
      · simp (disch := first | decide | omega) only [go_sem, ↓reduceIte]; try rfl
      · simp (disch := first | decide | omega) only [go_sem, ↓reduceIte]; try rfl
      rintro _ _ ⟨r, hr1, hr2, rfl, rfl⟩
      (refine ts ?_; try clear hQQ QQ)
      refine tw ?_; try with_reducible intro QQ hQQ
      refine ⟨⟨X ++ [r], by simp; omega, fun x hx => ?_⟩, ?_, weak_round ?_ (by first | rfl | (simp only [go_sem, ↓reduceIte]))⟩
      · rcases List.mem_append.1 hx with hx | hx
        · exact hX x hx
        · rw [List.mem_singleton.1 hx]; exact ⟨hr1, hr2⟩
      rotate_left
      · simp only [ov, ovL]
        simp only [go_sem, ↓reduceIte]
        all_goals (try simp [shR, row1])
      · simp; omega
  have hXN : X.length = N := by omega
  refine tw ?_; try with_reducible intro QQ hQQ
  refine ti ?_; try clear hQQ QQ
  refine tw ?_; try with_reducible intro QQ hQQ
  refine aw_weak (weak_keepA [1, 4, 5, 6, 26, 27, 28] (by simp only [go_sem, ↓reduceIte]; rfl)) ?_
  refine aw_loop_ov (ι := { q : List Int // q.length ≤ strays.length ∧ ∀ i, i < q.length → (strays.getD i (0, 0)).1 ≤ xF q i ∧ xF q i ≤ (strays.getD i (0, 0)).2 }) (fun q => [(5, .one (.own 7 q.1.length)), (28, iA q.1.length)]) (fun q => [(7, shR q.1), (3, .box [.p (iP ((X.length + q.1.length : Nat) : Int))])]) (fun q => strays.length - q.1.length) ⟨[], by simp, by simp⟩ (by first | rfl | (simp only [go_sem, ↓reduceIte]; first | done | rfl | (simp; try rfl))) ?_
  rintro ⟨Y, hYl, hY⟩
  simp (disch := decide) only [ov, ovL, AL.get_nil, AL.get_eq, AL.get_ne, Option.getD_some, Option.getD_none]
  dsimp only [shR]
  by_cases hyl : Y.length < strays.length
  · as_aux_lemma =>
      have hsp := span_of (h.st Y.length hyl)
      refine tw ?_; try with_reducible intro QQ hQQ
      refine ti ?_; try clear hQQ QQ
      refine tw ?_; try with_reducible intro QQ hQQ
      refine callS_ok rfl rfl 95 (by simp (disch := first | decide | omega) only [go_sem, ↓reduceIte]; try rfl) (by simp (disch := first | decide | omega) only [go_sem, ↓reduceIte]; try rfl) Try.func95 rfl (by decide) ((c_draw (A := 3) (B := 2) (a := X.length + Y.length) (by_ := by_) (by omega) hby (strays.getD Y.length (0, 0)).1 (strays.getD Y.length (0, 0)).2 (by omega) (by omega) (by omega) ?_ ?_ (by decide)).mono ?_)
      · simp (disch := first | decide | omega) only [go_sem, ↓reduceIte]; try rfl
      · simp (disch := first | decide | omega) only [go_sem, ↓reduceIte]; try rfl
      rintro _ _ ⟨r, hr1, hr2, rfl, rfl⟩
      (refine ts ?_; try clear hQQ QQ)
      refine tw ?_; try with_reducible intro QQ hQQ
      refine ⟨⟨Y ++ [r], by simp; omega, fun i hi => ?_⟩, ?_, weak_round ?_ (by first | rfl | (simp only [go_sem, ↓reduceIte]))⟩
      · rw [xF_snoc]
        by_cases h1 : i < Y.length
        · rw [if_pos h1]; exact hY i h1
        · have h2 : i = Y.length := by simp at hi; omega
          rw [if_neg h1, if_pos h2, h2]; exact ⟨hr1, hr2⟩
      rotate_left
      · simp only [ov, ovL]
        simp only [go_sem, ↓reduceIte]
        all_goals (try simp [shR, row1, Nat.add_assoc])
      · simp; omega
  have hYN : Y.length + 1 = N := by omega
  refine tw ?_; try with_reducible intro QQ hQQ
  refine ti ?_; try clear hQQ QQ
  refine tw ?_; try with_reducible intro QQ hQQ
  refine aw_weak (weak_keepA [4, 5, 6, 39, 40, 41] (by simp only [go_sem, ↓reduceIte]; rfl)) ?_
  refine aw_loop_ov (ι := { q : List Int // q.length ≤ N ∧ ∀ i, i < q.length → xF q i = penT N (xF X) (xF Y) i ∧ 0 ≤ xF q i ∧ xF q i ≤ 66 }) (fun q => [(6, .one (.own 8 q.1.length)), (41, iA q.1.length)]) (fun q => [(8, shR q.1)]) (fun q => N - q.1.length) ⟨[], by simp, by simp⟩ (by first | rfl | (simp only [go_sem, ↓reduceIte]; first | done | rfl | (simp; try rfl))) ?_
  rintro ⟨P, hPl, hP⟩
  simp (disch := decide) only [ov, ovL, AL.get_nil, AL.get_eq, AL.get_ne, Option.getD_some, Option.getD_none]
  dsimp only [shR]
  have bX : ∀ i, 0 ≤ xF X i ∧ xF X i ≤ 60 := fun i => by
    by_cases hi : i < X.length
    · have := hX _ (mem_of_getD (d := 0) hi); unfold xF; omega
    · unfold xF; rw [List.getD_eq_getElem?_getD, List.getElem?_eq_none (by omega)]; decide
  have bY : ∀ i, i < Y.length → -3 ≤ xF Y i ∧ xF Y i ≤ 3 := fun i hi => by
    have h1 := hY i hi
    have h2 := span_of (h.st i (by omega))
    omega
  by_cases hpl : P.length < N
  · obtain ⟨i, hi⟩ : ∃ i, P.length = i := ⟨_, rfl⟩
    obtain ⟨v, hv⟩ : ∃ v, penT N (xF X) (xF Y) i = v := ⟨_, rfl⟩
    have hxi : i < X.length := by omega
    have b1 := bX i
    rw [hi]
    have hnew : ∀ r, 0 ≤ r → r ≤ 66 → v = r → ∀ k, k < (P ++ [r]).length → xF (P ++ [r]) k = penT N (xF X) (xF Y) k ∧ 0 ≤ xF (P ++ [r]) k ∧ xF (P ++ [r]) k ≤ 66 := fun r hr hr6 hvr k hk => by
      rw [xF_snoc]
      by_cases h1 : k < P.length
      · rw [if_pos h1]; exact hP k h1
      · have h2 : k = P.length := by simp at hk; omega
        rw [if_neg h1, if_pos h2, h2, hi, hv]; exact ⟨hvr.symm, hr, hr6⟩
    have goal4 : ∀ Q : Prop, (i = 0 → Y.length = 0 → X.getD i 0 = v → Q) → (i = 0 → 0 < Y.length → X.getD i 0 - Y.getD i 0 = v → Q) → (∀ j, i = j + 1 → i < Y.length → X.getD i 0 + Y.getD j 0 - Y.getD i 0 = v → Q) → (∀ j, i = j + 1 → i = Y.length → X.getD i 0 + Y.getD j 0 = v → Q) → Q := by
      intro Q g1 g2 g3 g4
      unfold penT xF at hv
      rcases i with _ | j
      · rw [if_pos rfl] at hv
        by_cases h0 : Y.length = 0
        · rw [if_pos (by omega)] at hv
          exact g1 rfl h0 (by omega)
        · rw [if_neg (by omega)] at hv
          exact g2 rfl (by omega) (by omega)
      · rw [if_neg (by omega), Nat.add_sub_cancel] at hv
        by_cases h0 : j + 1 < Y.length
        · rw [if_neg (by omega)] at hv
          exact g3 j rfl h0 (by omega)
        · rw [if_pos (by omega)] at hv
          exact g4 j rfl (by omega) (by omega)
    refine goal4 _ (fun e1 e2 e3 => ?_) (fun e1 e2 e3 => ?_) (fun j e1 e2 e3 => ?_) (fun j e1 e2 e3 => ?_)
    · subst e1
      unfold xF at b1
      by_cases hv0 : v < 0
      · omega
      · as_aux_lemma =>
          (repeat (first | apply aw_seq | apply aw_block | apply aw_skip | apply aw_label | apply aw_exit | ((first | refine aw_region (hideO fun QQ hQQ => ?_) | refine aw_draw mixed (hideD fun QQ hQQ => ?_)); simp (maxSteps := 400000) (disch := first | decide | omega) only [e3, go_sem, ↓reduceIte]; try (first | with_reducible refine unhide hQQ ?_ | refine ⟨by kernel_rfl, unhide hQQ ?_⟩); clear hQQ QQ) | with_reducible first | apply then_n | apply block_n | apply then_x | apply then_r | apply nog_n | apply nog_r | apply block_r | apply block_e (by decide) | apply block_x (by decide)))
          refine aw_cond2 (by simp (disch := first | decide | omega) only [e3, go_sem, ↓reduceIte]; rfl) ?_; first | refine .inl ⟨by first | rfl | exact decide_eq_true (by omega) | exact decide_eq_true (by assumption) | (simp (disch := first | decide | omega) only [if_pos_d, if_neg_d, decide_eq_true_eq, Bool.not_eq_true', decide_eq_false_iff_not]; omega), ?_⟩ | refine .inr ⟨by first | rfl | exact decide_eq_false (by omega) | exact decide_eq_false (by assumption) | (simp (disch := first | decide | omega) only [if_pos_d, if_neg_d, decide_eq_true_eq, Bool.not_eq_true', decide_eq_false_iff_not]; omega), ?_⟩
          (repeat (first | apply aw_seq | apply aw_block | apply aw_skip | apply aw_label | apply aw_exit | ((first | refine aw_region (hideO fun QQ hQQ => ?_) | refine aw_draw mixed (hideD fun QQ hQQ => ?_)); simp (maxSteps := 400000) (disch := first | decide | omega) only [e3, go_sem, ↓reduceIte]; try (first | with_reducible refine unhide hQQ ?_ | refine ⟨by kernel_rfl, unhide hQQ ?_⟩); clear hQQ QQ) | with_reducible first | apply then_n | apply block_n | apply then_x | apply then_r | apply nog_n | apply nog_r | apply block_r | apply block_e (by decide) | apply block_x (by decide)))
          refine aw_cond2 (by simp (disch := first | decide | omega) only [e3, go_sem, ↓reduceIte]; rfl) ?_; first | refine .inl ⟨by first | rfl | exact decide_eq_true (by omega) | exact decide_eq_true (by assumption) | (simp (disch := first | decide | omega) only [if_pos_d, if_neg_d, decide_eq_true_eq, Bool.not_eq_true', decide_eq_false_iff_not]; omega), ?_⟩ | refine .inr ⟨by first | rfl | exact decide_eq_false (by omega) | exact decide_eq_false (by assumption) | (simp (disch := first | decide | omega) only [if_pos_d, if_neg_d, decide_eq_true_eq, Bool.not_eq_true', decide_eq_false_iff_not]; omega), ?_⟩
          (repeat (first | apply aw_seq | apply aw_block | apply aw_skip | apply aw_label | apply aw_exit | ((first | refine aw_region (hideO fun QQ hQQ => ?_) | refine aw_draw mixed (hideD fun QQ hQQ => ?_)); simp (maxSteps := 400000) (disch := first | decide | omega) only [e3, go_sem, ↓reduceIte]; try (first | with_reducible refine unhide hQQ ?_ | refine ⟨by kernel_rfl, unhide hQQ ?_⟩); clear hQQ QQ) | with_reducible first | apply then_n | apply block_n | apply then_x | apply then_r | apply nog_n | apply nog_r | apply block_r | apply block_e (by decide) | apply block_x (by decide)))
          refine aw_cond2 (by simp (disch := first | decide | omega) only [e3, go_sem, ↓reduceIte]; rfl) ?_; first | refine .inl ⟨by first | rfl | exact decide_eq_true (by omega) | exact decide_eq_true (by assumption) | (simp (disch := first | decide | omega) only [if_pos_d, if_neg_d, decide_eq_true_eq, Bool.not_eq_true', decide_eq_false_iff_not]; omega), ?_⟩ | refine .inr ⟨by first | rfl | exact decide_eq_false (by omega) | exact decide_eq_false (by assumption) | (simp (disch := first | decide | omega) only [if_pos_d, if_neg_d, decide_eq_true_eq, Bool.not_eq_true', decide_eq_false_iff_not]; omega), ?_⟩
          (repeat (first | apply aw_seq | apply aw_block | apply aw_skip | apply aw_label | apply aw_exit | ((first | refine aw_region (hideO fun QQ hQQ => ?_) | refine aw_draw mixed (hideD fun QQ hQQ => ?_)); simp (maxSteps := 400000) (disch := first | decide | omega) only [e3, go_sem, ↓reduceIte]; try (first | with_reducible refine unhide hQQ ?_ | refine ⟨by kernel_rfl, unhide hQQ ?_⟩); clear hQQ QQ) | with_reducible first | apply then_n | apply block_n | apply then_x | apply then_r | apply nog_n | apply nog_r | apply block_r | apply block_e (by decide) | apply block_x (by decide)))
          refine aw_cond2 (by simp (disch := first | decide | omega) only [e3, go_sem, ↓reduceIte]; rfl) ?_; first | refine .inl ⟨by first | rfl | exact decide_eq_true (by omega) | exact decide_eq_true (by assumption) | (simp (disch := first | decide | omega) only [if_pos_d, if_neg_d, decide_eq_true_eq, Bool.not_eq_true', decide_eq_false_iff_not]; omega), ?_⟩ | refine .inr ⟨by first | rfl | exact decide_eq_false (by omega) | exact decide_eq_false (by assumption) | (simp (disch := first | decide | omega) only [if_pos_d, if_neg_d, decide_eq_true_eq, Bool.not_eq_true', decide_eq_false_iff_not]; omega), ?_⟩
          (repeat (first | apply aw_seq | apply aw_block | apply aw_skip | apply aw_label | apply aw_exit | ((first | refine aw_region (hideO fun QQ hQQ => ?_) | refine aw_draw mixed (hideD fun QQ hQQ => ?_)); simp (maxSteps := 400000) (disch := first | decide | omega) only [e3, go_sem, ↓reduceIte]; try (first | with_reducible refine unhide hQQ ?_ | refine ⟨by kernel_rfl, unhide hQQ ?_⟩); clear hQQ QQ) | with_reducible first | apply then_n | apply block_n | apply then_x | apply then_r | apply nog_n | apply nog_r | apply block_r | apply block_e (by decide) | apply block_x (by decide)))
          refine ⟨⟨P ++ [v], by simp; omega, hnew v (by omega) (by omega) rfl⟩, ?_, weak_round ?_ (by first | rfl | (simp only [e3, go_sem, ↓reduceIte]))⟩
          rotate_left
          · simp only [ov, ovL]
            simp only [e3, go_sem, ↓reduceIte]
            all_goals (try simp [shR, row1, ← e3])
            all_goals (try omega)
          · simp; omega
    · subst e1
      have b2 := bY 0 e2
      unfold xF at b2
      have hy0 : 0 < Y.length := e2
      unfold xF at b1
      by_cases hv0 : v < 0
      · as_aux_lemma =>
          (repeat (first | apply aw_seq | apply aw_block | apply aw_skip | apply aw_label | apply aw_exit | ((first | refine aw_region (hideO fun QQ hQQ => ?_) | refine aw_draw mixed (hideD fun QQ hQQ => ?_)); simp (maxSteps := 400000) (disch := first | decide | omega) only [e3, go_sem, ↓reduceIte]; try (first | with_reducible refine unhide hQQ ?_ | refine ⟨by kernel_rfl, unhide hQQ ?_⟩); clear hQQ QQ) | with_reducible first | apply then_n | apply block_n | apply then_x | apply then_r | apply nog_n | apply nog_r | apply block_r | apply block_e (by decide) | apply block_x (by decide)))
          refine aw_cond2 (by simp (disch := first | decide | omega) only [e3, go_sem, ↓reduceIte]; rfl) ?_; first | refine .inl ⟨by first | rfl | exact decide_eq_true (by omega) | exact decide_eq_true (by assumption) | (simp (disch := first | decide | omega) only [if_pos_d, if_neg_d, decide_eq_true_eq, Bool.not_eq_true', decide_eq_false_iff_not]; omega), ?_⟩ | refine .inr ⟨by first | rfl | exact decide_eq_false (by omega) | exact decide_eq_false (by assumption) | (simp (disch := first | decide | omega) only [if_pos_d, if_neg_d, decide_eq_true_eq, Bool.not_eq_true', decide_eq_false_iff_not]; omega), ?_⟩
          (repeat (first | apply aw_seq | apply aw_block | apply aw_skip | apply aw_label | apply aw_exit | ((first | refine aw_region (hideO fun QQ hQQ => ?_) | refine aw_draw mixed (hideD fun QQ hQQ => ?_)); simp (maxSteps := 400000) (disch := first | decide | omega) only [e3, go_sem, ↓reduceIte]; try (first | with_reducible refine unhide hQQ ?_ | refine ⟨by kernel_rfl, unhide hQQ ?_⟩); clear hQQ QQ) | with_reducible first | apply then_n | apply block_n | apply then_x | apply then_r | apply nog_n | apply nog_r | apply block_r | apply block_e (by decide) | apply block_x (by decide)))
          refine aw_cond2 (by simp (disch := first | decide | omega) only [e3, go_sem, ↓reduceIte]; rfl) ?_; first | refine .inl ⟨by first | rfl | exact decide_eq_true (by omega) | exact decide_eq_true (by assumption) | (simp (disch := first | decide | omega) only [if_pos_d, if_neg_d, decide_eq_true_eq, Bool.not_eq_true', decide_eq_false_iff_not]; omega), ?_⟩ | refine .inr ⟨by first | rfl | exact decide_eq_false (by omega) | exact decide_eq_false (by assumption) | (simp (disch := first | decide | omega) only [if_pos_d, if_neg_d, decide_eq_true_eq, Bool.not_eq_true', decide_eq_false_iff_not]; omega), ?_⟩
          (repeat (first | apply aw_seq | apply aw_block | apply aw_skip | apply aw_label | apply aw_exit | ((first | refine aw_region (hideO fun QQ hQQ => ?_) | refine aw_draw mixed (hideD fun QQ hQQ => ?_)); simp (maxSteps := 400000) (disch := first | decide | omega) only [e3, go_sem, ↓reduceIte]; try (first | with_reducible refine unhide hQQ ?_ | refine ⟨by kernel_rfl, unhide hQQ ?_⟩); clear hQQ QQ) | with_reducible first | apply then_n | apply block_n | apply then_x | apply then_r | apply nog_n | apply nog_r | apply block_r | apply block_e (by decide) | apply block_x (by decide)))
          refine aw_cond2 (by simp (disch := first | decide | omega) only [e3, go_sem, ↓reduceIte]; rfl) ?_; first | refine .inl ⟨by first | rfl | exact decide_eq_true (by omega) | exact decide_eq_true (by assumption) | (simp (disch := first | decide | omega) only [if_pos_d, if_neg_d, decide_eq_true_eq, Bool.not_eq_true', decide_eq_false_iff_not]; omega), ?_⟩ | refine .inr ⟨by first | rfl | exact decide_eq_false (by omega) | exact decide_eq_false (by assumption) | (simp (disch := first | decide | omega) only [if_pos_d, if_neg_d, decide_eq_true_eq, Bool.not_eq_true', decide_eq_false_iff_not]; omega), ?_⟩
          (repeat (first | apply aw_seq | apply aw_block | apply aw_skip | apply aw_label | apply aw_exit | ((first | refine aw_region (hideO fun QQ hQQ => ?_) | refine aw_draw mixed (hideD fun QQ hQQ => ?_)); simp (maxSteps := 400000) (disch := first | decide | omega) only [e3, go_sem, ↓reduceIte]; try (first | with_reducible refine unhide hQQ ?_ | refine ⟨by kernel_rfl, unhide hQQ ?_⟩); clear hQQ QQ) | with_reducible first | apply then_n | apply block_n | apply then_x | apply then_r | apply nog_n | apply nog_r | apply block_r | apply block_e (by decide) | apply block_x (by decide)))
          refine aw_cond2 (by simp (disch := first | decide | omega) only [e3, go_sem, ↓reduceIte]; rfl) ?_; first | refine .inl ⟨by first | rfl | exact decide_eq_true (by omega) | exact decide_eq_true (by assumption) | (simp (disch := first | decide | omega) only [if_pos_d, if_neg_d, decide_eq_true_eq, Bool.not_eq_true', decide_eq_false_iff_not]; omega), ?_⟩ | refine .inr ⟨by first | rfl | exact decide_eq_false (by omega) | exact decide_eq_false (by assumption) | (simp (disch := first | decide | omega) only [if_pos_d, if_neg_d, decide_eq_true_eq, Bool.not_eq_true', decide_eq_false_iff_not]; omega), ?_⟩
          (repeat (first | apply aw_seq | apply aw_block | apply aw_skip | apply aw_label | apply aw_exit | ((first | refine aw_region (hideO fun QQ hQQ => ?_) | refine aw_draw mixed (hideD fun QQ hQQ => ?_)); simp (maxSteps := 400000) (disch := first | decide | omega) only [e3, go_sem, ↓reduceIte]; try (first | with_reducible refine unhide hQQ ?_ | refine ⟨by kernel_rfl, unhide hQQ ?_⟩); clear hQQ QQ) | with_reducible first | apply then_n | apply block_n | apply then_x | apply then_r | apply nog_n | apply nog_r | apply block_r | apply block_e (by decide) | apply block_x (by decide)))
          (refine aw_ret ⟨.inr rfl, _, by (simp (maxSteps := 400000) (disch := first | decide | omega) only [e3, go_sem, ↓reduceIte]; try rfl), by (simp (maxSteps := 400000) (disch := first | decide | omega) only [e3, go_sem, ↓reduceIte]; try rfl), ?_⟩); simp (maxSteps := 400000) (disch := first | decide | omega) only [e3, go_sem, ↓reduceIte]; (try (with_reducible refine unhide hQQ ?_; clear hQQ QQ; (repeat with_reducible first | apply then_n | apply block_n | apply then_x | apply then_r | apply nog_n | apply nog_r | apply block_r | apply block_e (by decide) | apply block_x (by decide))))
          (repeat (first | apply aw_seq | apply aw_block | apply aw_skip | apply aw_label | apply aw_exit | ((first | refine aw_region (hideO fun QQ hQQ => ?_) | refine aw_draw mixed (hideD fun QQ hQQ => ?_)); simp (maxSteps := 400000) (disch := first | decide | omega) only [e3, go_sem, ↓reduceIte]; try (first | with_reducible refine unhide hQQ ?_ | refine ⟨by kernel_rfl, unhide hQQ ?_⟩); clear hQQ QQ) | with_reducible first | apply then_n | apply block_n | apply then_x | apply then_r | apply nog_n | apply nog_r | apply block_r | apply block_e (by decide) | apply block_x (by decide)))
          refine aw_cond2 (by simp (disch := first | decide | omega) only [e3, go_sem, ↓reduceIte]; rfl) ?_; first | refine .inl ⟨by first | rfl | exact decide_eq_true (by omega) | exact decide_eq_true (by assumption) | (simp (disch := first | decide | omega) only [if_pos_d, if_neg_d, decide_eq_true_eq, Bool.not_eq_true', decide_eq_false_iff_not]; omega), ?_⟩ | refine .inr ⟨by first | rfl | exact decide_eq_false (by omega) | exact decide_eq_false (by assumption) | (simp (disch := first | decide | omega) only [if_pos_d, if_neg_d, decide_eq_true_eq, Bool.not_eq_true', decide_eq_false_iff_not]; omega), ?_⟩
          (repeat (first | apply aw_seq | apply aw_block | apply aw_skip | apply aw_label | apply aw_exit | ((first | refine aw_region (hideO fun QQ hQQ => ?_) | refine aw_draw mixed (hideD fun QQ hQQ => ?_)); simp (maxSteps := 400000) (disch := first | decide | omega) only [e3, go_sem, ↓reduceIte]; try (first | with_reducible refine unhide hQQ ?_ | refine ⟨by kernel_rfl, unhide hQQ ?_⟩); clear hQQ QQ) | with_reducible first | apply then_n | apply block_n | apply then_x | apply then_r | apply nog_n | apply nog_r | apply block_r | apply block_e (by decide) | apply block_x (by decide)))
          ((refine callO_ok rfl rfl 13 true rfl (by simp (disch := first | decide | omega) only [e3, go_sem, ↓reduceIte]; try rfl) (fun _ => rfl) (hal) Try.func13 rfl (by decide) ?_); simp (maxSteps := 400000) (disch := first | decide | omega) only [e3, go_sem, ↓reduceIte]; try (with_reducible refine unhide hQQ ?_; clear hQQ QQ)); (repeat (first | apply aw_seq | apply aw_block | apply aw_skip | apply aw_label | apply aw_exit | ((first | refine aw_region (hideO fun QQ hQQ => ?_) | refine aw_draw mixed (hideD fun QQ hQQ => ?_)); simp (maxSteps := 400000) (disch := first | decide | omega) only [e3, go_sem, ↓reduceIte]; try (first | with_reducible refine unhide hQQ ?_ | refine ⟨by kernel_rfl, unhide hQQ ?_⟩); clear hQQ QQ) | with_reducible first | apply then_n | apply block_n | apply then_x | apply then_r | apply nog_n | apply nog_r | apply block_r | apply block_e (by decide) | apply block_x (by decide)))
          refine aw_ret ?_; refine ⟨.inr rfl, ?_⟩; simp only [resA, res1, go_sem, ↓reduceIte]
      · as_aux_lemma =>
          (repeat (first | apply aw_seq | apply aw_block | apply aw_skip | apply aw_label | apply aw_exit | ((first | refine aw_region (hideO fun QQ hQQ => ?_) | refine aw_draw mixed (hideD fun QQ hQQ => ?_)); simp (maxSteps := 400000) (disch := first | decide | omega) only [e3, go_sem, ↓reduceIte]; try (first | with_reducible refine unhide hQQ ?_ | refine ⟨by kernel_rfl, unhide hQQ ?_⟩); clear hQQ QQ) | with_reducible first | apply then_n | apply block_n | apply then_x | apply then_r | apply nog_n | apply nog_r | apply block_r | apply block_e (by decide) | apply block_x (by decide)))
          refine aw_cond2 (by simp (disch := first | decide | omega) only [e3, go_sem, ↓reduceIte]; rfl) ?_; first | refine .inl ⟨by first | rfl | exact decide_eq_true (by omega) | exact decide_eq_true (by assumption) | (simp (disch := first | decide | omega) only [if_pos_d, if_neg_d, decide_eq_true_eq, Bool.not_eq_true', decide_eq_false_iff_not]; omega), ?_⟩ | refine .inr ⟨by first | rfl | exact decide_eq_false (by omega) | exact decide_eq_false (by assumption) | (simp (disch := first | decide | omega) only [if_pos_d, if_neg_d, decide_eq_true_eq, Bool.not_eq_true', decide_eq_false_iff_not]; omega), ?_⟩
          (repeat (first | apply aw_seq | apply aw_block | apply aw_skip | apply aw_label | apply aw_exit | ((first | refine aw_region (hideO fun QQ hQQ => ?_) | refine aw_draw mixed (hideD fun QQ hQQ => ?_)); simp (maxSteps := 400000) (disch := first | decide | omega) only [e3, go_sem, ↓reduceIte]; try (first | with_reducible refine unhide hQQ ?_ | refine ⟨by kernel_rfl, unhide hQQ ?_⟩); clear hQQ QQ) | with_reducible first | apply then_n | apply block_n | apply then_x | apply then_r | apply nog_n | apply nog_r | apply block_r | apply block_e (by decide) | apply block_x (by decide)))
          refine aw_cond2 (by simp (disch := first | decide | omega) only [e3, go_sem, ↓reduceIte]; rfl) ?_; first | refine .inl ⟨by first | rfl | exact decide_eq_true (by omega) | exact decide_eq_true (by assumption) | (simp (disch := first | decide | omega) only [if_pos_d, if_neg_d, decide_eq_true_eq, Bool.not_eq_true', decide_eq_false_iff_not]; omega), ?_⟩ | refine .inr ⟨by first | rfl | exact decide_eq_false (by omega) | exact decide_eq_false (by assumption) | (simp (disch := first | decide | omega) only [if_pos_d, if_neg_d, decide_eq_true_eq, Bool.not_eq_true', decide_eq_false_iff_not]; omega), ?_⟩
          (repeat (first | apply aw_seq | apply aw_block | apply aw_skip | apply aw_label | apply aw_exit | ((first | refine aw_region (hideO fun QQ hQQ => ?_) | refine aw_draw mixed (hideD fun QQ hQQ => ?_)); simp (maxSteps := 400000) (disch := first | decide | omega) only [e3, go_sem, ↓reduceIte]; try (first | with_reducible refine unhide hQQ ?_ | refine ⟨by kernel_rfl, unhide hQQ ?_⟩); clear hQQ QQ) | with_reducible first | apply then_n | apply block_n | apply then_x | apply then_r | apply nog_n | apply nog_r | apply block_r | apply block_e (by decide) | apply block_x (by decide)))
          refine aw_cond2 (by simp (disch := first | decide | omega) only [e3, go_sem, ↓reduceIte]; rfl) ?_; first | refine .inl ⟨by first | rfl | exact decide_eq_true (by omega) | exact decide_eq_true (by assumption) | (simp (disch := first | decide | omega) only [if_pos_d, if_neg_d, decide_eq_true_eq, Bool.not_eq_true', decide_eq_false_iff_not]; omega), ?_⟩ | refine .inr ⟨by first | rfl | exact decide_eq_false (by omega) | exact decide_eq_false (by assumption) | (simp (disch := first | decide | omega) only [if_pos_d, if_neg_d, decide_eq_true_eq, Bool.not_eq_true', decide_eq_false_iff_not]; omega), ?_⟩
          (repeat (first | apply aw_seq | apply aw_block | apply aw_skip | apply aw_label | apply aw_exit | ((first | refine aw_region (hideO fun QQ hQQ => ?_) | refine aw_draw mixed (hideD fun QQ hQQ => ?_)); simp (maxSteps := 400000) (disch := first | decide | omega) only [e3, go_sem, ↓reduceIte]; try (first | with_reducible refine unhide hQQ ?_ | refine ⟨by kernel_rfl, unhide hQQ ?_⟩); clear hQQ QQ) | with_reducible first | apply then_n | apply block_n | apply then_x | apply then_r | apply nog_n | apply nog_r | apply block_r | apply block_e (by decide) | apply block_x (by decide)))
          refine aw_cond2 (by simp (disch := first | decide | omega) only [e3, go_sem, ↓reduceIte]; rfl) ?_; first | refine .inl ⟨by first | rfl | exact decide_eq_true (by omega) | exact decide_eq_true (by assumption) | (simp (disch := first | decide | omega) only [if_pos_d, if_neg_d, decide_eq_true_eq, Bool.not_eq_true', decide_eq_false_iff_not]; omega), ?_⟩ | refine .inr ⟨by first | rfl | exact decide_eq_false (by omega) | exact decide_eq_false (by assumption) | (simp (disch := first | decide | omega) only [if_pos_d, if_neg_d, decide_eq_true_eq, Bool.not_eq_true', decide_eq_false_iff_not]; omega), ?_⟩
          (repeat (first | apply aw_seq | apply aw_block | apply aw_skip | apply aw_label | apply aw_exit | ((first | refine aw_region (hideO fun QQ hQQ => ?_) | refine aw_draw mixed (hideD fun QQ hQQ => ?_)); simp (maxSteps := 400000) (disch := first | decide | omega) only [e3, go_sem, ↓reduceIte]; try (first | with_reducible refine unhide hQQ ?_ | refine ⟨by kernel_rfl, unhide hQQ ?_⟩); clear hQQ QQ) | with_reducible first | apply then_n | apply block_n | apply then_x | apply then_r | apply nog_n | apply nog_r | apply block_r | apply block_e (by decide) | apply block_x (by decide)))
          refine ⟨⟨P ++ [v], by simp; omega, hnew v (by omega) (by omega) rfl⟩, ?_, weak_round ?_ (by first | rfl | (simp only [e3, go_sem, ↓reduceIte]))⟩
          rotate_left
          · simp only [ov, ovL]
            simp only [e3, go_sem, ↓reduceIte]
            all_goals (try simp [shR, row1, ← e3])
            all_goals (try omega)
          · simp; omega
    · subst e1
      have b2 := bY (j + 1) e2
      have b3 := bY j (by omega)
      unfold xF at b2 b3
      have hyj : j < Y.length := by omega
      have ej : ((j + 1 : Nat) : Int) - 1 = (j : Int) := by omega
      unfold xF at b1
      by_cases hv0 : v < 0
      · as_aux_lemma =>
          (repeat (first | apply aw_seq | apply aw_block | apply aw_skip | apply aw_label | apply aw_exit | ((first | refine aw_region (hideO fun QQ hQQ => ?_) | refine aw_draw mixed (hideD fun QQ hQQ => ?_)); simp (maxSteps := 400000) (disch := first | decide | omega) only [e3, ej, go_sem, ↓reduceIte]; try (first | with_reducible refine unhide hQQ ?_ | refine ⟨by kernel_rfl, unhide hQQ ?_⟩); clear hQQ QQ) | with_reducible first | apply then_n | apply block_n | apply then_x | apply then_r | apply nog_n | apply nog_r | apply block_r | apply block_e (by decide) | apply block_x (by decide)))
          refine aw_cond2 (by simp (disch := first | decide | omega) only [e3, ej, go_sem, ↓reduceIte]; rfl) ?_; first | refine .inl ⟨by first | rfl | exact decide_eq_true (by omega) | exact decide_eq_true (by assumption) | (simp (disch := first | decide | omega) only [if_pos_d, if_neg_d, decide_eq_true_eq, Bool.not_eq_true', decide_eq_false_iff_not]; omega), ?_⟩ | refine .inr ⟨by first | rfl | exact decide_eq_false (by omega) | exact decide_eq_false (by assumption) | (simp (disch := first | decide | omega) only [if_pos_d, if_neg_d, decide_eq_true_eq, Bool.not_eq_true', decide_eq_false_iff_not]; omega), ?_⟩
          (repeat (first | apply aw_seq | apply aw_block | apply aw_skip | apply aw_label | apply aw_exit | ((first | refine aw_region (hideO fun QQ hQQ => ?_) | refine aw_draw mixed (hideD fun QQ hQQ => ?_)); simp (maxSteps := 400000) (disch := first | decide | omega) only [e3, ej, go_sem, ↓reduceIte]; try (first | with_reducible refine unhide hQQ ?_ | refine ⟨by kernel_rfl, unhide hQQ ?_⟩); clear hQQ QQ) | with_reducible first | apply then_n | apply block_n | apply then_x | apply then_r | apply nog_n | apply nog_r | apply block_r | apply block_e (by decide) | apply block_x (by decide)))
          refine aw_cond2 (by simp (disch := first | decide | omega) only [e3, ej, go_sem, ↓reduceIte]; rfl) ?_; first | refine .inl ⟨by first | rfl | exact decide_eq_true (by omega) | exact decide_eq_true (by assumption) | (simp (disch := first | decide | omega) only [if_pos_d, if_neg_d, decide_eq_true_eq, Bool.not_eq_true', decide_eq_false_iff_not]; omega), ?_⟩ | refine .inr ⟨by first | rfl | exact decide_eq_false (by omega) | exact decide_eq_false (by assumption) | (simp (disch := first | decide | omega) only [if_pos_d, if_neg_d, decide_eq_true_eq, Bool.not_eq_true', decide_eq_false_iff_not]; omega), ?_⟩
          (repeat (first | apply aw_seq | apply aw_block | apply aw_skip | apply aw_label | apply aw_exit | ((first | refine aw_region (hideO fun QQ hQQ => ?_) | refine aw_draw mixed (hideD fun QQ hQQ => ?_)); simp (maxSteps := 400000) (disch := first | decide | omega) only [e3, ej, go_sem, ↓reduceIte]; try (first | with_reducible refine unhide hQQ ?_ | refine ⟨by kernel_rfl, unhide hQQ ?_⟩); clear hQQ QQ) | with_reducible first | apply then_n | apply block_n | apply then_x | apply then_r | apply nog_n | apply nog_r | apply block_r | apply block_e (by decide) | apply block_x (by decide)))
          refine aw_cond2 (by simp (disch := first | decide | omega) only [e3, ej, go_sem, ↓reduceIte]; rfl) ?_; first | refine .inl ⟨by first | rfl | exact decide_eq_true (by omega) | exact decide_eq_true (by assumption) | (simp (disch := first | decide | omega) only [if_pos_d, if_neg_d, decide_eq_true_eq, Bool.not_eq_true', decide_eq_false_iff_not]; omega), ?_⟩ | refine .inr ⟨by first | rfl | exact decide_eq_false (by omega) | exact decide_eq_false (by assumption) | (simp (disch := first | decide | omega) only [if_pos_d, if_neg_d, decide_eq_true_eq, Bool.not_eq_true', decide_eq_false_iff_not]; omega), ?_⟩
          (repeat (first | apply aw_seq | apply aw_block | apply aw_skip | apply aw_label | apply aw_exit | ((first | refine aw_region (hideO fun QQ hQQ => ?_) | refine aw_draw mixed (hideD fun QQ hQQ => ?_)); simp (maxSteps := 400000) (disch := first | decide | omega) only [e3, ej, go_sem, ↓reduceIte]; try (first | with_reducible refine unhide hQQ ?_ | refine ⟨by kernel_rfl, unhide hQQ ?_⟩); clear hQQ QQ) | with_reducible first | apply then_n | apply block_n | apply then_x | apply then_r | apply nog_n | apply nog_r | apply block_r | apply block_e (by decide) | apply block_x (by decide)))
          refine aw_cond2 (by simp (disch := first | decide | omega) only [e3, ej, go_sem, ↓reduceIte]; rfl) ?_; first | refine .inl ⟨by first | rfl | exact decide_eq_true (by omega) | exact decide_eq_true (by assumption) | (simp (disch := first | decide | omega) only [if_pos_d, if_neg_d, decide_eq_true_eq, Bool.not_eq_true', decide_eq_false_iff_not]; omega), ?_⟩ | refine .inr ⟨by first | rfl | exact decide_eq_false (by omega) | exact decide_eq_false (by assumption) | (simp (disch := first | decide | omega) only [if_pos_d, if_neg_d, decide_eq_true_eq, Bool.not_eq_true', decide_eq_false_iff_not]; omega), ?_⟩
          (repeat (first | apply aw_seq | apply aw_block | apply aw_skip | apply aw_label | apply aw_exit | ((first | refine aw_region (hideO fun QQ hQQ => ?_) | refine aw_draw mixed (hideD fun QQ hQQ => ?_)); simp (maxSteps := 400000) (disch := first | decide | omega) only [e3, ej, go_sem, ↓reduceIte]; try (first | with_reducible refine unhide hQQ ?_ | refine ⟨by kernel_rfl, unhide hQQ ?_⟩); clear hQQ QQ) | with_reducible first | apply then_n | apply block_n | apply then_x | apply then_r | apply nog_n | apply nog_r | apply block_r | apply block_e (by decide) | apply block_x (by decide)))
          (refine aw_ret ⟨.inr rfl, _, by (simp (maxSteps := 400000) (disch := first | decide | omega) only [e3, ej, go_sem, ↓reduceIte]; try rfl), by (simp (maxSteps := 400000) (disch := first | decide | omega) only [e3, ej, go_sem, ↓reduceIte]; try rfl), ?_⟩); simp (maxSteps := 400000) (disch := first | decide | omega) only [e3, ej, go_sem, ↓reduceIte]; (try (with_reducible refine unhide hQQ ?_; clear hQQ QQ; (repeat with_reducible first | apply then_n | apply block_n | apply then_x | apply then_r | apply nog_n | apply nog_r | apply block_r | apply block_e (by decide) | apply block_x (by decide))))
          (repeat (first | apply aw_seq | apply aw_block | apply aw_skip | apply aw_label | apply aw_exit | ((first | refine aw_region (hideO fun QQ hQQ => ?_) | refine aw_draw mixed (hideD fun QQ hQQ => ?_)); simp (maxSteps := 400000) (disch := first | decide | omega) only [e3, ej, go_sem, ↓reduceIte]; try (first | with_reducible refine unhide hQQ ?_ | refine ⟨by kernel_rfl, unhide hQQ ?_⟩); clear hQQ QQ) | with_reducible first | apply then_n | apply block_n | apply then_x | apply then_r | apply nog_n | apply nog_r | apply block_r | apply block_e (by decide) | apply block_x (by decide)))
          refine aw_cond2 (by simp (disch := first | decide | omega) only [e3, ej, go_sem, ↓reduceIte]; rfl) ?_; first | refine .inl ⟨by first | rfl | exact decide_eq_true (by omega) | exact decide_eq_true (by assumption) | (simp (disch := first | decide | omega) only [if_pos_d, if_neg_d, decide_eq_true_eq, Bool.not_eq_true', decide_eq_false_iff_not]; omega), ?_⟩ | refine .inr ⟨by first | rfl | exact decide_eq_false (by omega) | exact decide_eq_false (by assumption) | (simp (disch := first | decide | omega) only [if_pos_d, if_neg_d, decide_eq_true_eq, Bool.not_eq_true', decide_eq_false_iff_not]; omega), ?_⟩
          (repeat (first | apply aw_seq | apply aw_block | apply aw_skip | apply aw_label | apply aw_exit | ((first | refine aw_region (hideO fun QQ hQQ => ?_) | refine aw_draw mixed (hideD fun QQ hQQ => ?_)); simp (maxSteps := 400000) (disch := first | decide | omega) only [e3, ej, go_sem, ↓reduceIte]; try (first | with_reducible refine unhide hQQ ?_ | refine ⟨by kernel_rfl, unhide hQQ ?_⟩); clear hQQ QQ) | with_reducible first | apply then_n | apply block_n | apply then_x | apply then_r | apply nog_n | apply nog_r | apply block_r | apply block_e (by decide) | apply block_x (by decide)))
          ((refine callO_ok rfl rfl 13 true rfl (by simp (disch := first | decide | omega) only [e3, ej, go_sem, ↓reduceIte]; try rfl) (fun _ => rfl) (hal) Try.func13 rfl (by decide) ?_); simp (maxSteps := 400000) (disch := first | decide | omega) only [e3, ej, go_sem, ↓reduceIte]; try (with_reducible refine unhide hQQ ?_; clear hQQ QQ)); (repeat (first | apply aw_seq | apply aw_block | apply aw_skip | apply aw_label | apply aw_exit | ((first | refine aw_region (hideO fun QQ hQQ => ?_) | refine aw_draw mixed (hideD fun QQ hQQ => ?_)); simp (maxSteps := 400000) (disch := first | decide | omega) only [e3, ej, go_sem, ↓reduceIte]; try (first | with_reducible refine unhide hQQ ?_ | refine ⟨by kernel_rfl, unhide hQQ ?_⟩); clear hQQ QQ) | with_reducible first | apply then_n | apply block_n | apply then_x | apply then_r | apply nog_n | apply nog_r | apply block_r | apply block_e (by decide) | apply block_x (by decide)))
          refine aw_ret ?_; refine ⟨.inr rfl, ?_⟩; simp only [resA, res1, go_sem, ↓reduceIte]
      · as_aux_lemma =>
          (repeat (first | apply aw_seq | apply aw_block | apply aw_skip | apply aw_label | apply aw_exit | ((first | refine aw_region (hideO fun QQ hQQ => ?_) | refine aw_draw mixed (hideD fun QQ hQQ => ?_)); simp (maxSteps := 400000) (disch := first | decide | omega) only [e3, ej, go_sem, ↓reduceIte]; try (first | with_reducible refine unhide hQQ ?_ | refine ⟨by kernel_rfl, unhide hQQ ?_⟩); clear hQQ QQ) | with_reducible first | apply then_n | apply block_n | apply then_x | apply then_r | apply nog_n | apply nog_r | apply block_r | apply block_e (by decide) | apply block_x (by decide)))
          refine aw_cond2 (by simp (disch := first | decide | omega) only [e3, ej, go_sem, ↓reduceIte]; rfl) ?_; first | refine .inl ⟨by first | rfl | exact decide_eq_true (by omega) | exact decide_eq_true (by assumption) | (simp (disch := first | decide | omega) only [if_pos_d, if_neg_d, decide_eq_true_eq, Bool.not_eq_true', decide_eq_false_iff_not]; omega), ?_⟩ | refine .inr ⟨by first | rfl | exact decide_eq_false (by omega) | exact decide_eq_false (by assumption) | (simp (disch := first | decide | omega) only [if_pos_d, if_neg_d, decide_eq_true_eq, Bool.not_eq_true', decide_eq_false_iff_not]; omega), ?_⟩
          (repeat (first | apply aw_seq | apply aw_block | apply aw_skip | apply aw_label | apply aw_exit | ((first | refine aw_region (hideO fun QQ hQQ => ?_) | refine aw_draw mixed (hideD fun QQ hQQ => ?_)); simp (maxSteps := 400000) (disch := first | decide | omega) only [e3, ej, go_sem, ↓reduceIte]; try (first | with_reducible refine unhide hQQ ?_ | refine ⟨by kernel_rfl, unhide hQQ ?_⟩); clear hQQ QQ) | with_reducible first | apply then_n | apply block_n | apply then_x | apply then_r | apply nog_n | apply nog_r | apply block_r | apply block_e (by decide) | apply block_x (by decide)))
          refine aw_cond2 (by simp (disch := first | decide | omega) only [e3, ej, go_sem, ↓reduceIte]; rfl) ?_; first | refine .inl ⟨by first | rfl | exact decide_eq_true (by omega) | exact decide_eq_true (by assumption) | (simp (disch := first | decide | omega) only [if_pos_d, if_neg_d, decide_eq_true_eq, Bool.not_eq_true', decide_eq_false_iff_not]; omega), ?_⟩ | refine .inr ⟨by first | rfl | exact decide_eq_false (by omega) | exact decide_eq_false (by assumption) | (simp (disch := first | decide | omega) only [if_pos_d, if_neg_d, decide_eq_true_eq, Bool.not_eq_true', decide_eq_false_iff_not]; omega), ?_⟩
          (repeat (first | apply aw_seq | apply aw_block | apply aw_skip | apply aw_label | apply aw_exit | ((first | refine aw_region (hideO fun QQ hQQ => ?_) | refine aw_draw mixed (hideD fun QQ hQQ => ?_)); simp (maxSteps := 400000) (disch := first | decide | omega) only [e3, ej, go_sem, ↓reduceIte]; try (first | with_reducible refine unhide hQQ ?_ | refine ⟨by kernel_rfl, unhide hQQ ?_⟩); clear hQQ QQ) | with_reducible first | apply then_n | apply block_n | apply then_x | apply then_r | apply nog_n | apply nog_r | apply block_r | apply block_e (by decide) | apply block_x (by decide)))
          refine aw_cond2 (by simp (disch := first | decide | omega) only [e3, ej, go_sem, ↓reduceIte]; rfl) ?_; first | refine .inl ⟨by first | rfl | exact decide_eq_true (by omega) | exact decide_eq_true (by assumption) | (simp (disch := first | decide | omega) only [if_pos_d, if_neg_d, decide_eq_true_eq, Bool.not_eq_true', decide_eq_false_iff_not]; omega), ?_⟩ | refine .inr ⟨by first | rfl | exact decide_eq_false (by omega) | exact decide_eq_false (by assumption) | (simp (disch := first | decide | omega) only [if_pos_d, if_neg_d, decide_eq_true_eq, Bool.not_eq_true', decide_eq_false_iff_not]; omega), ?_⟩
          (repeat (first | apply aw_seq | apply aw_block | apply aw_skip | apply aw_label | apply aw_exit | ((first | refine aw_region (hideO fun QQ hQQ => ?_) | refine aw_draw mixed (hideD fun QQ hQQ => ?_)); simp (maxSteps := 400000) (disch := first | decide | omega) only [e3, ej, go_sem, ↓reduceIte]; try (first | with_reducible refine unhide hQQ ?_ | refine ⟨by kernel_rfl, unhide hQQ ?_⟩); clear hQQ QQ) | with_reducible first | apply then_n | apply block_n | apply then_x | apply then_r | apply nog_n | apply nog_r | apply block_r | apply block_e (by decide) | apply block_x (by decide)))
          refine aw_cond2 (by simp (disch := first | decide | omega) only [e3, ej, go_sem, ↓reduceIte]; rfl) ?_; first | refine .inl ⟨by first | rfl | exact decide_eq_true (by omega) | exact decide_eq_true (by assumption) | (simp (disch := first | decide | omega) only [if_pos_d, if_neg_d, decide_eq_true_eq, Bool.not_eq_true', decide_eq_false_iff_not]; omega), ?_⟩ | refine .inr ⟨by first | rfl | exact decide_eq_false (by omega) | exact decide_eq_false (by assumption) | (simp (disch := first | decide | omega) only [if_pos_d, if_neg_d, decide_eq_true_eq, Bool.not_eq_true', decide_eq_false_iff_not]; omega), ?_⟩
          (repeat (first | apply aw_seq | apply aw_block | apply aw_skip | apply aw_label | apply aw_exit | ((first | refine aw_region (hideO fun QQ hQQ => ?_) | refine aw_draw mixed (hideD fun QQ hQQ => ?_)); simp (maxSteps := 400000) (disch := first | decide | omega) only [e3, ej, go_sem, ↓reduceIte]; try (first | with_reducible refine unhide hQQ ?_ | refine ⟨by kernel_rfl, unhide hQQ ?_⟩); clear hQQ QQ) | with_reducible first | apply then_n | apply block_n | apply then_x | apply then_r | apply nog_n | apply nog_r | apply block_r | apply block_e (by decide) | apply block_x (by decide)))
          refine ⟨⟨P ++ [v], by simp; omega, hnew v (by omega) (by omega) rfl⟩, ?_, weak_round ?_ (by first | rfl | (simp only [e3, ej, go_sem, ↓reduceIte]))⟩
          rotate_left
          · simp only [ov, ovL]
            simp only [e3, ej, go_sem, ↓reduceIte]
            all_goals (try simp [shR, row1, ← e3])
            all_goals (try omega)
          · simp; omega
    · subst e1
      have b3 := bY j (by omega)
      unfold xF at b3
      have hyj : j < Y.length := by omega
      have ej : ((j + 1 : Nat) : Int) - 1 = (j : Int) := by omega
      unfold xF at b1
      by_cases hv0 : v < 0
      · as_aux_lemma =>
          (repeat (first | apply aw_seq | apply aw_block | apply aw_skip | apply aw_label | apply aw_exit | ((first | refine aw_region (hideO fun QQ hQQ => ?_) | refine aw_draw mixed (hideD fun QQ hQQ => ?_)); simp (maxSteps := 400000) (disch := first | decide | omega) only [e3, ej, go_sem, ↓reduceIte]; try (first | with_reducible refine unhide hQQ ?_ | refine ⟨by kernel_rfl, unhide hQQ ?_⟩); clear hQQ QQ) | with_reducible first | apply then_n | apply block_n | apply then_x | apply then_r | apply nog_n | apply nog_r | apply block_r | apply block_e (by decide) | apply block_x (by decide)))
          refine aw_cond2 (by simp (disch := first | decide | omega) only [e3, ej, go_sem, ↓reduceIte]; rfl) ?_; first | refine .inl ⟨by first | rfl | exact decide_eq_true (by omega) | exact decide_eq_true (by assumption) | (simp (disch := first | decide | omega) only [if_pos_d, if_neg_d, decide_eq_true_eq, Bool.not_eq_true', decide_eq_false_iff_not]; omega), ?_⟩ | refine .inr ⟨by first | rfl | exact decide_eq_false (by omega) | exact decide_eq_false (by assumption) | (simp (disch := first | decide | omega) only [if_pos_d, if_neg_d, decide_eq_true_eq, Bool.not_eq_true', decide_eq_false_iff_not]; omega), ?_⟩
          (repeat (first | apply aw_seq | apply aw_block | apply aw_skip | apply aw_label | apply aw_exit | ((first | refine aw_region (hideO fun QQ hQQ => ?_) | refine aw_draw mixed (hideD fun QQ hQQ => ?_)); simp (maxSteps := 400000) (disch := first | decide | omega) only [e3, ej, go_sem, ↓reduceIte]; try (first | with_reducible refine unhide hQQ ?_ | refine ⟨by kernel_rfl, unhide hQQ ?_⟩); clear hQQ QQ) | with_reducible first | apply then_n | apply block_n | apply then_x | apply then_r | apply nog_n | apply nog_r | apply block_r | apply block_e (by decide) | apply block_x (by decide)))
          refine aw_cond2 (by simp (disch := first | decide | omega) only [e3, ej, go_sem, ↓reduceIte]; rfl) ?_; first | refine .inl ⟨by first | rfl | exact decide_eq_true (by omega) | exact decide_eq_true (by assumption) | (simp (disch := first | decide | omega) only [if_pos_d, if_neg_d, decide_eq_true_eq, Bool.not_eq_true', decide_eq_false_iff_not]; omega), ?_⟩ | refine .inr ⟨by first | rfl | exact decide_eq_false (by omega) | exact decide_eq_false (by assumption) | (simp (disch := first | decide | omega) only [if_pos_d, if_neg_d, decide_eq_true_eq, Bool.not_eq_true', decide_eq_false_iff_not]; omega), ?_⟩
          (repeat (first | apply aw_seq | apply aw_block | apply aw_skip | apply aw_label | apply aw_exit | ((first | refine aw_region (hideO fun QQ hQQ => ?_) | refine aw_draw mixed (hideD fun QQ hQQ => ?_)); simp (maxSteps := 400000) (disch := first | decide | omega) only [e3, ej, go_sem, ↓reduceIte]; try (first | with_reducible refine unhide hQQ ?_ | refine ⟨by kernel_rfl, unhide hQQ ?_⟩); clear hQQ QQ) | with_reducible first | apply then_n | apply block_n | apply then_x | apply then_r | apply nog_n | apply nog_r | apply block_r | apply block_e (by decide) | apply block_x (by decide)))
          refine aw_cond2 (by simp (disch := first | decide | omega) only [e3, ej, go_sem, ↓reduceIte]; rfl) ?_; first | refine .inl ⟨by first | rfl | exact decide_eq_true (by omega) | exact decide_eq_true (by assumption) | (simp (disch := first | decide | omega) only [if_pos_d, if_neg_d, decide_eq_true_eq, Bool.not_eq_true', decide_eq_false_iff_not]; omega), ?_⟩ | refine .inr ⟨by first | rfl | exact decide_eq_false (by omega) | exact decide_eq_false (by assumption) | (simp (disch := first | decide | omega) only [if_pos_d, if_neg_d, decide_eq_true_eq, Bool.not_eq_true', decide_eq_false_iff_not]; omega), ?_⟩
          (repeat (first | apply aw_seq | apply aw_block | apply aw_skip | apply aw_label | apply aw_exit | ((first | refine aw_region (hideO fun QQ hQQ => ?_) | refine aw_draw mixed (hideD fun QQ hQQ => ?_)); simp (maxSteps := 400000) (disch := first | decide | omega) only [e3, ej, go_sem, ↓reduceIte]; try (first | with_reducible refine unhide hQQ ?_ | refine ⟨by kernel_rfl, unhide hQQ ?_⟩); clear hQQ QQ) | with_reducible first | apply then_n | apply block_n | apply then_x | apply then_r | apply nog_n | apply nog_r | apply block_r | apply block_e (by decide) | apply block_x (by decide)))
          refine aw_cond2 (by simp (disch := first | decide | omega) only [e3, ej, go_sem, ↓reduceIte]; rfl) ?_; first | refine .inl ⟨by first | rfl | exact decide_eq_true (by omega) | exact decide_eq_true (by assumption) | (simp (disch := first | decide | omega) only [if_pos_d, if_neg_d, decide_eq_true_eq, Bool.not_eq_true', decide_eq_false_iff_not]; omega), ?_⟩ | refine .inr ⟨by first | rfl | exact decide_eq_false (by omega) | exact decide_eq_false (by assumption) | (simp (disch := first | decide | omega) only [if_pos_d, if_neg_d, decide_eq_true_eq, Bool.not_eq_true', decide_eq_false_iff_not]; omega), ?_⟩
          (repeat (first | apply aw_seq | apply aw_block | apply aw_skip | apply aw_label | apply aw_exit | ((first | refine aw_region (hideO fun QQ hQQ => ?_) | refine aw_draw mixed (hideD fun QQ hQQ => ?_)); simp (maxSteps := 400000) (disch := first | decide | omega) only [e3, ej, go_sem, ↓reduceIte]; try (first | with_reducible refine unhide hQQ ?_ | refine ⟨by kernel_rfl, unhide hQQ ?_⟩); clear hQQ QQ) | with_reducible first | apply then_n | apply block_n | apply then_x | apply then_r | apply nog_n | apply nog_r | apply block_r | apply block_e (by decide) | apply block_x (by decide)))
          (refine aw_ret ⟨.inr rfl, _, by (simp (maxSteps := 400000) (disch := first | decide | omega) only [e3, ej, go_sem, ↓reduceIte]; try rfl), by (simp (maxSteps := 400000) (disch := first | decide | omega) only [e3, ej, go_sem, ↓reduceIte]; try rfl), ?_⟩); simp (maxSteps := 400000) (disch := first | decide | omega) only [e3, ej, go_sem, ↓reduceIte]; (try (with_reducible refine unhide hQQ ?_; clear hQQ QQ; (repeat with_reducible first | apply then_n | apply block_n | apply then_x | apply then_r | apply nog_n | apply nog_r | apply block_r | apply block_e (by decide) | apply block_x (by decide))))
          (repeat (first | apply aw_seq | apply aw_block | apply aw_skip | apply aw_label | apply aw_exit | ((first | refine aw_region (hideO fun QQ hQQ => ?_) | refine aw_draw mixed (hideD fun QQ hQQ => ?_)); simp (maxSteps := 400000) (disch := first | decide | omega) only [e3, ej, go_sem, ↓reduceIte]; try (first | with_reducible refine unhide hQQ ?_ | refine ⟨by kernel_rfl, unhide hQQ ?_⟩); clear hQQ QQ) | with_reducible first | apply then_n | apply block_n | apply then_x | apply then_r | apply nog_n | apply nog_r | apply block_r | apply block_e (by decide) | apply block_x (by decide)))
          refine aw_cond2 (by simp (disch := first | decide | omega) only [e3, ej, go_sem, ↓reduceIte]; rfl) ?_; first | refine .inl ⟨by first | rfl | exact decide_eq_true (by omega) | exact decide_eq_true (by assumption) | (simp (disch := first | decide | omega) only [if_pos_d, if_neg_d, decide_eq_true_eq, Bool.not_eq_true', decide_eq_false_iff_not]; omega), ?_⟩ | refine .inr ⟨by first | rfl | exact decide_eq_false (by omega) | exact decide_eq_false (by assumption) | (simp (disch := first | decide | omega) only [if_pos_d, if_neg_d, decide_eq_true_eq, Bool.not_eq_true', decide_eq_false_iff_not]; omega), ?_⟩
          (repeat (first | apply aw_seq | apply aw_block | apply aw_skip | apply aw_label | apply aw_exit | ((first | refine aw_region (hideO fun QQ hQQ => ?_) | refine aw_draw mixed (hideD fun QQ hQQ => ?_)); simp (maxSteps := 400000) (disch := first | decide | omega) only [e3, ej, go_sem, ↓reduceIte]; try (first | with_reducible refine unhide hQQ ?_ | refine ⟨by kernel_rfl, unhide hQQ ?_⟩); clear hQQ QQ) | with_reducible first | apply then_n | apply block_n | apply then_x | apply then_r | apply nog_n | apply nog_r | apply block_r | apply block_e (by decide) | apply block_x (by decide)))
          ((refine callO_ok rfl rfl 13 true rfl (by simp (disch := first | decide | omega) only [e3, ej, go_sem, ↓reduceIte]; try rfl) (fun _ => rfl) (hal) Try.func13 rfl (by decide) ?_); simp (maxSteps := 400000) (disch := first | decide | omega) only [e3, ej, go_sem, ↓reduceIte]; try (with_reducible refine unhide hQQ ?_; clear hQQ QQ)); (repeat (first | apply aw_seq | apply aw_block | apply aw_skip | apply aw_label | apply aw_exit | ((first | refine aw_region (hideO fun QQ hQQ => ?_) | refine aw_draw mixed (hideD fun QQ hQQ => ?_)); simp (maxSteps := 400000) (disch := first | decide | omega) only [e3, ej, go_sem, ↓reduceIte]; try (first | with_reducible refine unhide hQQ ?_ | refine ⟨by kernel_rfl, unhide hQQ ?_⟩); clear hQQ QQ) | with_reducible first | apply then_n | apply block_n | apply then_x | apply then_r | apply nog_n | apply nog_r | apply block_r | apply block_e (by decide) | apply block_x (by decide)))
          refine aw_ret ?_; refine ⟨.inr rfl, ?_⟩; simp only [resA, res1, go_sem, ↓reduceIte]
      · as_aux_lemma =>
          (repeat (first | apply aw_seq | apply aw_block | apply aw_skip | apply aw_label | apply aw_exit | ((first | refine aw_region (hideO fun QQ hQQ => ?_) | refine aw_draw mixed (hideD fun QQ hQQ => ?_)); simp (maxSteps := 400000) (disch := first | decide | omega) only [e3, ej, go_sem, ↓reduceIte]; try (first | with_reducible refine unhide hQQ ?_ | refine ⟨by kernel_rfl, unhide hQQ ?_⟩); clear hQQ QQ) | with_reducible first | apply then_n | apply block_n | apply then_x | apply then_r | apply nog_n | apply nog_r | apply block_r | apply block_e (by decide) | apply block_x (by decide)))
          refine aw_cond2 (by simp (disch := first | decide | omega) only [e3, ej, go_sem, ↓reduceIte]; rfl) ?_; first | refine .inl ⟨by first | rfl | exact decide_eq_true (by omega) | exact decide_eq_true (by assumption) | (simp (disch := first | decide | omega) only [if_pos_d, if_neg_d, decide_eq_true_eq, Bool.not_eq_true', decide_eq_false_iff_not]; omega), ?_⟩ | refine .inr ⟨by first | rfl | exact decide_eq_false (by omega) | exact decide_eq_false (by assumption) | (simp (disch := first | decide | omega) only [if_pos_d, if_neg_d, decide_eq_true_eq, Bool.not_eq_true', decide_eq_false_iff_not]; omega), ?_⟩
          (repeat (first | apply aw_seq | apply aw_block | apply aw_skip | apply aw_label | apply aw_exit | ((first | refine aw_region (hideO fun QQ hQQ => ?_) | refine aw_draw mixed (hideD fun QQ hQQ => ?_)); simp (maxSteps := 400000) (disch := first | decide | omega) only [e3, ej, go_sem, ↓reduceIte]; try (first | with_reducible refine unhide hQQ ?_ | refine ⟨by kernel_rfl, unhide hQQ ?_⟩); clear hQQ QQ) | with_reducible first | apply then_n | apply block_n | apply then_x | apply then_r | apply nog_n | apply nog_r | apply block_r | apply block_e (by decide) | apply block_x (by decide)))
          refine aw_cond2 (by simp (disch := first | decide | omega) only [e3, ej, go_sem, ↓reduceIte]; rfl) ?_; first | refine .inl ⟨by first | rfl | exact decide_eq_true (by omega) | exact decide_eq_true (by assumption) | (simp (disch := first | decide | omega) only [if_pos_d, if_neg_d, decide_eq_true_eq, Bool.not_eq_true', decide_eq_false_iff_not]; omega), ?_⟩ | refine .inr ⟨by first | rfl | exact decide_eq_false (by omega) | exact decide_eq_false (by assumption) | (simp (disch := first | decide | omega) only [if_pos_d, if_neg_d, decide_eq_true_eq, Bool.not_eq_true', decide_eq_false_iff_not]; omega), ?_⟩
          (repeat (first | apply aw_seq | apply aw_block | apply aw_skip | apply aw_label | apply aw_exit | ((first | refine aw_region (hideO fun QQ hQQ => ?_) | refine aw_draw mixed (hideD fun QQ hQQ => ?_)); simp (maxSteps := 400000) (disch := first | decide | omega) only [e3, ej, go_sem, ↓reduceIte]; try (first | with_reducible refine unhide hQQ ?_ | refine ⟨by kernel_rfl, unhide hQQ ?_⟩); clear hQQ QQ) | with_reducible first | apply then_n | apply block_n | apply then_x | apply then_r | apply nog_n | apply nog_r | apply block_r | apply block_e (by decide) | apply block_x (by decide)))
          refine aw_cond2 (by simp (disch := first | decide | omega) only [e3, ej, go_sem, ↓reduceIte]; rfl) ?_; first | refine .inl ⟨by first | rfl | exact decide_eq_true (by omega) | exact decide_eq_true (by assumption) | (simp (disch := first | decide | omega) only [if_pos_d, if_neg_d, decide_eq_true_eq, Bool.not_eq_true', decide_eq_false_iff_not]; omega), ?_⟩ | refine .inr ⟨by first | rfl | exact decide_eq_false (by omega) | exact decide_eq_false (by assumption) | (simp (disch := first | decide | omega) only [if_pos_d, if_neg_d, decide_eq_true_eq, Bool.not_eq_true', decide_eq_false_iff_not]; omega), ?_⟩
          (repeat (first | apply aw_seq | apply aw_block | apply aw_skip | apply aw_label | apply aw_exit | ((first | refine aw_region (hideO fun QQ hQQ => ?_) | refine aw_draw mixed (hideD fun QQ hQQ => ?_)); simp (maxSteps := 400000) (disch := first | decide | omega) only [e3, ej, go_sem, ↓reduceIte]; try (first | with_reducible refine unhide hQQ ?_ | refine ⟨by kernel_rfl, unhide hQQ ?_⟩); clear hQQ QQ) | with_reducible first | apply then_n | apply block_n | apply then_x | apply then_r | apply nog_n | apply nog_r | apply block_r | apply block_e (by decide) | apply block_x (by decide)))
          refine aw_cond2 (by simp (disch := first | decide | omega) only [e3, ej, go_sem, ↓reduceIte]; rfl) ?_; first | refine .inl ⟨by first | rfl | exact decide_eq_true (by omega) | exact decide_eq_true (by assumption) | (simp (disch := first | decide | omega) only [if_pos_d, if_neg_d, decide_eq_true_eq, Bool.not_eq_true', decide_eq_false_iff_not]; omega), ?_⟩ | refine .inr ⟨by first | rfl | exact decide_eq_false (by omega) | exact decide_eq_false (by assumption) | (simp (disch := first | decide | omega) only [if_pos_d, if_neg_d, decide_eq_true_eq, Bool.not_eq_true', decide_eq_false_iff_not]; omega), ?_⟩
          (repeat (first | apply aw_seq | apply aw_block | apply aw_skip | apply aw_label | apply aw_exit | ((first | refine aw_region (hideO fun QQ hQQ => ?_) | refine aw_draw mixed (hideD fun QQ hQQ => ?_)); simp (maxSteps := 400000) (disch := first | decide | omega) only [e3, ej, go_sem, ↓reduceIte]; try (first | with_reducible refine unhide hQQ ?_ | refine ⟨by kernel_rfl, unhide hQQ ?_⟩); clear hQQ QQ) | with_reducible first | apply then_n | apply block_n | apply then_x | apply then_r | apply nog_n | apply nog_r | apply block_r | apply block_e (by decide) | apply block_x (by decide)))
          refine ⟨⟨P ++ [v], by simp; omega, hnew v (by omega) (by omega) rfl⟩, ?_, weak_round ?_ (by first | rfl | (simp only [e3, ej, go_sem, ↓reduceIte]))⟩
          rotate_left
          · simp only [ov, ovL]
            simp only [e3, ej, go_sem, ↓reduceIte]
            all_goals (try simp [shR, row1, ← e3])
            all_goals (try omega)
          · simp; omega
  have hPN : P.length = N := by omega
  refine tw ?_; try with_reducible intro QQ hQQ
  refine ti ?_; try clear hQQ QQ
  refine tw ?_; try with_reducible intro QQ hQQ
  (refine aw_ret ⟨.inr rfl, _, by (simp (maxSteps := 400000) (disch := first | decide | omega) only [go_sem, ↓reduceIte]; try rfl), by (simp (maxSteps := 400000) (disch := first | decide | omega) only [go_sem, ↓reduceIte]; try rfl), ?_⟩); refine ts ?_; try clear hQQ QQ
  refine tw ?_; try with_reducible intro QQ hQQ
  refine ti ?_; try clear hQQ QQ
  refine tw ?_; try with_reducible intro QQ hQQ
  refine aw_weak (weak_ownB 9 3 29 4 (by simp (disch := first | decide | omega) only [go_sem, ↓reduceIte]; rfl) rfl) ?_
  simp only [AL.set, List.set]
  refine aw_weak (weak_keep [2, 3, 4, 9, 10, 11, 12, 14, 71, 72, 73] (by simp only [go_sem, ↓reduceIte]; rfl)) ?_
  rw [take_map1 X, take_map1 Y, take_map1 P]
  have bX2 : ∀ i, 0 ≤ X.getD i 0 ∧ X.getD i 0 ≤ 100 := fun i => by have := bX i; unfold xF at this; omega
  have hsame : ∀ c, isCallB N c = true → cntL X P c = cntT N (xF X) (xF Y) c ∧ 0 ≤ cntL X P c ∧ cntL X P c ≤ 300 := fun c hc => by
    have hcc := call_of hc
    unfold cntL cntT
    rcases hcc.1 with h2 | ⟨h2 | h2, h3⟩
    · rw [if_neg (by omega), if_neg (by omega), if_neg (by omega), if_neg (by omega), hXN]
      have := sum_bd (n := N) (most := 60) (x := fun i => X.getD i 0) fun k _ => bX k
      exact ⟨rfl, by omega, by omega⟩
    · rw [if_pos h2, if_pos h2]
      have := bX c.2.1.toNat
      unfold xF at this ⊢
      exact ⟨rfl, by omega, by omega⟩
    · rw [if_neg (by omega), if_pos h2, if_neg (by omega), if_pos h2]
      have := hP c.2.1.toNat (by omega)
      unfold xF at this ⊢
      exact ⟨this.1, by omega, by omega⟩
  refine aw_loop_ov (ι := { q : List (Int × Int × Int × Int) // q.length ≤ calls.length ∧ ∀ c ∈ q, isCallB N c = true ∧ inC N (xF X) (xF Y) c }) (fun q => [(73, iA q.1.length)]) (fun q => [(9, .box [.p (iP N), .p (iP most), .p (.sl (strays.map row2)), .own 10 q.1.length]), (10, .arr 29 4 (q.1.map row4) true), (3, .box [.p (iP ((X.length + Y.length + q.1.length : Nat) : Int))])]) (fun q => calls.length - q.1.length) ⟨[], by simp, by simp⟩ (by first | rfl | (simp only [go_sem, ↓reduceIte]; first | done | rfl | (simp; try rfl))) ?_
  rintro ⟨q, hql, hq⟩
  simp (disch := decide) only [ov, ovL, AL.get_nil, AL.get_eq, AL.get_ne, Option.getD_some, Option.getD_none]
  try dsimp only at hql hq ⊢
  by_cases hqc : q.length < calls.length
  · as_aux_lemma =>
      obtain ⟨⟨ck, cat, clo, chi⟩, hc⟩ : ∃ c, calls.getD q.length (0, 0, 0, 0) = c := ⟨_, rfl⟩
      have hcb := h.ca q.length hqc
      rw [hc] at hcb
      have hcc := call_of hcb
      dsimp only at hcc
      have hsm := hsame _ hcb
      have hcnt := ok_counted hXN hPN n5 bX2 (ck, cat, clo, chi) hcb
      simp only [row4] at hcnt
      generalize hmm : cntL X P (ck, cat, clo, chi) = m at hcnt hsm
      obtain ⟨wd, hwd⟩ : ∃ wd, min 20 (chi - clo) = wd := ⟨_, rfl⟩
      have hwb : 0 ≤ wd ∧ wd ≤ 20 := by omega
      have sw := ok_span31 0 wd
      (repeat (first | apply aw_seq | apply aw_block | apply aw_skip | apply aw_label | apply aw_exit | ((first | refine aw_region (hideO fun QQ hQQ => ?_) | refine aw_draw mixed (hideD fun QQ hQQ => ?_)); simp (maxSteps := 400000) (disch := first | decide | omega) only [hc, hwd, go_sem, ↓reduceIte]; try (first | with_reducible refine unhide hQQ ?_ | refine ⟨by kernel_rfl, unhide hQQ ?_⟩); clear hQQ QQ) | with_reducible first | apply then_n | apply block_n | apply then_x | apply then_r | apply nog_n | apply nog_r | apply block_r | apply block_e (by decide) | apply block_x (by decide)))
      refine aw_cond2 (by simp (disch := first | decide | omega) only [hc, hwd, go_sem, ↓reduceIte]; rfl) ?_; first | refine .inl ⟨by first | rfl | exact decide_eq_true (by omega) | exact decide_eq_true (by assumption) | (simp (disch := first | decide | omega) only [if_pos_d, if_neg_d, decide_eq_true_eq, Bool.not_eq_true', decide_eq_false_iff_not]; omega), ?_⟩ | refine .inr ⟨by first | rfl | exact decide_eq_false (by omega) | exact decide_eq_false (by assumption) | (simp (disch := first | decide | omega) only [if_pos_d, if_neg_d, decide_eq_true_eq, Bool.not_eq_true', decide_eq_false_iff_not]; omega), ?_⟩
      (repeat (first | apply aw_seq | apply aw_block | apply aw_skip | apply aw_label | apply aw_exit | ((first | refine aw_region (hideO fun QQ hQQ => ?_) | refine aw_draw mixed (hideD fun QQ hQQ => ?_)); simp (maxSteps := 400000) (disch := first | decide | omega) only [hc, hwd, go_sem, ↓reduceIte]; try (first | with_reducible refine unhide hQQ ?_ | refine ⟨by kernel_rfl, unhide hQQ ?_⟩); clear hQQ QQ) | with_reducible first | apply then_n | apply block_n | apply then_x | apply then_r | apply nog_n | apply nog_r | apply block_r | apply block_e (by decide) | apply block_x (by decide)))
      ((refine callO_ok rfl rfl 39 true rfl (by simp (disch := first | decide | omega) only [hc, hwd, go_sem, ↓reduceIte]; try rfl) (fun _ => rfl) (hcnt) Try.func39 rfl (by decide) ?_); simp (maxSteps := 400000) (disch := first | decide | omega) only [hc, hwd, go_sem, ↓reduceIte]; try (with_reducible refine unhide hQQ ?_; clear hQQ QQ)); (repeat (first | apply aw_seq | apply aw_block | apply aw_skip | apply aw_label | apply aw_exit | ((first | refine aw_region (hideO fun QQ hQQ => ?_) | refine aw_draw mixed (hideD fun QQ hQQ => ?_)); simp (maxSteps := 400000) (disch := first | decide | omega) only [hc, hwd, go_sem, ↓reduceIte]; try (first | with_reducible refine unhide hQQ ?_ | refine ⟨by kernel_rfl, unhide hQQ ?_⟩); clear hQQ QQ) | with_reducible first | apply then_n | apply block_n | apply then_x | apply then_r | apply nog_n | apply nog_r | apply block_r | apply block_e (by decide) | apply block_x (by decide)))
      (refine callO_ok rfl rfl 31 true rfl (by simp (disch := first | decide | omega) only [hc, hwd, go_sem, ↓reduceIte]; try rfl) (fun _ => rfl) (sw) Try.func31 rfl (by decide) ?_); simp (maxSteps := 400000) (disch := first | decide | omega) only [hc, hwd, go_sem, ↓reduceIte]; (try (with_reducible refine unhide hQQ ?_; clear hQQ QQ; (repeat with_reducible first | apply then_n | apply block_n | apply then_x | apply then_r | apply nog_n | apply nog_r | apply block_r | apply block_e (by decide) | apply block_x (by decide))))
      refine callS_ok rfl rfl 95 (by simp (disch := first | decide | omega) only [hc, hwd, go_sem, ↓reduceIte]; try rfl) (by simp (disch := first | decide | omega) only [hc, hwd, go_sem, ↓reduceIte]; try rfl) Try.func95 rfl (by decide) ((c_draw (A := 3) (B := 2) (a := X.length + Y.length + q.length) (by_ := by_) (by omega) hby 0 wd (by omega) (by omega) (by omega) ?_ ?_ (by decide)).mono ?_)
      · simp (disch := first | decide | omega) only [hc, hwd, go_sem, ↓reduceIte]; try rfl
      · simp (disch := first | decide | omega) only [hc, hwd, go_sem, ↓reduceIte]; try rfl
      rintro _ _ ⟨d, hd1, hd2, rfl, rfl⟩
      obtain ⟨lo', hlo⟩ : ∃ x, max 0 (m - d) = x := ⟨_, rfl⟩
      obtain ⟨hi', hhi⟩ : ∃ x, min 300 (m + wd) = x := ⟨_, rfl⟩
      have sp := ok_span31 lo' hi'
      (simp (maxSteps := 400000) (disch := first | decide | omega) only [hc, hwd, hlo, hhi, go_sem, ↓reduceIte]; (try (with_reducible refine unhide hQQ ?_; clear hQQ QQ; (repeat with_reducible first | apply then_n | apply block_n | apply then_x | apply then_r | apply nog_n | apply nog_r | apply block_r | apply block_e (by decide) | apply block_x (by decide)))))
      ((refine callO_ok rfl rfl 31 true rfl (by simp (disch := first | decide | omega) only [hc, hwd, hlo, hhi, go_sem, ↓reduceIte]; try rfl) (fun _ => rfl) (sp) Try.func31 rfl (by decide) ?_); simp (maxSteps := 400000) (disch := first | decide | omega) only [hc, hwd, hlo, hhi, go_sem, ↓reduceIte]; try (with_reducible refine unhide hQQ ?_; clear hQQ QQ)); (repeat (first | apply aw_seq | apply aw_block | apply aw_skip | apply aw_label | apply aw_exit | ((first | refine aw_region (hideO fun QQ hQQ => ?_) | refine aw_draw mixed (hideD fun QQ hQQ => ?_)); simp (maxSteps := 400000) (disch := first | decide | omega) only [hc, hwd, hlo, hhi, go_sem, ↓reduceIte]; try (first | with_reducible refine unhide hQQ ?_ | refine ⟨by kernel_rfl, unhide hQQ ?_⟩); clear hQQ QQ) | with_reducible first | apply then_n | apply block_n | apply then_x | apply then_r | apply nog_n | apply nog_r | apply block_r | apply block_e (by decide) | apply block_x (by decide)))
      refine ⟨⟨q ++ [(ck, cat, lo', hi')], by simp; omega, fun c hcm => ?_⟩, ?_, weak_round ?_ (by first | rfl | (simp only [hc, hwd, hlo, hhi, go_sem, ↓reduceIte]))⟩
      · rcases List.mem_append.1 hcm with hcm | hcm
        · exact hq c hcm
        · rw [List.mem_singleton.1 hcm]
          refine ⟨?_, ?_⟩
          · have hkat := hcb
            simp only [isCallB, Bool.and_eq_true] at hkat ⊢
            refine ⟨hkat.1, ?_⟩
            simp only [spanB, Bool.and_eq_true, decide_eq_true_eq]
            omega
          · unfold inC
            have : cntT N (xF X) (xF Y) (ck, cat, lo', hi') = m := hsm.1.symm
            rw [this]
            dsimp only
            omega
      rotate_left
      · simp only [ov, ovL]
        simp only [hc, hwd, hlo, hhi, go_sem, ↓reduceIte]
        all_goals (try simp [row4, Nat.add_assoc])
        all_goals (try omega)
      · simp; omega
  refine tw ?_; try with_reducible intro QQ hQQ
  refine ti ?_; try clear hQQ QQ
  (refine aw_exit ?_); (repeat with_reducible first | apply then_n | apply block_n | apply then_x | apply then_r | apply nog_n | apply nog_r | apply block_r | apply block_e (by decide) | apply block_x (by decide))
  refine aw_weak (weak_round (T := ⟨[(2, .one (.p (.v (.int .u8 a)))), (3, .one (.p (.v (.int .u8 b)))), (4, .one (.box 0 0)), (10, .one (.p (.sl (X.map row1)))), (11, .one (.p (.sl (Y.map row1)))), (12, .one (.p (.sl (P.map row1)))), (14, .one (.box 9 0))], [(0, .box [.p (iP N), .p (iP most), .p (.sl (strays.map row2)), .p (.sl (calls.map row4))]), (9, .box [.p (iP N), .p (iP most), .p (.sl (strays.map row2)), .own 10 q.length]), (10, .arr 29 4 (q.map row4) true)], 11⟩) (by simp only [go_sem, ↓reduceIte]; first | done | rfl) (by first | rfl | (simp only [go_sem, ↓reduceIte]))) ?_
  exact true_tail a b ha hb h hXN hX bX (by omega) hY hPN hP hql hq Z w0
end
end Go.Proofs.Ytejbglbiefpagaa
