/- THE LAW TallyMore, walked. -/
import Derived.Test.YtejbglbiefpagaaTyXa
set_option linter.all false
namespace Go.Proofs.Ytejbglbiefpagaa
open Go Go.RowKit Go.Sh Go.Pv
set_option maxHeartbeats 8000000
set_option maxRecDepth 8000
set_option pp.maxSteps 60000
section
variable {n most : Int} {strays : List (Int × Int)} {calls : List (Int × Int × Int × Int)}
attribute [local go_sem] eql4 neq4 bne_tf bne_ft beq_tf beq_ft conv5' span_eql span_neq call_neq bin_rem min_eq max_eq row4 get_some4 rowsK_r4 rowsK_r1 rowsK_r2 rowsK_nil' rowsK_cons' not_isEmpty_nil Bool.false_or
theorem main_more_arg (c : Int × Int × Int × Int) (b : Int) (hlv : longB strays calls = true ∨ validB n most strays calls = false) : FunOK Try.prog 11 [tyR n most strays calls, .agg (row4 c), .one (.v (.int .u8 b))] (.one (.one (.v (.bool true)))) := by
  have hal := ok_alive
  have hl := ok_long n most strays calls
  have ht := ok_Tally36 n most strays calls
  simp only [tyR] at hl ht
  refine fun_ok (nt := 411) (rs := [.tmp 6]) Try.func11 rfl rfl rfl (by simp) fun Z w0 => ?_; simp only [initFr, avR, List.map_cons, List.map_nil]
  simp only [tyR, List.map_cons, List.map_nil, row4]
  cases hlb : longB strays calls
  · have hv : validB n most strays calls = false := by
      rcases hlv with h | h
      · rw [hlb] at h; cases h
      · exact h
    rw [hlb] at hl
    rw [hv] at ht
    refine tw ?_; try with_reducible intro QQ hQQ
    (refine cO 35 rfl rfl rfl (hl) Try.func35 rfl ?_); refine ts ?_; try clear hQQ QQ
    ((refine cO 36 rfl rfl rfl (ht) Try.func36 rfl ?_); refine tu ?_; try clear hQQ QQ); refine tw ?_; try with_reducible intro QQ hQQ
    refine ti ?_; try clear hQQ QQ
    refine tw ?_; try with_reducible intro QQ hQQ
    ((refine cO 13 rfl rfl rfl (hal) Try.func13 rfl ?_); refine tu ?_; try clear hQQ QQ); refine tw ?_; try with_reducible intro QQ hQQ
    refine aw_ret ?_; refine ⟨.inr rfl, ?_⟩; simp only [resA, res1, go_sem, ↓reduceIte]
  · rw [hlb] at hl
    refine tw ?_; try with_reducible intro QQ hQQ
    ((refine cO 35 rfl rfl rfl (hl) Try.func35 rfl ?_); refine tu ?_; try clear hQQ QQ); refine tw ?_; try with_reducible intro QQ hQQ
    refine ti ?_; try clear hQQ QQ
    refine tw ?_; try with_reducible intro QQ hQQ
    ((refine cO 13 rfl rfl rfl (hal) Try.func13 rfl ?_); refine tu ?_; try clear hQQ QQ); refine tw ?_; try with_reducible intro QQ hQQ
    refine aw_ret ?_; refine ⟨.inr rfl, ?_⟩; simp only [resA, res1, go_sem, ↓reduceIte]
theorem main_more_ok {N : Nat} (c : Int × Int × Int × Int) (w : Nat) (hw : w < 256) (h : TOK N most strays calls) : FunOK Try.prog 11 [tyR N most strays calls, .agg (row4 c), .one (.v (.int .u8 w))] (.one (.one (.v (.bool true)))) := by
  have hal := ok_alive
  have hl := ok_long N most strays calls
  have ht := ok_Tally36 N most strays calls
  have hlb : longB strays calls = false := by have := h.sl; have := h.n5; have := h.cl; unfold longB; simp; omega
  rw [hlb] at hl
  rw [tok_to h] at ht
  have n1 := h.n1
  have n5 := h.n5
  have hcl := h.cl
  have hsl := h.sl
  have hwi := ok_with (n := N) (most := most) (strays := strays) (calls := calls) c (by omega)
  have hi : w % N < N := Nat.mod_lt _ n1
  have hm := tmod_natX w N
  generalize w % N = i at hi hm
  have hm2 := tmod_natX w calls.length
  obtain ⟨a, b, d, e, few, ws, hh, A⟩ := ans_of h hi
  obtain ⟨ck, cat, clo, chi⟩ := c
  simp only [tyR, row4] at hl ht hwi
  refine fun_ok (nt := 411) (rs := [.tmp 6]) Try.func11 rfl rfl rfl (by simp) fun Z w0 => ?_; simp only [initFr, avR, List.map_cons, List.map_nil]
  simp only [tyR, List.map_cons, List.map_nil, row4]
  (repeat (first | apply aw_seq | apply aw_block | apply aw_skip | apply aw_label | apply aw_exit | ((first | refine aw_region (hideO fun QQ hQQ => ?_) | refine aw_draw mixed (hideD fun QQ hQQ => ?_)); simp (maxSteps := 400000) (disch := first | decide | omega) only [hm, go_sem, ↓reduceIte]; try (first | with_reducible refine unhide hQQ ?_ | refine ⟨by kernel_rfl, unhide hQQ ?_⟩); clear hQQ QQ) | with_reducible first | apply then_n | apply block_n | apply then_x | apply then_r | apply nog_n | apply nog_r | apply block_r | apply block_e (by decide) | apply block_x (by decide)))
  (refine callO_ok rfl rfl 35 true rfl (by simp (disch := first | decide | omega) only [hm, go_sem, ↓reduceIte]; try rfl) (fun _ => rfl) (hl) Try.func35 rfl (by decide) ?_); simp (maxSteps := 400000) (disch := first | decide | omega) only [hm, go_sem, ↓reduceIte]; (try (with_reducible refine unhide hQQ ?_; clear hQQ QQ; (repeat with_reducible first | apply then_n | apply block_n | apply then_x | apply then_r | apply nog_n | apply nog_r | apply block_r | apply block_e (by decide) | apply block_x (by decide))))
  ((refine callO_ok rfl rfl 36 true rfl (by simp (disch := first | decide | omega) only [hm, go_sem, ↓reduceIte]; try rfl) (fun _ => rfl) (ht) Try.func36 rfl (by decide) ?_); simp (maxSteps := 400000) (disch := first | decide | omega) only [hm, go_sem, ↓reduceIte]; try (with_reducible refine unhide hQQ ?_; clear hQQ QQ)); (repeat (first | apply aw_seq | apply aw_block | apply aw_skip | apply aw_label | apply aw_exit | ((first | refine aw_region (hideO fun QQ hQQ => ?_) | refine aw_draw mixed (hideD fun QQ hQQ => ?_)); simp (maxSteps := 400000) (disch := first | decide | omega) only [hm, go_sem, ↓reduceIte]; try (first | with_reducible refine unhide hQQ ?_ | refine ⟨by kernel_rfl, unhide hQQ ?_⟩); clear hQQ QQ) | with_reducible first | apply then_n | apply block_n | apply then_x | apply then_r | apply nog_n | apply nog_r | apply block_r | apply block_e (by decide) | apply block_x (by decide)))
  refine aw_cond2 (by simp (disch := first | decide | omega) only [hm, go_sem, ↓reduceIte]; rfl) ?_; first | refine .inl ⟨by first | rfl | exact decide_eq_true (by omega) | exact decide_eq_true (by assumption) | (simp (disch := first | decide | omega) only [if_pos_d, if_neg_d, decide_eq_true_eq, Bool.not_eq_true', decide_eq_false_iff_not]; omega), ?_⟩ | refine .inr ⟨by first | rfl | exact decide_eq_false (by omega) | exact decide_eq_false (by assumption) | (simp (disch := first | decide | omega) only [if_pos_d, if_neg_d, decide_eq_true_eq, Bool.not_eq_true', decide_eq_false_iff_not]; omega), ?_⟩
  (repeat (first | apply aw_seq | apply aw_block | apply aw_skip | apply aw_label | apply aw_exit | ((first | refine aw_region (hideO fun QQ hQQ => ?_) | refine aw_draw mixed (hideD fun QQ hQQ => ?_)); simp (maxSteps := 400000) (disch := first | decide | omega) only [hm, go_sem, ↓reduceIte]; try (first | with_reducible refine unhide hQQ ?_ | refine ⟨by kernel_rfl, unhide hQQ ?_⟩); clear hQQ QQ) | with_reducible first | apply then_n | apply block_n | apply then_x | apply then_r | apply nog_n | apply nog_r | apply block_r | apply block_e (by decide) | apply block_x (by decide)))
  ((refine callD_ok rfl rfl 41 false rfl (by simp (disch := first | decide | omega) only [hm, go_sem, ↓reduceIte]; try rfl) (fun h => by cases h) (hwi) Try.func41 rfl (by decide) ?_); simp (maxSteps := 400000) (disch := first | decide | omega) only [hm, go_sem, ↓reduceIte]; try (refine ⟨by kernel_rfl, unhide hQQ ?_⟩; clear hQQ QQ)); (repeat (first | apply aw_seq | apply aw_block | apply aw_skip | apply aw_label | apply aw_exit | ((first | refine aw_region (hideO fun QQ hQQ => ?_) | refine aw_draw mixed (hideD fun QQ hQQ => ?_)); simp (maxSteps := 400000) (disch := first | decide | omega) only [hm, go_sem, ↓reduceIte]; try (first | with_reducible refine unhide hQQ ?_ | refine ⟨by kernel_rfl, unhide hQQ ?_⟩); clear hQQ QQ) | with_reducible first | apply then_n | apply block_n | apply then_x | apply then_r | apply nog_n | apply nog_r | apply block_r | apply block_e (by decide) | apply block_x (by decide)))
  refine aw_join_keep (ι := { q : List (Int × Int × Int × Int) // TOK N most strays q ∧ YC calls q }) [3, 7, 8, 9, 10, 11] (by simp only [hm, go_sem, ↓reduceIte]; rfl) (fun _ => []) (fun q => [(5, .arr 29 4 (q.1.map row4) false)]) ?_ ?_
  · by_cases hc0 : calls.length = 0
    · refine aw_cond2 (by simp (disch := first | decide | omega) only [hm, go_sem, ↓reduceIte]; rfl) ?_; first | refine .inl ⟨by first | rfl | exact decide_eq_true (by omega) | exact decide_eq_true (by assumption) | (simp (disch := first | decide | omega) only [if_pos_d, if_neg_d, decide_eq_true_eq, Bool.not_eq_true', decide_eq_false_iff_not]; omega), ?_⟩ | refine .inr ⟨by first | rfl | exact decide_eq_false (by omega) | exact decide_eq_false (by assumption) | (simp (disch := first | decide | omega) only [if_pos_d, if_neg_d, decide_eq_true_eq, Bool.not_eq_true', decide_eq_false_iff_not]; omega), ?_⟩
      (repeat (first | apply aw_seq | apply aw_block | apply aw_skip | apply aw_label | apply aw_exit | ((first | refine aw_region (hideO fun QQ hQQ => ?_) | refine aw_draw mixed (hideD fun QQ hQQ => ?_)); simp (maxSteps := 400000) (disch := first | decide | omega) only [hm, go_sem, ↓reduceIte]; try (first | with_reducible refine unhide hQQ ?_ | refine ⟨by kernel_rfl, unhide hQQ ?_⟩); clear hQQ QQ) | with_reducible first | apply then_n | apply block_n | apply then_x | apply then_r | apply nog_n | apply nog_r | apply block_r | apply block_e (by decide) | apply block_x (by decide)))
      refine ⟨⟨calls, h, .inl rfl⟩, weak_round ?_ (by first | rfl | (simp only [hm, go_sem, ↓reduceIte]))⟩
      (simp only [hm, go_sem, ↓reduceIte]; try rfl)
    · have hk : w % calls.length < calls.length := Nat.mod_lt _ (by omega)
      generalize w % calls.length = k at hm2 hk
      have hcb := h.ca k hk
      obtain ⟨⟨dk, dat, dlo, dhi⟩, hd⟩ : ∃ d, calls.getD k (0, 0, 0, 0) = d := ⟨_, rfl⟩
      rw [hd] at hcb
      have hcc := call_of hcb
      dsimp only at hcc
      obtain ⟨mh, hmh⟩ : ∃ x, max dlo (dhi - 1) = x := ⟨_, rfl⟩
      have hnew : isCallB N (dk, dat, dlo, mh) = true := by
        simp only [isCallB, spanB, Bool.and_eq_true, decide_eq_true_eq] at hcb ⊢
        exact ⟨hcb.1, by omega⟩
      refine aw_cond2 (by simp (disch := first | decide | omega) only [hm2, hd, hmh, go_sem, ↓reduceIte]; rfl) ?_; first | refine .inl ⟨by first | rfl | exact decide_eq_true (by omega) | exact decide_eq_true (by assumption) | (simp (disch := first | decide | omega) only [if_pos_d, if_neg_d, decide_eq_true_eq, Bool.not_eq_true', decide_eq_false_iff_not]; omega), ?_⟩ | refine .inr ⟨by first | rfl | exact decide_eq_false (by omega) | exact decide_eq_false (by assumption) | (simp (disch := first | decide | omega) only [if_pos_d, if_neg_d, decide_eq_true_eq, Bool.not_eq_true', decide_eq_false_iff_not]; omega), ?_⟩
      (repeat (first | apply aw_seq | apply aw_block | apply aw_skip | apply aw_label | apply aw_exit | ((first | refine aw_region (hideO fun QQ hQQ => ?_) | refine aw_draw mixed (hideD fun QQ hQQ => ?_)); simp (maxSteps := 400000) (disch := first | decide | omega) only [hm2, hd, hmh, go_sem, ↓reduceIte]; try (first | with_reducible refine unhide hQQ ?_ | refine ⟨by kernel_rfl, unhide hQQ ?_⟩); clear hQQ QQ) | with_reducible first | apply then_n | apply block_n | apply then_x | apply then_r | apply nog_n | apply nog_r | apply block_r | apply block_e (by decide) | apply block_x (by decide)))
      refine ⟨⟨calls.set k (dk, dat, dlo, mh), tok_set h k hnew, .inr ⟨k, _, hk, rfl, by rw [hd], by rw [hd], by rw [hd]; exact Int.le_refl _, by rw [hd]; dsimp only; omega⟩⟩, weak_round ?_ (by first | rfl | (simp only [hm2, hd, hmh, go_sem, ↓reduceIte]))⟩
      simp only [List.map_set]
      (simp only [hm2, hd, hmh, go_sem, ↓reduceIte]; try rfl)
  rintro ⟨yc, hyT, hyc⟩
  simp only [ov, ovL]
  have hyl := yc_len hyc
  refine tw ?_; try with_reducible intro QQ hQQ
  refine aw_weak (weak_ownB 4 2 27 2 (by simp (disch := first | decide | omega) only [go_sem, ↓reduceIte]; rfl) rfl) ?_
  simp only [AL.set, List.set]
  refine aw_weak (weak_ownB 4 3 29 4 (by simp (disch := first | decide | omega) only [go_sem, ↓reduceIte]; rfl) rfl) ?_
  simp only [AL.set, List.set]
  refine aw_weak (weak_keep [3, 7, 8, 9, 10, 11, 106, 107] (by simp only [go_sem, ↓reduceIte]; rfl)) ?_
  refine aw_loop_ov (ι := { k : Nat // k ≤ strays.length }) (fun k => [(107, iA k.1)]) (fun k => [(4, .box [.p (iP N), .p (iP most), .own 6 k.1, .own 7 0]), (6, .arr 27 2 ((mirS strays k.1).map row2) true)]) (fun k => strays.length - k.1) ⟨0, by omega⟩ (by first | rfl | (simp only [go_sem, ↓reduceIte]; first | done | rfl | (simp; try rfl))) ?_
  rintro ⟨k, hk⟩
  simp (disch := decide) only [ov, ovL, AL.get_nil, AL.get_eq, AL.get_ne, Option.getD_some, Option.getD_none]
  by_cases hkl : k < strays.length
  · as_aux_lemma =>
      have hml := mirS_len strays k
      have e1 := mirS_succ strays k
      obtain ⟨m, hmm⟩ : ∃ m, strays.length - 1 - k = m := ⟨_, rfl⟩
      have hm1 : m < strays.length := by omega
      have em : (strays.length : Int) - 1 - (k : Int) = (m : Int) := by omega
      rw [hmm] at e1
      have hsp := span_of (h.st m hm1)
      obtain ⟨⟨sl, sh⟩, hs⟩ : ∃ x, strays.getD m (0, 0) = x := ⟨_, rfl⟩
      rw [hs] at hsp e1
      dsimp only at hsp e1
      rw [show -sh = 0 - sh by omega, show -sl = 0 - sl by omega] at e1
      have sp := ok_span31 (0 - sh) (0 - sl)
      generalize mirS strays k = Q at *
      (repeat (first | apply aw_seq | apply aw_block | apply aw_skip | apply aw_label | apply aw_exit | ((first | refine aw_region (hideO fun QQ hQQ => ?_) | refine aw_draw mixed (hideD fun QQ hQQ => ?_)); simp (maxSteps := 400000) (disch := first | decide | omega) only [em, hmm, hs, go_sem, ↓reduceIte]; try (first | with_reducible refine unhide hQQ ?_ | refine ⟨by kernel_rfl, unhide hQQ ?_⟩); clear hQQ QQ) | with_reducible first | apply then_n | apply block_n | apply then_x | apply then_r | apply nog_n | apply nog_r | apply block_r | apply block_e (by decide) | apply block_x (by decide)))
      refine aw_cond2 (by simp (disch := first | decide | omega) only [em, hmm, hs, go_sem, ↓reduceIte]; rfl) ?_; first | refine .inl ⟨by first | rfl | exact decide_eq_true (by omega) | exact decide_eq_true (by assumption) | (simp (disch := first | decide | omega) only [if_pos_d, if_neg_d, decide_eq_true_eq, Bool.not_eq_true', decide_eq_false_iff_not]; omega), ?_⟩ | refine .inr ⟨by first | rfl | exact decide_eq_false (by omega) | exact decide_eq_false (by assumption) | (simp (disch := first | decide | omega) only [if_pos_d, if_neg_d, decide_eq_true_eq, Bool.not_eq_true', decide_eq_false_iff_not]; omega), ?_⟩
      (repeat (first | apply aw_seq | apply aw_block | apply aw_skip | apply aw_label | apply aw_exit | ((first | refine aw_region (hideO fun QQ hQQ => ?_) | refine aw_draw mixed (hideD fun QQ hQQ => ?_)); simp (maxSteps := 400000) (disch := first | decide | omega) only [em, hmm, hs, go_sem, ↓reduceIte]; try (first | with_reducible refine unhide hQQ ?_ | refine ⟨by kernel_rfl, unhide hQQ ?_⟩); clear hQQ QQ) | with_reducible first | apply then_n | apply block_n | apply then_x | apply then_r | apply nog_n | apply nog_r | apply block_r | apply block_e (by decide) | apply block_x (by decide)))
      (refine callD_ok rfl rfl 31 true rfl (by simp (disch := first | decide | omega) only [em, hmm, hs, go_sem, ↓reduceIte]; try rfl) (fun _ => rfl) (sp) Try.func31 rfl (by decide) ?_); simp (maxSteps := 400000) (disch := first | decide | omega) only [em, hmm, hs, go_sem, ↓reduceIte]; (try (refine ⟨by kernel_rfl, unhide hQQ ?_⟩; clear hQQ QQ; (repeat with_reducible first | apply then_n | apply block_n | apply then_x | apply then_r | apply nog_n | apply nog_r | apply block_r | apply block_e (by decide) | apply block_x (by decide))))
      (repeat (first | apply aw_seq | apply aw_block | apply aw_skip | apply aw_label | apply aw_exit | ((first | refine aw_region (hideO fun QQ hQQ => ?_) | refine aw_draw mixed (hideD fun QQ hQQ => ?_)); simp (maxSteps := 400000) (disch := first | decide | omega) only [em, hmm, hs, go_sem, ↓reduceIte]; try (first | with_reducible refine unhide hQQ ?_ | refine ⟨by kernel_rfl, unhide hQQ ?_⟩); clear hQQ QQ) | with_reducible first | apply then_n | apply block_n | apply then_x | apply then_r | apply nog_n | apply nog_r | apply block_r | apply block_e (by decide) | apply block_x (by decide)))
      refine ⟨⟨k + 1, by omega⟩, ?_, weak_round ?_ (by first | rfl | (simp only [em, hmm, hs, go_sem, ↓reduceIte]))⟩
      rotate_left
      · simp only [ov, ovL, e1]
        simp only [em, hmm, hs, go_sem, ↓reduceIte]
        all_goals (try simp [row2, hml])
      · simp only; omega
  have hkN : k = strays.length := by omega
  subst hkN
  refine tw ?_; try with_reducible intro QQ hQQ
  refine ti ?_; try clear hQQ QQ
  refine tw ?_; try with_reducible intro QQ hQQ
  refine aw_weak (weak_keep [3, 7, 8, 9, 10, 11, 135, 136] (by simp only [go_sem, ↓reduceIte]; rfl)) ?_
  refine aw_loop_ov (ι := { k : Nat // k ≤ calls.length }) (fun k => [(136, iA k.1)]) (fun k => [(4, .box [.p (iP N), .p (iP most), .own 6 strays.length, .own 7 k.1]), (7, .arr 29 4 ((mirQ N calls k.1).map row4) true)]) (fun k => calls.length - k.1) ⟨0, by omega⟩ (by first | rfl | (simp only [go_sem, ↓reduceIte]; first | done | rfl | (simp; try rfl))) ?_
  rintro ⟨k, hk⟩
  simp (disch := decide) only [ov, ovL, AL.get_nil, AL.get_eq, AL.get_ne, Option.getD_some, Option.getD_none]
  by_cases hkl : k < calls.length
  · as_aux_lemma =>
      have hml := mirQ_len N calls k
      have e1 := mirQ_succ N calls k
      obtain ⟨m, hmm⟩ : ∃ m, calls.length - 1 - k = m := ⟨_, rfl⟩
      have hm1 : m < calls.length := by omega
      have em : (calls.length : Int) - 1 - (k : Int) = (m : Int) := by omega
      rw [hmm] at e1
      have hcb := h.ca m hm1
      obtain ⟨⟨dk, dat, dlo, dhi⟩, hs⟩ : ∃ x, calls.getD m (0, 0, 0, 0) = x := ⟨_, rfl⟩
      rw [hs] at hcb e1
      have hcc := (call_of hcb).1
      unfold mirC at e1
      dsimp only at hcc e1
      have eN : ((N - 1 : Nat) : Int) = (N : Int) - 1 := by omega
      generalize mirQ N calls k = Q at *
      by_cases hd2 : dk = 2
      · rw [if_pos hd2] at e1
        (repeat (first | apply aw_seq | apply aw_block | apply aw_skip | apply aw_label | apply aw_exit | ((first | refine aw_region (hideO fun QQ hQQ => ?_) | refine aw_draw mixed (hideD fun QQ hQQ => ?_)); simp (maxSteps := 400000) (disch := first | decide | omega) only [em, hmm, hs, go_sem, ↓reduceIte]; try (first | with_reducible refine unhide hQQ ?_ | refine ⟨by kernel_rfl, unhide hQQ ?_⟩); clear hQQ QQ) | with_reducible first | apply then_n | apply block_n | apply then_x | apply then_r | apply nog_n | apply nog_r | apply block_r | apply block_e (by decide) | apply block_x (by decide)))
        refine aw_cond2 (by simp (disch := first | decide | omega) only [em, hmm, hs, go_sem, ↓reduceIte]; rfl) ?_; first | refine .inl ⟨by first | rfl | exact decide_eq_true (by omega) | exact decide_eq_true (by assumption) | (simp (disch := first | decide | omega) only [if_pos_d, if_neg_d, decide_eq_true_eq, Bool.not_eq_true', decide_eq_false_iff_not]; omega), ?_⟩ | refine .inr ⟨by first | rfl | exact decide_eq_false (by omega) | exact decide_eq_false (by assumption) | (simp (disch := first | decide | omega) only [if_pos_d, if_neg_d, decide_eq_true_eq, Bool.not_eq_true', decide_eq_false_iff_not]; omega), ?_⟩
        (repeat (first | apply aw_seq | apply aw_block | apply aw_skip | apply aw_label | apply aw_exit | ((first | refine aw_region (hideO fun QQ hQQ => ?_) | refine aw_draw mixed (hideD fun QQ hQQ => ?_)); simp (maxSteps := 400000) (disch := first | decide | omega) only [em, hmm, hs, go_sem, ↓reduceIte]; try (first | with_reducible refine unhide hQQ ?_ | refine ⟨by kernel_rfl, unhide hQQ ?_⟩); clear hQQ QQ) | with_reducible first | apply then_n | apply block_n | apply then_x | apply then_r | apply nog_n | apply nog_r | apply block_r | apply block_e (by decide) | apply block_x (by decide)))
        refine aw_cond2 (by simp (disch := first | decide | omega) only [em, hmm, hs, go_sem, ↓reduceIte]; rfl) ?_; first | refine .inl ⟨by first | rfl | exact decide_eq_true (by omega) | exact decide_eq_true (by assumption) | (simp (disch := first | decide | omega) only [if_pos_d, if_neg_d, decide_eq_true_eq, Bool.not_eq_true', decide_eq_false_iff_not]; omega), ?_⟩ | refine .inr ⟨by first | rfl | exact decide_eq_false (by omega) | exact decide_eq_false (by assumption) | (simp (disch := first | decide | omega) only [if_pos_d, if_neg_d, decide_eq_true_eq, Bool.not_eq_true', decide_eq_false_iff_not]; omega), ?_⟩
        (repeat (first | apply aw_seq | apply aw_block | apply aw_skip | apply aw_label | apply aw_exit | ((first | refine aw_region (hideO fun QQ hQQ => ?_) | refine aw_draw mixed (hideD fun QQ hQQ => ?_)); simp (maxSteps := 400000) (disch := first | decide | omega) only [em, hmm, hs, go_sem, ↓reduceIte]; try (first | with_reducible refine unhide hQQ ?_ | refine ⟨by kernel_rfl, unhide hQQ ?_⟩); clear hQQ QQ) | with_reducible first | apply then_n | apply block_n | apply then_x | apply then_r | apply nog_n | apply nog_r | apply block_r | apply block_e (by decide) | apply block_x (by decide)))
        refine ⟨⟨k + 1, by omega⟩, ?_, weak_round ?_ (by first | rfl | (simp only [em, hmm, hs, go_sem, ↓reduceIte]))⟩
        rotate_left
        · simp only [ov, ovL, e1]
          simp only [em, hmm, hs, go_sem, ↓reduceIte]
          all_goals (try simp [row4, hml])
          all_goals (try omega)
        · simp only; omega
      · rw [if_neg hd2] at e1
        have hcc := hcc.resolve_left hd2
        (repeat (first | apply aw_seq | apply aw_block | apply aw_skip | apply aw_label | apply aw_exit | ((first | refine aw_region (hideO fun QQ hQQ => ?_) | refine aw_draw mixed (hideD fun QQ hQQ => ?_)); simp (maxSteps := 400000) (disch := first | decide | omega) only [em, hmm, hs, go_sem, ↓reduceIte]; try (first | with_reducible refine unhide hQQ ?_ | refine ⟨by kernel_rfl, unhide hQQ ?_⟩); clear hQQ QQ) | with_reducible first | apply then_n | apply block_n | apply then_x | apply then_r | apply nog_n | apply nog_r | apply block_r | apply block_e (by decide) | apply block_x (by decide)))
        refine aw_cond2 (by simp (disch := first | decide | omega) only [em, hmm, hs, go_sem, ↓reduceIte]; rfl) ?_; first | refine .inl ⟨by first | rfl | exact decide_eq_true (by omega) | exact decide_eq_true (by assumption) | (simp (disch := first | decide | omega) only [if_pos_d, if_neg_d, decide_eq_true_eq, Bool.not_eq_true', decide_eq_false_iff_not]; omega), ?_⟩ | refine .inr ⟨by first | rfl | exact decide_eq_false (by omega) | exact decide_eq_false (by assumption) | (simp (disch := first | decide | omega) only [if_pos_d, if_neg_d, decide_eq_true_eq, Bool.not_eq_true', decide_eq_false_iff_not]; omega), ?_⟩
        (repeat (first | apply aw_seq | apply aw_block | apply aw_skip | apply aw_label | apply aw_exit | ((first | refine aw_region (hideO fun QQ hQQ => ?_) | refine aw_draw mixed (hideD fun QQ hQQ => ?_)); simp (maxSteps := 400000) (disch := first | decide | omega) only [em, hmm, hs, go_sem, ↓reduceIte]; try (first | with_reducible refine unhide hQQ ?_ | refine ⟨by kernel_rfl, unhide hQQ ?_⟩); clear hQQ QQ) | with_reducible first | apply then_n | apply block_n | apply then_x | apply then_r | apply nog_n | apply nog_r | apply block_r | apply block_e (by decide) | apply block_x (by decide)))
        refine aw_cond2 (by simp (disch := first | decide | omega) only [em, hmm, hs, go_sem, ↓reduceIte]; rfl) ?_; first | refine .inl ⟨by first | rfl | exact decide_eq_true (by omega) | exact decide_eq_true (by assumption) | (simp (disch := first | decide | omega) only [if_pos_d, if_neg_d, decide_eq_true_eq, Bool.not_eq_true', decide_eq_false_iff_not]; omega), ?_⟩ | refine .inr ⟨by first | rfl | exact decide_eq_false (by omega) | exact decide_eq_false (by assumption) | (simp (disch := first | decide | omega) only [if_pos_d, if_neg_d, decide_eq_true_eq, Bool.not_eq_true', decide_eq_false_iff_not]; omega), ?_⟩
        (repeat (first | apply aw_seq | apply aw_block | apply aw_skip | apply aw_label | apply aw_exit | ((first | refine aw_region (hideO fun QQ hQQ => ?_) | refine aw_draw mixed (hideD fun QQ hQQ => ?_)); simp (maxSteps := 400000) (disch := first | decide | omega) only [em, hmm, hs, go_sem, ↓reduceIte]; try (first | with_reducible refine unhide hQQ ?_ | refine ⟨by kernel_rfl, unhide hQQ ?_⟩); clear hQQ QQ) | with_reducible first | apply then_n | apply block_n | apply then_x | apply then_r | apply nog_n | apply nog_r | apply block_r | apply block_e (by decide) | apply block_x (by decide)))
        refine ⟨⟨k + 1, by omega⟩, ?_, weak_round ?_ (by first | rfl | (simp only [em, hmm, hs, go_sem, ↓reduceIte]))⟩
        rotate_left
        · simp only [ov, ovL, e1]
          simp only [em, hmm, hs, go_sem, ↓reduceIte]
          all_goals (try simp [row4, hml])
          all_goals (try omega)
        · simp only; omega
  have hkN : k = calls.length := by omega
  subst hkN
  have q14 := A.q14
  have q16 := A.q16
  have q20 := A.q20
  have q24 := A.q24
  simp only [tyR] at q14 q16 q20 q24
  refine tw ?_; try with_reducible intro QQ hQQ
  refine ti ?_; try clear hQQ QQ
  refine tw ?_; try with_reducible intro QQ hQQ
  ((refine cO 14 rfl rfl rfl (q14) Try.func14 rfl ?_); refine tu ?_; try clear hQQ QQ); refine tw ?_; try with_reducible intro QQ hQQ
  ((refine cO 16 rfl rfl rfl (q16) Try.func16 rfl ?_); refine tu ?_; try clear hQQ QQ); refine tw ?_; try with_reducible intro QQ hQQ
  ((refine cO 20 rfl rfl rfl (q20) Try.func20 rfl ?_); refine tu ?_; try clear hQQ QQ); refine tw ?_; try with_reducible intro QQ hQQ
  ((refine cO 24 rfl rfl rfl (q24) Try.func24 rfl ?_); refine tu ?_; try clear hQQ QQ); refine tw ?_; try with_reducible intro QQ hQQ
  refine ti ?_; try clear hQQ QQ
  refine aw_weak (weak_share 5 rfl) ?_
  refine aw_weak (weak_dataB 3 3 rfl rfl rfl) ?_
  refine aw_weak (weak_share 8 rfl) ?_
  refine aw_weak (weak_dataS 17 rfl rfl) ?_
  refine aw_weak (weak_share 9 rfl) ?_
  refine aw_weak (weak_dataS 18 rfl rfl) ?_
  refine aw_weak (weak_dataB 4 2 rfl rfl rfl) ?_
  refine aw_weak (weak_dataB 4 3 rfl rfl rfl) ?_
  have t1 : List.take strays.length (List.map row2 strays) = List.map row2 strays := List.take_of_length_le (by simp)
  have t2 : List.take calls.length (List.map row4 calls) = List.map row4 calls := List.take_of_length_le (by simp)
  have t3 : List.take strays.length (List.map row2 (mirS strays strays.length)) = List.map row2 (mirS strays strays.length) := List.take_of_length_le (by simp [mirS_len])
  have t4 : List.take calls.length (List.map row4 (mirQ N calls calls.length)) = List.map row4 (mirQ N calls calls.length) := List.take_of_length_le (by simp [mirQ_len])
  have t5 : List.take calls.length (List.map row4 yc) = List.map row4 yc := List.take_of_length_le (by simp; omega)
  simp only [AL.set, List.set, t1, t2, t3, t4, t5]
  (refine aw_skip ?_); (repeat with_reducible first | apply then_n | apply block_n | apply then_x | apply then_r | apply nog_n | apply nog_r | apply block_r | apply block_e (by decide) | apply block_x (by decide))
  refine aw_weak (weak_round (T := ⟨[(3, .one (.box 0 0)), (7, .one (.p (iP N))), (8, .one (.p (iP i))), (9, .one (.box 2 0)), (10, .one (.box 3 0)), (11, .one (.box 4 0)), (17, .one (.p (.sl (strays.map row2)))), (18, .one (.p (.sl (calls.map row4)))), (19, .one (.box 10 0)), (20, .one (.p (iP e))), (21, .one (.box 11 0)), (22, .one (.p (iP e))), (23, .one (.box 12 0)), (24, .one (.p (iP e))), (25, .one (.p (iP few))), (27, .one (.p (iP hh)))], [(0, .box [.p (iP N), .p (iP most), .p (.sl (strays.map row2)), .p (.sl (calls.map row4))]), (2, .box [.p (iP N), .p (iP most), .p (.sl (strays.map row2)), .p (.sl ((calls ++ [(ck, cat, clo, chi)]).map row4))]), (3, .box [.p (iP N), .p (iP most), .p (.sl (strays.map row2)), .p (.sl (yc.map row4))]), (4, .box [.p (iP N), .p (iP most), .p (.sl ((mirS strays strays.length).map row2)), .p (.sl ((mirQ N calls calls.length).map row4))]), (10, .box [.p (iP a.1), .p (iP a.2)]), (11, .box [.p (iP b.1), .p (iP b.2)]), (12, .box [.p (iP d.1), .p (iP d.2)])], 13⟩) (by simp only [go_sem, ↓reduceIte]; first | done | rfl) (by first | rfl | (simp only [go_sem, ↓reduceIte]))) ?_
  exact more_tail (ck, cat, clo, chi) h hi hyT hyc (mir_of N strays calls) A Z w0
end
end Go.Proofs.Ytejbglbiefpagaa
