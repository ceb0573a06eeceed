/- THE LAW BurrOpens, walked. -/
import Derived.Test.YtknikcpeacmpmaaBwS
set_option linter.all false
namespace Go.Proofs.Ytknikcpeacmpmaa
open Go Go.RowKit Go.Sh Go.Pv
set_option maxHeartbeats 8000000
set_option maxRecDepth 8000
set_option pp.maxSteps 60000
section
variable {n lo hi top : Int} {bales : List (Int × Int)} {tests : List (Int × Bool)}
theorem ok_ClashR : FunOK Try.prog 30 [buR n lo hi top bales tests] (ansN (whyC n lo hi top bales tests) (clashA n lo hi bales tests)) := by
  have hBu := ok_Burr (n := n) (lo := lo) (hi := hi) (top := top) (bales := bales) (tests := tests)
  cases hv : burrB n lo hi top bales tests
  · have e2 : whyC n lo hi top bales tests = 1 := by simp [whyC, hv]
    rw [e2]
    rw [hv] at hBu
    simp only [buR, ansN, show ¬ ((1 : Int) = 0) by decide, if_false] at hBu ⊢
    refine fun_ok (nt := 35) (rs := [.tmp 2, .tmp 3]) Try.func30 rfl rfl rfl (by simp) fun Z w0 => ?_; simp only [initFr, avR, List.map_cons, List.map_nil]
    refine tw ?_; try with_reducible intro QQ hQQ
    ((refine cO 35 rfl rfl rfl (hBu) Try.func35 rfl ?_); refine tu ?_; try clear hQQ QQ); refine tw ?_; try with_reducible intro QQ hQQ
    refine ti ?_; try clear hQQ QQ
    refine tw ?_; try with_reducible intro QQ hQQ
    refine aw_ret ?_; refine ⟨.inr rfl, ?_⟩; simp only [resA, res1, go_sem, ↓reduceIte]
  rw [hv] at hBu
  obtain ⟨N, L, U, T, rfl, rfl, rfl, rfl, hB⟩ := bok_of hv
  have hT := ok_Truths hB
  have hln := TR_len (bales := bales) (tests := tests) N L U hB.n5 hB.b6
  have hwy : whyC N L U T bales tests = if clashP N L U bales tests (2 ^ tests.length - 1) = true then 0 else 4 := by
    unfold whyC
    rw [hv, if_pos rfl]
    simp only [Int.toNat_natCast, clash_any hB]
  have hcf : clashP N L U bales tests (2 ^ tests.length - 1) = decide ((TR N L U bales tests).length = 0) := by
    unfold clashP
    rw [sel_all, count_TR hB.b6 hB.te6]
  by_cases h0 : (TR N L U bales tests).length = 0
  rotate_left
  · rw [hwy, hcf, decide_eq_false h0]
    simp only [buR, ansN, show ¬ ((4 : Int) = 0) by decide, if_false, Bool.false_eq_true] at hBu hT ⊢
    generalize TR N L U bales tests = l at *
    refine fun_ok (nt := 35) (rs := [.tmp 2, .tmp 3]) Try.func30 rfl rfl rfl (by simp) fun Z w0 => ?_; simp only [initFr, avR, List.map_cons, List.map_nil]
    refine tw ?_; try with_reducible intro QQ hQQ
    ((refine cO 35 rfl rfl rfl (hBu) Try.func35 rfl ?_); refine tu ?_; try clear hQQ QQ); refine tw ?_; try with_reducible intro QQ hQQ
    refine ti ?_; try clear hQQ QQ
    refine tw ?_; try with_reducible intro QQ hQQ
    ((refine cB 66 rfl rfl rfl (hT) Try.func66 rfl ?_); refine tu ?_; try clear hQQ QQ); refine tw ?_; try with_reducible intro QQ hQQ
    refine ti ?_; try clear hQQ QQ
    refine tw ?_; try with_reducible intro QQ hQQ
    refine aw_ret ?_; refine ⟨.inr rfl, ?_⟩; simp only [resA, res1, go_sem, ↓reduceIte]
  have hf : clashP N L U bales tests (2 ^ tests.length - 1) = true := by rw [hcf]; exact decide_eq_true h0
  have hcA : clashA N L U bales tests = (clashS N L U bales tests : Nat) := by unfold clashA; simp only [Int.toNat_natCast]
  rw [hwy, hf, if_pos rfl, hcA, clash_min hB hf]
  have hE := ok_Every (n := N) (lo := L) (hi := U) (top := T) (bales := bales) hB.t6
  have hinv := fun s hs => minF_inv (p := clashP N L U bales tests) hB.t6 hf s hs
  have hst : ∀ s, minF (clashP N L U bales tests) tests.length (s + 1) = if popc s < popc (minF (clashP N L U bales tests) tests.length s) ∧ clashP N L U bales tests s = true then s else minF (clashP N L U bales tests) tests.length s := fun s => rfl
  have h00 : minF (clashP N L U bales tests) tests.length 0 = 2 ^ tests.length - 1 := rfl
  have htr := fun s hs => ok_truths hB s hs
  have hpl : ∀ s, clashP N L U bales tests s = decide ((TR N L U bales (selT tests s tests.length)).length = 0) := fun s => by
    unfold clashP
    rw [count_TR hB.b6 fun t ht => hB.te6 t (selT_sub (Nat.le_refl _) t ht)]
  have hll : ∀ s, (TR N L U bales (selT tests s tests.length)).length ≤ 2048 := fun s => TR_len N L U hB.n5 hB.b6
  have hX := pow64 hB.t6
  have hX0 := Nat.two_pow_pos tests.length
  simp only [buR, ansN, if_true] at hBu hT hE htr ⊢
  clear hwy hcf hf hcA
  generalize minF (clashP N L U bales tests) tests.length = mf at *
  generalize clashP N L U bales tests = pp at *
  have hl0 : TR N L U bales tests = [] := List.length_eq_zero_iff.1 h0
  rw [hl0] at hT
  clear h0 hln hl0
  generalize hXX : 2 ^ tests.length = X at *
  refine fun_ok (nt := 35) (rs := [.tmp 2, .tmp 3]) Try.func30 rfl rfl rfl (by simp) fun Z w0 => ?_; simp only [initFr, avR, List.map_cons, List.map_nil]
  refine tw ?_; try with_reducible intro QQ hQQ
  ((refine cO 35 rfl rfl rfl (hBu) Try.func35 rfl ?_); refine tu ?_; try clear hQQ QQ); refine tw ?_; try with_reducible intro QQ hQQ
  refine ti ?_; try clear hQQ QQ
  refine tw ?_; try with_reducible intro QQ hQQ
  ((refine cB 66 rfl rfl rfl (hT) Try.func66 rfl ?_); refine tu ?_; try clear hQQ QQ); refine tw ?_; try with_reducible intro QQ hQQ
  refine ti ?_; try clear hQQ QQ
  refine tw ?_; try with_reducible intro QQ hQQ
  ((refine cO 81 rfl rfl rfl (hE) Try.func81 rfl ?_); refine tu ?_; try clear hQQ QQ); refine tw ?_; try with_reducible intro QQ hQQ
  rw [← h00]
  refine aw_weak (weak_keep [1, 4, 5] (by simp only [go_sem, ↓reduceIte]; rfl)) ?_
  refine aw_loop_ov (ι := { s : Nat // s ≤ X }) (fun s => [(5, iA s.1), (4, .one (.p (iP ((mf s.1 : Nat) : Int))))]) (fun _ => []) (fun s => X - s.1) ⟨0, by omega⟩ (by first | rfl | (simp only [go_sem, ↓reduceIte]; first | done | rfl | (simp; try rfl))) ?_
  rintro ⟨s, hs⟩
  simp (disch := decide) only [ov, ovL, AL.get_nil, AL.get_eq, AL.get_ne, Option.getD_some, Option.getD_none]
  rw [h00] at *
  by_cases hsl : s < X
  · have hst := hst s
    have hm := (hinv s (by omega)).1
    have z1 := ok_Size s (by omega)
    have z2 := ok_Size (mf s) (by omega)
    have htr := htr s (by omega)
    have hpl := hpl s
    have hll := hll s
    clear hinv h00
    generalize TR N L U bales (selT tests s tests.length) = l at *
    generalize popc s = ps at *
    generalize popc (mf s) = pm at *
    generalize mf s = b at *
    by_cases hlt : ps < pm
    · by_cases hl : l.length = 0
      · rw [hpl, decide_eq_true hl, if_pos ⟨hlt, rfl⟩] at hst
        (repeat (first | apply aw_seq | apply aw_block | apply aw_skip | apply aw_label | apply aw_exit | ((first | refine aw_region (hideO fun QQ hQQ => ?_) | refine aw_draw mixed (hideD fun QQ hQQ => ?_)); simp (maxSteps := 400000) (disch := first | decide | omega) only [hl, go_sem, ↓reduceIte]; try (first | with_reducible refine unhide hQQ ?_ | refine ⟨by kernel_rfl, unhide hQQ ?_⟩); clear hQQ QQ) | with_reducible first | apply then_n | apply block_n | apply then_x | apply then_r | apply nog_n | apply nog_r | apply block_r | apply block_e (by decide) | apply block_x (by decide)))
        ((refine callO_ok rfl rfl 81 true rfl (by simp (disch := first | decide | omega) only [hl, go_sem, ↓reduceIte]; try rfl) (fun _ => rfl) (hE) Try.func81 rfl (by decide) ?_); simp (maxSteps := 400000) (disch := first | decide | omega) only [hl, go_sem, ↓reduceIte]; try (with_reducible refine unhide hQQ ?_; clear hQQ QQ)); (repeat (first | apply aw_seq | apply aw_block | apply aw_skip | apply aw_label | apply aw_exit | ((first | refine aw_region (hideO fun QQ hQQ => ?_) | refine aw_draw mixed (hideD fun QQ hQQ => ?_)); simp (maxSteps := 400000) (disch := first | decide | omega) only [hl, go_sem, ↓reduceIte]; try (first | with_reducible refine unhide hQQ ?_ | refine ⟨by kernel_rfl, unhide hQQ ?_⟩); clear hQQ QQ) | with_reducible first | apply then_n | apply block_n | apply then_x | apply then_r | apply nog_n | apply nog_r | apply block_r | apply block_e (by decide) | apply block_x (by decide)))
        refine aw_cond2 (by simp (disch := first | decide | omega) only [hl, go_sem, ↓reduceIte]; rfl) ?_; first | refine .inl ⟨by first | rfl | exact decide_eq_true (by omega) | exact decide_eq_true (by assumption) | (simp (disch := first | decide | omega) only [if_pos_d, if_neg_d, decide_eq_true_eq, Bool.not_eq_true', decide_eq_false_iff_not]; omega), ?_⟩ | refine .inr ⟨by first | rfl | exact decide_eq_false (by omega) | exact decide_eq_false (by assumption) | (simp (disch := first | decide | omega) only [if_pos_d, if_neg_d, decide_eq_true_eq, Bool.not_eq_true', decide_eq_false_iff_not]; omega), ?_⟩
        (repeat (first | apply aw_seq | apply aw_block | apply aw_skip | apply aw_label | apply aw_exit | ((first | refine aw_region (hideO fun QQ hQQ => ?_) | refine aw_draw mixed (hideD fun QQ hQQ => ?_)); simp (maxSteps := 400000) (disch := first | decide | omega) only [hl, go_sem, ↓reduceIte]; try (first | with_reducible refine unhide hQQ ?_ | refine ⟨by kernel_rfl, unhide hQQ ?_⟩); clear hQQ QQ) | with_reducible first | apply then_n | apply block_n | apply then_x | apply then_r | apply nog_n | apply nog_r | apply block_r | apply block_e (by decide) | apply block_x (by decide)))
        (refine callO_ok rfl rfl 73 true rfl (by simp (disch := first | decide | omega) only [hl, go_sem, ↓reduceIte]; try rfl) (fun _ => rfl) (z1) Try.func73 rfl (by decide) ?_); simp (maxSteps := 400000) (disch := first | decide | omega) only [hl, go_sem, ↓reduceIte]; (try (with_reducible refine unhide hQQ ?_; clear hQQ QQ; (repeat with_reducible first | apply then_n | apply block_n | apply then_x | apply then_r | apply nog_n | apply nog_r | apply block_r | apply block_e (by decide) | apply block_x (by decide))))
        (refine callO_ok rfl rfl 73 true rfl (by simp (disch := first | decide | omega) only [hl, go_sem, ↓reduceIte]; try rfl) (fun _ => rfl) (z2) Try.func73 rfl (by decide) ?_); simp (maxSteps := 400000) (disch := first | decide | omega) only [hl, go_sem, ↓reduceIte]; (try (with_reducible refine unhide hQQ ?_; clear hQQ QQ; (repeat with_reducible first | apply then_n | apply block_n | apply then_x | apply then_r | apply nog_n | apply nog_r | apply block_r | apply block_e (by decide) | apply block_x (by decide))))
        ((refine callO_ok rfl rfl 82 false rfl (by simp (disch := first | decide | omega) only [hl, go_sem, ↓reduceIte]; try rfl) (fun h => by cases h) (htr) Try.func82 rfl (by decide) ?_); simp (maxSteps := 400000) (disch := first | decide | omega) only [hl, go_sem, ↓reduceIte]; try (with_reducible refine unhide hQQ ?_; clear hQQ QQ)); (repeat (first | apply aw_seq | apply aw_block | apply aw_skip | apply aw_label | apply aw_exit | ((first | refine aw_region (hideO fun QQ hQQ => ?_) | refine aw_draw mixed (hideD fun QQ hQQ => ?_)); simp (maxSteps := 400000) (disch := first | decide | omega) only [hl, go_sem, ↓reduceIte]; try (first | with_reducible refine unhide hQQ ?_ | refine ⟨by kernel_rfl, unhide hQQ ?_⟩); clear hQQ QQ) | with_reducible first | apply then_n | apply block_n | apply then_x | apply then_r | apply nog_n | apply nog_r | apply block_r | apply block_e (by decide) | apply block_x (by decide)))
        refine aw_cond2 (by simp (disch := first | decide | omega) only [hl, go_sem, ↓reduceIte]; rfl) ?_; first | refine .inl ⟨by first | rfl | exact decide_eq_true (by omega) | exact decide_eq_true (by assumption) | (simp (disch := first | decide | omega) only [if_pos_d, if_neg_d, decide_eq_true_eq, Bool.not_eq_true', decide_eq_false_iff_not]; omega), ?_⟩ | refine .inr ⟨by first | rfl | exact decide_eq_false (by omega) | exact decide_eq_false (by assumption) | (simp (disch := first | decide | omega) only [if_pos_d, if_neg_d, decide_eq_true_eq, Bool.not_eq_true', decide_eq_false_iff_not]; omega), ?_⟩
        (repeat (first | apply aw_seq | apply aw_block | apply aw_skip | apply aw_label | apply aw_exit | ((first | refine aw_region (hideO fun QQ hQQ => ?_) | refine aw_draw mixed (hideD fun QQ hQQ => ?_)); simp (maxSteps := 400000) (disch := first | decide | omega) only [hl, go_sem, ↓reduceIte]; try (first | with_reducible refine unhide hQQ ?_ | refine ⟨by kernel_rfl, unhide hQQ ?_⟩); clear hQQ QQ) | with_reducible first | apply then_n | apply block_n | apply then_x | apply then_r | apply nog_n | apply nog_r | apply block_r | apply block_e (by decide) | apply block_x (by decide)))
        refine ⟨⟨s + 1, by omega⟩, ?_, weak_round ?_ (by first | rfl | (simp only [hl, go_sem, ↓reduceIte]))⟩
        rotate_left
        · simp only [hst]
          (simp only [hl, go_sem, ↓reduceIte]; try rfl)
        · simp only; omega
      · rw [hpl, decide_eq_false hl, if_neg (by rintro ⟨_, h⟩; cases h)] at hst
        refine tw ?_; try with_reducible intro QQ hQQ
        ((refine cO 81 rfl rfl rfl (hE) Try.func81 rfl ?_); refine tu ?_; try clear hQQ QQ); refine tw ?_; try with_reducible intro QQ hQQ
        refine ti ?_; try clear hQQ QQ
        refine tw ?_; try with_reducible intro QQ hQQ
        (refine cO 73 rfl rfl rfl (z1) Try.func73 rfl ?_); refine ts ?_; try clear hQQ QQ
        (refine cO 73 rfl rfl rfl (z2) Try.func73 rfl ?_); refine ts ?_; try clear hQQ QQ
        ((refine cB 82 rfl rfl rfl (htr) Try.func82 rfl ?_); refine tu ?_; try clear hQQ QQ); refine tw ?_; try with_reducible intro QQ hQQ
        refine ti ?_; try clear hQQ QQ
        refine tw ?_; try with_reducible intro QQ hQQ
        refine ⟨⟨s + 1, by omega⟩, ?_, weak_round ?_ (by first | rfl | (simp only [go_sem, ↓reduceIte]))⟩
        rotate_left
        · simp only [hst]
          (simp only [go_sem, ↓reduceIte]; try rfl)
        · simp only; omega
    · rw [if_neg (fun h => hlt h.1)] at hst
      refine tw ?_; try with_reducible intro QQ hQQ
      ((refine cO 81 rfl rfl rfl (hE) Try.func81 rfl ?_); refine tu ?_; try clear hQQ QQ); refine tw ?_; try with_reducible intro QQ hQQ
      refine ti ?_; try clear hQQ QQ
      refine tw ?_; try with_reducible intro QQ hQQ
      (refine cO 73 rfl rfl rfl (z1) Try.func73 rfl ?_); refine ts ?_; try clear hQQ QQ
      ((refine cO 73 rfl rfl rfl (z2) Try.func73 rfl ?_); refine tu ?_; try clear hQQ QQ); refine tw ?_; try with_reducible intro QQ hQQ
      refine ti ?_; try clear hQQ QQ
      refine tw ?_; try with_reducible intro QQ hQQ
      refine ⟨⟨s + 1, by omega⟩, ?_, weak_round ?_ (by first | rfl | (simp only [go_sem, ↓reduceIte]))⟩
      rotate_left
      · simp only [hst]
        (simp only [go_sem, ↓reduceIte]; try rfl)
      · simp only; omega
  · have : s = X := by omega
    subst this
    generalize mf s = b at *
    refine tw ?_; try with_reducible intro QQ hQQ
    ((refine cO 81 rfl rfl rfl (hE) Try.func81 rfl ?_); refine tu ?_; try clear hQQ QQ); refine tw ?_; try with_reducible intro QQ hQQ
    refine ti ?_; try clear hQQ QQ
    refine tw ?_; try with_reducible intro QQ hQQ
    refine aw_ret ?_; refine ⟨.inr rfl, ?_⟩; simp only [resA, res1, go_sem, ↓reduceIte]
theorem main_opens : FunOK Try.prog 4 [buR n lo hi top bales tests] (.one (.one (.v (.bool true)))) := by
  have hal := ok_alive
  have hh := ok_heavy n lo hi top bales tests 4
  have a1 := ok_Open (n := n) (lo := lo) (hi := hi) (top := top) (bales := bales) (tests := tests)
  have a2 := ok_OpenR (n := n) (lo := lo) (hi := hi) (top := top) (bales := bales) (tests := tests)
  have a3 := ok_Next (n := n) (lo := lo) (hi := hi) (top := top) (bales := bales) (tests := tests)
  have a4 := ok_NextR (n := n) (lo := lo) (hi := hi) (top := top) (bales := bales) (tests := tests)
  have a5 := ok_Clash (n := n) (lo := lo) (hi := hi) (top := top) (bales := bales) (tests := tests)
  have a6 := ok_ClashR (n := n) (lo := lo) (hi := hi) (top := top) (bales := bales) (tests := tests)
  simp only [buR, ansR, ansN] at *
  generalize (if whyT n lo hi top bales tests = 0 then (openA n lo hi top bales tests).1 else 0) = v1 at *
  generalize (if whyT n lo hi top bales tests = 0 then (openA n lo hi top bales tests).2 else 0) = v2 at *
  generalize (if whyN n lo hi top bales tests = 0 then (nextA n lo hi bales tests).1 else 0) = v3 at *
  generalize (if whyN n lo hi top bales tests = 0 then (nextA n lo hi bales tests).2 else 0) = v4 at *
  generalize (if whyC n lo hi top bales tests = 0 then clashA n lo hi bales tests else 0) = v5 at *
  generalize whyT n lo hi top bales tests = e1 at *
  generalize whyN n lo hi top bales tests = e2 at *
  generalize whyC n lo hi top bales tests = e3 at *
  generalize (decide (40 < max bales.length tests.length) || (burrB n lo hi top bales tests && decide ((bales.length : Int) > 4))) = hv at *
  cases hv
  rotate_left
  · refine fun_ok (nt := 97) (rs := [.tmp 2]) Try.func4 rfl rfl rfl (by simp) fun Z w0 => ?_; simp only [initFr, avR, List.map_cons, List.map_nil]
    try simp only [List.append_eq, List.cons_append, List.nil_append]
    refine tw ?_; try with_reducible intro QQ hQQ
    ((refine cO 24 rfl rfl rfl (hh) Try.func24 rfl ?_); refine tu ?_; try clear hQQ QQ); refine tw ?_; try with_reducible intro QQ hQQ
    refine ti ?_; try clear hQQ QQ
    refine tw ?_; try with_reducible intro QQ hQQ
    ((refine cO 13 rfl rfl rfl (hal) Try.func13 rfl ?_); refine tu ?_; try clear hQQ QQ); refine tw ?_; try with_reducible intro QQ hQQ
    refine aw_ret ?_; refine ⟨.inr rfl, ?_⟩; simp only [resA, res1, go_sem, ↓reduceIte]
  refine fun_ok (nt := 97) (rs := [.tmp 2]) Try.func4 rfl rfl rfl (by simp) fun Z w0 => ?_; simp only [initFr, avR, List.map_cons, List.map_nil]
  try simp only [List.append_eq, List.cons_append, List.nil_append]
  refine tw ?_; try with_reducible intro QQ hQQ
  ((refine cO 24 rfl rfl rfl (hh) Try.func24 rfl ?_); refine tu ?_; try clear hQQ QQ); refine tw ?_; try with_reducible intro QQ hQQ
  refine ti ?_; try clear hQQ QQ
  refine tw ?_; try with_reducible intro QQ hQQ
  ((refine cO 25 rfl rfl rfl (a1) Try.func25 rfl ?_); refine tu ?_; try clear hQQ QQ); refine tw ?_; try with_reducible intro QQ hQQ
  ((refine cO 26 rfl rfl rfl (a2) Try.func26 rfl ?_); refine tu ?_; try clear hQQ QQ); refine tw ?_; try with_reducible intro QQ hQQ
  ((refine cO 27 rfl rfl rfl (a3) Try.func27 rfl ?_); refine tu ?_; try clear hQQ QQ); refine tw ?_; try with_reducible intro QQ hQQ
  ((refine cO 28 rfl rfl rfl (a4) Try.func28 rfl ?_); refine tu ?_; try clear hQQ QQ); refine tw ?_; try with_reducible intro QQ hQQ
  ((refine cO 29 rfl rfl rfl (a5) Try.func29 rfl ?_); refine tu ?_; try clear hQQ QQ); refine tw ?_; try with_reducible intro QQ hQQ
  ((refine cO 30 rfl rfl rfl (a6) Try.func30 rfl ?_); refine tu ?_; try clear hQQ QQ); refine tw ?_; try with_reducible intro QQ hQQ
  try simp only [List.append_eq, List.cons_append, List.nil_append]
  refine tw ?_; try with_reducible intro QQ hQQ
  ((refine cO 13 rfl rfl rfl (hal) Try.func13 rfl ?_); refine tu ?_; try clear hQQ QQ); refine tw ?_; try with_reducible intro QQ hQQ
  refine aw_ret ?_; refine ⟨.inr rfl, ?_⟩; simp only [resA, res1, go_sem, ↓reduceIte]
end
end Go.Proofs.Ytknikcpeacmpmaa
