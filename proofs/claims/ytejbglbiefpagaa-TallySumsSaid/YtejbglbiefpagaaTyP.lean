/- THE LAW TallySums, walked: where there is a truth. -/
import Derived.Test.YtejbglbiefpagaaTyO
import Derived.Test.YtejbglbiefpagaaPvH
set_option linter.all false
namespace Go.Proofs.Ytejbglbiefpagaa
open Go Go.RowKit Go.Sh Go.Pv
set_option maxHeartbeats 8000000
set_option maxRecDepth 8000
section
variable {n most : Int} {strays : List (Int × Int)} {calls : List (Int × Int × Int × Int)}
attribute [local go_sem] eql4 neq4 bne_tf bne_ft beq_tf beq_ft conv5' span_eql span_neq bin_rem min_eq max_eq row4 get_some4 rowsK_r4 rowsK_nil' rowsK_cons' not_isEmpty_nil Bool.false_or
/-- The calls at portholes. -/
def portQ (calls : List (Int × Int × Int × Int)) (i : Nat) : Bool := decide ((calls.getD i (0, 0, 0, 0)).1 = 0)
def zrL (k : Nat) : List (Int × Int) := List.replicate k (0, 0)
theorem zr_rows (k : Nat) : List.replicate k [PV.v (.int .i64 0), PV.v (.int .i64 0)] = (zrL k).map row2 := by
  unfold zrL; rw [List.map_replicate]; rfl
theorem zr_len (k : Nat) : (zrL k).length = k := by simp [zrL]
theorem take_zr {k : Nat} {l : List (Int × Int)} (h : l.length = k) : List.take k (List.map row2 l) = List.map row2 l := List.take_of_length_le (by simp; omega)
theorem main_sums_ok {N : Nat} (a b : Nat) (ha : a < 256) (hb : b < 256) (h : TOK N most strays calls) (hf : Whole N most strays calls) : FunOK Try.prog 8 [tyR N most strays calls, .one (.v (.int .u8 a)), .one (.v (.int .u8 b))] (.one (.one (.v (.bool true)))) := by
  have hal := ok_alive
  have hl := ok_long N most strays calls
  have ht := ok_Tally36 N most strays calls
  have hlb : longB strays calls = false := by have := h.sl; have := h.n5; have := h.cl; unfold longB; simp; omega
  rw [hlb] at hl
  rw [tok_to h] at ht
  have n1 := h.n1
  have n5 := h.n5
  have hcl := h.cl
  have hsl := h.sl
  have hi : a % N < N := Nat.mod_lt _ n1
  have hm := tmod_natS a N
  generalize a % N = i0 at hi hm
  have hj : b % N < N := Nat.mod_lt _ n1
  have hm' := tmod_natS b N
  generalize b % N = j0 at hj hm'
  have e1 : min (i0 : Int) (j0 : Int) = ((min i0 j0 : Nat) : Int) := by omega
  have e2 : max (i0 : Int) (j0 : Int) = ((max i0 j0 : Nat) : Int) := by omega
  have hfl : min i0 j0 ≤ max i0 j0 := by omega
  have hlN : max i0 j0 < N := by omega
  generalize min i0 j0 = first at e1 hfl
  generalize max i0 j0 = last at e2 hfl hlN
  obtain ⟨A, T, hS⟩ := sumP h hf
  have q1 := hS.tog first last hfl hlN
  have tb := hS.tb first last hfl hlN
  have tall := hS.all first last hfl hlN
  have s0 := ok_span31 0 0
  have hbl : ∀ k, k ≤ N → 0 ≤ sumT (fun k => (A k).1) k ∧ sumT (fun k => (A k).1) k ≤ 300 := fun k hk => by
    have := sum_bd (n := k) (most := 60) (x := fun k => (A k).1) fun i _ => ⟨(hS.bd i).1, (hS.bd i).2.1⟩
    omega
  have hbh : ∀ k, k ≤ N → 0 ≤ sumT (fun k => (A k).2) k ∧ sumT (fun k => (A k).2) k ≤ 300 := fun k hk => by
    have := sum_bd (n := k) (most := 60) (x := fun k => (A k).2) fun i _ => ⟨(hS.bd i).2.2.1, (hS.bd i).2.2.2⟩
    omega
  have hstep1 : ∀ k, sumT (fun k => (A k).1) (k + 1) = sumT (fun k => (A k).1) k + (A k).1 := fun _ => rfl
  have hstep2 : ∀ k, sumT (fun k => (A k).2) (k + 1) = sumT (fun k => (A k).2) k + (A k).2 := fun _ => rfl
  simp only [tyR] at hl ht q1
  refine fun_ok (nt := 288) (rs := [.tmp 6]) Try.func8 rfl rfl rfl (by simp) fun Z w0 => ?_; simp only [initFr, avR, List.map_cons, List.map_nil]
  simp only [tyR, List.map_cons, List.map_nil]
  (repeat (first | apply aw_seq | apply aw_block | apply aw_skip | apply aw_label | apply aw_exit | ((first | refine aw_region (hideO fun QQ hQQ => ?_) | refine aw_draw mixed (hideD fun QQ hQQ => ?_)); simp (maxSteps := 400000) (disch := first | decide | omega) only [hm, hm', e1, e2, go_sem, ↓reduceIte]; try (first | with_reducible refine unhide hQQ ?_ | refine ⟨by kernel_rfl, unhide hQQ ?_⟩); clear hQQ QQ) | with_reducible first | apply then_n | apply block_n | apply then_x | apply then_r | apply nog_n | apply nog_r | apply block_r | apply block_e (by decide) | apply block_x (by decide)))
  (refine callO_ok rfl rfl 35 true rfl (by simp (disch := first | decide | omega) only [hm, hm', e1, e2, go_sem, ↓reduceIte]; try rfl) (fun _ => rfl) (hl) Try.func35 rfl (by decide) ?_); simp (maxSteps := 400000) (disch := first | decide | omega) only [hm, hm', e1, e2, go_sem, ↓reduceIte]; (try (with_reducible refine unhide hQQ ?_; clear hQQ QQ; (repeat with_reducible first | apply then_n | apply block_n | apply then_x | apply then_r | apply nog_n | apply nog_r | apply block_r | apply block_e (by decide) | apply block_x (by decide))))
  ((refine callO_ok rfl rfl 36 true rfl (by simp (disch := first | decide | omega) only [hm, hm', e1, e2, go_sem, ↓reduceIte]; try rfl) (fun _ => rfl) (ht) Try.func36 rfl (by decide) ?_); simp (maxSteps := 400000) (disch := first | decide | omega) only [hm, hm', e1, e2, go_sem, ↓reduceIte]; try (with_reducible refine unhide hQQ ?_; clear hQQ QQ)); (repeat (first | apply aw_seq | apply aw_block | apply aw_skip | apply aw_label | apply aw_exit | ((first | refine aw_region (hideO fun QQ hQQ => ?_) | refine aw_draw mixed (hideD fun QQ hQQ => ?_)); simp (maxSteps := 400000) (disch := first | decide | omega) only [hm, hm', e1, e2, go_sem, ↓reduceIte]; try (first | with_reducible refine unhide hQQ ?_ | refine ⟨by kernel_rfl, unhide hQQ ?_⟩); clear hQQ QQ) | with_reducible first | apply then_n | apply block_n | apply then_x | apply then_r | apply nog_n | apply nog_r | apply block_r | apply block_e (by decide) | apply block_x (by decide)))
  refine aw_cond2 (by simp (disch := first | decide | omega) only [hm, hm', e1, e2, go_sem, ↓reduceIte]; rfl) ?_; first | refine .inl ⟨by first | rfl | exact decide_eq_true (by omega) | exact decide_eq_true (by assumption) | (simp (disch := first | decide | omega) only [if_pos_d, if_neg_d, decide_eq_true_eq, Bool.not_eq_true', decide_eq_false_iff_not]; omega), ?_⟩ | refine .inr ⟨by first | rfl | exact decide_eq_false (by omega) | exact decide_eq_false (by assumption) | (simp (disch := first | decide | omega) only [if_pos_d, if_neg_d, decide_eq_true_eq, Bool.not_eq_true', decide_eq_false_iff_not]; omega), ?_⟩
  (repeat (first | apply aw_seq | apply aw_block | apply aw_skip | apply aw_label | apply aw_exit | ((first | refine aw_region (hideO fun QQ hQQ => ?_) | refine aw_draw mixed (hideD fun QQ hQQ => ?_)); simp (maxSteps := 400000) (disch := first | decide | omega) only [hm, hm', e1, e2, go_sem, ↓reduceIte]; try (first | with_reducible refine unhide hQQ ?_ | refine ⟨by kernel_rfl, unhide hQQ ?_⟩); clear hQQ QQ) | with_reducible first | apply then_n | apply block_n | apply then_x | apply then_r | apply nog_n | apply nog_r | apply block_r | apply block_e (by decide) | apply block_x (by decide)))
  ((refine callO_ok rfl rfl 20 true rfl (by simp (disch := first | decide | omega) only [hm, hm', e1, e2, go_sem, ↓reduceIte]; try rfl) (fun _ => rfl) (q1) Try.func20 rfl (by decide) ?_); simp (maxSteps := 400000) (disch := first | decide | omega) only [hm, hm', e1, e2, go_sem, ↓reduceIte]; try (with_reducible refine unhide hQQ ?_; clear hQQ QQ)); (repeat (first | apply aw_seq | apply aw_block | apply aw_skip | apply aw_label | apply aw_exit | ((first | refine aw_region (hideO fun QQ hQQ => ?_) | refine aw_draw mixed (hideD fun QQ hQQ => ?_)); simp (maxSteps := 400000) (disch := first | decide | omega) only [hm, hm', e1, e2, go_sem, ↓reduceIte]; try (first | with_reducible refine unhide hQQ ?_ | refine ⟨by kernel_rfl, unhide hQQ ?_⟩); clear hQQ QQ) | with_reducible first | apply then_n | apply block_n | apply then_x | apply then_r | apply nog_n | apply nog_r | apply block_r | apply block_e (by decide) | apply block_x (by decide)))
  refine aw_cond2 (by simp (disch := first | decide | omega) only [hm, hm', e1, e2, go_sem, ↓reduceIte]; rfl) ?_; first | refine .inl ⟨by first | rfl | exact decide_eq_true (by omega) | exact decide_eq_true (by assumption) | (simp (disch := first | decide | omega) only [if_pos_d, if_neg_d, decide_eq_true_eq, Bool.not_eq_true', decide_eq_false_iff_not]; omega), ?_⟩ | refine .inr ⟨by first | rfl | exact decide_eq_false (by omega) | exact decide_eq_false (by assumption) | (simp (disch := first | decide | omega) only [if_pos_d, if_neg_d, decide_eq_true_eq, Bool.not_eq_true', decide_eq_false_iff_not]; omega), ?_⟩
  (repeat (first | apply aw_seq | apply aw_block | apply aw_skip | apply aw_label | apply aw_exit | ((first | refine aw_region (hideO fun QQ hQQ => ?_) | refine aw_draw mixed (hideD fun QQ hQQ => ?_)); simp (maxSteps := 400000) (disch := first | decide | omega) only [hm, hm', e1, e2, go_sem, ↓reduceIte]; try (first | with_reducible refine unhide hQQ ?_ | refine ⟨by kernel_rfl, unhide hQQ ?_⟩); clear hQQ QQ) | with_reducible first | apply then_n | apply block_n | apply then_x | apply then_r | apply nog_n | apply nog_r | apply block_r | apply block_e (by decide) | apply block_x (by decide)))
  ((refine callO_ok rfl rfl 31 true rfl (by simp (disch := first | decide | omega) only [hm, hm', e1, e2, go_sem, ↓reduceIte]; try rfl) (fun _ => rfl) (s0) Try.func31 rfl (by decide) ?_); simp (maxSteps := 400000) (disch := first | decide | omega) only [hm, hm', e1, e2, go_sem, ↓reduceIte]; try (with_reducible refine unhide hQQ ?_; clear hQQ QQ)); (repeat (first | apply aw_seq | apply aw_block | apply aw_skip | apply aw_label | apply aw_exit | ((first | refine aw_region (hideO fun QQ hQQ => ?_) | refine aw_draw mixed (hideD fun QQ hQQ => ?_)); simp (maxSteps := 400000) (disch := first | decide | omega) only [hm, hm', e1, e2, go_sem, ↓reduceIte]; try (first | with_reducible refine unhide hQQ ?_ | refine ⟨by kernel_rfl, unhide hQQ ?_⟩); clear hQQ QQ) | with_reducible first | apply then_n | apply block_n | apply then_x | apply then_r | apply nog_n | apply nog_r | apply block_r | apply block_e (by decide) | apply block_x (by decide)))
  clear hl ht q1
  refine aw_weak (weak_keep [3, 7, 8, 9, 11, 12] (by simp only [go_sem, ↓reduceIte]; rfl)) ?_
  refine aw_loop_ov (ι := { i : Nat // first ≤ i ∧ i ≤ last + 1 }) (fun i => [(12, iA i.1)]) (fun i => [(2, .box [.p (iP (sumT (fun k => (A k).1) i.1 - sumT (fun k => (A k).1) first)), .p (iP (sumT (fun k => (A k).2) i.1 - sumT (fun k => (A k).2) first))])]) (fun i => last + 1 - i.1) ⟨first, by omega⟩ (by first | rfl | (simp only [go_sem, ↓reduceIte]; first | done | rfl | (simp; try rfl))) ?_
  rintro ⟨i, hi1, hi2⟩
  simp (disch := decide) only [ov, ovL, AL.get_nil, AL.get_eq, AL.get_ne, Option.getD_some, Option.getD_none]
  by_cases hil : i ≤ last
  · have qi := hS.one i (by omega)
    have bi := hS.bd i
    have w1 := hbl i (by omega)
    have w2 := hbl first (by omega)
    have w3 := hbh i (by omega)
    have w4 := hbh first (by omega)
    have w5 := hbl (i + 1) (by omega)
    have w6 := hbh (i + 1) (by omega)
    have st1 := hstep1 i
    have st2 := hstep2 i
    have hX1 : sumT (fun k => (A k).1) (i + 1) - sumT (fun k => (A k).1) first = sumT (fun k => (A k).1) i - sumT (fun k => (A k).1) first + (A i).1 := by omega
    have hX2 : sumT (fun k => (A k).2) (i + 1) - sumT (fun k => (A k).2) first = sumT (fun k => (A k).2) i - sumT (fun k => (A k).2) first + (A i).2 := by omega
    simp only [tyR] at qi
    have sp := ok_span31 (sumT (fun k => (A k).1) i - sumT (fun k => (A k).1) first + (A i).1) (sumT (fun k => (A k).2) i - sumT (fun k => (A k).2) first + (A i).2)
    refine tw ?_; try with_reducible intro QQ hQQ
    refine ti ?_; try clear hQQ QQ
    refine tw ?_; try with_reducible intro QQ hQQ
    ((refine cO 14 rfl rfl rfl (qi) Try.func14 rfl ?_); refine tu ?_; try clear hQQ QQ); refine tw ?_; try with_reducible intro QQ hQQ
    refine ti ?_; try clear hQQ QQ
    refine tw ?_; try with_reducible intro QQ hQQ
    ((refine cO 31 rfl rfl rfl (sp) Try.func31 rfl ?_); refine tu ?_; try clear hQQ QQ); refine tw ?_; try with_reducible intro QQ hQQ
    refine ⟨⟨i + 1, by omega, by omega⟩, ?_, weak_round ?_ (by first | rfl | (simp only [go_sem, ↓reduceIte]))⟩
    rotate_left
    · simp only [hX1, hX2]
      (simp only [go_sem, ↓reduceIte]; try rfl)
    · simp only; omega
  · have : i = last + 1 := by omega
    subst this
    have w1 := hbl (last + 1) (by omega)
    have w2 := hbl first (by omega)
    have w3 := hbh (last + 1) (by omega)
    have w4 := hbh first (by omega)
    refine tw ?_; try with_reducible intro QQ hQQ
    refine ti ?_; try clear hQQ QQ
    refine tw ?_; try with_reducible intro QQ hQQ
    refine ti ?_; try clear hQQ QQ
    refine tw ?_; try with_reducible intro QQ hQQ
    refine aw_join_keep (ι := Unit) [3, 11] (by simp only [go_sem, ↓reduceIte]; rfl) (fun _ => []) (fun _ => []) ?_ ?_
    · by_cases hfl2 : first < last
      · obtain ⟨q, hq⟩ : ∃ q, (last - first) / 2 = q := ⟨_, rfl⟩
        have hquo : ∀ (T : TypeId) (x y : Operand), binA Try.prog .quo T x y (.int .i64 ((last : Int) - (first : Int))) (.int .i64 2) = some (.int .i64 (q : Int)) := fun T x y => by
          rw [bin_quo _ _ _ _ _ _ (by decide), show ((last : Int) - (first : Int)) = ((last - first : Nat) : Int) by omega, Int.tdiv_eq_ediv_of_nonneg (by omega), show (((last - first : Nat) : Int) / 2) = (q : Int) by omega, wrap_nat (by omega)]
        have hquo2 : ∀ (T : TypeId) (x y : Operand), binA Try.prog .quo T x y (.int .i64 ((last - first : Nat) : Int)) (.int .i64 2) = some (.int .i64 (q : Int)) := fun T x y => by
          rw [show ((last - first : Nat) : Int) = ((last : Int) - (first : Int)) by omega]; exact hquo T x y
        obtain ⟨m, hmd⟩ : ∃ m, first + q = m := ⟨_, rfl⟩
        have hadd : (first : Int) + (q : Int) = (m : Int) := by omega
        have q2 := hS.tog first m (by omega) (by omega)
        have q3 := hS.tog (m + 1) last (by omega) hlN
        rw [show ((m + 1 : Nat) : Int) = (m : Int) + 1 by omega] at q3
        have t2 := hS.tb first m (by omega) (by omega)
        have t3 := hS.tb (m + 1) last (by omega) hlN
        have hh := hS.half first m last (by omega) (by omega) hlN
        simp only [tyR] at q2 q3
        refine aw_cond2 (by simp (disch := first | decide | omega) only [hquo, hquo2, hadd, go_sem, ↓reduceIte]; rfl) ?_; first | refine .inl ⟨by first | rfl | exact decide_eq_true (by omega) | exact decide_eq_true (by assumption) | (simp (disch := first | decide | omega) only [if_pos_d, if_neg_d, decide_eq_true_eq, Bool.not_eq_true', decide_eq_false_iff_not]; omega), ?_⟩ | refine .inr ⟨by first | rfl | exact decide_eq_false (by omega) | exact decide_eq_false (by assumption) | (simp (disch := first | decide | omega) only [if_pos_d, if_neg_d, decide_eq_true_eq, Bool.not_eq_true', decide_eq_false_iff_not]; omega), ?_⟩
        (repeat (first | apply aw_seq | apply aw_block | apply aw_skip | apply aw_label | apply aw_exit | ((first | refine aw_region (hideO fun QQ hQQ => ?_) | refine aw_draw mixed (hideD fun QQ hQQ => ?_)); simp (maxSteps := 400000) (disch := first | decide | omega) only [hquo, hquo2, hadd, go_sem, ↓reduceIte]; try (first | with_reducible refine unhide hQQ ?_ | refine ⟨by kernel_rfl, unhide hQQ ?_⟩); clear hQQ QQ) | with_reducible first | apply then_n | apply block_n | apply then_x | apply then_r | apply nog_n | apply nog_r | apply block_r | apply block_e (by decide) | apply block_x (by decide)))
        ((refine callO_ok rfl rfl 20 true rfl (by simp (disch := first | decide | omega) only [hquo, hquo2, hadd, go_sem, ↓reduceIte]; try rfl) (fun _ => rfl) (q2) Try.func20 rfl (by decide) ?_); simp (maxSteps := 400000) (disch := first | decide | omega) only [hquo, hquo2, hadd, go_sem, ↓reduceIte]; try (with_reducible refine unhide hQQ ?_; clear hQQ QQ)); (repeat (first | apply aw_seq | apply aw_block | apply aw_skip | apply aw_label | apply aw_exit | ((first | refine aw_region (hideO fun QQ hQQ => ?_) | refine aw_draw mixed (hideD fun QQ hQQ => ?_)); simp (maxSteps := 400000) (disch := first | decide | omega) only [hquo, hquo2, hadd, go_sem, ↓reduceIte]; try (first | with_reducible refine unhide hQQ ?_ | refine ⟨by kernel_rfl, unhide hQQ ?_⟩); clear hQQ QQ) | with_reducible first | apply then_n | apply block_n | apply then_x | apply then_r | apply nog_n | apply nog_r | apply block_r | apply block_e (by decide) | apply block_x (by decide)))
        ((refine callO_ok rfl rfl 20 true rfl (by simp (disch := first | decide | omega) only [hquo, hquo2, hadd, go_sem, ↓reduceIte]; try rfl) (fun _ => rfl) (q3) Try.func20 rfl (by decide) ?_); simp (maxSteps := 400000) (disch := first | decide | omega) only [hquo, hquo2, hadd, go_sem, ↓reduceIte]; try (with_reducible refine unhide hQQ ?_; clear hQQ QQ)); (repeat (first | apply aw_seq | apply aw_block | apply aw_skip | apply aw_label | apply aw_exit | ((first | refine aw_region (hideO fun QQ hQQ => ?_) | refine aw_draw mixed (hideD fun QQ hQQ => ?_)); simp (maxSteps := 400000) (disch := first | decide | omega) only [hquo, hquo2, hadd, go_sem, ↓reduceIte]; try (first | with_reducible refine unhide hQQ ?_ | refine ⟨by kernel_rfl, unhide hQQ ?_⟩); clear hQQ QQ) | with_reducible first | apply then_n | apply block_n | apply then_x | apply then_r | apply nog_n | apply nog_r | apply block_r | apply block_e (by decide) | apply block_x (by decide)))
        refine aw_cond2 (by simp (disch := first | decide | omega) only [hquo, hquo2, hadd, go_sem, ↓reduceIte]; rfl) ?_; first | refine .inl ⟨by first | rfl | exact decide_eq_true (by omega) | exact decide_eq_true (by assumption) | (simp (disch := first | decide | omega) only [if_pos_d, if_neg_d, decide_eq_true_eq, Bool.not_eq_true', decide_eq_false_iff_not]; omega), ?_⟩ | refine .inr ⟨by first | rfl | exact decide_eq_false (by omega) | exact decide_eq_false (by assumption) | (simp (disch := first | decide | omega) only [if_pos_d, if_neg_d, decide_eq_true_eq, Bool.not_eq_true', decide_eq_false_iff_not]; omega), ?_⟩
        (repeat (first | apply aw_seq | apply aw_block | apply aw_skip | apply aw_label | apply aw_exit | ((first | refine aw_region (hideO fun QQ hQQ => ?_) | refine aw_draw mixed (hideD fun QQ hQQ => ?_)); simp (maxSteps := 400000) (disch := first | decide | omega) only [hquo, hquo2, hadd, go_sem, ↓reduceIte]; try (first | with_reducible refine unhide hQQ ?_ | refine ⟨by kernel_rfl, unhide hQQ ?_⟩); clear hQQ QQ) | with_reducible first | apply then_n | apply block_n | apply then_x | apply then_r | apply nog_n | apply nog_r | apply block_r | apply block_e (by decide) | apply block_x (by decide)))
        refine ⟨(), weak_round ?_ (by first | rfl | (simp only [hquo, hquo2, hadd, go_sem, ↓reduceIte]))⟩
        (simp only [hquo, hquo2, hadd, go_sem, ↓reduceIte]; try rfl)
      · refine ti ?_; try clear hQQ QQ
        refine tw ?_; try with_reducible intro QQ hQQ
        refine ⟨(), weak_round ?_ (by first | rfl | (simp only [go_sem, ↓reduceIte]))⟩
        (simp only [go_sem, ↓reduceIte]; try rfl)
    · rintro ⟨⟩
      simp only [ov, ovL]
      refine tw ?_; try with_reducible intro QQ hQQ
      refine ⟨rfl, .inr ⟨rfl, callS_makeSlice (n := strays.length) (E := 27) (k := 2) (by_ := 16) (zr := [.v (.int .i64 0), .v (.int .i64 0)]) rfl rfl (by simp (disch := first | decide | omega) only [go_sem, ↓reduceIte]) (by simp (disch := first | decide | omega) only [go_sem, ↓reduceIte]) (by simp (disch := first | decide | omega) only [go_sem, ↓reduceIte]) (by simp (disch := first | decide | omega) only [go_sem, ↓reduceIte]; try rfl) rfl (by simp (disch := first | decide | omega) only [go_sem, ↓reduceIte]; try rfl) (by simp (disch := first | decide | omega) only [go_sem, ↓reduceIte]; try rfl) (by omega) (by omega) (by unfold maxLen; omega) ?_⟩⟩
      rw [zr_rows]
      have hzl := zr_len strays.length
      have hz0 : ∀ i, i < (zrL strays.length).length → (zrL strays.length).getD i (0, 0) = (0, 0) := fun i hi => by
        simp only [zrL, List.length_replicate] at hi ⊢
        rw [List.getD_eq_getElem?_getD, List.getElem?_replicate, if_pos hi]; rfl
      generalize zrL strays.length = ZL at *
      (refine ts ?_; try clear hQQ QQ)
      refine tw ?_; try with_reducible intro QQ hQQ
      refine aw_weak (weak_share 4 (E := 27) (k := 2) (rows := ZL.map row2) (sh := false) (by rfl)) ?_
      refine aw_weak (weak_ownB 3 3 29 4 (by (refine ts ?_; try clear hQQ QQ); rfl) rfl) ?_
      simp only [AL.set, List.set]
      have hq0 : ∀ i, i < calls.length → portQ calls i = portQ calls i := fun _ _ => rfl
      refine aw_weak (weak_keep [3, 11, 20, 197, 198, 199] (by simp only [go_sem, ↓reduceIte]; rfl)) ?_
      refine aw_loop_ov (ι := { i : Nat // i ≤ calls.length }) (fun i => [(199, iA i.1)]) (fun i => [(3, .box [.p (iP N), .p (iP most), .own 4 strays.length, .own 5 (pickL (portQ calls) calls i.1).length]), (5, .arr 29 4 ((pickL (portQ calls) calls i.1).map row4) true)]) (fun i => calls.length - i.1) ⟨0, by omega⟩ (by first | rfl | (simp only [go_sem, ↓reduceIte]; first | done | rfl | (simp; try rfl))) ?_
      rintro ⟨i, hi⟩
      simp (disch := decide) only [ov, ovL, AL.get_nil, AL.get_eq, AL.get_ne, Option.getD_some, Option.getD_none]
      have hpl := pick_len (portQ calls) calls i
      by_cases hil : i < calls.length
      · by_cases hp : (calls.getD i (0, 0, 0, 0)).1 = 0
        · have e1 : pickL (portQ calls) calls (i + 1) = pickL (portQ calls) calls i ++ [calls.getD i (0, 0, 0, 0)] := by
            conv => lhs; unfold pickL
            rw [if_pos (by unfold portQ; exact decide_eq_true hp)]
          generalize hPP : pickL (portQ calls) calls i = P at *
          refine tw ?_; try with_reducible intro QQ hQQ
          refine ti ?_; try clear hQQ QQ
          refine tw ?_; try with_reducible intro QQ hQQ
          refine ti ?_; try clear hQQ QQ
          refine tw ?_; try with_reducible intro QQ hQQ
          refine ⟨⟨i + 1, by omega⟩, ?_, weak_round ?_ (by first | rfl | (simp only [go_sem, ↓reduceIte]))⟩
          rotate_left
          · simp only [ov, ovL, e1]
            simp only [go_sem, ↓reduceIte]
            all_goals (try simp [row4])
            all_goals (try omega)
          · simp only; omega
        · have e1 : pickL (portQ calls) calls (i + 1) = pickL (portQ calls) calls i := by
            conv => lhs; unfold pickL
            rw [if_neg (by unfold portQ; simpa using hp)]
          refine tw ?_; try with_reducible intro QQ hQQ
          refine ti ?_; try clear hQQ QQ
          refine tw ?_; try with_reducible intro QQ hQQ
          refine ti ?_; try clear hQQ QQ
          refine tw ?_; try with_reducible intro QQ hQQ
          refine ⟨⟨i + 1, by omega⟩, ?_, weak_round ?_ (by first | rfl | (simp only [go_sem, ↓reduceIte]))⟩
          rotate_left
          · simp only [e1]
            (simp only [go_sem, ↓reduceIte]; try rfl)
          · simp only; omega
      · have hiN : i = calls.length := by omega
        subst hiN
        refine tw ?_; try with_reducible intro QQ hQQ
        refine ti ?_; try clear hQQ QQ
        refine tw ?_; try with_reducible intro QQ hQQ
        have htz := take_zr hzl
        have hTx : TOK N most ZL (pickL (portQ calls) calls calls.length) := by
          have hp := tok_pick h (portQ calls)
          exact ⟨h.n1, h.n5, h.m0, h.m60, by omega, hp.cl, fun i hi => by rw [hz0 i hi]; decide, hp.ca⟩
        have hkind : ∀ c, c ∈ pickL (portQ calls) calls calls.length → c.1 = 0 := fun c hc => by
          obtain ⟨i, _, hq, rfl⟩ := (pick_mem _ _ _ _).1 hc
          unfold portQ at hq
          exact of_decide_eq_true hq
        generalize pickL (portQ calls) calls calls.length = PK at *
        refine tw ?_; try with_reducible intro QQ hQQ
        ((refine cO 31 rfl rfl rfl (s0) Try.func31 rfl ?_); refine tu ?_; try clear hQQ QQ); refine tw ?_; try with_reducible intro QQ hQQ
        by_cases hw : Whole N most ZL PK
        · obtain ⟨B, hB⟩ := portP hTx hw hz0 hkind
          have q9 := hB.tog
          have hbl2 : ∀ k, k ≤ N → 0 ≤ sumT (fun k => (B k).1) k ∧ sumT (fun k => (B k).1) k ≤ 300 := fun k hk => by
            have := sum_bd (n := k) (most := 60) (x := fun k => (B k).1) fun i _ => ⟨(hB.bd i).1, (hB.bd i).2.1⟩
            omega
          have hbh2 : ∀ k, k ≤ N → 0 ≤ sumT (fun k => (B k).2) k ∧ sumT (fun k => (B k).2) k ≤ 300 := fun k hk => by
            have := sum_bd (n := k) (most := 60) (x := fun k => (B k).2) fun i _ => ⟨(hB.bd i).2.2.1, (hB.bd i).2.2.2⟩
            omega
          simp only [tyR] at q9
          refine aw_weak (weak_keep [3, 11, 20, 23, 215, 216] (by simp only [go_sem, ↓reduceIte]; rfl)) ?_
          refine aw_loop_ov (ι := { i : Nat // i ≤ N }) (fun i => [(216, iA i.1), (23, .one (.p (.v (.bool false))))]) (fun i => [(2, .box [.p (iP (sumT (fun k => (B k).1) i.1)), .p (iP (sumT (fun k => (B k).2) i.1))])]) (fun i => N - i.1) ⟨0, by omega⟩ (by first | rfl | (simp only [go_sem, ↓reduceIte]; first | done | rfl | (simp; try rfl))) ?_
          rintro ⟨i, hi⟩
          simp (disch := decide) only [ov, ovL, AL.get_nil, AL.get_eq, AL.get_ne, Option.getD_some, Option.getD_none]
          by_cases hil : i < N
          · have q7 := hB.one i hil
            have q8 := hB.pen i hil
            have bi := hB.bd i
            have w1 := hbl2 i (by omega)
            have w2 := hbh2 i (by omega)
            have w3 := hbl2 (i + 1) (by omega)
            have w4 := hbh2 (i + 1) (by omega)
            have hX1 : sumT (fun k => (B k).1) (i + 1) = sumT (fun k => (B k).1) i + (B i).1 := rfl
            have hX2 : sumT (fun k => (B k).2) (i + 1) = sumT (fun k => (B k).2) i + (B i).2 := rfl
            have sp := ok_span31 (sumT (fun k => (B k).1) i + (B i).1) (sumT (fun k => (B k).2) i + (B i).2)
            simp only [tyR] at q7 q8
            (repeat (first | apply aw_seq | apply aw_block | apply aw_skip | apply aw_label | apply aw_exit | ((first | refine aw_region (hideO fun QQ hQQ => ?_) | refine aw_draw mixed (hideD fun QQ hQQ => ?_)); simp (maxSteps := 400000) (disch := first | decide | omega) only [take_map4, htz, go_sem, ↓reduceIte]; try (first | with_reducible refine unhide hQQ ?_ | refine ⟨by kernel_rfl, unhide hQQ ?_⟩); clear hQQ QQ) | with_reducible first | apply then_n | apply block_n | apply then_x | apply then_r | apply nog_n | apply nog_r | apply block_r | apply block_e (by decide) | apply block_x (by decide)))
            refine aw_cond2 (by simp (disch := first | decide | omega) only [take_map4, htz, go_sem, ↓reduceIte]; rfl) ?_; first | refine .inl ⟨by first | rfl | exact decide_eq_true (by omega) | exact decide_eq_true (by assumption) | (simp (disch := first | decide | omega) only [if_pos_d, if_neg_d, decide_eq_true_eq, Bool.not_eq_true', decide_eq_false_iff_not]; omega), ?_⟩ | refine .inr ⟨by first | rfl | exact decide_eq_false (by omega) | exact decide_eq_false (by assumption) | (simp (disch := first | decide | omega) only [if_pos_d, if_neg_d, decide_eq_true_eq, Bool.not_eq_true', decide_eq_false_iff_not]; omega), ?_⟩
            (repeat (first | apply aw_seq | apply aw_block | apply aw_skip | apply aw_label | apply aw_exit | ((first | refine aw_region (hideO fun QQ hQQ => ?_) | refine aw_draw mixed (hideD fun QQ hQQ => ?_)); simp (maxSteps := 400000) (disch := first | decide | omega) only [take_map4, htz, go_sem, ↓reduceIte]; try (first | with_reducible refine unhide hQQ ?_ | refine ⟨by kernel_rfl, unhide hQQ ?_⟩); clear hQQ QQ) | with_reducible first | apply then_n | apply block_n | apply then_x | apply then_r | apply nog_n | apply nog_r | apply block_r | apply block_e (by decide) | apply block_x (by decide)))
            ((refine callO_ok rfl rfl 14 true rfl (by simp (disch := first | decide | omega) only [take_map4, htz, go_sem, ↓reduceIte]; try rfl) (fun _ => rfl) (q7) Try.func14 rfl (by decide) ?_); simp (maxSteps := 400000) (disch := first | decide | omega) only [take_map4, htz, go_sem, ↓reduceIte]; try (with_reducible refine unhide hQQ ?_; clear hQQ QQ)); (repeat (first | apply aw_seq | apply aw_block | apply aw_skip | apply aw_label | apply aw_exit | ((first | refine aw_region (hideO fun QQ hQQ => ?_) | refine aw_draw mixed (hideD fun QQ hQQ => ?_)); simp (maxSteps := 400000) (disch := first | decide | omega) only [take_map4, htz, go_sem, ↓reduceIte]; try (first | with_reducible refine unhide hQQ ?_ | refine ⟨by kernel_rfl, unhide hQQ ?_⟩); clear hQQ QQ) | with_reducible first | apply then_n | apply block_n | apply then_x | apply then_r | apply nog_n | apply nog_r | apply block_r | apply block_e (by decide) | apply block_x (by decide)))
            ((refine callO_ok rfl rfl 16 true rfl (by simp (disch := first | decide | omega) only [take_map4, htz, go_sem, ↓reduceIte]; try rfl) (fun _ => rfl) (q8) Try.func16 rfl (by decide) ?_); simp (maxSteps := 400000) (disch := first | decide | omega) only [take_map4, htz, go_sem, ↓reduceIte]; try (with_reducible refine unhide hQQ ?_; clear hQQ QQ)); (repeat (first | apply aw_seq | apply aw_block | apply aw_skip | apply aw_label | apply aw_exit | ((first | refine aw_region (hideO fun QQ hQQ => ?_) | refine aw_draw mixed (hideD fun QQ hQQ => ?_)); simp (maxSteps := 400000) (disch := first | decide | omega) only [take_map4, htz, go_sem, ↓reduceIte]; try (first | with_reducible refine unhide hQQ ?_ | refine ⟨by kernel_rfl, unhide hQQ ?_⟩); clear hQQ QQ) | with_reducible first | apply then_n | apply block_n | apply then_x | apply then_r | apply nog_n | apply nog_r | apply block_r | apply block_e (by decide) | apply block_x (by decide)))
            refine aw_cond2 (by simp (disch := first | decide | omega) only [take_map4, htz, go_sem, ↓reduceIte]; rfl) ?_; first | refine .inl ⟨by first | rfl | exact decide_eq_true (by omega) | exact decide_eq_true (by assumption) | (simp (disch := first | decide | omega) only [if_pos_d, if_neg_d, decide_eq_true_eq, Bool.not_eq_true', decide_eq_false_iff_not]; omega), ?_⟩ | refine .inr ⟨by first | rfl | exact decide_eq_false (by omega) | exact decide_eq_false (by assumption) | (simp (disch := first | decide | omega) only [if_pos_d, if_neg_d, decide_eq_true_eq, Bool.not_eq_true', decide_eq_false_iff_not]; omega), ?_⟩
            (repeat (first | apply aw_seq | apply aw_block | apply aw_skip | apply aw_label | apply aw_exit | ((first | refine aw_region (hideO fun QQ hQQ => ?_) | refine aw_draw mixed (hideD fun QQ hQQ => ?_)); simp (maxSteps := 400000) (disch := first | decide | omega) only [take_map4, htz, go_sem, ↓reduceIte]; try (first | with_reducible refine unhide hQQ ?_ | refine ⟨by kernel_rfl, unhide hQQ ?_⟩); clear hQQ QQ) | with_reducible first | apply then_n | apply block_n | apply then_x | apply then_r | apply nog_n | apply nog_r | apply block_r | apply block_e (by decide) | apply block_x (by decide)))
            ((refine callO_ok rfl rfl 31 true rfl (by simp (disch := first | decide | omega) only [take_map4, htz, go_sem, ↓reduceIte]; try rfl) (fun _ => rfl) (sp) Try.func31 rfl (by decide) ?_); simp (maxSteps := 400000) (disch := first | decide | omega) only [take_map4, htz, go_sem, ↓reduceIte]; try (with_reducible refine unhide hQQ ?_; clear hQQ QQ)); (repeat (first | apply aw_seq | apply aw_block | apply aw_skip | apply aw_label | apply aw_exit | ((first | refine aw_region (hideO fun QQ hQQ => ?_) | refine aw_draw mixed (hideD fun QQ hQQ => ?_)); simp (maxSteps := 400000) (disch := first | decide | omega) only [take_map4, htz, go_sem, ↓reduceIte]; try (first | with_reducible refine unhide hQQ ?_ | refine ⟨by kernel_rfl, unhide hQQ ?_⟩); clear hQQ QQ) | with_reducible first | apply then_n | apply block_n | apply then_x | apply then_r | apply nog_n | apply nog_r | apply block_r | apply block_e (by decide) | apply block_x (by decide)))
            refine ⟨⟨i + 1, by omega⟩, ?_, weak_round ?_ (by first | rfl | (simp only [take_map4, htz, go_sem, ↓reduceIte]))⟩
            rotate_left
            · simp only [hX1, hX2]
              (simp only [take_map4, htz, go_sem, ↓reduceIte]; try rfl)
            · simp only; omega
          · have hiN : i = N := by omega
            subst hiN
            (repeat (first | apply aw_seq | apply aw_block | apply aw_skip | apply aw_label | apply aw_exit | ((first | refine aw_region (hideO fun QQ hQQ => ?_) | refine aw_draw mixed (hideD fun QQ hQQ => ?_)); simp (maxSteps := 400000) (disch := first | decide | omega) only [take_map4, htz, go_sem, ↓reduceIte]; try (first | with_reducible refine unhide hQQ ?_ | refine ⟨by kernel_rfl, unhide hQQ ?_⟩); clear hQQ QQ) | with_reducible first | apply then_n | apply block_n | apply then_x | apply then_r | apply nog_n | apply nog_r | apply block_r | apply block_e (by decide) | apply block_x (by decide)))
            refine aw_cond2 (by simp (disch := first | decide | omega) only [take_map4, htz, go_sem, ↓reduceIte]; rfl) ?_; first | refine .inl ⟨by first | rfl | exact decide_eq_true (by omega) | exact decide_eq_true (by assumption) | (simp (disch := first | decide | omega) only [if_pos_d, if_neg_d, decide_eq_true_eq, Bool.not_eq_true', decide_eq_false_iff_not]; omega), ?_⟩ | refine .inr ⟨by first | rfl | exact decide_eq_false (by omega) | exact decide_eq_false (by assumption) | (simp (disch := first | decide | omega) only [if_pos_d, if_neg_d, decide_eq_true_eq, Bool.not_eq_true', decide_eq_false_iff_not]; omega), ?_⟩
            (repeat (first | apply aw_seq | apply aw_block | apply aw_skip | apply aw_label | apply aw_exit | ((first | refine aw_region (hideO fun QQ hQQ => ?_) | refine aw_draw mixed (hideD fun QQ hQQ => ?_)); simp (maxSteps := 400000) (disch := first | decide | omega) only [take_map4, htz, go_sem, ↓reduceIte]; try (first | with_reducible refine unhide hQQ ?_ | refine ⟨by kernel_rfl, unhide hQQ ?_⟩); clear hQQ QQ) | with_reducible first | apply then_n | apply block_n | apply then_x | apply then_r | apply nog_n | apply nog_r | apply block_r | apply block_e (by decide) | apply block_x (by decide)))
            ((refine callO_ok rfl rfl 20 true rfl (by simp (disch := first | decide | omega) only [take_map4, htz, go_sem, ↓reduceIte]; try rfl) (fun _ => rfl) (q9) Try.func20 rfl (by decide) ?_); simp (maxSteps := 400000) (disch := first | decide | omega) only [take_map4, htz, go_sem, ↓reduceIte]; try (with_reducible refine unhide hQQ ?_; clear hQQ QQ)); (repeat (first | apply aw_seq | apply aw_block | apply aw_skip | apply aw_label | apply aw_exit | ((first | refine aw_region (hideO fun QQ hQQ => ?_) | refine aw_draw mixed (hideD fun QQ hQQ => ?_)); simp (maxSteps := 400000) (disch := first | decide | omega) only [take_map4, htz, go_sem, ↓reduceIte]; try (first | with_reducible refine unhide hQQ ?_ | refine ⟨by kernel_rfl, unhide hQQ ?_⟩); clear hQQ QQ) | with_reducible first | apply then_n | apply block_n | apply then_x | apply then_r | apply nog_n | apply nog_r | apply block_r | apply block_e (by decide) | apply block_x (by decide)))
            ((refine callO_ok rfl rfl 13 true rfl (by simp (disch := first | decide | omega) only [take_map4, htz, go_sem, ↓reduceIte]; try rfl) (fun _ => rfl) (hal) Try.func13 rfl (by decide) ?_); simp (maxSteps := 400000) (disch := first | decide | omega) only [take_map4, htz, go_sem, ↓reduceIte]; try (with_reducible refine unhide hQQ ?_; clear hQQ QQ)); (repeat (first | apply aw_seq | apply aw_block | apply aw_skip | apply aw_label | apply aw_exit | ((first | refine aw_region (hideO fun QQ hQQ => ?_) | refine aw_draw mixed (hideD fun QQ hQQ => ?_)); simp (maxSteps := 400000) (disch := first | decide | omega) only [take_map4, htz, go_sem, ↓reduceIte]; try (first | with_reducible refine unhide hQQ ?_ | refine ⟨by kernel_rfl, unhide hQQ ?_⟩); clear hQQ QQ) | with_reducible first | apply then_n | apply block_n | apply then_x | apply then_r | apply nog_n | apply nog_r | apply block_r | apply block_e (by decide) | apply block_x (by decide)))
            refine aw_ret ?_; refine ⟨.inr rfl, ?_⟩; simp only [resA, res1, go_sem, ↓reduceIte]
        · have q9 := x_Together hTx hw (i := 0) (j := N - 1) (by omega) (by omega)
          rw [show ((N - 1 : Nat) : Int) = (N : Int) - 1 by omega] at q9
          simp only [tyR] at q9
          refine aw_weak (weak_keep [3, 11, 20, 23, 215, 216] (by simp only [take_map4, htz, go_sem, ↓reduceIte]; rfl)) ?_
          refine aw_loop_ov (ι := { i : Nat // i ≤ N }) (fun i => [(216, iA i.1), (23, .one (.p (.v (.bool (decide (0 < i.1))))))]) (fun i => [(2, .box [.p (iP 0), .p (iP 0)])]) (fun i => N - i.1) ⟨0, by omega⟩ (by first | rfl | (simp only [take_map4, htz, go_sem, ↓reduceIte]; first | done | rfl | (simp; try rfl))) ?_
          rintro ⟨i, hi⟩
          simp (disch := decide) only [ov, ovL, AL.get_nil, AL.get_eq, AL.get_ne, Option.getD_some, Option.getD_none]
          by_cases hil : i < N
          · have q7 := x_Shorn hTx hw hil
            have q8 := x_Pen hTx hw hil
            simp only [tyR] at q7 q8
            have h0 : decide (0 < i + 1) = true := decide_eq_true (by omega)
            rcases Nat.eq_zero_or_pos i with hi0 | hi0
            · have hd : decide (0 < i) = false := decide_eq_false (by omega)
              (repeat (first | apply aw_seq | apply aw_block | apply aw_skip | apply aw_label | apply aw_exit | ((first | refine aw_region (hideO fun QQ hQQ => ?_) | refine aw_draw mixed (hideD fun QQ hQQ => ?_)); simp (maxSteps := 400000) (disch := first | decide | omega) only [take_map4, htz, hd, go_sem, ↓reduceIte]; try (first | with_reducible refine unhide hQQ ?_ | refine ⟨by kernel_rfl, unhide hQQ ?_⟩); clear hQQ QQ) | with_reducible first | apply then_n | apply block_n | apply then_x | apply then_r | apply nog_n | apply nog_r | apply block_r | apply block_e (by decide) | apply block_x (by decide)))
              refine aw_cond2 (by simp (disch := first | decide | omega) only [take_map4, htz, hd, go_sem, ↓reduceIte]; rfl) ?_; first | refine .inl ⟨by first | rfl | exact decide_eq_true (by omega) | exact decide_eq_true (by assumption) | (simp (disch := first | decide | omega) only [if_pos_d, if_neg_d, decide_eq_true_eq, Bool.not_eq_true', decide_eq_false_iff_not]; omega), ?_⟩ | refine .inr ⟨by first | rfl | exact decide_eq_false (by omega) | exact decide_eq_false (by assumption) | (simp (disch := first | decide | omega) only [if_pos_d, if_neg_d, decide_eq_true_eq, Bool.not_eq_true', decide_eq_false_iff_not]; omega), ?_⟩
              (repeat (first | apply aw_seq | apply aw_block | apply aw_skip | apply aw_label | apply aw_exit | ((first | refine aw_region (hideO fun QQ hQQ => ?_) | refine aw_draw mixed (hideD fun QQ hQQ => ?_)); simp (maxSteps := 400000) (disch := first | decide | omega) only [take_map4, htz, hd, go_sem, ↓reduceIte]; try (first | with_reducible refine unhide hQQ ?_ | refine ⟨by kernel_rfl, unhide hQQ ?_⟩); clear hQQ QQ) | with_reducible first | apply then_n | apply block_n | apply then_x | apply then_r | apply nog_n | apply nog_r | apply block_r | apply block_e (by decide) | apply block_x (by decide)))
              ((refine callO_ok rfl rfl 14 true rfl (by simp (disch := first | decide | omega) only [take_map4, htz, hd, go_sem, ↓reduceIte]; try rfl) (fun _ => rfl) (q7) Try.func14 rfl (by decide) ?_); simp (maxSteps := 400000) (disch := first | decide | omega) only [take_map4, htz, hd, go_sem, ↓reduceIte]; try (with_reducible refine unhide hQQ ?_; clear hQQ QQ)); (repeat (first | apply aw_seq | apply aw_block | apply aw_skip | apply aw_label | apply aw_exit | ((first | refine aw_region (hideO fun QQ hQQ => ?_) | refine aw_draw mixed (hideD fun QQ hQQ => ?_)); simp (maxSteps := 400000) (disch := first | decide | omega) only [take_map4, htz, hd, go_sem, ↓reduceIte]; try (first | with_reducible refine unhide hQQ ?_ | refine ⟨by kernel_rfl, unhide hQQ ?_⟩); clear hQQ QQ) | with_reducible first | apply then_n | apply block_n | apply then_x | apply then_r | apply nog_n | apply nog_r | apply block_r | apply block_e (by decide) | apply block_x (by decide)))
              ((refine callO_ok rfl rfl 16 true rfl (by simp (disch := first | decide | omega) only [take_map4, htz, hd, go_sem, ↓reduceIte]; try rfl) (fun _ => rfl) (q8) Try.func16 rfl (by decide) ?_); simp (maxSteps := 400000) (disch := first | decide | omega) only [take_map4, htz, hd, go_sem, ↓reduceIte]; try (with_reducible refine unhide hQQ ?_; clear hQQ QQ)); (repeat (first | apply aw_seq | apply aw_block | apply aw_skip | apply aw_label | apply aw_exit | ((first | refine aw_region (hideO fun QQ hQQ => ?_) | refine aw_draw mixed (hideD fun QQ hQQ => ?_)); simp (maxSteps := 400000) (disch := first | decide | omega) only [take_map4, htz, hd, go_sem, ↓reduceIte]; try (first | with_reducible refine unhide hQQ ?_ | refine ⟨by kernel_rfl, unhide hQQ ?_⟩); clear hQQ QQ) | with_reducible first | apply then_n | apply block_n | apply then_x | apply then_r | apply nog_n | apply nog_r | apply block_r | apply block_e (by decide) | apply block_x (by decide)))
              refine aw_cond2 (by simp (disch := first | decide | omega) only [take_map4, htz, hd, go_sem, ↓reduceIte]; rfl) ?_; first | refine .inl ⟨by first | rfl | exact decide_eq_true (by omega) | exact decide_eq_true (by assumption) | (simp (disch := first | decide | omega) only [if_pos_d, if_neg_d, decide_eq_true_eq, Bool.not_eq_true', decide_eq_false_iff_not]; omega), ?_⟩ | refine .inr ⟨by first | rfl | exact decide_eq_false (by omega) | exact decide_eq_false (by assumption) | (simp (disch := first | decide | omega) only [if_pos_d, if_neg_d, decide_eq_true_eq, Bool.not_eq_true', decide_eq_false_iff_not]; omega), ?_⟩
              (repeat (first | apply aw_seq | apply aw_block | apply aw_skip | apply aw_label | apply aw_exit | ((first | refine aw_region (hideO fun QQ hQQ => ?_) | refine aw_draw mixed (hideD fun QQ hQQ => ?_)); simp (maxSteps := 400000) (disch := first | decide | omega) only [take_map4, htz, hd, go_sem, ↓reduceIte]; try (first | with_reducible refine unhide hQQ ?_ | refine ⟨by kernel_rfl, unhide hQQ ?_⟩); clear hQQ QQ) | with_reducible first | apply then_n | apply block_n | apply then_x | apply then_r | apply nog_n | apply nog_r | apply block_r | apply block_e (by decide) | apply block_x (by decide)))
              ((refine callO_ok rfl rfl 31 true rfl (by simp (disch := first | decide | omega) only [take_map4, htz, hd, go_sem, ↓reduceIte]; try rfl) (fun _ => rfl) (s0) Try.func31 rfl (by decide) ?_); simp (maxSteps := 400000) (disch := first | decide | omega) only [take_map4, htz, hd, go_sem, ↓reduceIte]; try (with_reducible refine unhide hQQ ?_; clear hQQ QQ)); (repeat (first | apply aw_seq | apply aw_block | apply aw_skip | apply aw_label | apply aw_exit | ((first | refine aw_region (hideO fun QQ hQQ => ?_) | refine aw_draw mixed (hideD fun QQ hQQ => ?_)); simp (maxSteps := 400000) (disch := first | decide | omega) only [take_map4, htz, hd, go_sem, ↓reduceIte]; try (first | with_reducible refine unhide hQQ ?_ | refine ⟨by kernel_rfl, unhide hQQ ?_⟩); clear hQQ QQ) | with_reducible first | apply then_n | apply block_n | apply then_x | apply then_r | apply nog_n | apply nog_r | apply block_r | apply block_e (by decide) | apply block_x (by decide)))
              refine ⟨⟨i + 1, by omega⟩, ?_, weak_round ?_ (by first | rfl | (simp only [take_map4, htz, hd, go_sem, ↓reduceIte]))⟩
              rotate_left
              · simp only [h0]
                (simp only [take_map4, htz, hd, go_sem, ↓reduceIte]; try rfl)
              · simp only; omega
            · have hd : decide (0 < i) = true := decide_eq_true hi0
              (repeat (first | apply aw_seq | apply aw_block | apply aw_skip | apply aw_label | apply aw_exit | ((first | refine aw_region (hideO fun QQ hQQ => ?_) | refine aw_draw mixed (hideD fun QQ hQQ => ?_)); simp (maxSteps := 400000) (disch := first | decide | omega) only [take_map4, htz, hd, go_sem, ↓reduceIte]; try (first | with_reducible refine unhide hQQ ?_ | refine ⟨by kernel_rfl, unhide hQQ ?_⟩); clear hQQ QQ) | with_reducible first | apply then_n | apply block_n | apply then_x | apply then_r | apply nog_n | apply nog_r | apply block_r | apply block_e (by decide) | apply block_x (by decide)))
              refine aw_cond2 (by simp (disch := first | decide | omega) only [take_map4, htz, hd, go_sem, ↓reduceIte]; rfl) ?_; first | refine .inl ⟨by first | rfl | exact decide_eq_true (by omega) | exact decide_eq_true (by assumption) | (simp (disch := first | decide | omega) only [if_pos_d, if_neg_d, decide_eq_true_eq, Bool.not_eq_true', decide_eq_false_iff_not]; omega), ?_⟩ | refine .inr ⟨by first | rfl | exact decide_eq_false (by omega) | exact decide_eq_false (by assumption) | (simp (disch := first | decide | omega) only [if_pos_d, if_neg_d, decide_eq_true_eq, Bool.not_eq_true', decide_eq_false_iff_not]; omega), ?_⟩
              (repeat (first | apply aw_seq | apply aw_block | apply aw_skip | apply aw_label | apply aw_exit | ((first | refine aw_region (hideO fun QQ hQQ => ?_) | refine aw_draw mixed (hideD fun QQ hQQ => ?_)); simp (maxSteps := 400000) (disch := first | decide | omega) only [take_map4, htz, hd, go_sem, ↓reduceIte]; try (first | with_reducible refine unhide hQQ ?_ | refine ⟨by kernel_rfl, unhide hQQ ?_⟩); clear hQQ QQ) | with_reducible first | apply then_n | apply block_n | apply then_x | apply then_r | apply nog_n | apply nog_r | apply block_r | apply block_e (by decide) | apply block_x (by decide)))
              ((refine callO_ok rfl rfl 14 true rfl (by simp (disch := first | decide | omega) only [take_map4, htz, hd, go_sem, ↓reduceIte]; try rfl) (fun _ => rfl) (q7) Try.func14 rfl (by decide) ?_); simp (maxSteps := 400000) (disch := first | decide | omega) only [take_map4, htz, hd, go_sem, ↓reduceIte]; try (with_reducible refine unhide hQQ ?_; clear hQQ QQ)); (repeat (first | apply aw_seq | apply aw_block | apply aw_skip | apply aw_label | apply aw_exit | ((first | refine aw_region (hideO fun QQ hQQ => ?_) | refine aw_draw mixed (hideD fun QQ hQQ => ?_)); simp (maxSteps := 400000) (disch := first | decide | omega) only [take_map4, htz, hd, go_sem, ↓reduceIte]; try (first | with_reducible refine unhide hQQ ?_ | refine ⟨by kernel_rfl, unhide hQQ ?_⟩); clear hQQ QQ) | with_reducible first | apply then_n | apply block_n | apply then_x | apply then_r | apply nog_n | apply nog_r | apply block_r | apply block_e (by decide) | apply block_x (by decide)))
              ((refine callO_ok rfl rfl 16 true rfl (by simp (disch := first | decide | omega) only [take_map4, htz, hd, go_sem, ↓reduceIte]; try rfl) (fun _ => rfl) (q8) Try.func16 rfl (by decide) ?_); simp (maxSteps := 400000) (disch := first | decide | omega) only [take_map4, htz, hd, go_sem, ↓reduceIte]; try (with_reducible refine unhide hQQ ?_; clear hQQ QQ)); (repeat (first | apply aw_seq | apply aw_block | apply aw_skip | apply aw_label | apply aw_exit | ((first | refine aw_region (hideO fun QQ hQQ => ?_) | refine aw_draw mixed (hideD fun QQ hQQ => ?_)); simp (maxSteps := 400000) (disch := first | decide | omega) only [take_map4, htz, hd, go_sem, ↓reduceIte]; try (first | with_reducible refine unhide hQQ ?_ | refine ⟨by kernel_rfl, unhide hQQ ?_⟩); clear hQQ QQ) | with_reducible first | apply then_n | apply block_n | apply then_x | apply then_r | apply nog_n | apply nog_r | apply block_r | apply block_e (by decide) | apply block_x (by decide)))
              refine aw_cond2 (by simp (disch := first | decide | omega) only [take_map4, htz, hd, go_sem, ↓reduceIte]; rfl) ?_; first | refine .inl ⟨by first | rfl | exact decide_eq_true (by omega) | exact decide_eq_true (by assumption) | (simp (disch := first | decide | omega) only [if_pos_d, if_neg_d, decide_eq_true_eq, Bool.not_eq_true', decide_eq_false_iff_not]; omega), ?_⟩ | refine .inr ⟨by first | rfl | exact decide_eq_false (by omega) | exact decide_eq_false (by assumption) | (simp (disch := first | decide | omega) only [if_pos_d, if_neg_d, decide_eq_true_eq, Bool.not_eq_true', decide_eq_false_iff_not]; omega), ?_⟩
              (repeat (first | apply aw_seq | apply aw_block | apply aw_skip | apply aw_label | apply aw_exit | ((first | refine aw_region (hideO fun QQ hQQ => ?_) | refine aw_draw mixed (hideD fun QQ hQQ => ?_)); simp (maxSteps := 400000) (disch := first | decide | omega) only [take_map4, htz, hd, go_sem, ↓reduceIte]; try (first | with_reducible refine unhide hQQ ?_ | refine ⟨by kernel_rfl, unhide hQQ ?_⟩); clear hQQ QQ) | with_reducible first | apply then_n | apply block_n | apply then_x | apply then_r | apply nog_n | apply nog_r | apply block_r | apply block_e (by decide) | apply block_x (by decide)))
              ((refine callO_ok rfl rfl 31 true rfl (by simp (disch := first | decide | omega) only [take_map4, htz, hd, go_sem, ↓reduceIte]; try rfl) (fun _ => rfl) (s0) Try.func31 rfl (by decide) ?_); simp (maxSteps := 400000) (disch := first | decide | omega) only [take_map4, htz, hd, go_sem, ↓reduceIte]; try (with_reducible refine unhide hQQ ?_; clear hQQ QQ)); (repeat (first | apply aw_seq | apply aw_block | apply aw_skip | apply aw_label | apply aw_exit | ((first | refine aw_region (hideO fun QQ hQQ => ?_) | refine aw_draw mixed (hideD fun QQ hQQ => ?_)); simp (maxSteps := 400000) (disch := first | decide | omega) only [take_map4, htz, hd, go_sem, ↓reduceIte]; try (first | with_reducible refine unhide hQQ ?_ | refine ⟨by kernel_rfl, unhide hQQ ?_⟩); clear hQQ QQ) | with_reducible first | apply then_n | apply block_n | apply then_x | apply then_r | apply nog_n | apply nog_r | apply block_r | apply block_e (by decide) | apply block_x (by decide)))
              refine ⟨⟨i + 1, by omega⟩, ?_, weak_round ?_ (by first | rfl | (simp only [take_map4, htz, hd, go_sem, ↓reduceIte]))⟩
              rotate_left
              · simp only [h0]
                (simp only [take_map4, htz, hd, go_sem, ↓reduceIte]; try rfl)
              · simp only; omega
          · have hiN : i = N := by omega
            subst hiN
            have hd : decide (0 < i) = true := decide_eq_true (by omega)
            (repeat (first | apply aw_seq | apply aw_block | apply aw_skip | apply aw_label | apply aw_exit | ((first | refine aw_region (hideO fun QQ hQQ => ?_) | refine aw_draw mixed (hideD fun QQ hQQ => ?_)); simp (maxSteps := 400000) (disch := first | decide | omega) only [take_map4, htz, hd, go_sem, ↓reduceIte]; try (first | with_reducible refine unhide hQQ ?_ | refine ⟨by kernel_rfl, unhide hQQ ?_⟩); clear hQQ QQ) | with_reducible first | apply then_n | apply block_n | apply then_x | apply then_r | apply nog_n | apply nog_r | apply block_r | apply block_e (by decide) | apply block_x (by decide)))
            refine aw_cond2 (by simp (disch := first | decide | omega) only [take_map4, htz, hd, go_sem, ↓reduceIte]; rfl) ?_; first | refine .inl ⟨by first | rfl | exact decide_eq_true (by omega) | exact decide_eq_true (by assumption) | (simp (disch := first | decide | omega) only [if_pos_d, if_neg_d, decide_eq_true_eq, Bool.not_eq_true', decide_eq_false_iff_not]; omega), ?_⟩ | refine .inr ⟨by first | rfl | exact decide_eq_false (by omega) | exact decide_eq_false (by assumption) | (simp (disch := first | decide | omega) only [if_pos_d, if_neg_d, decide_eq_true_eq, Bool.not_eq_true', decide_eq_false_iff_not]; omega), ?_⟩
            (repeat (first | apply aw_seq | apply aw_block | apply aw_skip | apply aw_label | apply aw_exit | ((first | refine aw_region (hideO fun QQ hQQ => ?_) | refine aw_draw mixed (hideD fun QQ hQQ => ?_)); simp (maxSteps := 400000) (disch := first | decide | omega) only [take_map4, htz, hd, go_sem, ↓reduceIte]; try (first | with_reducible refine unhide hQQ ?_ | refine ⟨by kernel_rfl, unhide hQQ ?_⟩); clear hQQ QQ) | with_reducible first | apply then_n | apply block_n | apply then_x | apply then_r | apply nog_n | apply nog_r | apply block_r | apply block_e (by decide) | apply block_x (by decide)))
            ((refine callO_ok rfl rfl 20 true rfl (by simp (disch := first | decide | omega) only [take_map4, htz, hd, go_sem, ↓reduceIte]; try rfl) (fun _ => rfl) (q9) Try.func20 rfl (by decide) ?_); simp (maxSteps := 400000) (disch := first | decide | omega) only [take_map4, htz, hd, go_sem, ↓reduceIte]; try (with_reducible refine unhide hQQ ?_; clear hQQ QQ)); (repeat (first | apply aw_seq | apply aw_block | apply aw_skip | apply aw_label | apply aw_exit | ((first | refine aw_region (hideO fun QQ hQQ => ?_) | refine aw_draw mixed (hideD fun QQ hQQ => ?_)); simp (maxSteps := 400000) (disch := first | decide | omega) only [take_map4, htz, hd, go_sem, ↓reduceIte]; try (first | with_reducible refine unhide hQQ ?_ | refine ⟨by kernel_rfl, unhide hQQ ?_⟩); clear hQQ QQ) | with_reducible first | apply then_n | apply block_n | apply then_x | apply then_r | apply nog_n | apply nog_r | apply block_r | apply block_e (by decide) | apply block_x (by decide)))
            ((refine callO_ok rfl rfl 13 true rfl (by simp (disch := first | decide | omega) only [take_map4, htz, hd, go_sem, ↓reduceIte]; try rfl) (fun _ => rfl) (hal) Try.func13 rfl (by decide) ?_); simp (maxSteps := 400000) (disch := first | decide | omega) only [take_map4, htz, hd, go_sem, ↓reduceIte]; try (with_reducible refine unhide hQQ ?_; clear hQQ QQ)); (repeat (first | apply aw_seq | apply aw_block | apply aw_skip | apply aw_label | apply aw_exit | ((first | refine aw_region (hideO fun QQ hQQ => ?_) | refine aw_draw mixed (hideD fun QQ hQQ => ?_)); simp (maxSteps := 400000) (disch := first | decide | omega) only [take_map4, htz, hd, go_sem, ↓reduceIte]; try (first | with_reducible refine unhide hQQ ?_ | refine ⟨by kernel_rfl, unhide hQQ ?_⟩); clear hQQ QQ) | with_reducible first | apply then_n | apply block_n | apply then_x | apply then_r | apply nog_n | apply nog_r | apply block_r | apply block_e (by decide) | apply block_x (by decide)))
            refine aw_ret ?_; refine ⟨.inr rfl, ?_⟩; simp only [resA, res1, go_sem, ↓reduceIte]
end
end Go.Proofs.Ytejbglbiefpagaa
