/- burr: all truths of the document, walked. -/
import Derived.Test.YtknikcpeacmpmaaBwL
set_option linter.all false
namespace Go.Proofs.Ytknikcpeacmpmaa
open Go Go.RowKit Go.Sh Go.Pv
set_option maxHeartbeats 8000000
set_option maxRecDepth 8000
set_option pp.maxSteps 60000
/-- The first truths. -/
def TRp (L U : Nat) (bales : List (Int × Int)) (us : List (Int × Bool)) (m h : Nat) : List (Nat × Nat) := ((List.range m).flatMap (TRm L U bales us)) ++ ((List.range h).filter (rtB L U bales us m)).map fun h => (m, h)
section
variable {N L U T : Nat} {bales : List (Int × Int)} {tests us : List (Int × Bool)}
theorem TRp_h (m h : Nat) : TRp L U bales us m (h + 1) = TRp L U bales us m h ++ if rtB L U bales us m h = true then [(m, h)] else [] := by
  unfold TRp
  rw [List.range_succ, List.filter_append, List.map_append, List.append_assoc]
  congr 2
  cases hr : rtB L U bales us m h <;> simp [hr]
theorem TRp_m (m : Nat) : TRp L U bales us (m + 1) 0 = TRp L U bales us m (2 ^ bales.length) := by
  unfold TRp
  rw [List.range_succ, List.flatMap_append]
  simp [TRm]
theorem TRp_end : TRp L U bales us (2 ^ N) 0 = TR N L U bales us := by unfold TRp TR; simp
theorem TRp_len : ∀ m h, bales.length ≤ 6 → (TRp L U bales us m h).length ≤ 64 * m + h := by
  intro m h h6
  have hp := pow64 h6
  unfold TRp
  rw [List.length_append, List.length_map]
  have h1 : ((List.range h).filter (rtB L U bales us m)).length ≤ h := by
    have := List.length_filter_le (rtB L U bales us m) (List.range h)
    rwa [List.length_range] at this
  have h2 : ∀ k, ((List.range k).flatMap (TRm L U bales us)).length ≤ 64 * k := by
    intro k
    induction k with
    | zero => simp
    | succ k ih =>
      rw [List.range_succ, List.flatMap_append, List.length_append]
      have : ((List.flatMap (TRm L U bales us) [k])).length ≤ 64 := by
        simp only [List.flatMap_cons, List.flatMap_nil, List.append_nil]
        unfold TRm
        rw [List.length_map]
        have := List.length_filter_le (rtB L U bales us k) (List.range (2 ^ bales.length))
        rw [List.length_range] at this
        omega
      omega
  have := h2 m
  omega
theorem rowsK_T (x : Nat × Nat) : rowsK 2 [rowT x] = True := eq_true fun i r h => by
  cases i with
  | zero => simp at h; subst h; rfl
  | succ i => simp at h
theorem ok_truths (hB : BOK N L U T bales tests) (set : Nat) (hset : set < 64) :
    FunOK Try.prog 82 [buR N L U T bales tests, .one (iP set)] (.one (.one (.sl ((TR N L U bales (selT tests set tests.length)).map rowT)))) := by
  have hpN := ok_power N (by have := hB.n5; omega)
  have hpB := ok_power bales.length (by have := hB.b6; omega)
  have hr := fun m h hm hh => ok_right hB m h set hm hh hset
  have hq := pow32 hB.n5
  have hq0 := Nat.two_pow_pos N
  have hp6 := pow64 hB.b6
  have hp0 := Nat.two_pow_pos bales.length
  have hlen := fun m h => TRp_len (L := L) (U := U) (us := selT tests set tests.length) m h hB.b6
  simp only [buR, rowT] at hr ⊢
  clear hB
  rw [← TRp_end]
  generalize selT tests set tests.length = us at *
  have hsm := TRp_m (L := L) (U := U) (bales := bales) (us := us)
  generalize hXN : 2 ^ N = Y at *
  generalize hXB : 2 ^ bales.length = X at *
  refine fun_ok (nt := 36) (rs := [.tmp 4]) Try.func82 rfl rfl rfl (by simp) fun Z w0 => ?_; simp only [initFr, avR, List.map_cons, List.map_nil]
  refine tw ?_; try with_reducible intro QQ hQQ
  refine aw_weak (weak_own 5 84 2 rfl) ?_
  (refine ts ?_; try clear hQQ QQ)
  refine aw_weak (weak_keep [1, 2, 5, 6] (by simp only [go_sem, ↓reduceIte]; rfl)) ?_
  refine aw_loop_ov (ι := { m : Nat // m ≤ Y }) (fun m => [(6, iA m.1), (5, .one (.own 1 (TRp L U bales us m.1 0).length))]) (fun m => [(1, .arr 84 2 ((TRp L U bales us m.1 0).map rowT) true)]) (fun m => Y - m.1) ⟨0, by omega⟩ (by first | rfl | (simp only [go_sem, ↓reduceIte]; first | done | rfl | (simp; try rfl))) ?_
  rintro ⟨m, hm⟩
  simp (disch := decide) only [ov, ovL, AL.get_nil, AL.get_eq, AL.get_ne, Option.getD_some, Option.getD_none]
  by_cases hml : m < Y
  · refine tw ?_; try with_reducible intro QQ hQQ
    ((refine cO 72 rfl rfl rfl (hpN) Try.func72 rfl ?_); refine tu ?_; try clear hQQ QQ); refine tw ?_; try with_reducible intro QQ hQQ
    refine ti ?_; try clear hQQ QQ
    refine tw ?_; try with_reducible intro QQ hQQ
    refine aw_weak (weak_keep [1, 2, 5, 6, 7] (by simp only [go_sem, ↓reduceIte]; rfl)) ?_
    refine aw_loop_ov (ι := { h : Nat // h ≤ X }) (fun h => [(7, iA h.1), (5, .one (.own 1 (TRp L U bales us m h.1).length))]) (fun h => [(1, .arr 84 2 ((TRp L U bales us m h.1).map rowT) true)]) (fun h => X - h.1) ⟨0, by omega⟩ (by first | rfl | (simp only [go_sem, ↓reduceIte]; first | done | rfl | (simp; try rfl))) ?_
    rintro ⟨h, hh⟩
    simp (disch := decide) only [ov, ovL, AL.get_nil, AL.get_eq, AL.get_ne, Option.getD_some, Option.getD_none]
    by_cases hhl : h < X
    · have h1 := hr m h (by omega) hhl
      have e1 := TRp_h (L := L) (U := U) (bales := bales) (us := us) m h
      have hl1 := hlen m h
      have hlb : ((TRp L U bales us m h).length + 1) * 16 ≤ 140737488355328 := by omega
      have hrk : rowsK 2 [[iP (m : Int), iP (h : Int)]] = True := rowsK_T (m, h)
      have hrow : (TRp L U bales us m h).map rowT ++ [[iP (m : Int), iP (h : Int)]] = (TRp L U bales us m h ++ [(m, h)]).map rowT := by simp [rowT]
      have hll : (TRp L U bales us m h).length + 1 = (TRp L U bales us m h ++ [(m, h)]).length := by simp
      clear hlen hsm hr
      generalize TRp L U bales us m h = l at *
      cases hrt : rtB L U bales us m h
      · rw [hrt] at h1
        rw [hrt, if_neg (by decide), List.append_nil] at e1
        (repeat (first | apply aw_seq | apply aw_block | apply aw_skip | apply aw_label | apply aw_exit | ((first | refine aw_region (hideO fun QQ hQQ => ?_) | refine aw_draw mixed (hideD fun QQ hQQ => ?_)); simp (maxSteps := 400000) (disch := first | decide | omega) only [hlb, hrk, go_sem, ↓reduceIte]; try (first | with_reducible refine unhide hQQ ?_ | refine ⟨by kernel_rfl, unhide hQQ ?_⟩); clear hQQ QQ) | with_reducible first | apply then_n | apply block_n | apply then_x | apply then_r | apply nog_n | apply nog_r | apply block_r | apply block_e (by decide) | apply block_x (by decide)))
        ((refine callO_ok rfl rfl 72 true rfl (by simp (disch := first | decide | omega) only [hlb, hrk, go_sem, ↓reduceIte]; try rfl) (fun _ => rfl) (hpB) Try.func72 rfl (by decide) ?_); simp (maxSteps := 400000) (disch := first | decide | omega) only [hlb, hrk, go_sem, ↓reduceIte]; try (with_reducible refine unhide hQQ ?_; clear hQQ QQ)); (repeat (first | apply aw_seq | apply aw_block | apply aw_skip | apply aw_label | apply aw_exit | ((first | refine aw_region (hideO fun QQ hQQ => ?_) | refine aw_draw mixed (hideD fun QQ hQQ => ?_)); simp (maxSteps := 400000) (disch := first | decide | omega) only [hlb, hrk, go_sem, ↓reduceIte]; try (first | with_reducible refine unhide hQQ ?_ | refine ⟨by kernel_rfl, unhide hQQ ?_⟩); clear hQQ QQ) | with_reducible first | apply then_n | apply block_n | apply then_x | apply then_r | apply nog_n | apply nog_r | apply block_r | apply block_e (by decide) | apply block_x (by decide)))
        refine aw_cond2 (by simp (disch := first | decide | omega) only [hlb, hrk, go_sem, ↓reduceIte]; rfl) ?_; first | refine .inl ⟨by first | rfl | exact decide_eq_true (by omega) | exact decide_eq_true (by assumption) | (simp (disch := first | decide | omega) only [if_pos_d, if_neg_d, decide_eq_true_eq, Bool.not_eq_true', decide_eq_false_iff_not]; omega), ?_⟩ | refine .inr ⟨by first | rfl | exact decide_eq_false (by omega) | exact decide_eq_false (by assumption) | (simp (disch := first | decide | omega) only [if_pos_d, if_neg_d, decide_eq_true_eq, Bool.not_eq_true', decide_eq_false_iff_not]; omega), ?_⟩
        (repeat (first | apply aw_seq | apply aw_block | apply aw_skip | apply aw_label | apply aw_exit | ((first | refine aw_region (hideO fun QQ hQQ => ?_) | refine aw_draw mixed (hideD fun QQ hQQ => ?_)); simp (maxSteps := 400000) (disch := first | decide | omega) only [hlb, hrk, go_sem, ↓reduceIte]; try (first | with_reducible refine unhide hQQ ?_ | refine ⟨by kernel_rfl, unhide hQQ ?_⟩); clear hQQ QQ) | with_reducible first | apply then_n | apply block_n | apply then_x | apply then_r | apply nog_n | apply nog_r | apply block_r | apply block_e (by decide) | apply block_x (by decide)))
        ((refine callO_ok rfl rfl 97 true rfl (by simp (disch := first | decide | omega) only [hlb, hrk, go_sem, ↓reduceIte]; try rfl) (fun _ => rfl) (h1) Try.func97 rfl (by decide) ?_); simp (maxSteps := 400000) (disch := first | decide | omega) only [hlb, hrk, go_sem, ↓reduceIte]; try (with_reducible refine unhide hQQ ?_; clear hQQ QQ)); (repeat (first | apply aw_seq | apply aw_block | apply aw_skip | apply aw_label | apply aw_exit | ((first | refine aw_region (hideO fun QQ hQQ => ?_) | refine aw_draw mixed (hideD fun QQ hQQ => ?_)); simp (maxSteps := 400000) (disch := first | decide | omega) only [hlb, hrk, go_sem, ↓reduceIte]; try (first | with_reducible refine unhide hQQ ?_ | refine ⟨by kernel_rfl, unhide hQQ ?_⟩); clear hQQ QQ) | with_reducible first | apply then_n | apply block_n | apply then_x | apply then_r | apply nog_n | apply nog_r | apply block_r | apply block_e (by decide) | apply block_x (by decide)))
        refine aw_cond2 (by simp (disch := first | decide | omega) only [hlb, hrk, go_sem, ↓reduceIte]; rfl) ?_; first | refine .inl ⟨by first | rfl | exact decide_eq_true (by omega) | exact decide_eq_true (by assumption) | (simp (disch := first | decide | omega) only [if_pos_d, if_neg_d, decide_eq_true_eq, Bool.not_eq_true', decide_eq_false_iff_not]; omega), ?_⟩ | refine .inr ⟨by first | rfl | exact decide_eq_false (by omega) | exact decide_eq_false (by assumption) | (simp (disch := first | decide | omega) only [if_pos_d, if_neg_d, decide_eq_true_eq, Bool.not_eq_true', decide_eq_false_iff_not]; omega), ?_⟩
        (repeat (first | apply aw_seq | apply aw_block | apply aw_skip | apply aw_label | apply aw_exit | ((first | refine aw_region (hideO fun QQ hQQ => ?_) | refine aw_draw mixed (hideD fun QQ hQQ => ?_)); simp (maxSteps := 400000) (disch := first | decide | omega) only [hlb, hrk, go_sem, ↓reduceIte]; try (first | with_reducible refine unhide hQQ ?_ | refine ⟨by kernel_rfl, unhide hQQ ?_⟩); clear hQQ QQ) | with_reducible first | apply then_n | apply block_n | apply then_x | apply then_r | apply nog_n | apply nog_r | apply block_r | apply block_e (by decide) | apply block_x (by decide)))
        refine ⟨⟨h + 1, by omega⟩, ?_, weak_round ?_ (by first | rfl | (simp only [hlb, hrk, go_sem, ↓reduceIte]))⟩
        rotate_left
        · simp only [e1]
          (simp only [hlb, hrk, go_sem, ↓reduceIte]; try rfl)
        · simp only; omega
      · rw [hrt] at h1
        rw [hrt, if_pos rfl] at e1
        (repeat (first | apply aw_seq | apply aw_block | apply aw_skip | apply aw_label | apply aw_exit | ((first | refine aw_region (hideO fun QQ hQQ => ?_) | refine aw_draw mixed (hideD fun QQ hQQ => ?_)); simp (maxSteps := 400000) (disch := first | decide | omega) only [hlb, hrk, go_sem, ↓reduceIte]; try (first | with_reducible refine unhide hQQ ?_ | refine ⟨by kernel_rfl, unhide hQQ ?_⟩); clear hQQ QQ) | with_reducible first | apply then_n | apply block_n | apply then_x | apply then_r | apply nog_n | apply nog_r | apply block_r | apply block_e (by decide) | apply block_x (by decide)))
        ((refine callO_ok rfl rfl 72 true rfl (by simp (disch := first | decide | omega) only [hlb, hrk, go_sem, ↓reduceIte]; try rfl) (fun _ => rfl) (hpB) Try.func72 rfl (by decide) ?_); simp (maxSteps := 400000) (disch := first | decide | omega) only [hlb, hrk, go_sem, ↓reduceIte]; try (with_reducible refine unhide hQQ ?_; clear hQQ QQ)); (repeat (first | apply aw_seq | apply aw_block | apply aw_skip | apply aw_label | apply aw_exit | ((first | refine aw_region (hideO fun QQ hQQ => ?_) | refine aw_draw mixed (hideD fun QQ hQQ => ?_)); simp (maxSteps := 400000) (disch := first | decide | omega) only [hlb, hrk, go_sem, ↓reduceIte]; try (first | with_reducible refine unhide hQQ ?_ | refine ⟨by kernel_rfl, unhide hQQ ?_⟩); clear hQQ QQ) | with_reducible first | apply then_n | apply block_n | apply then_x | apply then_r | apply nog_n | apply nog_r | apply block_r | apply block_e (by decide) | apply block_x (by decide)))
        refine aw_cond2 (by simp (disch := first | decide | omega) only [hlb, hrk, go_sem, ↓reduceIte]; rfl) ?_; first | refine .inl ⟨by first | rfl | exact decide_eq_true (by omega) | exact decide_eq_true (by assumption) | (simp (disch := first | decide | omega) only [if_pos_d, if_neg_d, decide_eq_true_eq, Bool.not_eq_true', decide_eq_false_iff_not]; omega), ?_⟩ | refine .inr ⟨by first | rfl | exact decide_eq_false (by omega) | exact decide_eq_false (by assumption) | (simp (disch := first | decide | omega) only [if_pos_d, if_neg_d, decide_eq_true_eq, Bool.not_eq_true', decide_eq_false_iff_not]; omega), ?_⟩
        (repeat (first | apply aw_seq | apply aw_block | apply aw_skip | apply aw_label | apply aw_exit | ((first | refine aw_region (hideO fun QQ hQQ => ?_) | refine aw_draw mixed (hideD fun QQ hQQ => ?_)); simp (maxSteps := 400000) (disch := first | decide | omega) only [hlb, hrk, go_sem, ↓reduceIte]; try (first | with_reducible refine unhide hQQ ?_ | refine ⟨by kernel_rfl, unhide hQQ ?_⟩); clear hQQ QQ) | with_reducible first | apply then_n | apply block_n | apply then_x | apply then_r | apply nog_n | apply nog_r | apply block_r | apply block_e (by decide) | apply block_x (by decide)))
        ((refine callO_ok rfl rfl 97 true rfl (by simp (disch := first | decide | omega) only [hlb, hrk, go_sem, ↓reduceIte]; try rfl) (fun _ => rfl) (h1) Try.func97 rfl (by decide) ?_); simp (maxSteps := 400000) (disch := first | decide | omega) only [hlb, hrk, go_sem, ↓reduceIte]; try (with_reducible refine unhide hQQ ?_; clear hQQ QQ)); (repeat (first | apply aw_seq | apply aw_block | apply aw_skip | apply aw_label | apply aw_exit | ((first | refine aw_region (hideO fun QQ hQQ => ?_) | refine aw_draw mixed (hideD fun QQ hQQ => ?_)); simp (maxSteps := 400000) (disch := first | decide | omega) only [hlb, hrk, go_sem, ↓reduceIte]; try (first | with_reducible refine unhide hQQ ?_ | refine ⟨by kernel_rfl, unhide hQQ ?_⟩); clear hQQ QQ) | with_reducible first | apply then_n | apply block_n | apply then_x | apply then_r | apply nog_n | apply nog_r | apply block_r | apply block_e (by decide) | apply block_x (by decide)))
        refine aw_cond2 (by simp (disch := first | decide | omega) only [hlb, hrk, go_sem, ↓reduceIte]; rfl) ?_; first | refine .inl ⟨by first | rfl | exact decide_eq_true (by omega) | exact decide_eq_true (by assumption) | (simp (disch := first | decide | omega) only [if_pos_d, if_neg_d, decide_eq_true_eq, Bool.not_eq_true', decide_eq_false_iff_not]; omega), ?_⟩ | refine .inr ⟨by first | rfl | exact decide_eq_false (by omega) | exact decide_eq_false (by assumption) | (simp (disch := first | decide | omega) only [if_pos_d, if_neg_d, decide_eq_true_eq, Bool.not_eq_true', decide_eq_false_iff_not]; omega), ?_⟩
        (repeat (first | apply aw_seq | apply aw_block | apply aw_skip | apply aw_label | apply aw_exit | ((first | refine aw_region (hideO fun QQ hQQ => ?_) | refine aw_draw mixed (hideD fun QQ hQQ => ?_)); simp (maxSteps := 400000) (disch := first | decide | omega) only [hlb, hrk, go_sem, ↓reduceIte]; try (first | with_reducible refine unhide hQQ ?_ | refine ⟨by kernel_rfl, unhide hQQ ?_⟩); clear hQQ QQ) | with_reducible first | apply then_n | apply block_n | apply then_x | apply then_r | apply nog_n | apply nog_r | apply block_r | apply block_e (by decide) | apply block_x (by decide)))
        refine ⟨⟨h + 1, by omega⟩, ?_, weak_round ?_ (by first | rfl | (simp only [hlb, hrk, go_sem, ↓reduceIte]))⟩
        rotate_left
        · simp only [e1, ← hrow, ← hll]
          (simp only [hlb, hrk, go_sem, ↓reduceIte]; try rfl)
        · simp only; omega
    · have : h = X := by omega
      subst this
      have e2 := hsm m
      generalize TRp L U bales us m h = l at *
      refine tw ?_; try with_reducible intro QQ hQQ
      ((refine cO 72 rfl rfl rfl (hpB) Try.func72 rfl ?_); refine tu ?_; try clear hQQ QQ); refine tw ?_; try with_reducible intro QQ hQQ
      refine ti ?_; try clear hQQ QQ
      refine tw ?_; try with_reducible intro QQ hQQ
      refine ⟨⟨m + 1, by omega⟩, ?_, weak_round ?_ (by first | rfl | (simp only [go_sem, ↓reduceIte]))⟩
      rotate_left
      · simp only [e2]
        (simp only [go_sem, ↓reduceIte]; try rfl)
      · simp only; omega
  · have : m = Y := by omega
    subst this
    generalize TRp L U bales us m 0 = l at *
    refine tw ?_; try with_reducible intro QQ hQQ
    ((refine cO 72 rfl rfl rfl (hpN) Try.func72 rfl ?_); refine tu ?_; try clear hQQ QQ); refine tw ?_; try with_reducible intro QQ hQQ
    refine ti ?_; try clear hQQ QQ
    refine tw ?_; try with_reducible intro QQ hQQ
    refine aw_ret ?_; refine ⟨.inr rfl, ?_⟩; simp only [resA, res1, go_sem, ↓reduceIte]
    rw [List.take_of_length_le (by simp)]
    simp
end
end Go.Proofs.Ytknikcpeacmpmaa
