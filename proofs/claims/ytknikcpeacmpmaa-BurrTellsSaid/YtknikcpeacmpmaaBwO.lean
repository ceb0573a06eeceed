/- burr: Mobs, Bales, Pure and Clean of the document, walked. -/
import Derived.Test.YtknikcpeacmpmaaBwN
set_option linter.all false
namespace Go.Proofs.Ytknikcpeacmpmaa
open Go Go.RowKit Go.Sh Go.Pv
set_option maxHeartbeats 8000000
set_option maxRecDepth 8000
set_option pp.maxSteps 60000
section
variable {n lo hi top : Int} {bales : List (Int × Int)} {tests : List (Int × Bool)}
attribute [local go_sem] rowN rowT get_someT
theorem ok_MobsR : FunOK Try.prog 15 [buR n lo hi top bales tests] (ansR (whyT n lo hi top bales tests) (mobA n lo hi bales tests)) := by
  have hT := ok_toldR (n := n) (lo := lo) (hi := hi) (top := top) (bales := bales) (tests := tests)
  by_cases hw : whyT n lo hi top bales tests = 0
  rotate_left
  · simp only [buR, ansR, if_neg hw] at hT ⊢
    generalize whyT n lo hi top bales tests = e at *
    generalize toldL n lo hi top bales tests = l at *
    refine fun_ok (nt := 42) (rs := [.tmp 2, .tmp 3, .tmp 4]) Try.func15 rfl rfl rfl (by simp) fun Z w0 => ?_; simp only [initFr, avR, List.map_cons, List.map_nil]
    refine tw ?_; try with_reducible intro QQ hQQ
    ((refine cB 53 rfl rfl rfl (hT) Try.func53 rfl ?_); refine tu ?_; try clear hQQ QQ); refine tw ?_; try with_reducible intro QQ hQQ
    refine ti ?_; try clear hQQ QQ
    refine tw ?_; try with_reducible intro QQ hQQ
    refine aw_ret ?_; refine ⟨.inr rfl, ?_⟩; simp only [resA, res1, go_sem, ↓reduceIte]
  · obtain ⟨hne, hv, e1⟩ := why_nil hw
    rw [e1] at hne hT
    rw [hw] at hT ⊢
    obtain ⟨N, L, U, T, rfl, rfl, rfl, rfl, hB⟩ := bok_of hv
    simp only [Int.toNat_natCast] at hne hT
    rw [mobA_eq hB hne]
    have hln := TR_len (bales := bales) (tests := tests) N L U hB.n5 hB.b6
    have hlt : ∀ x ∈ (TR N L U bales tests).map (·.1), x < 64 := fun x hx => by
      obtain ⟨y, hy, rfl⟩ := List.mem_map.1 hx
      have h1 := (mem_TR.1 hy).1
      have h2 := (mem_TR.1 hy).2.1
      have := pow32 hB.n5
      have := pow64 hB.b6
      omega
    have hS := ok_sets ((TR N L U bales tests).map (·.1)) (by rw [List.length_map]; exact hln) hlt N (by have := hB.n5; have := hB.b6; omega)
    simp only [buR, ansR, if_true] at hT ⊢
    generalize sF (inAll ((TR N L U bales tests).map (·.1))) N = A at *
    generalize sF (inSome ((TR N L U bales tests).map (·.1))) N = S at *
    clear hlt e1 hw hne
    generalize TR N L U bales tests = l at *
    refine fun_ok (nt := 42) (rs := [.tmp 2, .tmp 3, .tmp 4]) Try.func15 rfl rfl rfl (by simp) fun Z w0 => ?_; simp only [initFr, avR, List.map_cons, List.map_nil]
    refine tw ?_; try with_reducible intro QQ hQQ
    ((refine cB 53 rfl rfl rfl (hT) Try.func53 rfl ?_); refine tu ?_; try clear hQQ QQ); refine tw ?_; try with_reducible intro QQ hQQ
    refine ti ?_; try clear hQQ QQ
    refine tw ?_; try with_reducible intro QQ hQQ
    refine aw_weak (weak_own 7 3 1 rfl) ?_
    (refine ts ?_; try clear hQQ QQ)
    refine aw_weak (weak_keep [1, 5, 7, 8] (by simp only [go_sem, ↓reduceIte]; rfl)) ?_
    refine aw_loop_ov (ι := { i : Nat // i ≤ l.length }) (fun i => [(8, iA i.1), (7, .one (.own 1 i.1))]) (fun i => [(1, .arr 3 1 (((l.take i.1).map (·.1)).map rowN) true)]) (fun i => l.length - i.1) ⟨0, by omega⟩ (by first | rfl | (simp only [go_sem, ↓reduceIte]; first | done | rfl | (simp; try rfl))) ?_
    rintro ⟨i, hi'⟩
    simp (disch := decide) only [ov, ovL, AL.get_nil, AL.get_eq, AL.get_ne, Option.getD_some, Option.getD_none]
    by_cases hil : i < l.length
    · have hrow : ((l.take i).map (·.1)).map rowN ++ [[iP (((l.getD i (0, 0)).1 : Nat) : Int)]] = ((l.take (i + 1)).map (·.1)).map rowN := by
        rw [List.take_succ, List.getElem?_eq_getElem hil, show l.getD i (0, 0) = l[i] by simp [List.getD, hil], List.map_append, List.map_append]
        rfl
      have hlb : (i + 1) * 8 ≤ 140737488355328 := by omega
      have hll : (((l.take i).map (·.1)).map rowN).length = i := by simp; omega
      obtain ⟨⟨a, b⟩, hab⟩ : ∃ q, l.getD i (0, 0) = q := ⟨_, rfl⟩
      rw [hab] at hrow
      (repeat (first | apply aw_seq | apply aw_block | apply aw_skip | apply aw_label | apply aw_exit | ((first | refine aw_region (hideO fun QQ hQQ => ?_) | refine aw_draw mixed (hideD fun QQ hQQ => ?_)); simp (maxSteps := 400000) (disch := first | decide | omega) only [hlb, hll, hab, rowsK_1, go_sem, ↓reduceIte]; try (first | with_reducible refine unhide hQQ ?_ | refine ⟨by kernel_rfl, unhide hQQ ?_⟩); clear hQQ QQ) | with_reducible first | apply then_n | apply block_n | apply then_x | apply then_r | apply nog_n | apply nog_r | apply block_r | apply block_e (by decide) | apply block_x (by decide)))
      refine aw_cond2 (by simp (disch := first | decide | omega) only [hlb, hll, hab, rowsK_1, go_sem, ↓reduceIte]; rfl) ?_; first | refine .inl ⟨by first | rfl | exact decide_eq_true (by omega) | exact decide_eq_true (by assumption) | (simp (disch := first | decide | omega) only [if_pos_d, if_neg_d, decide_eq_true_eq, Bool.not_eq_true', decide_eq_false_iff_not]; omega), ?_⟩ | refine .inr ⟨by first | rfl | exact decide_eq_false (by omega) | exact decide_eq_false (by assumption) | (simp (disch := first | decide | omega) only [if_pos_d, if_neg_d, decide_eq_true_eq, Bool.not_eq_true', decide_eq_false_iff_not]; omega), ?_⟩
      (repeat (first | apply aw_seq | apply aw_block | apply aw_skip | apply aw_label | apply aw_exit | ((first | refine aw_region (hideO fun QQ hQQ => ?_) | refine aw_draw mixed (hideD fun QQ hQQ => ?_)); simp (maxSteps := 400000) (disch := first | decide | omega) only [hlb, hll, hab, rowsK_1, go_sem, ↓reduceIte]; try (first | with_reducible refine unhide hQQ ?_ | refine ⟨by kernel_rfl, unhide hQQ ?_⟩); clear hQQ QQ) | with_reducible first | apply then_n | apply block_n | apply then_x | apply then_r | apply nog_n | apply nog_r | apply block_r | apply block_e (by decide) | apply block_x (by decide)))
      refine ⟨⟨i + 1, by omega⟩, ?_, weak_round ?_ (by first | rfl | (simp only [hlb, hll, hab, rowsK_1, go_sem, ↓reduceIte]))⟩
      rotate_left
      · simp only [← hrow]
        (simp only [hlb, hll, hab, rowsK_1, go_sem, ↓reduceIte]; try rfl)
      · simp only; omega
    · have : i = l.length := by omega
      subst this
      rw [List.take_length]
      have htk : List.take l.length (((l.map (·.1)).map rowN)) = (l.map (·.1)).map rowN := List.take_of_length_le (by simp)
      have hll : ((l.map (·.1)).map rowN).length = l.length := by simp
      (repeat (first | apply aw_seq | apply aw_block | apply aw_skip | apply aw_label | apply aw_exit | ((first | refine aw_region (hideO fun QQ hQQ => ?_) | refine aw_draw mixed (hideD fun QQ hQQ => ?_)); simp (maxSteps := 400000) (disch := first | decide | omega) only [htk, hll, go_sem, ↓reduceIte]; try (first | with_reducible refine unhide hQQ ?_ | refine ⟨by kernel_rfl, unhide hQQ ?_⟩); clear hQQ QQ) | with_reducible first | apply then_n | apply block_n | apply then_x | apply then_r | apply nog_n | apply nog_r | apply block_r | apply block_e (by decide) | apply block_x (by decide)))
      refine aw_cond2 (by simp (disch := first | decide | omega) only [htk, hll, go_sem, ↓reduceIte]; rfl) ?_; first | refine .inl ⟨by first | rfl | exact decide_eq_true (by omega) | exact decide_eq_true (by assumption) | (simp (disch := first | decide | omega) only [if_pos_d, if_neg_d, decide_eq_true_eq, Bool.not_eq_true', decide_eq_false_iff_not]; omega), ?_⟩ | refine .inr ⟨by first | rfl | exact decide_eq_false (by omega) | exact decide_eq_false (by assumption) | (simp (disch := first | decide | omega) only [if_pos_d, if_neg_d, decide_eq_true_eq, Bool.not_eq_true', decide_eq_false_iff_not]; omega), ?_⟩
      (repeat (first | apply aw_seq | apply aw_block | apply aw_skip | apply aw_label | apply aw_exit | ((first | refine aw_region (hideO fun QQ hQQ => ?_) | refine aw_draw mixed (hideD fun QQ hQQ => ?_)); simp (maxSteps := 400000) (disch := first | decide | omega) only [htk, hll, go_sem, ↓reduceIte]; try (first | with_reducible refine unhide hQQ ?_ | refine ⟨by kernel_rfl, unhide hQQ ?_⟩); clear hQQ QQ) | with_reducible first | apply then_n | apply block_n | apply then_x | apply then_r | apply nog_n | apply nog_r | apply block_r | apply block_e (by decide) | apply block_x (by decide)))
      ((refine callO_ok rfl rfl 54 true rfl (by simp (disch := first | decide | omega) only [htk, hll, go_sem, ↓reduceIte]; try rfl) (fun _ => rfl) (hS) Try.func54 rfl (by decide) ?_); simp (maxSteps := 400000) (disch := first | decide | omega) only [htk, hll, go_sem, ↓reduceIte]; try (with_reducible refine unhide hQQ ?_; clear hQQ QQ)); (repeat (first | apply aw_seq | apply aw_block | apply aw_skip | apply aw_label | apply aw_exit | ((first | refine aw_region (hideO fun QQ hQQ => ?_) | refine aw_draw mixed (hideD fun QQ hQQ => ?_)); simp (maxSteps := 400000) (disch := first | decide | omega) only [htk, hll, go_sem, ↓reduceIte]; try (first | with_reducible refine unhide hQQ ?_ | refine ⟨by kernel_rfl, unhide hQQ ?_⟩); clear hQQ QQ) | with_reducible first | apply then_n | apply block_n | apply then_x | apply then_r | apply nog_n | apply nog_r | apply block_r | apply block_e (by decide) | apply block_x (by decide)))
      refine aw_ret ?_; refine ⟨.inr rfl, ?_⟩; simp only [resA, res1, go_sem, ↓reduceIte]
theorem ok_BalesR : FunOK Try.prog 17 [buR n lo hi top bales tests] (ansR (whyT n lo hi top bales tests) (balA n lo hi bales tests)) := by
  have hT := ok_toldR (n := n) (lo := lo) (hi := hi) (top := top) (bales := bales) (tests := tests)
  by_cases hw : whyT n lo hi top bales tests = 0
  rotate_left
  · simp only [buR, ansR, if_neg hw] at hT ⊢
    generalize whyT n lo hi top bales tests = e at *
    generalize toldL n lo hi top bales tests = l at *
    refine fun_ok (nt := 43) (rs := [.tmp 2, .tmp 3, .tmp 4]) Try.func17 rfl rfl rfl (by simp) fun Z w0 => ?_; simp only [initFr, avR, List.map_cons, List.map_nil]
    refine tw ?_; try with_reducible intro QQ hQQ
    ((refine cB 53 rfl rfl rfl (hT) Try.func53 rfl ?_); refine tu ?_; try clear hQQ QQ); refine tw ?_; try with_reducible intro QQ hQQ
    refine ti ?_; try clear hQQ QQ
    refine tw ?_; try with_reducible intro QQ hQQ
    refine aw_ret ?_; refine ⟨.inr rfl, ?_⟩; simp only [resA, res1, go_sem, ↓reduceIte]
  · obtain ⟨hne, hv, e1⟩ := why_nil hw
    rw [e1] at hne hT
    rw [hw] at hT ⊢
    obtain ⟨N, L, U, T, rfl, rfl, rfl, rfl, hB⟩ := bok_of hv
    simp only [Int.toNat_natCast] at hne hT
    rw [balA_eq hB hne]
    have hln := TR_len (bales := bales) (tests := tests) N L U hB.n5 hB.b6
    have hlt : ∀ x ∈ (TR N L U bales tests).map (·.2), x < 64 := fun x hx => by
      obtain ⟨y, hy, rfl⟩ := List.mem_map.1 hx
      have h1 := (mem_TR.1 hy).1
      have h2 := (mem_TR.1 hy).2.1
      have := pow32 hB.n5
      have := pow64 hB.b6
      omega
    have hS := ok_sets ((TR N L U bales tests).map (·.2)) (by rw [List.length_map]; exact hln) hlt bales.length (by have := hB.n5; have := hB.b6; omega)
    simp only [buR, ansR, if_true] at hT ⊢
    generalize sF (inAll ((TR N L U bales tests).map (·.2))) bales.length = A at *
    generalize sF (inSome ((TR N L U bales tests).map (·.2))) bales.length = S at *
    clear hlt e1 hw hne
    generalize TR N L U bales tests = l at *
    refine fun_ok (nt := 43) (rs := [.tmp 2, .tmp 3, .tmp 4]) Try.func17 rfl rfl rfl (by simp) fun Z w0 => ?_; simp only [initFr, avR, List.map_cons, List.map_nil]
    refine tw ?_; try with_reducible intro QQ hQQ
    ((refine cB 53 rfl rfl rfl (hT) Try.func53 rfl ?_); refine tu ?_; try clear hQQ QQ); refine tw ?_; try with_reducible intro QQ hQQ
    refine ti ?_; try clear hQQ QQ
    refine tw ?_; try with_reducible intro QQ hQQ
    refine aw_weak (weak_own 7 3 1 rfl) ?_
    (refine ts ?_; try clear hQQ QQ)
    refine aw_weak (weak_keep [1, 5, 7, 8] (by simp only [go_sem, ↓reduceIte]; rfl)) ?_
    refine aw_loop_ov (ι := { i : Nat // i ≤ l.length }) (fun i => [(8, iA i.1), (7, .one (.own 1 i.1))]) (fun i => [(1, .arr 3 1 (((l.take i.1).map (·.2)).map rowN) true)]) (fun i => l.length - i.1) ⟨0, by omega⟩ (by first | rfl | (simp only [go_sem, ↓reduceIte]; first | done | rfl | (simp; try rfl))) ?_
    rintro ⟨i, hi'⟩
    simp (disch := decide) only [ov, ovL, AL.get_nil, AL.get_eq, AL.get_ne, Option.getD_some, Option.getD_none]
    by_cases hil : i < l.length
    · have hrow : ((l.take i).map (·.2)).map rowN ++ [[iP (((l.getD i (0, 0)).2 : Nat) : Int)]] = ((l.take (i + 1)).map (·.2)).map rowN := by
        rw [List.take_succ, List.getElem?_eq_getElem hil, show l.getD i (0, 0) = l[i] by simp [List.getD, hil], List.map_append, List.map_append]
        rfl
      have hlb : (i + 1) * 8 ≤ 140737488355328 := by omega
      have hll : (((l.take i).map (·.2)).map rowN).length = i := by simp; omega
      obtain ⟨⟨a, b⟩, hab⟩ : ∃ q, l.getD i (0, 0) = q := ⟨_, rfl⟩
      rw [hab] at hrow
      (repeat (first | apply aw_seq | apply aw_block | apply aw_skip | apply aw_label | apply aw_exit | ((first | refine aw_region (hideO fun QQ hQQ => ?_) | refine aw_draw mixed (hideD fun QQ hQQ => ?_)); simp (maxSteps := 400000) (disch := first | decide | omega) only [hlb, hll, hab, rowsK_1, go_sem, ↓reduceIte]; try (first | with_reducible refine unhide hQQ ?_ | refine ⟨by kernel_rfl, unhide hQQ ?_⟩); clear hQQ QQ) | with_reducible first | apply then_n | apply block_n | apply then_x | apply then_r | apply nog_n | apply nog_r | apply block_r | apply block_e (by decide) | apply block_x (by decide)))
      refine aw_cond2 (by simp (disch := first | decide | omega) only [hlb, hll, hab, rowsK_1, go_sem, ↓reduceIte]; rfl) ?_; first | refine .inl ⟨by first | rfl | exact decide_eq_true (by omega) | exact decide_eq_true (by assumption) | (simp (disch := first | decide | omega) only [if_pos_d, if_neg_d, decide_eq_true_eq, Bool.not_eq_true', decide_eq_false_iff_not]; omega), ?_⟩ | refine .inr ⟨by first | rfl | exact decide_eq_false (by omega) | exact decide_eq_false (by assumption) | (simp (disch := first | decide | omega) only [if_pos_d, if_neg_d, decide_eq_true_eq, Bool.not_eq_true', decide_eq_false_iff_not]; omega), ?_⟩
      (repeat (first | apply aw_seq | apply aw_block | apply aw_skip | apply aw_label | apply aw_exit | ((first | refine aw_region (hideO fun QQ hQQ => ?_) | refine aw_draw mixed (hideD fun QQ hQQ => ?_)); simp (maxSteps := 400000) (disch := first | decide | omega) only [hlb, hll, hab, rowsK_1, go_sem, ↓reduceIte]; try (first | with_reducible refine unhide hQQ ?_ | refine ⟨by kernel_rfl, unhide hQQ ?_⟩); clear hQQ QQ) | with_reducible first | apply then_n | apply block_n | apply then_x | apply then_r | apply nog_n | apply nog_r | apply block_r | apply block_e (by decide) | apply block_x (by decide)))
      refine ⟨⟨i + 1, by omega⟩, ?_, weak_round ?_ (by first | rfl | (simp only [hlb, hll, hab, rowsK_1, go_sem, ↓reduceIte]))⟩
      rotate_left
      · simp only [← hrow]
        (simp only [hlb, hll, hab, rowsK_1, go_sem, ↓reduceIte]; try rfl)
      · simp only; omega
    · have : i = l.length := by omega
      subst this
      rw [List.take_length]
      have htk : List.take l.length (((l.map (·.2)).map rowN)) = (l.map (·.2)).map rowN := List.take_of_length_le (by simp)
      have hll : ((l.map (·.2)).map rowN).length = l.length := by simp
      (repeat (first | apply aw_seq | apply aw_block | apply aw_skip | apply aw_label | apply aw_exit | ((first | refine aw_region (hideO fun QQ hQQ => ?_) | refine aw_draw mixed (hideD fun QQ hQQ => ?_)); simp (maxSteps := 400000) (disch := first | decide | omega) only [htk, hll, go_sem, ↓reduceIte]; try (first | with_reducible refine unhide hQQ ?_ | refine ⟨by kernel_rfl, unhide hQQ ?_⟩); clear hQQ QQ) | with_reducible first | apply then_n | apply block_n | apply then_x | apply then_r | apply nog_n | apply nog_r | apply block_r | apply block_e (by decide) | apply block_x (by decide)))
      refine aw_cond2 (by simp (disch := first | decide | omega) only [htk, hll, go_sem, ↓reduceIte]; rfl) ?_; first | refine .inl ⟨by first | rfl | exact decide_eq_true (by omega) | exact decide_eq_true (by assumption) | (simp (disch := first | decide | omega) only [if_pos_d, if_neg_d, decide_eq_true_eq, Bool.not_eq_true', decide_eq_false_iff_not]; omega), ?_⟩ | refine .inr ⟨by first | rfl | exact decide_eq_false (by omega) | exact decide_eq_false (by assumption) | (simp (disch := first | decide | omega) only [if_pos_d, if_neg_d, decide_eq_true_eq, Bool.not_eq_true', decide_eq_false_iff_not]; omega), ?_⟩
      (repeat (first | apply aw_seq | apply aw_block | apply aw_skip | apply aw_label | apply aw_exit | ((first | refine aw_region (hideO fun QQ hQQ => ?_) | refine aw_draw mixed (hideD fun QQ hQQ => ?_)); simp (maxSteps := 400000) (disch := first | decide | omega) only [htk, hll, go_sem, ↓reduceIte]; try (first | with_reducible refine unhide hQQ ?_ | refine ⟨by kernel_rfl, unhide hQQ ?_⟩); clear hQQ QQ) | with_reducible first | apply then_n | apply block_n | apply then_x | apply then_r | apply nog_n | apply nog_r | apply block_r | apply block_e (by decide) | apply block_x (by decide)))
      ((refine callO_ok rfl rfl 54 true rfl (by simp (disch := first | decide | omega) only [htk, hll, go_sem, ↓reduceIte]; try rfl) (fun _ => rfl) (hS) Try.func54 rfl (by decide) ?_); simp (maxSteps := 400000) (disch := first | decide | omega) only [htk, hll, go_sem, ↓reduceIte]; try (with_reducible refine unhide hQQ ?_; clear hQQ QQ)); (repeat (first | apply aw_seq | apply aw_block | apply aw_skip | apply aw_label | apply aw_exit | ((first | refine aw_region (hideO fun QQ hQQ => ?_) | refine aw_draw mixed (hideD fun QQ hQQ => ?_)); simp (maxSteps := 400000) (disch := first | decide | omega) only [htk, hll, go_sem, ↓reduceIte]; try (first | with_reducible refine unhide hQQ ?_ | refine ⟨by kernel_rfl, unhide hQQ ?_⟩); clear hQQ QQ) | with_reducible first | apply then_n | apply block_n | apply then_x | apply then_r | apply nog_n | apply nog_r | apply block_r | apply block_e (by decide) | apply block_x (by decide)))
      refine aw_ret ?_; refine ⟨.inr rfl, ?_⟩; simp only [resA, res1, go_sem, ↓reduceIte]
theorem ok_PureR : FunOK Try.prog 21 [buR n lo hi top bales tests] (ansN (whyT n lo hi top bales tests) (pureA n lo hi top bales tests)) := by
  have hT := ok_BalesR (n := n) (lo := lo) (hi := hi) (top := top) (bales := bales) (tests := tests)
  by_cases hw : whyT n lo hi top bales tests = 0
  rotate_left
  · simp only [buR, ansR, ansN, if_neg hw] at hT ⊢
    generalize whyT n lo hi top bales tests = e at *
    refine fun_ok (nt := 23) (rs := [.tmp 2, .tmp 3]) Try.func21 rfl rfl rfl (by simp) fun Z w0 => ?_; simp only [initFr, avR, List.map_cons, List.map_nil]
    refine tw ?_; try with_reducible intro QQ hQQ
    ((refine cO 17 rfl rfl rfl (hT) Try.func17 rfl ?_); refine tu ?_; try clear hQQ QQ); refine tw ?_; try with_reducible intro QQ hQQ
    refine ti ?_; try clear hQQ QQ
    refine tw ?_; try with_reducible intro QQ hQQ
    refine aw_ret ?_; refine ⟨.inr rfl, ?_⟩; simp only [resA, res1, go_sem, ↓reduceIte]
  · obtain ⟨hne, hv, e1⟩ := why_nil hw
    rw [hw] at hT ⊢
    obtain ⟨N, L, U, T, rfl, rfl, rfl, rfl, hB⟩ := bok_of hv
    have hbA : (balA N L U bales tests).2 = (((seeL (balL L U bales tests (2 ^ N))).1 : Nat) : Int) := rfl
    have hpA : pureA N L U T bales tests = (diffN T (seeL (balL L U bales tests (2 ^ N))).1 : Nat) := rfl
    have hSl := (seeL_lt (balL_lt (lo := L) (up := U) (i := 2 ^ N) hB.b6 hB.te6)).1
    rw [hpA]
    simp only [buR, ansR, ansN, if_true] at hT ⊢
    rw [hbA] at hT
    generalize (balA N L U bales tests).1 = aa at *
    generalize (seeL (balL L U bales tests (2 ^ N))).1 = S at *
    have hTl := Nat.lt_of_lt_of_le hB.tp (pow64 hB.b6)
    have hb := ok_both T S hTl hSl
    have hs := and_sub hTl hSl
    have hle : T &&& S ≤ T := Nat.and_le_left
    have ecast : (T : Int) - ((T &&& S : Nat) : Int) = ((diffN T S : Nat) : Int) := by omega
    generalize diffN T S = D at *
    generalize T &&& S = X at *
    refine fun_ok (nt := 23) (rs := [.tmp 2, .tmp 3]) Try.func21 rfl rfl rfl (by simp) fun Z w0 => ?_; simp only [initFr, avR, List.map_cons, List.map_nil]
    (repeat (first | apply aw_seq | apply aw_block | apply aw_skip | apply aw_label | apply aw_exit | ((first | refine aw_region (hideO fun QQ hQQ => ?_) | refine aw_draw mixed (hideD fun QQ hQQ => ?_)); simp (maxSteps := 400000) (disch := first | decide | omega) only [ecast, go_sem, ↓reduceIte]; try (first | with_reducible refine unhide hQQ ?_ | refine ⟨by kernel_rfl, unhide hQQ ?_⟩); clear hQQ QQ) | with_reducible first | apply then_n | apply block_n | apply then_x | apply then_r | apply nog_n | apply nog_r | apply block_r | apply block_e (by decide) | apply block_x (by decide)))
    ((refine callO_ok rfl rfl 17 true rfl (by simp (disch := first | decide | omega) only [ecast, go_sem, ↓reduceIte]; try rfl) (fun _ => rfl) (hT) Try.func17 rfl (by decide) ?_); simp (maxSteps := 400000) (disch := first | decide | omega) only [ecast, go_sem, ↓reduceIte]; try (with_reducible refine unhide hQQ ?_; clear hQQ QQ)); (repeat (first | apply aw_seq | apply aw_block | apply aw_skip | apply aw_label | apply aw_exit | ((first | refine aw_region (hideO fun QQ hQQ => ?_) | refine aw_draw mixed (hideD fun QQ hQQ => ?_)); simp (maxSteps := 400000) (disch := first | decide | omega) only [ecast, go_sem, ↓reduceIte]; try (first | with_reducible refine unhide hQQ ?_ | refine ⟨by kernel_rfl, unhide hQQ ?_⟩); clear hQQ QQ) | with_reducible first | apply then_n | apply block_n | apply then_x | apply then_r | apply nog_n | apply nog_r | apply block_r | apply block_e (by decide) | apply block_x (by decide)))
    refine aw_cond2 (by simp (disch := first | decide | omega) only [ecast, go_sem, ↓reduceIte]; rfl) ?_; first | refine .inl ⟨by first | rfl | exact decide_eq_true (by omega) | exact decide_eq_true (by assumption) | (simp (disch := first | decide | omega) only [if_pos_d, if_neg_d, decide_eq_true_eq, Bool.not_eq_true', decide_eq_false_iff_not]; omega), ?_⟩ | refine .inr ⟨by first | rfl | exact decide_eq_false (by omega) | exact decide_eq_false (by assumption) | (simp (disch := first | decide | omega) only [if_pos_d, if_neg_d, decide_eq_true_eq, Bool.not_eq_true', decide_eq_false_iff_not]; omega), ?_⟩
    (repeat (first | apply aw_seq | apply aw_block | apply aw_skip | apply aw_label | apply aw_exit | ((first | refine aw_region (hideO fun QQ hQQ => ?_) | refine aw_draw mixed (hideD fun QQ hQQ => ?_)); simp (maxSteps := 400000) (disch := first | decide | omega) only [ecast, go_sem, ↓reduceIte]; try (first | with_reducible refine unhide hQQ ?_ | refine ⟨by kernel_rfl, unhide hQQ ?_⟩); clear hQQ QQ) | with_reducible first | apply then_n | apply block_n | apply then_x | apply then_r | apply nog_n | apply nog_r | apply block_r | apply block_e (by decide) | apply block_x (by decide)))
    (refine callD_ok rfl rfl 62 true rfl (by simp (disch := first | decide | omega) only [ecast, go_sem, ↓reduceIte]; try rfl) (fun _ => rfl) (hb) Try.func62 rfl (by decide) ?_); simp (maxSteps := 400000) (disch := first | decide | omega) only [ecast, go_sem, ↓reduceIte]; (try (refine ⟨by kernel_rfl, unhide hQQ ?_⟩; clear hQQ QQ; (repeat with_reducible first | apply then_n | apply block_n | apply then_x | apply then_r | apply nog_n | apply nog_r | apply block_r | apply block_e (by decide) | apply block_x (by decide))))
    (repeat (first | apply aw_seq | apply aw_block | apply aw_skip | apply aw_label | apply aw_exit | ((first | refine aw_region (hideO fun QQ hQQ => ?_) | refine aw_draw mixed (hideD fun QQ hQQ => ?_)); simp (maxSteps := 400000) (disch := first | decide | omega) only [ecast, go_sem, ↓reduceIte]; try (first | with_reducible refine unhide hQQ ?_ | refine ⟨by kernel_rfl, unhide hQQ ?_⟩); clear hQQ QQ) | with_reducible first | apply then_n | apply block_n | apply then_x | apply then_r | apply nog_n | apply nog_r | apply block_r | apply block_e (by decide) | apply block_x (by decide)))
    refine aw_ret ?_; refine ⟨.inr rfl, ?_⟩; simp only [resA, res1, go_sem, ↓reduceIte]
theorem ok_CleanR : FunOK Try.prog 19 [buR n lo hi top bales tests] (ansN (whyT n lo hi top bales tests) (cleanA n lo hi top bales tests)) := by
  have hT := ok_toldR (n := n) (lo := lo) (hi := hi) (top := top) (bales := bales) (tests := tests)
  by_cases hw : whyT n lo hi top bales tests = 0
  rotate_left
  · simp only [buR, ansN, if_neg hw] at hT ⊢
    generalize whyT n lo hi top bales tests = e at *
    generalize toldL n lo hi top bales tests = l at *
    refine fun_ok (nt := 39) (rs := [.tmp 2, .tmp 3]) Try.func19 rfl rfl rfl (by simp) fun Z w0 => ?_; simp only [initFr, avR, List.map_cons, List.map_nil]
    refine tw ?_; try with_reducible intro QQ hQQ
    ((refine cB 53 rfl rfl rfl (hT) Try.func53 rfl ?_); refine tu ?_; try clear hQQ QQ); refine tw ?_; try with_reducible intro QQ hQQ
    refine ti ?_; try clear hQQ QQ
    refine tw ?_; try with_reducible intro QQ hQQ
    refine aw_ret ?_; refine ⟨.inr rfl, ?_⟩; simp only [resA, res1, go_sem, ↓reduceIte]
  · obtain ⟨hne, hv, e1⟩ := why_nil hw
    rw [e1] at hne hT
    rw [hw] at hT ⊢
    obtain ⟨N, L, U, T, rfl, rfl, rfl, rfl, hB⟩ := bok_of hv
    simp only [Int.toNat_natCast] at hne hT
    rw [cleanA_eq hB]
    have hln := TR_len (bales := bales) (tests := tests) N L U hB.n5 hB.b6
    have hlt : ∀ x ∈ TR N L U bales tests, x.2 < 64 := fun x hx => Nat.lt_of_lt_of_le (mem_TR.1 hx).2.1 (pow64 hB.b6)
    have hTl := Nat.lt_of_lt_of_le hB.tp (pow64 hB.b6)
    unfold tidyN
    simp only [buR, ansN, if_true] at hT ⊢
    clear e1 hw
    generalize TR N L U bales tests = l at *
    have hl0 : l.length ≠ 0 := fun h => hne (List.length_eq_zero_iff.1 h)
    refine fun_ok (nt := 39) (rs := [.tmp 2, .tmp 3]) Try.func19 rfl rfl rfl (by simp) fun Z w0 => ?_; simp only [initFr, avR, List.map_cons, List.map_nil]
    refine tw ?_; try with_reducible intro QQ hQQ
    ((refine cB 53 rfl rfl rfl (hT) Try.func53 rfl ?_); refine tu ?_; try clear hQQ QQ); refine tw ?_; try with_reducible intro QQ hQQ
    refine ti ?_; try clear hQQ QQ
    refine tw ?_; try with_reducible intro QQ hQQ
    refine aw_weak (weak_keep [1, 4, 6, 7] (by simp only [go_sem, ↓reduceIte]; rfl)) ?_
    refine aw_loop_ov (ι := { i : Nat // i ≤ l.length }) (fun i => [(7, iA i.1), (6, .one (.p (iP ((l.take i.1).countP (fun x => decide (x.2 &&& T = 0)) : Nat))))]) (fun _ => []) (fun i => l.length - i.1) ⟨0, by omega⟩ (by first | rfl | (simp only [go_sem, ↓reduceIte]; first | done | rfl | (simp; try rfl))) ?_
    rintro ⟨i, hi'⟩
    simp (disch := decide) only [ov, ovL, AL.get_nil, AL.get_eq, AL.get_ne, Option.getD_some, Option.getD_none]
    by_cases hil : i < l.length
    · have e1 : (l.take (i + 1)).countP (fun x => decide (x.2 &&& T = 0)) = (l.take i).countP (fun x => decide (x.2 &&& T = 0)) + if (l.getD i (0, 0)).2 &&& T = 0 then 1 else 0 := by
        rw [List.take_succ, List.getElem?_eq_getElem hil, List.countP_append, show l.getD i (0, 0) = l[i] by simp [List.getD, hil]]
        by_cases hb : (l[i]).2 &&& T = 0 <;> simp [hb]
      have hcl : (l.take i).countP (fun x => decide (x.2 &&& T = 0)) ≤ (l.take i).length := List.countP_le_length
      rw [List.length_take] at hcl
      have hm := hlt _ (mem_of_getD (d := (0, 0)) hil)
      generalize (l.take i).countP (fun x => decide (x.2 &&& T = 0)) = c at *
      obtain ⟨⟨a, b⟩, hab⟩ : ∃ q, l.getD i (0, 0) = q := ⟨_, rfl⟩
      rw [hab] at e1 hm
      dsimp only at e1 hm
      have hb := ok_both b T hm hTl
      generalize b &&& T = X at *
      by_cases hz : X = 0
      · subst hz
        rw [if_pos rfl] at e1
        (repeat (first | apply aw_seq | apply aw_block | apply aw_skip | apply aw_label | apply aw_exit | ((first | refine aw_region (hideO fun QQ hQQ => ?_) | refine aw_draw mixed (hideD fun QQ hQQ => ?_)); simp (maxSteps := 400000) (disch := first | decide | omega) only [hab, go_sem, ↓reduceIte]; try (first | with_reducible refine unhide hQQ ?_ | refine ⟨by kernel_rfl, unhide hQQ ?_⟩); clear hQQ QQ) | with_reducible first | apply then_n | apply block_n | apply then_x | apply then_r | apply nog_n | apply nog_r | apply block_r | apply block_e (by decide) | apply block_x (by decide)))
        refine aw_cond2 (by simp (disch := first | decide | omega) only [hab, go_sem, ↓reduceIte]; rfl) ?_; first | refine .inl ⟨by first | rfl | exact decide_eq_true (by omega) | exact decide_eq_true (by assumption) | (simp (disch := first | decide | omega) only [if_pos_d, if_neg_d, decide_eq_true_eq, Bool.not_eq_true', decide_eq_false_iff_not]; omega), ?_⟩ | refine .inr ⟨by first | rfl | exact decide_eq_false (by omega) | exact decide_eq_false (by assumption) | (simp (disch := first | decide | omega) only [if_pos_d, if_neg_d, decide_eq_true_eq, Bool.not_eq_true', decide_eq_false_iff_not]; omega), ?_⟩
        (repeat (first | apply aw_seq | apply aw_block | apply aw_skip | apply aw_label | apply aw_exit | ((first | refine aw_region (hideO fun QQ hQQ => ?_) | refine aw_draw mixed (hideD fun QQ hQQ => ?_)); simp (maxSteps := 400000) (disch := first | decide | omega) only [hab, go_sem, ↓reduceIte]; try (first | with_reducible refine unhide hQQ ?_ | refine ⟨by kernel_rfl, unhide hQQ ?_⟩); clear hQQ QQ) | with_reducible first | apply then_n | apply block_n | apply then_x | apply then_r | apply nog_n | apply nog_r | apply block_r | apply block_e (by decide) | apply block_x (by decide)))
        (refine callD_ok rfl rfl 62 true rfl (by simp (disch := first | decide | omega) only [hab, go_sem, ↓reduceIte]; try rfl) (fun _ => rfl) (hb) Try.func62 rfl (by decide) ?_); simp (maxSteps := 400000) (disch := first | decide | omega) only [hab, go_sem, ↓reduceIte]; (try (refine ⟨by kernel_rfl, unhide hQQ ?_⟩; clear hQQ QQ; (repeat with_reducible first | apply then_n | apply block_n | apply then_x | apply then_r | apply nog_n | apply nog_r | apply block_r | apply block_e (by decide) | apply block_x (by decide))))
        (repeat (first | apply aw_seq | apply aw_block | apply aw_skip | apply aw_label | apply aw_exit | ((first | refine aw_region (hideO fun QQ hQQ => ?_) | refine aw_draw mixed (hideD fun QQ hQQ => ?_)); simp (maxSteps := 400000) (disch := first | decide | omega) only [hab, go_sem, ↓reduceIte]; try (first | with_reducible refine unhide hQQ ?_ | refine ⟨by kernel_rfl, unhide hQQ ?_⟩); clear hQQ QQ) | with_reducible first | apply then_n | apply block_n | apply then_x | apply then_r | apply nog_n | apply nog_r | apply block_r | apply block_e (by decide) | apply block_x (by decide)))
        refine aw_cond2 (by simp (disch := first | decide | omega) only [hab, go_sem, ↓reduceIte]; rfl) ?_; first | refine .inl ⟨by first | rfl | exact decide_eq_true (by omega) | exact decide_eq_true (by assumption) | (simp (disch := first | decide | omega) only [if_pos_d, if_neg_d, decide_eq_true_eq, Bool.not_eq_true', decide_eq_false_iff_not]; omega), ?_⟩ | refine .inr ⟨by first | rfl | exact decide_eq_false (by omega) | exact decide_eq_false (by assumption) | (simp (disch := first | decide | omega) only [if_pos_d, if_neg_d, decide_eq_true_eq, Bool.not_eq_true', decide_eq_false_iff_not]; omega), ?_⟩
        (repeat (first | apply aw_seq | apply aw_block | apply aw_skip | apply aw_label | apply aw_exit | ((first | refine aw_region (hideO fun QQ hQQ => ?_) | refine aw_draw mixed (hideD fun QQ hQQ => ?_)); simp (maxSteps := 400000) (disch := first | decide | omega) only [hab, go_sem, ↓reduceIte]; try (first | with_reducible refine unhide hQQ ?_ | refine ⟨by kernel_rfl, unhide hQQ ?_⟩); clear hQQ QQ) | with_reducible first | apply then_n | apply block_n | apply then_x | apply then_r | apply nog_n | apply nog_r | apply block_r | apply block_e (by decide) | apply block_x (by decide)))
        refine ⟨⟨i + 1, by omega⟩, ?_, weak_round ?_ (by first | rfl | (simp only [hab, go_sem, ↓reduceIte]))⟩
        rotate_left
        · simp only [e1]
          (simp only [hab, go_sem, ↓reduceIte]; try rfl)
        · simp only; omega
      · rw [if_neg hz, Nat.add_zero] at e1
        (repeat (first | apply aw_seq | apply aw_block | apply aw_skip | apply aw_label | apply aw_exit | ((first | refine aw_region (hideO fun QQ hQQ => ?_) | refine aw_draw mixed (hideD fun QQ hQQ => ?_)); simp (maxSteps := 400000) (disch := first | decide | omega) only [hab, go_sem, ↓reduceIte]; try (first | with_reducible refine unhide hQQ ?_ | refine ⟨by kernel_rfl, unhide hQQ ?_⟩); clear hQQ QQ) | with_reducible first | apply then_n | apply block_n | apply then_x | apply then_r | apply nog_n | apply nog_r | apply block_r | apply block_e (by decide) | apply block_x (by decide)))
        refine aw_cond2 (by simp (disch := first | decide | omega) only [hab, go_sem, ↓reduceIte]; rfl) ?_; first | refine .inl ⟨by first | rfl | exact decide_eq_true (by omega) | exact decide_eq_true (by assumption) | (simp (disch := first | decide | omega) only [if_pos_d, if_neg_d, decide_eq_true_eq, Bool.not_eq_true', decide_eq_false_iff_not]; omega), ?_⟩ | refine .inr ⟨by first | rfl | exact decide_eq_false (by omega) | exact decide_eq_false (by assumption) | (simp (disch := first | decide | omega) only [if_pos_d, if_neg_d, decide_eq_true_eq, Bool.not_eq_true', decide_eq_false_iff_not]; omega), ?_⟩
        (repeat (first | apply aw_seq | apply aw_block | apply aw_skip | apply aw_label | apply aw_exit | ((first | refine aw_region (hideO fun QQ hQQ => ?_) | refine aw_draw mixed (hideD fun QQ hQQ => ?_)); simp (maxSteps := 400000) (disch := first | decide | omega) only [hab, go_sem, ↓reduceIte]; try (first | with_reducible refine unhide hQQ ?_ | refine ⟨by kernel_rfl, unhide hQQ ?_⟩); clear hQQ QQ) | with_reducible first | apply then_n | apply block_n | apply then_x | apply then_r | apply nog_n | apply nog_r | apply block_r | apply block_e (by decide) | apply block_x (by decide)))
        (refine callD_ok rfl rfl 62 true rfl (by simp (disch := first | decide | omega) only [hab, go_sem, ↓reduceIte]; try rfl) (fun _ => rfl) (hb) Try.func62 rfl (by decide) ?_); simp (maxSteps := 400000) (disch := first | decide | omega) only [hab, go_sem, ↓reduceIte]; (try (refine ⟨by kernel_rfl, unhide hQQ ?_⟩; clear hQQ QQ; (repeat with_reducible first | apply then_n | apply block_n | apply then_x | apply then_r | apply nog_n | apply nog_r | apply block_r | apply block_e (by decide) | apply block_x (by decide))))
        (repeat (first | apply aw_seq | apply aw_block | apply aw_skip | apply aw_label | apply aw_exit | ((first | refine aw_region (hideO fun QQ hQQ => ?_) | refine aw_draw mixed (hideD fun QQ hQQ => ?_)); simp (maxSteps := 400000) (disch := first | decide | omega) only [hab, go_sem, ↓reduceIte]; try (first | with_reducible refine unhide hQQ ?_ | refine ⟨by kernel_rfl, unhide hQQ ?_⟩); clear hQQ QQ) | with_reducible first | apply then_n | apply block_n | apply then_x | apply then_r | apply nog_n | apply nog_r | apply block_r | apply block_e (by decide) | apply block_x (by decide)))
        refine aw_cond2 (by simp (disch := first | decide | omega) only [hab, go_sem, ↓reduceIte]; rfl) ?_; first | refine .inl ⟨by first | rfl | exact decide_eq_true (by omega) | exact decide_eq_true (by assumption) | (simp (disch := first | decide | omega) only [if_pos_d, if_neg_d, decide_eq_true_eq, Bool.not_eq_true', decide_eq_false_iff_not]; omega), ?_⟩ | refine .inr ⟨by first | rfl | exact decide_eq_false (by omega) | exact decide_eq_false (by assumption) | (simp (disch := first | decide | omega) only [if_pos_d, if_neg_d, decide_eq_true_eq, Bool.not_eq_true', decide_eq_false_iff_not]; omega), ?_⟩
        (repeat (first | apply aw_seq | apply aw_block | apply aw_skip | apply aw_label | apply aw_exit | ((first | refine aw_region (hideO fun QQ hQQ => ?_) | refine aw_draw mixed (hideD fun QQ hQQ => ?_)); simp (maxSteps := 400000) (disch := first | decide | omega) only [hab, go_sem, ↓reduceIte]; try (first | with_reducible refine unhide hQQ ?_ | refine ⟨by kernel_rfl, unhide hQQ ?_⟩); clear hQQ QQ) | with_reducible first | apply then_n | apply block_n | apply then_x | apply then_r | apply nog_n | apply nog_r | apply block_r | apply block_e (by decide) | apply block_x (by decide)))
        refine ⟨⟨i + 1, by omega⟩, ?_, weak_round ?_ (by first | rfl | (simp only [hab, go_sem, ↓reduceIte]))⟩
        rotate_left
        · simp only [e1]
          (simp only [hab, go_sem, ↓reduceIte]; try rfl)
        · simp only; omega
    · have : i = l.length := by omega
      subst this
      rw [List.take_length]
      generalize l.countP (fun x => decide (x.2 &&& T = 0)) = c at *
      by_cases h1 : c = l.length
      · rw [if_pos h1]
        refine tw ?_; try with_reducible intro QQ hQQ
        refine ti ?_; try clear hQQ QQ
        refine tw ?_; try with_reducible intro QQ hQQ
        refine ti ?_; try clear hQQ QQ
        refine tw ?_; try with_reducible intro QQ hQQ
        refine aw_ret ?_; refine ⟨.inr rfl, ?_⟩; simp only [resA, res1, go_sem, ↓reduceIte]
      · rw [if_neg h1]
        by_cases h2 : c = 0
        · rw [if_pos h2]
          refine tw ?_; try with_reducible intro QQ hQQ
          refine ti ?_; try clear hQQ QQ
          refine tw ?_; try with_reducible intro QQ hQQ
          refine ti ?_; try clear hQQ QQ
          refine tw ?_; try with_reducible intro QQ hQQ
          refine ti ?_; try clear hQQ QQ
          refine tw ?_; try with_reducible intro QQ hQQ
          refine aw_ret ?_; refine ⟨.inr rfl, ?_⟩; simp only [resA, res1, go_sem, ↓reduceIte]
        · rw [if_neg h2]
          refine tw ?_; try with_reducible intro QQ hQQ
          refine ti ?_; try clear hQQ QQ
          refine tw ?_; try with_reducible intro QQ hQQ
          refine ti ?_; try clear hQQ QQ
          refine tw ?_; try with_reducible intro QQ hQQ
          refine ti ?_; try clear hQQ QQ
          refine tw ?_; try with_reducible intro QQ hQQ
          refine aw_ret ?_; refine ⟨.inr rfl, ?_⟩; simp only [resA, res1, go_sem, ↓reduceIte]
end
end Go.Proofs.Ytknikcpeacmpmaa
