/- THE LAW BurrMore, walked: what is answered, by truths; its end (no argument is changed); the turned sets. -/
import Derived.Test.YtknikcpeacmpmaaByG
import Derived.Test.YtknikcpeacmpmaaBxL
set_option linter.all false
namespace Go.Proofs.Ytknikcpeacmpmaa
open Go Go.RowKit Go.Sh Go.Pv
set_option maxHeartbeats 8000000
set_option maxRecDepth 8000
set_option pp.maxSteps 60000
section
variable {N L U T : Nat} {bales : List (Int × Int)} {tests : List (Int × Bool)}
theorem ans_none (hv : burrB N L U T bales tests = true) (hB : BOK N L U T bales tests) (hne : TR N L U bales tests = []) :
    FunOK Try.prog 14 [buR N L U T bales tests] (.tup [.one (iP 0), .one (iP 0), .one (iP 10)]) ∧ FunOK Try.prog 16 [buR N L U T bales tests] (.tup [.one (iP 0), .one (iP 0), .one (iP 10)]) ∧ FunOK Try.prog 22 [buR N L U T bales tests] (.tup [.one (iP 0), .one (iP 0)]) ∧ FunOK Try.prog 25 [buR N L U T bales tests] (.tup [.one (iP 0), .one (iP 0), .one (iP 10)]) ∧ FunOK Try.prog 20 [buR N L U T bales tests] (.tup [.one (iP 0), .one (iP 10)]) := by
  have hcc : cntB N L U bales tests = (TR N L U bales tests).length := (show cntB N L U bales tests = cntF L U bales tests (2 ^ N) from rfl).trans (count_TR hB.b6 hB.te6)
  have hwT : whyT N L U T bales tests = 10 := by simp [whyT, hv, hcc, hne]
  have hwV : whyV N L U T bales tests = 0 := by simp [whyV, hv]
  have hC := ok_Count (n := N) (lo := L) (hi := U) (top := T) (bales := bales) (tests := tests)
  have hM := ok_Mobs (n := N) (lo := L) (hi := U) (top := T) (bales := bales) (tests := tests)
  have hA := ok_Bales (n := N) (lo := L) (hi := U) (top := T) (bales := bales) (tests := tests)
  have hP := ok_Pure (n := N) (lo := L) (hi := U) (top := T) (bales := bales) (tests := tests)
  have hO := ok_Open (n := N) (lo := L) (hi := U) (top := T) (bales := bales) (tests := tests)
  rw [hwT] at hM hA hP hO
  rw [hwV, hcc, hne] at hC
  exact ⟨hM, hA, hC, hO, hP⟩
theorem ans_some (hv : burrB N L U T bales tests = true) (hB : BOK N L U T bales tests) (hne : TR N L U bales tests ≠ []) {a1 a2 : Nat} (ha1 : (seeL ((TR N L U bales tests).map (·.1))).2 = some a1) (ha2 : (seeL ((TR N L U bales tests).map (·.2))).2 = some a2) :
    FunOK Try.prog 14 [buR N L U T bales tests] (.tup [.one (iP a1), .one (iP (seeL ((TR N L U bales tests).map (·.1))).1), .one (iP 0)]) ∧ FunOK Try.prog 16 [buR N L U T bales tests] (.tup [.one (iP a2), .one (iP (seeL ((TR N L U bales tests).map (·.2))).1), .one (iP 0)]) ∧ FunOK Try.prog 22 [buR N L U T bales tests] (.tup [.one (iP (TR N L U bales tests).length), .one (iP 0)]) ∧ FunOK Try.prog 25 [buR N L U T bales tests] (.tup [.one (iP (popc (openS N L U T bales tests) : Nat)), .one (iP (openS N L U T bales tests : Nat)), .one (iP 0)]) ∧ FunOK Try.prog 20 [buR N L U T bales tests] (.tup [.one (iP (diffN T (seeL ((TR N L U bales tests).map (·.2))).1 : Nat)), .one (iP 0)]) := by
  have hcc : cntB N L U bales tests = (TR N L U bales tests).length := (show cntB N L U bales tests = cntF L U bales tests (2 ^ N) from rfl).trans (count_TR hB.b6 hB.te6)
  have hwT : whyT N L U T bales tests = 0 := by simp [whyT, hv, hcc, hne]
  have hwV : whyV N L U T bales tests = 0 := by simp [whyV, hv]
  have hC := ok_Count (n := N) (lo := L) (hi := U) (top := T) (bales := bales) (tests := tests)
  have hM := ok_Mobs (n := N) (lo := L) (hi := U) (top := T) (bales := bales) (tests := tests)
  have hA := ok_Bales (n := N) (lo := L) (hi := U) (top := T) (bales := bales) (tests := tests)
  have hP := ok_Pure (n := N) (lo := L) (hi := U) (top := T) (bales := bales) (tests := tests)
  have hO := ok_Open (n := N) (lo := L) (hi := U) (top := T) (bales := bales) (tests := tests)
  have eM : mobA N L U bales tests = ((a1 : Int), (((seeL ((TR N L U bales tests).map (·.1))).1 : Nat) : Int)) := by unfold mobA; simp only [Int.toNat_natCast, mob_see hne, ha1]; rfl
  have eA : balA N L U bales tests = ((a2 : Int), (((seeL ((TR N L U bales tests).map (·.2))).1 : Nat) : Int)) := by unfold balA; simp only [Int.toNat_natCast, bal_see hne, ha2]; rfl
  have eP : pureA N L U T bales tests = ((diffN T (seeL ((TR N L U bales tests).map (·.2))).1 : Nat) : Int) := by unfold pureA; simp only [Int.toNat_natCast, bal_see hne]
  have eO : openA N L U T bales tests = (((popc (openS N L U T bales tests) : Nat) : Int), ((openS N L U T bales tests : Nat) : Int)) := by unfold openA; simp only [Int.toNat_natCast]
  rw [hwT] at hM hA hP hO
  rw [eM] at hM
  rw [eA] at hA
  rw [eP] at hP
  rw [eO] at hO
  rw [hwV, hcc] at hC
  exact ⟨hM, hA, hC, hO, hP⟩
end
theorem bin_and_low (T : TypeId) (x y : Operand) {a : Nat} (ha : a < 64) : binA Try.prog .and T x y (.int .i64 (a : Int)) (.int .i64 (0 - (a : Int))) = some (.int .i64 ((lowN a : Nat) : Int)) := by
  rw [bin_and]
  have e : (BitVec.ofInt IntKind.i64.bits (a : Int) &&& BitVec.ofInt IntKind.i64.bits (0 - (a : Int))).toNat = lowN a := by
    show (BitVec.ofInt 64 (a : Int) &&& BitVec.ofInt 64 (0 - (a : Int))).toNat = lowN a
    unfold lowN
    rw [Int.zero_sub, BitVec.ofInt_neg, BitVec.ofInt_natCast]
  rw [e, wrap_nat]
  have h1 : lowN a ≤ a := by
    have h2 : lowN a = lowN a &&& a := by
      apply Nat.eq_of_testBit_eq
      intro j
      rw [Nat.testBit_and]
      cases hj : (lowN a).testBit j with
      | false => rfl
      | true => rw [sub_iff.1 (lowN_sub (by omega)) j hj]; rfl
    rw [h2]; exact Nat.and_le_right
  omega
/-- Sets turned, bit by bit. -/
def tnF (n x : Nat) : Nat → Nat
  | 0 => 0
  | k + 1 => if x.testBit k = true then tnF n x k ||| 2 ^ (n - 1 - k) else tnF n x k
theorem tnF_bit (n x : Nat) : ∀ k, k ≤ n → ∀ j, (tnF n x k).testBit j = (decide (j < n) && decide (n - 1 - j < k) && x.testBit (n - 1 - j))
  | 0, _, j => by simp [tnF]
  | k + 1, hk, j => by
    have ih := tnF_bit n x k (by omega) j
    unfold tnF
    by_cases hx : x.testBit k = true
    · rw [if_pos hx, Nat.testBit_or, ih, Nat.testBit_two_pow]
      by_cases e : n - 1 - k = j
      · have e1 : n - 1 - j = k := by omega
        rw [e1, hx, decide_eq_true e, decide_eq_true (show j < n by omega), decide_eq_true (show k < k + 1 by omega)]
        simp
      · rw [decide_eq_false e, Bool.or_false]
        by_cases hj : j < n
        · rw [decide_eq_true hj]
          by_cases h2 : n - 1 - j < k
          · rw [decide_eq_true h2, decide_eq_true (show n - 1 - j < k + 1 by omega)]
          · rw [decide_eq_false h2, decide_eq_false (show ¬ n - 1 - j < k + 1 by omega)]
        · rw [decide_eq_false hj]; simp
    · rw [if_neg hx, ih]
      have hx : x.testBit k = false := by simpa using hx
      by_cases hj : j < n
      · rw [decide_eq_true hj]
        by_cases e1 : n - 1 - j = k
        · rw [e1, hx]; simp
        · by_cases h2 : n - 1 - j < k
          · rw [decide_eq_true h2, decide_eq_true (show n - 1 - j < k + 1 by omega)]
          · rw [decide_eq_false h2, decide_eq_false (show ¬ n - 1 - j < k + 1 by omega)]
      · rw [decide_eq_false hj]; simp
theorem tnF_all (n x : Nat) : tnF n x n = turnN n x := by
  apply Nat.eq_of_testBit_eq
  intro j
  rw [tnF_bit n x n (Nat.le_refl _) j, turn_bit]
  by_cases hj : j < n
  · rw [decide_eq_true hj, decide_eq_true (show n - 1 - j < n by omega)]; rfl
  · rw [decide_eq_false hj]; simp
theorem tnF_lt (n x : Nat) : ∀ k, k ≤ n → tnF n x k < 2 ^ n
  | 0, _ => Nat.two_pow_pos n
  | k + 1, hk => by
    have ih := tnF_lt n x k (by omega)
    unfold tnF
    split
    · exact Nat.or_lt_two_pow ih (Nat.pow_lt_pow_right (by decide) (by omega))
    · exact ih
theorem s_turned45 {n x : Nat} (hn : n ≤ 6) (hx : x < 64) : FunS Try.prog 45 [.one (.p (iP x)), .one (.box 0 0)] [(0, .box [.p (iP n)])] 1 (.one (.one (iP (turnN n x : Nat)))) := by
  rw [← tnF_all]
  have h6 := pow64 hn
  refine funS_ok (nt := 23) (rs := [.tmp 3]) Try.func45 rfl rfl rfl (by simp) fun Z w0 cap pan dk tm => ?_; simp only [initV, pins, pinOf, List.map_cons, List.map_nil]
  refine tw ?_; try with_reducible intro QQ hQQ
  refine aw_weak (weak_keepA [0, 1, 3, 5, 6] (by simp only [go_sem, ↓reduceIte]; rfl)) ?_
  refine aw_loop_ov (ι := { k : Nat // k ≤ n }) (fun k => [(3, .one (.p (iP (tnF n x k.1 : Nat)))), (6, iA k.1)]) (fun _ => []) (fun k => n - k.1) ⟨0, by omega⟩ (by first | rfl | (simp only [go_sem, ↓reduceIte]; first | done | rfl | (simp; try rfl))) ?_
  rintro ⟨k, hk⟩
  simp (disch := decide) only [ov, ovL, AL.get_nil, AL.get_eq, AL.get_ne, Option.getD_some, Option.getD_none]
  have hlt := tnF_lt n x k hk
  by_cases hkl : k < n
  · have e1 : tnF n x (k + 1) = if x.testBit k = true then tnF n x k ||| 2 ^ (n - 1 - k) else tnF n x k := rfl
    have hshr : ∀ (T : TypeId) (p q : Operand), binA Try.prog .shr T p q (.int .i64 (x : Int)) (.int .i64 (k : Int)) = some (.int .i64 ((x >>> k : Nat) : Int)) := fun T p q => bin_shr_nat .i64 T p q (by omega) (by omega)
    have hle : x >>> k ≤ x := Nat.shiftRight_le x k
    have han : ∀ (T : TypeId) (p q : Operand), binA Try.prog .and T p q (.int .i64 ((x >>> k : Nat) : Int)) (.int .i64 1) = some (.int .i64 ((x >>> k &&& 1 : Nat) : Int)) := fun T p q => bin_and_nat T p q (a := x >>> k) (b := 1) (by omega) (by omega)
    have hbit := bit_and1 x k
    have hp5 := pow_six (b := n - 1 - k) (by omega)
    have ec : (n : Int) - 1 - (k : Int) = ((n - 1 - k : Nat) : Int) := by omega
    have hshl : ∀ (T' : TypeId) (p q : Operand), binA Try.prog .shl T' p q (.int .i64 1) (.int .i64 ((n - 1 - k : Nat) : Int)) = some (.int .i64 ((2 ^ (n - 1 - k) : Nat) : Int)) := fun T' p q => bin_shl_one .i64 T' p q (by omega)
    have hor : ∀ (T' : TypeId) (p q : Operand), binA Try.prog .or T' p q (.int .i64 ((tnF n x k : Nat) : Int)) (.int .i64 ((2 ^ (n - 1 - k) : Nat) : Int)) = some (.int .i64 ((tnF n x k ||| 2 ^ (n - 1 - k) : Nat) : Int)) := fun T' p q => bin_or_nat T' p q (by omega) (by omega)
    generalize tnF n x k = tv at *
    generalize tv ||| 2 ^ (n - 1 - k) = tw at *
    generalize 2 ^ (n - 1 - k) = pr at *
    generalize x >>> k &&& 1 = b1' at *
    generalize x >>> k = x1 at *
    cases htb : x.testBit k with
    | true =>
      rw [htb, if_pos rfl] at hbit e1
      subst hbit
      (repeat (first | apply aw_seq | apply aw_block | apply aw_skip | apply aw_label | apply aw_exit | ((first | refine aw_region (hideO fun QQ hQQ => ?_) | refine aw_draw mixed (hideD fun QQ hQQ => ?_)); simp (maxSteps := 400000) (disch := first | decide | omega) only [hshr, han, ec, hshl, hor, go_sem, ↓reduceIte]; try (first | with_reducible refine unhide hQQ ?_ | refine ⟨by kernel_rfl, unhide hQQ ?_⟩); clear hQQ QQ) | with_reducible first | apply then_n | apply block_n | apply then_x | apply then_r | apply nog_n | apply nog_r | apply block_r | apply block_e (by decide) | apply block_x (by decide)))
      refine aw_cond2 (by simp (disch := first | decide | omega) only [hshr, han, ec, hshl, hor, go_sem, ↓reduceIte]; rfl) ?_; first | refine .inl ⟨by first | rfl | exact decide_eq_true (by omega) | exact decide_eq_true (by assumption) | (simp (disch := first | decide | omega) only [if_pos_d, if_neg_d, decide_eq_true_eq, Bool.not_eq_true', decide_eq_false_iff_not]; omega), ?_⟩ | refine .inr ⟨by first | rfl | exact decide_eq_false (by omega) | exact decide_eq_false (by assumption) | (simp (disch := first | decide | omega) only [if_pos_d, if_neg_d, decide_eq_true_eq, Bool.not_eq_true', decide_eq_false_iff_not]; omega), ?_⟩
      (repeat (first | apply aw_seq | apply aw_block | apply aw_skip | apply aw_label | apply aw_exit | ((first | refine aw_region (hideO fun QQ hQQ => ?_) | refine aw_draw mixed (hideD fun QQ hQQ => ?_)); simp (maxSteps := 400000) (disch := first | decide | omega) only [hshr, han, ec, hshl, hor, go_sem, ↓reduceIte]; try (first | with_reducible refine unhide hQQ ?_ | refine ⟨by kernel_rfl, unhide hQQ ?_⟩); clear hQQ QQ) | with_reducible first | apply then_n | apply block_n | apply then_x | apply then_r | apply nog_n | apply nog_r | apply block_r | apply block_e (by decide) | apply block_x (by decide)))
      refine aw_cond2 (by simp (disch := first | decide | omega) only [hshr, han, ec, hshl, hor, go_sem, ↓reduceIte]; rfl) ?_; first | refine .inl ⟨by first | rfl | exact decide_eq_true (by omega) | exact decide_eq_true (by assumption) | (simp (disch := first | decide | omega) only [if_pos_d, if_neg_d, decide_eq_true_eq, Bool.not_eq_true', decide_eq_false_iff_not]; omega), ?_⟩ | refine .inr ⟨by first | rfl | exact decide_eq_false (by omega) | exact decide_eq_false (by assumption) | (simp (disch := first | decide | omega) only [if_pos_d, if_neg_d, decide_eq_true_eq, Bool.not_eq_true', decide_eq_false_iff_not]; omega), ?_⟩
      (repeat (first | apply aw_seq | apply aw_block | apply aw_skip | apply aw_label | apply aw_exit | ((first | refine aw_region (hideO fun QQ hQQ => ?_) | refine aw_draw mixed (hideD fun QQ hQQ => ?_)); simp (maxSteps := 400000) (disch := first | decide | omega) only [hshr, han, ec, hshl, hor, go_sem, ↓reduceIte]; try (first | with_reducible refine unhide hQQ ?_ | refine ⟨by kernel_rfl, unhide hQQ ?_⟩); clear hQQ QQ) | with_reducible first | apply then_n | apply block_n | apply then_x | apply then_r | apply nog_n | apply nog_r | apply block_r | apply block_e (by decide) | apply block_x (by decide)))
      refine ⟨⟨k + 1, by omega⟩, ?_, weak_round ?_ (by first | rfl | (simp only [hshr, han, ec, hshl, hor, go_sem, ↓reduceIte]))⟩
      rotate_left
      · simp only [e1]
        (simp only [hshr, han, ec, hshl, hor, go_sem, ↓reduceIte]; try rfl)
      · simp only; omega
    | false =>
      rw [htb, if_neg (by decide)] at hbit e1
      subst hbit
      (repeat (first | apply aw_seq | apply aw_block | apply aw_skip | apply aw_label | apply aw_exit | ((first | refine aw_region (hideO fun QQ hQQ => ?_) | refine aw_draw mixed (hideD fun QQ hQQ => ?_)); simp (maxSteps := 400000) (disch := first | decide | omega) only [hshr, han, go_sem, ↓reduceIte]; try (first | with_reducible refine unhide hQQ ?_ | refine ⟨by kernel_rfl, unhide hQQ ?_⟩); clear hQQ QQ) | with_reducible first | apply then_n | apply block_n | apply then_x | apply then_r | apply nog_n | apply nog_r | apply block_r | apply block_e (by decide) | apply block_x (by decide)))
      refine aw_cond2 (by simp (disch := first | decide | omega) only [hshr, han, go_sem, ↓reduceIte]; rfl) ?_; first | refine .inl ⟨by first | rfl | exact decide_eq_true (by omega) | exact decide_eq_true (by assumption) | (simp (disch := first | decide | omega) only [if_pos_d, if_neg_d, decide_eq_true_eq, Bool.not_eq_true', decide_eq_false_iff_not]; omega), ?_⟩ | refine .inr ⟨by first | rfl | exact decide_eq_false (by omega) | exact decide_eq_false (by assumption) | (simp (disch := first | decide | omega) only [if_pos_d, if_neg_d, decide_eq_true_eq, Bool.not_eq_true', decide_eq_false_iff_not]; omega), ?_⟩
      (repeat (first | apply aw_seq | apply aw_block | apply aw_skip | apply aw_label | apply aw_exit | ((first | refine aw_region (hideO fun QQ hQQ => ?_) | refine aw_draw mixed (hideD fun QQ hQQ => ?_)); simp (maxSteps := 400000) (disch := first | decide | omega) only [hshr, han, go_sem, ↓reduceIte]; try (first | with_reducible refine unhide hQQ ?_ | refine ⟨by kernel_rfl, unhide hQQ ?_⟩); clear hQQ QQ) | with_reducible first | apply then_n | apply block_n | apply then_x | apply then_r | apply nog_n | apply nog_r | apply block_r | apply block_e (by decide) | apply block_x (by decide)))
      refine aw_cond2 (by simp (disch := first | decide | omega) only [hshr, han, go_sem, ↓reduceIte]; rfl) ?_; first | refine .inl ⟨by first | rfl | exact decide_eq_true (by omega) | exact decide_eq_true (by assumption) | (simp (disch := first | decide | omega) only [if_pos_d, if_neg_d, decide_eq_true_eq, Bool.not_eq_true', decide_eq_false_iff_not]; omega), ?_⟩ | refine .inr ⟨by first | rfl | exact decide_eq_false (by omega) | exact decide_eq_false (by assumption) | (simp (disch := first | decide | omega) only [if_pos_d, if_neg_d, decide_eq_true_eq, Bool.not_eq_true', decide_eq_false_iff_not]; omega), ?_⟩
      (repeat (first | apply aw_seq | apply aw_block | apply aw_skip | apply aw_label | apply aw_exit | ((first | refine aw_region (hideO fun QQ hQQ => ?_) | refine aw_draw mixed (hideD fun QQ hQQ => ?_)); simp (maxSteps := 400000) (disch := first | decide | omega) only [hshr, han, go_sem, ↓reduceIte]; try (first | with_reducible refine unhide hQQ ?_ | refine ⟨by kernel_rfl, unhide hQQ ?_⟩); clear hQQ QQ) | with_reducible first | apply then_n | apply block_n | apply then_x | apply then_r | apply nog_n | apply nog_r | apply block_r | apply block_e (by decide) | apply block_x (by decide)))
      refine ⟨⟨k + 1, by omega⟩, ?_, weak_round ?_ (by first | rfl | (simp only [hshr, han, go_sem, ↓reduceIte]))⟩
      rotate_left
      · simp only [e1]
        (simp only [hshr, han, go_sem, ↓reduceIte]; try rfl)
      · simp only; omega
  · have hke : k = n := by omega
    subst hke
    refine tw ?_; try with_reducible intro QQ hQQ
    refine ti ?_; try clear hQQ QQ
    refine tw ?_; try with_reducible intro QQ hQQ
    (refine aw_ret ⟨.inr rfl, (by simp (maxSteps := 400000) (disch := first | decide | omega) only [go_sem, ↓reduceIte]; try rfl), (by simp (maxSteps := 400000) (disch := first | decide | omega) only [go_sem, ↓reduceIte]; try rfl), (by simp only [List.mem_cons, List.mem_nil_iff, forall_eq_or_imp, forall_eq, false_imp_iff, implies_true, or_false, and_true]; simp (maxSteps := 400000) (disch := first | decide | omega) only [go_sem, ↓reduceIte]; try exact ⟨rfl, rfl⟩)⟩)
theorem eqIn_bool {P : Program} {T : TypeId} {a b : Bool} {d : Nat} (h : P.underlying T = some .bool) : peek P (Op.equalIn (d + 1) T (.bool a) (.bool b)) = some (a == b) := by
  unfold Op.equalIn
  rw [peek_bind, peek_und h, Option.bind_some]
  simp only [peek_pure]
theorem bale_in (a b c d : Int) (n : Nat) : peek Try.prog (Op.equalIn (n + 1 + 1) 55 (.agg #[.int .i64 a, .int .i64 b]) (.agg #[.int .i64 c, .int .i64 d])) = some (a == c && b == d) :=
  eqIn_two (T := 55) (f0 := fieldN Try.prog 55 0) (f1 := fieldN Try.prog 55 1) (by kernel_rfl) (by kernel_rfl) (by kernel_rfl) (by kernel_rfl) (by kernel_rfl) (by kernel_rfl) (by kernel_rfl) (by kernel_rfl) (eqIn_int (k0 := .i64) (k := .i64) (by kernel_rfl)) (eqIn_int (k0 := .i64) (k := .i64) (by kernel_rfl))
theorem bale_neq (a b c d : Int) (x y : Operand) : binA Try.prog .neq 55 x y (.agg #[.int .i64 a, .int .i64 b]) (.agg #[.int .i64 c, .int .i64 d]) = some (.bool (!(a == c && b == d))) := bin_ne_agg (by kernel_rfl) (bale_in a b c d 9998) x y
theorem test_in (a c : Int) (b d : Bool) (n : Nat) : peek Try.prog (Op.equalIn (n + 1 + 1) 42 (.agg #[.int .i64 a, .bool b]) (.agg #[.int .i64 c, .bool d])) = some (a == c && b == d) :=
  eqIn_two (T := 42) (f0 := fieldN Try.prog 42 0) (f1 := fieldN Try.prog 42 1) (by kernel_rfl) (by kernel_rfl) (by kernel_rfl) (by kernel_rfl) (by kernel_rfl) (by kernel_rfl) (by kernel_rfl) (by kernel_rfl) (eqIn_int (k0 := .i64) (k := .i64) (by kernel_rfl)) (eqIn_bool (by kernel_rfl))
theorem test_neq (a c : Int) (b d : Bool) (x y : Operand) : binA Try.prog .neq 42 x y (.agg #[.int .i64 a, .bool b]) (.agg #[.int .i64 c, .bool d]) = some (.bool (!(a == c && b == d))) := bin_ne_agg (by kernel_rfl) (test_in a c b d 9998) x y
section
variable {N L U T : Nat} {bales : List (Int × Int)} {tests : List (Int × Bool)}
attribute [local go_sem] rowB get_someB
/-- The end: no argument is changed. -/
theorem more_tail4 (hb6 : bales.length ≤ 6) (ht6 : tests.length ≤ 6) (Z : Zn) (w0 : World) :
    AW ⟨Try.prog, Z, w0, fun _ => False, 463, none, noPan, none, [], true⟩ (rgtN 25 (fnCode Try.f11)) QT6 ⟨[(3, .one (.box 0 0)), (18, .one (.p (.sl (bales.map row2)))), (19, .one (.p (.sl (tests.map rowB))))], [(0, bxC N L U T bales tests)], 1⟩ := by
  have hal := ok_alive
  simp only [bxC]
  conv => arg 2; whnf
  try simp only [List.append_eq, List.cons_append, List.nil_append]
  refine tw ?_; try with_reducible intro QQ hQQ
  refine aw_weak (weak_keepA [3, 18, 19, 431, 432] (by simp only [go_sem, ↓reduceIte]; rfl)) ?_
  refine aw_loop_ov (ι := { i : Nat // i ≤ bales.length }) (fun i => [(432, iA i.1)]) (fun _ => []) (fun i => bales.length - i.1) ⟨0, by omega⟩ (by first | rfl | (simp only [go_sem, ↓reduceIte]; first | done | rfl | (simp; try rfl))) ?_
  rintro ⟨i, hi'⟩
  simp (disch := decide) only [ov, ovL, AL.get_nil, AL.get_eq, AL.get_ne, Option.getD_some, Option.getD_none]
  by_cases hil : i < bales.length
  · obtain ⟨⟨s, p⟩, hc⟩ : ∃ t, bales.getD i (0, 0) = t := ⟨_, rfl⟩
    (repeat (first | apply aw_seq | apply aw_block | apply aw_skip | apply aw_label | apply aw_exit | ((first | refine aw_region (hideO fun QQ hQQ => ?_) | refine aw_draw mixed (hideD fun QQ hQQ => ?_)); simp (maxSteps := 400000) (disch := first | decide | omega) only [hc, bale_neq, go_sem, ↓reduceIte]; try (first | with_reducible refine unhide hQQ ?_ | refine ⟨by kernel_rfl, unhide hQQ ?_⟩); clear hQQ QQ) | with_reducible first | apply then_n | apply block_n | apply then_x | apply then_r | apply nog_n | apply nog_r | apply block_r | apply block_e (by decide) | apply block_x (by decide)))
    refine aw_cond2 (by simp (disch := first | decide | omega) only [hc, bale_neq, go_sem, ↓reduceIte]; rfl) ?_; first | refine .inl ⟨by first | rfl | exact decide_eq_true (by omega) | exact decide_eq_true (by assumption) | (simp (disch := first | decide | omega) only [if_pos_d, if_neg_d, decide_eq_true_eq, Bool.not_eq_true', decide_eq_false_iff_not]; omega), ?_⟩ | refine .inr ⟨by first | rfl | exact decide_eq_false (by omega) | exact decide_eq_false (by assumption) | (simp (disch := first | decide | omega) only [if_pos_d, if_neg_d, decide_eq_true_eq, Bool.not_eq_true', decide_eq_false_iff_not]; omega), ?_⟩
    (repeat (first | apply aw_seq | apply aw_block | apply aw_skip | apply aw_label | apply aw_exit | ((first | refine aw_region (hideO fun QQ hQQ => ?_) | refine aw_draw mixed (hideD fun QQ hQQ => ?_)); simp (maxSteps := 400000) (disch := first | decide | omega) only [hc, bale_neq, go_sem, ↓reduceIte]; try (first | with_reducible refine unhide hQQ ?_ | refine ⟨by kernel_rfl, unhide hQQ ?_⟩); clear hQQ QQ) | with_reducible first | apply then_n | apply block_n | apply then_x | apply then_r | apply nog_n | apply nog_r | apply block_r | apply block_e (by decide) | apply block_x (by decide)))
    refine aw_cond2 (by simp (disch := first | decide | omega) only [hc, bale_neq, go_sem, ↓reduceIte]; rfl) ?_; first | refine .inl ⟨by first | rfl | exact decide_eq_true (by omega) | exact decide_eq_true (by assumption) | (simp (disch := first | decide | omega) only [if_pos_d, if_neg_d, decide_eq_true_eq, Bool.not_eq_true', decide_eq_false_iff_not]; omega), ?_⟩ | refine .inr ⟨by first | rfl | exact decide_eq_false (by omega) | exact decide_eq_false (by assumption) | (simp (disch := first | decide | omega) only [if_pos_d, if_neg_d, decide_eq_true_eq, Bool.not_eq_true', decide_eq_false_iff_not]; omega), ?_⟩
    (repeat (first | apply aw_seq | apply aw_block | apply aw_skip | apply aw_label | apply aw_exit | ((first | refine aw_region (hideO fun QQ hQQ => ?_) | refine aw_draw mixed (hideD fun QQ hQQ => ?_)); simp (maxSteps := 400000) (disch := first | decide | omega) only [hc, bale_neq, go_sem, ↓reduceIte]; try (first | with_reducible refine unhide hQQ ?_ | refine ⟨by kernel_rfl, unhide hQQ ?_⟩); clear hQQ QQ) | with_reducible first | apply then_n | apply block_n | apply then_x | apply then_r | apply nog_n | apply nog_r | apply block_r | apply block_e (by decide) | apply block_x (by decide)))
    (refine ⟨⟨i + 1, by omega⟩, ?_, weak_round (by simp only [hc, bale_neq, go_sem, ↓reduceIte]; first | done | rfl) (by first | rfl | (simp only [hc, bale_neq, go_sem, ↓reduceIte]))⟩; (simp only; omega))
  · have hie : i = bales.length := by omega
    subst hie
    refine tw ?_; try with_reducible intro QQ hQQ
    refine ti ?_; try clear hQQ QQ
    refine tw ?_; try with_reducible intro QQ hQQ
    refine aw_weak (weak_keepA [3, 19, 447, 448] (by simp only [go_sem, ↓reduceIte]; rfl)) ?_
    refine aw_loop_ov (ι := { i : Nat // i ≤ tests.length }) (fun i => [(448, iA i.1)]) (fun _ => []) (fun i => tests.length - i.1) ⟨0, by omega⟩ (by first | rfl | (simp only [go_sem, ↓reduceIte]; first | done | rfl | (simp; try rfl))) ?_
    rintro ⟨i, hi'⟩
    simp (disch := decide) only [ov, ovL, AL.get_nil, AL.get_eq, AL.get_ne, Option.getD_some, Option.getD_none]
    by_cases hil : i < tests.length
    · obtain ⟨⟨c, fb⟩, hc⟩ : ∃ t, tests.getD i (0, false) = t := ⟨_, rfl⟩
      (repeat (first | apply aw_seq | apply aw_block | apply aw_skip | apply aw_label | apply aw_exit | ((first | refine aw_region (hideO fun QQ hQQ => ?_) | refine aw_draw mixed (hideD fun QQ hQQ => ?_)); simp (maxSteps := 400000) (disch := first | decide | omega) only [hc, test_neq, go_sem, ↓reduceIte]; try (first | with_reducible refine unhide hQQ ?_ | refine ⟨by kernel_rfl, unhide hQQ ?_⟩); clear hQQ QQ) | with_reducible first | apply then_n | apply block_n | apply then_x | apply then_r | apply nog_n | apply nog_r | apply block_r | apply block_e (by decide) | apply block_x (by decide)))
      refine aw_cond2 (by simp (disch := first | decide | omega) only [hc, test_neq, go_sem, ↓reduceIte]; rfl) ?_; first | refine .inl ⟨by first | rfl | exact decide_eq_true (by omega) | exact decide_eq_true (by assumption) | (simp (disch := first | decide | omega) only [if_pos_d, if_neg_d, decide_eq_true_eq, Bool.not_eq_true', decide_eq_false_iff_not]; omega), ?_⟩ | refine .inr ⟨by first | rfl | exact decide_eq_false (by omega) | exact decide_eq_false (by assumption) | (simp (disch := first | decide | omega) only [if_pos_d, if_neg_d, decide_eq_true_eq, Bool.not_eq_true', decide_eq_false_iff_not]; omega), ?_⟩
      (repeat (first | apply aw_seq | apply aw_block | apply aw_skip | apply aw_label | apply aw_exit | ((first | refine aw_region (hideO fun QQ hQQ => ?_) | refine aw_draw mixed (hideD fun QQ hQQ => ?_)); simp (maxSteps := 400000) (disch := first | decide | omega) only [hc, test_neq, go_sem, ↓reduceIte]; try (first | with_reducible refine unhide hQQ ?_ | refine ⟨by kernel_rfl, unhide hQQ ?_⟩); clear hQQ QQ) | with_reducible first | apply then_n | apply block_n | apply then_x | apply then_r | apply nog_n | apply nog_r | apply block_r | apply block_e (by decide) | apply block_x (by decide)))
      refine aw_cond2 (by simp (disch := first | decide | omega) only [hc, test_neq, go_sem, ↓reduceIte]; rfl) ?_; first | refine .inl ⟨by first | rfl | exact decide_eq_true (by omega) | exact decide_eq_true (by assumption) | (simp (disch := first | decide | omega) only [if_pos_d, if_neg_d, decide_eq_true_eq, Bool.not_eq_true', decide_eq_false_iff_not]; omega), ?_⟩ | refine .inr ⟨by first | rfl | exact decide_eq_false (by omega) | exact decide_eq_false (by assumption) | (simp (disch := first | decide | omega) only [if_pos_d, if_neg_d, decide_eq_true_eq, Bool.not_eq_true', decide_eq_false_iff_not]; omega), ?_⟩
      (repeat (first | apply aw_seq | apply aw_block | apply aw_skip | apply aw_label | apply aw_exit | ((first | refine aw_region (hideO fun QQ hQQ => ?_) | refine aw_draw mixed (hideD fun QQ hQQ => ?_)); simp (maxSteps := 400000) (disch := first | decide | omega) only [hc, test_neq, go_sem, ↓reduceIte]; try (first | with_reducible refine unhide hQQ ?_ | refine ⟨by kernel_rfl, unhide hQQ ?_⟩); clear hQQ QQ) | with_reducible first | apply then_n | apply block_n | apply then_x | apply then_r | apply nog_n | apply nog_r | apply block_r | apply block_e (by decide) | apply block_x (by decide)))
      (refine ⟨⟨i + 1, by omega⟩, ?_, weak_round (by simp only [hc, test_neq, go_sem, ↓reduceIte]; first | done | rfl) (by first | rfl | (simp only [hc, test_neq, go_sem, ↓reduceIte]))⟩; (simp only; omega))
    · have hie : i = tests.length := by omega
      subst hie
      refine tw ?_; try with_reducible intro QQ hQQ
      refine ti ?_; try clear hQQ QQ
      refine tw ?_; try with_reducible intro QQ hQQ
      ((refine cO 13 rfl rfl rfl (hal) Try.func13 rfl ?_); refine tu ?_; try clear hQQ QQ); refine tw ?_; try with_reducible intro QQ hQQ
      refine aw_ret ?_; refine ⟨.inr rfl, ?_⟩; simp only [resA, res1, go_sem, ↓reduceIte]
end
end Go.Proofs.Ytknikcpeacmpmaa
