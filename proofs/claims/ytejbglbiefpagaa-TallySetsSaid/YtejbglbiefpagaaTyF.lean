/- tally, the law: how many a set has; a tally with a call more; the closures that pick calls. -/
import Derived.Test.YtejbglbiefpagaaTyD
import Derived.Test.YtejbglbiefpagaaTxD
import Derived.Test.YtejbglbiefpagaaTyS
set_option linter.all false
namespace Go.Proofs.Ytejbglbiefpagaa
open Go Go.RowKit Go.Sh Go.Pv
set_option maxHeartbeats 4000000
set_option maxRecDepth 8000
theorem bin_rem_two (T : TypeId) (x y : Operand) (s : Nat) : binA Try.prog .rem T x y (.int .i64 (s : Int)) (.int .i64 2) = some (.int .i64 ((s % 2 : Nat) : Int)) := by
  rw [bin_rem _ _ _ _ _ _ (by decide), Int.tmod_eq_emod_of_nonneg (by omega)]
  congr 3
theorem bin_quo_two (T : TypeId) (x y : Operand) {s : Nat} (h : s < 2 ^ 62) : binA Try.prog .quo T x y (.int .i64 (s : Int)) (.int .i64 2) = some (.int .i64 ((s / 2 : Nat) : Int)) := by
  rw [bin_quo _ _ _ _ _ _ (by decide), Int.tdiv_eq_ediv_of_nonneg (by omega), show ((s : Int) / 2) = ((s / 2 : Nat) : Int) by omega, wrap_nat (by omega)]
attribute [local go_sem] row4 get_some4 bin_rem_two rowsK_r4 rowsK_nil' rowsK_cons' not_isEmpty_nil Bool.false_or
theorem ok_Size (x : Nat) (hx : x < 256) : FunOK Try.prog 42 [.one (iP x)] (.one (.one (iP (popc x)))) := by
  refine fun_ok (nt := 13) (rs := [.tmp 2]) Try.func42 rfl rfl rfl (by simp) fun Z w0 => ?_; simp only [initFr, avR, List.map_cons, List.map_nil]
  refine tw ?_; try with_reducible intro QQ hQQ
  refine aw_weak (weak_keep [0, 3] (by simp only [go_sem, ↓reduceIte]; rfl)) ?_
  refine aw_loop_ov (ι := { k : Nat // k ≤ 8 }) (fun k => [(0, iA ((x >>> k.1 : Nat) : Int)), (3, iA ((bitsN x k.1 : Nat) : Int))]) (fun _ => []) (fun k => 8 - k.1) ⟨0, by omega⟩ (by first | rfl | (simp only [go_sem, ↓reduceIte]; first | done | rfl | (simp; try rfl))) ?_
  rintro ⟨k, hk⟩
  simp (disch := decide) only [ov, ovL, AL.get_nil, AL.get_eq, AL.get_ne, Option.getD_some, Option.getD_none]
  have hle : x >>> k ≤ x := by rw [Nat.shiftRight_eq_div_pow]; exact Nat.div_le_self _ _
  have hq := fun T a b => bin_quo_two (s := x >>> k) T a b (by omega)
  have hn := bitsN_up x k
  have e1 : x >>> (k + 1) = x >>> k / 2 := by rw [Nat.shiftRight_succ]
  have e2 : ((bitsN x (k + 1) : Nat) : Int) = (bitsN x k : Int) + ((x >>> k % 2 : Nat) : Int) := by
    rw [sh_bits]; rfl
  have hk8' : ¬ x >>> k = 0 → k < 8 := by
    intro hz
    apply Decidable.byContradiction
    intro h
    have : k = 8 := by omega
    subst this
    rw [Nat.shiftRight_eq_div_pow] at hz
    exact hz (Nat.div_eq_of_lt hx)
  have hlt' : x >>> k = 0 → x < 2 ^ k := by
    intro hz
    rw [Nat.shiftRight_eq_div_pow] at hz
    exact (Nat.div_eq_zero_iff_lt (Nat.two_pow_pos k)).1 hz
  have hm : x >>> k % 2 < 2 := Nat.mod_lt _ (by decide)
  generalize x >>> k = s at *
  by_cases hz : s = 0
  · (repeat (first | apply aw_seq | apply aw_block | apply aw_skip | apply aw_label | apply aw_exit | ((first | refine aw_region (hideO fun QQ hQQ => ?_) | refine aw_draw mixed (hideD fun QQ hQQ => ?_)); simp (maxSteps := 400000) (disch := first | decide | omega) only [hq, go_sem, ↓reduceIte]; try (first | with_reducible refine unhide hQQ ?_ | refine ⟨by kernel_rfl, unhide hQQ ?_⟩); clear hQQ QQ) | with_reducible first | apply then_n | apply block_n | apply then_x | apply then_r | apply nog_n | apply nog_r | apply block_r | apply block_e (by decide) | apply block_x (by decide)))
    refine aw_cond2 (by simp (disch := first | decide | omega) only [hq, go_sem, ↓reduceIte]; rfl) ?_; first | refine .inl ⟨by first | rfl | exact decide_eq_true (by omega) | exact decide_eq_true (by assumption) | (simp (disch := first | decide | omega) only [if_pos_d, if_neg_d, decide_eq_true_eq, Bool.not_eq_true', decide_eq_false_iff_not]; omega), ?_⟩ | refine .inr ⟨by first | rfl | exact decide_eq_false (by omega) | exact decide_eq_false (by assumption) | (simp (disch := first | decide | omega) only [if_pos_d, if_neg_d, decide_eq_true_eq, Bool.not_eq_true', decide_eq_false_iff_not]; omega), ?_⟩
    (repeat (first | apply aw_seq | apply aw_block | apply aw_skip | apply aw_label | apply aw_exit | ((first | refine aw_region (hideO fun QQ hQQ => ?_) | refine aw_draw mixed (hideD fun QQ hQQ => ?_)); simp (maxSteps := 400000) (disch := first | decide | omega) only [hq, go_sem, ↓reduceIte]; try (first | with_reducible refine unhide hQQ ?_ | refine ⟨by kernel_rfl, unhide hQQ ?_⟩); clear hQQ QQ) | with_reducible first | apply then_n | apply block_n | apply then_x | apply then_r | apply nog_n | apply nog_r | apply block_r | apply block_e (by decide) | apply block_x (by decide)))
    refine aw_ret ?_; refine ⟨.inr rfl, ?_⟩; simp only [resA, res1, go_sem, ↓reduceIte]
    have hlt := hlt' hz
    rw [popc_bits hx, bitsN_high hlt 8 hk]
  · have hk8 := hk8' hz
    (repeat (first | apply aw_seq | apply aw_block | apply aw_skip | apply aw_label | apply aw_exit | ((first | refine aw_region (hideO fun QQ hQQ => ?_) | refine aw_draw mixed (hideD fun QQ hQQ => ?_)); simp (maxSteps := 400000) (disch := first | decide | omega) only [hq, go_sem, ↓reduceIte]; try (first | with_reducible refine unhide hQQ ?_ | refine ⟨by kernel_rfl, unhide hQQ ?_⟩); clear hQQ QQ) | with_reducible first | apply then_n | apply block_n | apply then_x | apply then_r | apply nog_n | apply nog_r | apply block_r | apply block_e (by decide) | apply block_x (by decide)))
    refine aw_cond2 (by simp (disch := first | decide | omega) only [hq, go_sem, ↓reduceIte]; rfl) ?_; first | refine .inl ⟨by first | rfl | exact decide_eq_true (by omega) | exact decide_eq_true (by assumption) | (simp (disch := first | decide | omega) only [if_pos_d, if_neg_d, decide_eq_true_eq, Bool.not_eq_true', decide_eq_false_iff_not]; omega), ?_⟩ | refine .inr ⟨by first | rfl | exact decide_eq_false (by omega) | exact decide_eq_false (by assumption) | (simp (disch := first | decide | omega) only [if_pos_d, if_neg_d, decide_eq_true_eq, Bool.not_eq_true', decide_eq_false_iff_not]; omega), ?_⟩
    (repeat (first | apply aw_seq | apply aw_block | apply aw_skip | apply aw_label | apply aw_exit | ((first | refine aw_region (hideO fun QQ hQQ => ?_) | refine aw_draw mixed (hideD fun QQ hQQ => ?_)); simp (maxSteps := 400000) (disch := first | decide | omega) only [hq, go_sem, ↓reduceIte]; try (first | with_reducible refine unhide hQQ ?_ | refine ⟨by kernel_rfl, unhide hQQ ?_⟩); clear hQQ QQ) | with_reducible first | apply then_n | apply block_n | apply then_x | apply then_r | apply nog_n | apply nog_r | apply block_r | apply block_e (by decide) | apply block_x (by decide)))
    refine ⟨⟨k + 1, by omega⟩, ?_, weak_round ?_ (by first | rfl | (simp only [hq, go_sem, ↓reduceIte]))⟩
    rotate_left
    · simp only [e1, e2]
      (simp only [hq, go_sem, ↓reduceIte]; try rfl)
    · simp only; omega
section
variable {n most : Int} {strays : List (Int × Int)} {calls : List (Int × Int × Int × Int)}
theorem take_map4 (l : List (Int × Int × Int × Int)) : List.take l.length (List.map row4 l) = List.map row4 l := List.take_of_length_le (by simp)
theorem ok_with (c : Int × Int × Int × Int) (hl : calls.length ≤ 40) : FunOK Try.prog 41 [tyR n most strays calls, .agg (row4 c)] (.one (tyR n most strays (calls ++ [c]))) := by
  refine fun_ok (nt := 14) (rs := [.cell 4 25]) Try.func41 rfl rfl rfl (by simp) fun Z w0 => ?_; simp only [initFr, avR, List.map_cons, List.map_nil]
  have hb : (0 + calls.length) * 32 ≤ 140737488355328 := by omega
  simp only [tyR, row4, List.map_cons, List.map_nil]
  refine tw ?_; try with_reducible intro QQ hQQ
  refine aw_ret ?_; refine ⟨.inr rfl, ?_⟩; simp only [resA, res1, go_sem, ↓reduceIte]
  all_goals (try simp)
  rw [List.take_of_length_le (by simp)]
  rfl
theorem bit_no (a n : Nat) : (((a >>> n % 2 : Nat) : Int) == 0) = !a.testBit n := by
  rw [sh_bits]; cases a.testBit n <;> rfl
/-- A tally without the calls of a set: is there a truth? -/
theorem s_wo43 (hcl : calls.length ≤ 8) (set : Nat) (hs : set < 256) (r e : Int) (hK : FunOK Try.prog 28 [tyR n most strays (pickL (fun i => !set.testBit i) calls calls.length)] (.tup [.one (iP r), .one (iP e)])) :
    FunS Try.prog 43 [.one (.p (iP set)), .one (.box 0 0)] [(0, .box [.p (iP n), .p (iP most), .p (.sl (strays.map row2)), .p (.sl (calls.map row4))])] 1 (.one (.one (.v (.bool (e == 4))))) := by
  simp only [tyR] at hK
  refine funS_ok (nt := 38) (rs := [.tmp 3]) Try.func43 rfl rfl rfl (by simp) fun Z w0 cap pan dk tm => ?_; simp only [initV, pins, pinOf, List.map_cons, List.map_nil]
  refine tw ?_; try with_reducible intro QQ hQQ
  refine aw_weak (weak_ownB 2 3 29 4 (by (refine ts ?_; try clear hQQ QQ); rfl) rfl) ?_
  simp only [AL.set, List.set]
  refine aw_weak (weak_keepA [0, 4, 12, 13, 14] (by simp only [go_sem, ↓reduceIte]; rfl)) ?_
  refine aw_loop_ov (ι := { i : Nat // i ≤ calls.length }) (fun i => [(14, iA i.1)]) (fun i => [(2, .box [.p (iP n), .p (iP most), .p (.sl (strays.map row2)), .own 3 (pickL (fun i => !set.testBit i) calls i.1).length]), (3, .arr 29 4 ((pickL (fun i => !set.testBit i) calls i.1).map row4) true)]) (fun i => calls.length - i.1) ⟨0, by omega⟩ (by first | rfl | (simp only [go_sem, ↓reduceIte]; first | done | rfl | (simp; try rfl))) ?_
  rintro ⟨i, hi⟩
  simp (disch := decide) only [ov, ovL, AL.get_nil, AL.get_eq, AL.get_ne, Option.getD_some, Option.getD_none]
  have hpl := pick_len (fun i => !set.testBit i) calls i
  have hrk := rowsK_4 (pickL (fun i => !set.testBit i) calls i)
  by_cases hil : i < calls.length
  · have hsh := fun T a b => bin_shr_nat (P := Try.prog) .i64 T a b (a := set) (n := i) (by omega) (by omega)
    have han := fun T a b => bin_and_one (P := Try.prog) T a b (a := set >>> i) (by rw [Nat.shiftRight_eq_div_pow]; exact Nat.lt_of_le_of_lt (Nat.div_le_self _ _) (by omega))
    have hbn := bit_no set i
    cases hb : set.testBit i
    · have e1 : pickL (fun i => !set.testBit i) calls (i + 1) = pickL (fun i => !set.testBit i) calls i ++ [calls.getD i (0, 0, 0, 0)] := by
        conv => lhs; unfold pickL
        rw [if_pos (by rw [hb]; rfl)]
      rw [hb] at hbn
      generalize hPP : pickL (fun i => !set.testBit i) calls i = P at *
      (repeat (first | apply aw_seq | apply aw_block | apply aw_skip | apply aw_label | apply aw_exit | ((first | refine aw_region (hideO fun QQ hQQ => ?_) | refine aw_draw mixed (hideD fun QQ hQQ => ?_)); simp (maxSteps := 400000) (disch := first | decide | omega) only [hsh, han, hbn, go_sem, ↓reduceIte]; try (first | with_reducible refine unhide hQQ ?_ | refine ⟨by kernel_rfl, unhide hQQ ?_⟩); clear hQQ QQ) | with_reducible first | apply then_n | apply block_n | apply then_x | apply then_r | apply nog_n | apply nog_r | apply block_r | apply block_e (by decide) | apply block_x (by decide)))
      refine aw_cond2 (by simp (disch := first | decide | omega) only [hsh, han, hbn, go_sem, ↓reduceIte]; rfl) ?_; first | refine .inl ⟨by first | rfl | exact decide_eq_true (by omega) | exact decide_eq_true (by assumption) | (simp (disch := first | decide | omega) only [if_pos_d, if_neg_d, decide_eq_true_eq, Bool.not_eq_true', decide_eq_false_iff_not]; omega), ?_⟩ | refine .inr ⟨by first | rfl | exact decide_eq_false (by omega) | exact decide_eq_false (by assumption) | (simp (disch := first | decide | omega) only [if_pos_d, if_neg_d, decide_eq_true_eq, Bool.not_eq_true', decide_eq_false_iff_not]; omega), ?_⟩
      (repeat (first | apply aw_seq | apply aw_block | apply aw_skip | apply aw_label | apply aw_exit | ((first | refine aw_region (hideO fun QQ hQQ => ?_) | refine aw_draw mixed (hideD fun QQ hQQ => ?_)); simp (maxSteps := 400000) (disch := first | decide | omega) only [hsh, han, hbn, go_sem, ↓reduceIte]; try (first | with_reducible refine unhide hQQ ?_ | refine ⟨by kernel_rfl, unhide hQQ ?_⟩); clear hQQ QQ) | with_reducible first | apply then_n | apply block_n | apply then_x | apply then_r | apply nog_n | apply nog_r | apply block_r | apply block_e (by decide) | apply block_x (by decide)))
      refine aw_cond2 (by simp (disch := first | decide | omega) only [hsh, han, hbn, go_sem, ↓reduceIte]; rfl) ?_; first | refine .inl ⟨by first | rfl | exact decide_eq_true (by omega) | exact decide_eq_true (by assumption) | (simp (disch := first | decide | omega) only [if_pos_d, if_neg_d, decide_eq_true_eq, Bool.not_eq_true', decide_eq_false_iff_not]; omega), ?_⟩ | refine .inr ⟨by first | rfl | exact decide_eq_false (by omega) | exact decide_eq_false (by assumption) | (simp (disch := first | decide | omega) only [if_pos_d, if_neg_d, decide_eq_true_eq, Bool.not_eq_true', decide_eq_false_iff_not]; omega), ?_⟩
      (repeat (first | apply aw_seq | apply aw_block | apply aw_skip | apply aw_label | apply aw_exit | ((first | refine aw_region (hideO fun QQ hQQ => ?_) | refine aw_draw mixed (hideD fun QQ hQQ => ?_)); simp (maxSteps := 400000) (disch := first | decide | omega) only [hsh, han, hbn, go_sem, ↓reduceIte]; try (first | with_reducible refine unhide hQQ ?_ | refine ⟨by kernel_rfl, unhide hQQ ?_⟩); clear hQQ QQ) | with_reducible first | apply then_n | apply block_n | apply then_x | apply then_r | apply nog_n | apply nog_r | apply block_r | apply block_e (by decide) | apply block_x (by decide)))
      refine ⟨⟨i + 1, by omega⟩, ?_, weak_round ?_ (by first | rfl | (simp only [hsh, han, hbn, go_sem, ↓reduceIte]))⟩
      rotate_left
      · simp only [ov, ovL, e1]
        simp only [hsh, han, hbn, go_sem, ↓reduceIte]
        all_goals (try simp [row4])
        all_goals (try omega)
      · simp only; omega
    · have e1 : pickL (fun i => !set.testBit i) calls (i + 1) = pickL (fun i => !set.testBit i) calls i := by
        conv => lhs; unfold pickL
        rw [if_neg (by rw [hb]; decide)]
      rw [hb] at hbn
      (repeat (first | apply aw_seq | apply aw_block | apply aw_skip | apply aw_label | apply aw_exit | ((first | refine aw_region (hideO fun QQ hQQ => ?_) | refine aw_draw mixed (hideD fun QQ hQQ => ?_)); simp (maxSteps := 400000) (disch := first | decide | omega) only [hsh, han, hbn, go_sem, ↓reduceIte]; try (first | with_reducible refine unhide hQQ ?_ | refine ⟨by kernel_rfl, unhide hQQ ?_⟩); clear hQQ QQ) | with_reducible first | apply then_n | apply block_n | apply then_x | apply then_r | apply nog_n | apply nog_r | apply block_r | apply block_e (by decide) | apply block_x (by decide)))
      refine aw_cond2 (by simp (disch := first | decide | omega) only [hsh, han, hbn, go_sem, ↓reduceIte]; rfl) ?_; first | refine .inl ⟨by first | rfl | exact decide_eq_true (by omega) | exact decide_eq_true (by assumption) | (simp (disch := first | decide | omega) only [if_pos_d, if_neg_d, decide_eq_true_eq, Bool.not_eq_true', decide_eq_false_iff_not]; omega), ?_⟩ | refine .inr ⟨by first | rfl | exact decide_eq_false (by omega) | exact decide_eq_false (by assumption) | (simp (disch := first | decide | omega) only [if_pos_d, if_neg_d, decide_eq_true_eq, Bool.not_eq_true', decide_eq_false_iff_not]; omega), ?_⟩
      (repeat (first | apply aw_seq | apply aw_block | apply aw_skip | apply aw_label | apply aw_exit | ((first | refine aw_region (hideO fun QQ hQQ => ?_) | refine aw_draw mixed (hideD fun QQ hQQ => ?_)); simp (maxSteps := 400000) (disch := first | decide | omega) only [hsh, han, hbn, go_sem, ↓reduceIte]; try (first | with_reducible refine unhide hQQ ?_ | refine ⟨by kernel_rfl, unhide hQQ ?_⟩); clear hQQ QQ) | with_reducible first | apply then_n | apply block_n | apply then_x | apply then_r | apply nog_n | apply nog_r | apply block_r | apply block_e (by decide) | apply block_x (by decide)))
      refine aw_cond2 (by simp (disch := first | decide | omega) only [hsh, han, hbn, go_sem, ↓reduceIte]; rfl) ?_; first | refine .inl ⟨by first | rfl | exact decide_eq_true (by omega) | exact decide_eq_true (by assumption) | (simp (disch := first | decide | omega) only [if_pos_d, if_neg_d, decide_eq_true_eq, Bool.not_eq_true', decide_eq_false_iff_not]; omega), ?_⟩ | refine .inr ⟨by first | rfl | exact decide_eq_false (by omega) | exact decide_eq_false (by assumption) | (simp (disch := first | decide | omega) only [if_pos_d, if_neg_d, decide_eq_true_eq, Bool.not_eq_true', decide_eq_false_iff_not]; omega), ?_⟩
      (repeat (first | apply aw_seq | apply aw_block | apply aw_skip | apply aw_label | apply aw_exit | ((first | refine aw_region (hideO fun QQ hQQ => ?_) | refine aw_draw mixed (hideD fun QQ hQQ => ?_)); simp (maxSteps := 400000) (disch := first | decide | omega) only [hsh, han, hbn, go_sem, ↓reduceIte]; try (first | with_reducible refine unhide hQQ ?_ | refine ⟨by kernel_rfl, unhide hQQ ?_⟩); clear hQQ QQ) | with_reducible first | apply then_n | apply block_n | apply then_x | apply then_r | apply nog_n | apply nog_r | apply block_r | apply block_e (by decide) | apply block_x (by decide)))
      refine ⟨⟨i + 1, by omega⟩, ?_, weak_round ?_ (by first | rfl | (simp only [hsh, han, hbn, go_sem, ↓reduceIte]))⟩
      rotate_left
      · simp only [e1]
        (simp only [hsh, han, hbn, go_sem, ↓reduceIte]; try rfl)
      · simp only; omega
  · have hiN : i = calls.length := by omega
    subst hiN
    (repeat (first | apply aw_seq | apply aw_block | apply aw_skip | apply aw_label | apply aw_exit | ((first | refine aw_region (hideO fun QQ hQQ => ?_) | refine aw_draw mixed (hideD fun QQ hQQ => ?_)); simp (maxSteps := 400000) (disch := first | decide | omega) only [take_map4, go_sem, ↓reduceIte]; try (first | with_reducible refine unhide hQQ ?_ | refine ⟨by kernel_rfl, unhide hQQ ?_⟩); clear hQQ QQ) | with_reducible first | apply then_n | apply block_n | apply then_x | apply then_r | apply nog_n | apply nog_r | apply block_r | apply block_e (by decide) | apply block_x (by decide)))
    refine aw_cond2 (by simp (disch := first | decide | omega) only [take_map4, go_sem, ↓reduceIte]; rfl) ?_; first | refine .inl ⟨by first | rfl | exact decide_eq_true (by omega) | exact decide_eq_true (by assumption) | (simp (disch := first | decide | omega) only [if_pos_d, if_neg_d, decide_eq_true_eq, Bool.not_eq_true', decide_eq_false_iff_not]; omega), ?_⟩ | refine .inr ⟨by first | rfl | exact decide_eq_false (by omega) | exact decide_eq_false (by assumption) | (simp (disch := first | decide | omega) only [if_pos_d, if_neg_d, decide_eq_true_eq, Bool.not_eq_true', decide_eq_false_iff_not]; omega), ?_⟩
    (repeat (first | apply aw_seq | apply aw_block | apply aw_skip | apply aw_label | apply aw_exit | ((first | refine aw_region (hideO fun QQ hQQ => ?_) | refine aw_draw mixed (hideD fun QQ hQQ => ?_)); simp (maxSteps := 400000) (disch := first | decide | omega) only [take_map4, go_sem, ↓reduceIte]; try (first | with_reducible refine unhide hQQ ?_ | refine ⟨by kernel_rfl, unhide hQQ ?_⟩); clear hQQ QQ) | with_reducible first | apply then_n | apply block_n | apply then_x | apply then_r | apply nog_n | apply nog_r | apply block_r | apply block_e (by decide) | apply block_x (by decide)))
    ((refine callO_ok rfl rfl 28 true rfl (by simp (disch := first | decide | omega) only [take_map4, go_sem, ↓reduceIte]; try rfl) (fun _ => rfl) (hK) Try.func28 rfl (by decide) ?_); simp (maxSteps := 400000) (disch := first | decide | omega) only [take_map4, go_sem, ↓reduceIte]; try (with_reducible refine unhide hQQ ?_; clear hQQ QQ)); (repeat (first | apply aw_seq | apply aw_block | apply aw_skip | apply aw_label | apply aw_exit | ((first | refine aw_region (hideO fun QQ hQQ => ?_) | refine aw_draw mixed (hideD fun QQ hQQ => ?_)); simp (maxSteps := 400000) (disch := first | decide | omega) only [take_map4, go_sem, ↓reduceIte]; try (first | with_reducible refine unhide hQQ ?_ | refine ⟨by kernel_rfl, unhide hQQ ?_⟩); clear hQQ QQ) | with_reducible first | apply then_n | apply block_n | apply then_x | apply then_r | apply nog_n | apply nog_r | apply block_r | apply block_e (by decide) | apply block_x (by decide)))
    (refine aw_ret ⟨.inr rfl, (by simp (maxSteps := 400000) (disch := first | decide | omega) only [take_map4, go_sem, ↓reduceIte]; try rfl), (by simp (maxSteps := 400000) (disch := first | decide | omega) only [take_map4, go_sem, ↓reduceIte]; try rfl), (by simp only [List.mem_cons, List.mem_nil_iff, forall_eq_or_imp, forall_eq, false_imp_iff, implies_true, or_false, and_true]; simp (maxSteps := 400000) (disch := first | decide | omega) only [take_map4, go_sem, ↓reduceIte]; try exact ⟨rfl, rfl⟩)⟩)
end
end Go.Proofs.Ytejbglbiefpagaa
