/- burr, the law BurrTrue: tests that are right, walked. -/
import Derived.Test.YtknikcpeacmpmaaBwU
import Derived.Test.YtknikcpeacmpmaaBxK
set_option linter.all false
namespace Go.Proofs.Ytknikcpeacmpmaa
open Go Go.RowKit Go.Sh Go.Pv
set_option maxHeartbeats 8000000
set_option maxRecDepth 8000
set_option pp.maxSteps 60000
attribute [local go_sem] rowB get_someB
theorem trT_take_succ {h : Nat} {tests : List (Int × Bool)} {k : Nat} (hk : k < tests.length) : trT h (tests.take (k + 1)) = trT h (tests.take k) ++ [((tests.getD k (0, false)).1, h.testBit (tests.getD k (0, false)).1.toNat)] := by
  unfold trT
  rw [List.take_succ, List.getElem?_eq_getElem hk, List.map_append, show tests.getD k (0, false) = tests[k] by simp [List.getD, hk]]
  rfl
section
variable {N L U T : Nat} {bales : List (Int × Int)} {tests : List (Int × Bool)}
theorem ok_truly (hB : BOK N L U T bales tests) {w o : Nat} (hw : w < 256) (ho : o < 256) :
    FunOK Try.prog 36 [buR N L U T bales tests, .one (iP w), .one (iP o)] (.tup [.agg [iP N, iP L, iP U, .sl (bales.map row2), iP T, .sl ((trT (trH bales (w &&& (2 ^ N - 1)) o) tests).map rowB)], .one (iP (w &&& (2 ^ N - 1) : Nat)), .one (iP (trH bales (w &&& (2 ^ N - 1)) o : Nat)), .one (.v (.bool (decide (L ≤ popc (w &&& (2 ^ N - 1))) && decide (popc (w &&& (2 ^ N - 1)) ≤ U))))]) := by
  have hq := pow32 hB.n5
  have hq0 := Nat.two_pow_pos N
  have hb6 := hB.b6
  have ht6 := hB.t6
  have hn5 := hB.n5
  have hsh : ∀ (T' : TypeId) (p q : Operand), binA Try.prog .shl T' p q (.int .i64 1) (.int .i64 (N : Int)) = some (.int .i64 ((2 ^ N : Nat) : Int)) := fun T' p q => bin_shl_one .i64 T' p q (by omega)
  have ecast : ((2 ^ N : Nat) : Int) - 1 = ((2 ^ N - 1 : Nat) : Int) := by omega
  have ham : ∀ (T' : TypeId) (x y : Operand), binA Try.prog .and T' x y (.int .i64 (w : Int)) (.int .i64 ((2 ^ N - 1 : Nat) : Int)) = some (.int .i64 ((w &&& (2 ^ N - 1) : Nat) : Int)) := fun T' x y => bin_and_nat T' x y (by omega) (by omega)
  have hml : w &&& (2 ^ N - 1) ≤ 2 ^ N - 1 := Nat.and_le_right
  have hho := ok_holds (n := N) (lo := L) (hi := U) (top := T) (tests := tests) (m := w &&& (2 ^ N - 1)) (by omega) hB.b6 hB.b32
  have hz := ok_size37 (w &&& (2 ^ N - 1)) (by omega)
  have hlA := Nat.lt_of_lt_of_le (hitF_lt (sN bales) (w &&& (2 ^ N - 1)) bales.length) (pow64 hB.b6)
  have hlB := Nat.lt_of_lt_of_le (hitF_lt (pN bales) (w &&& (2 ^ N - 1)) bales.length) (pow64 hB.b6)
  have hlH := Nat.lt_of_lt_of_le (trH_lt hB (w &&& (2 ^ N - 1)) o) (pow64 hB.b6)
  have hpm := popc6 (show w &&& (2 ^ N - 1) < 64 by omega)
  have eH : trH bales (w &&& (2 ^ N - 1)) o = hitF (sN bales) (w &&& (2 ^ N - 1)) bales.length ||| (hitF (pN bales) (w &&& (2 ^ N - 1)) bales.length &&& o) := rfl
  generalize trH bales (w &&& (2 ^ N - 1)) o = H at *
  generalize hitF (sN bales) (w &&& (2 ^ N - 1)) bales.length = A at *
  generalize hitF (pN bales) (w &&& (2 ^ N - 1)) bales.length = B at *
  generalize hpc : popc (w &&& (2 ^ N - 1)) = pc at *
  generalize w &&& (2 ^ N - 1) = m at *
  generalize 2 ^ N = X at *
  have hbo : ∀ (T' : TypeId) (x y : Operand), binA Try.prog .and T' x y (.int .i64 (B : Int)) (.int .i64 (o : Int)) = some (.int .i64 ((B &&& o : Nat) : Int)) := fun T' x y => bin_and_nat T' x y (by omega) (by omega)
  have hbl : B &&& o ≤ B := Nat.and_le_left
  have hor : ∀ (T' : TypeId) (x y : Operand), binA Try.prog .or T' x y (.int .i64 (A : Int)) (.int .i64 ((B &&& o : Nat) : Int)) = some (.int .i64 (H : Int)) := fun T' x y => by rw [eH]; exact bin_or_nat T' x y (by omega) (by omega)
  generalize B &&& o = Bo at *
  simp only [buR] at hho ⊢
  refine fun_ok (nt := 72) (rs := [.cell 6 27, .tmp 7, .tmp 8, .tmp 9]) Try.func36 rfl rfl rfl (by simp) fun Z w0 => ?_; simp only [initFr, avR, List.map_cons, List.map_nil]
  try simp only [List.map_cons, List.map_nil]
  try simp only [List.append_eq, List.cons_append, List.nil_append]
  (repeat (first | apply aw_seq | apply aw_block | apply aw_skip | apply aw_label | apply aw_exit | ((first | refine aw_region (hideO fun QQ hQQ => ?_) | refine aw_draw mixed (hideD fun QQ hQQ => ?_)); simp (maxSteps := 400000) (disch := first | decide | omega) only [hsh, ecast, ham, hbo, hor, go_sem, ↓reduceIte]; try (first | with_reducible refine unhide hQQ ?_ | refine ⟨by kernel_rfl, unhide hQQ ?_⟩); clear hQQ QQ) | with_reducible first | apply then_n | apply block_n | apply then_x | apply then_r | apply nog_n | apply nog_r | apply block_r | apply block_e (by decide) | apply block_x (by decide)))
  ((refine callO_ok rfl rfl 85 true rfl (by simp (disch := first | decide | omega) only [hsh, ecast, ham, hbo, hor, go_sem, ↓reduceIte]; try rfl) (fun _ => rfl) (hho) Try.func85 rfl (by decide) ?_); simp (maxSteps := 400000) (disch := first | decide | omega) only [hsh, ecast, ham, hbo, hor, go_sem, ↓reduceIte]; try (with_reducible refine unhide hQQ ?_; clear hQQ QQ)); (repeat (first | apply aw_seq | apply aw_block | apply aw_skip | apply aw_label | apply aw_exit | ((first | refine aw_region (hideO fun QQ hQQ => ?_) | refine aw_draw mixed (hideD fun QQ hQQ => ?_)); simp (maxSteps := 400000) (disch := first | decide | omega) only [hsh, ecast, ham, hbo, hor, go_sem, ↓reduceIte]; try (first | with_reducible refine unhide hQQ ?_ | refine ⟨by kernel_rfl, unhide hQQ ?_⟩); clear hQQ QQ) | with_reducible first | apply then_n | apply block_n | apply then_x | apply then_r | apply nog_n | apply nog_r | apply block_r | apply block_e (by decide) | apply block_x (by decide)))
  refine aw_weak (weak_ownB 1 5 42 2 (by simp (disch := first | decide | omega) only [go_sem, ↓reduceIte]; rfl) rfl) ?_
  (refine ts ?_; try clear hQQ QQ)
  refine aw_weak (weak_keepA [3, 6, 7, 8, 34, 35, 36] (by simp only [go_sem, ↓reduceIte]; rfl)) ?_
  refine aw_loop_ov (ι := { k : Nat // k ≤ tests.length }) (fun k => [(36, iA k.1)]) (fun k => [(2, .arr 42 2 ((trT H (tests.take k.1)).map rowB) true), (1, .box [.p (iP N), .p (iP L), .p (iP U), .p (.sl (bales.map row2)), .p (iP T), .own 2 k.1])]) (fun k => tests.length - k.1) ⟨0, by omega⟩ (by first | rfl | (simp only [go_sem, ↓reduceIte]; first | done | rfl | (simp; try rfl))) ?_
  rintro ⟨k, hk⟩
  simp (disch := decide) only [ov, ovL, AL.get_nil, AL.get_eq, AL.get_ne, Option.getD_some, Option.getD_none]
  have htl : (trT H (tests.take k)).length = k := by unfold trT; rw [List.length_map, List.length_take]; omega
  by_cases hkl : k < tests.length
  · have e1 := trT_take_succ (h := H) hkl
    have htk := hB.te _ (mem_of_getD (d := (0, false)) hkl)
    obtain ⟨⟨c, fb⟩, hc⟩ : ∃ t, tests.getD k (0, false) = t := ⟨_, rfl⟩
    rw [hc] at e1 htk
    dsimp only at e1 htk
    obtain ⟨c, rfl⟩ : ∃ k : Nat, c = k := ⟨c.toNat, by omega⟩
    rw [Int.toNat_natCast] at e1
    have hsr : ∀ (T : TypeId) (p q : Operand), binA Try.prog .shr T p q (.int .i64 (H : Int)) (.int .i64 (c : Int)) = some (.int .i64 ((H >>> c : Nat) : Int)) := fun T p q => bin_shr_nat .i64 T p q (by omega) (by omega)
    have hle : H >>> c ≤ H := Nat.shiftRight_le H c
    have han : ∀ (T : TypeId) (p q : Operand), binA Try.prog .and T p q (.int .i64 ((H >>> c : Nat) : Int)) (.int .i64 1) = some (.int .i64 ((H >>> c &&& 1 : Nat) : Int)) := fun T p q => bin_and_nat T p q (a := H >>> c) (b := 1) (by omega) (by omega)
    have hbit := bit_and1 H c
    have h38 := ok_test38 (c : Int) (H.testBit c)
    generalize H >>> c &&& 1 = b1' at *
    generalize H >>> c = x1 at *
    generalize hgt : trT H (tests.take k) = tk at *
    have hrow : tk.map rowB ++ [[iP (c : Int), PV.v (.bool (H.testBit c))]] = (tk ++ [((c : Int), H.testBit c)]).map rowB := by simp [rowB]
    have hlb : (k + 1) * 16 ≤ 140737488355328 := by omega
    have hrk : rowsK 2 [[iP (c : Int), PV.v (.bool (H.testBit c))]] = True := rowsK_2 ((c : Int), H.testBit c)
    cases htb : H.testBit c with
    | true =>
      rw [htb, if_pos rfl] at hbit
      rw [htb] at h38 e1 hrow hrk
      subst hbit
      (repeat (first | apply aw_seq | apply aw_block | apply aw_skip | apply aw_label | apply aw_exit | ((first | refine aw_region (hideO fun QQ hQQ => ?_) | refine aw_draw mixed (hideD fun QQ hQQ => ?_)); simp (maxSteps := 400000) (disch := first | decide | omega) only [hc, hsr, han, htl, hlb, hrk, go_sem, ↓reduceIte]; try (first | with_reducible refine unhide hQQ ?_ | refine ⟨by kernel_rfl, unhide hQQ ?_⟩); clear hQQ QQ) | with_reducible first | apply then_n | apply block_n | apply then_x | apply then_r | apply nog_n | apply nog_r | apply block_r | apply block_e (by decide) | apply block_x (by decide)))
      refine aw_cond2 (by simp (disch := first | decide | omega) only [hc, hsr, han, htl, hlb, hrk, go_sem, ↓reduceIte]; rfl) ?_; first | refine .inl ⟨by first | rfl | exact decide_eq_true (by omega) | exact decide_eq_true (by assumption) | (simp (disch := first | decide | omega) only [if_pos_d, if_neg_d, decide_eq_true_eq, Bool.not_eq_true', decide_eq_false_iff_not]; omega), ?_⟩ | refine .inr ⟨by first | rfl | exact decide_eq_false (by omega) | exact decide_eq_false (by assumption) | (simp (disch := first | decide | omega) only [if_pos_d, if_neg_d, decide_eq_true_eq, Bool.not_eq_true', decide_eq_false_iff_not]; omega), ?_⟩
      (repeat (first | apply aw_seq | apply aw_block | apply aw_skip | apply aw_label | apply aw_exit | ((first | refine aw_region (hideO fun QQ hQQ => ?_) | refine aw_draw mixed (hideD fun QQ hQQ => ?_)); simp (maxSteps := 400000) (disch := first | decide | omega) only [hc, hsr, han, htl, hlb, hrk, go_sem, ↓reduceIte]; try (first | with_reducible refine unhide hQQ ?_ | refine ⟨by kernel_rfl, unhide hQQ ?_⟩); clear hQQ QQ) | with_reducible first | apply then_n | apply block_n | apply then_x | apply then_r | apply nog_n | apply nog_r | apply block_r | apply block_e (by decide) | apply block_x (by decide)))
      (refine callD_ok rfl rfl 38 true rfl (by simp (disch := first | decide | omega) only [hc, hsr, han, htl, hlb, hrk, go_sem, ↓reduceIte]; try rfl) (fun _ => rfl) (h38) Try.func38 rfl (by decide) ?_); simp (maxSteps := 400000) (disch := first | decide | omega) only [hc, hsr, han, htl, hlb, hrk, go_sem, ↓reduceIte]; (try (refine ⟨by kernel_rfl, unhide hQQ ?_⟩; clear hQQ QQ; (repeat with_reducible first | apply then_n | apply block_n | apply then_x | apply then_r | apply nog_n | apply nog_r | apply block_r | apply block_e (by decide) | apply block_x (by decide))))
      (repeat (first | apply aw_seq | apply aw_block | apply aw_skip | apply aw_label | apply aw_exit | ((first | refine aw_region (hideO fun QQ hQQ => ?_) | refine aw_draw mixed (hideD fun QQ hQQ => ?_)); simp (maxSteps := 400000) (disch := first | decide | omega) only [hc, hsr, han, htl, hlb, hrk, go_sem, ↓reduceIte]; try (first | with_reducible refine unhide hQQ ?_ | refine ⟨by kernel_rfl, unhide hQQ ?_⟩); clear hQQ QQ) | with_reducible first | apply then_n | apply block_n | apply then_x | apply then_r | apply nog_n | apply nog_r | apply block_r | apply block_e (by decide) | apply block_x (by decide)))
      refine ⟨⟨k + 1, by omega⟩, ?_, weak_round ?_ (by first | rfl | (simp only [hc, hsr, han, htl, hlb, hrk, go_sem, ↓reduceIte]))⟩
      rotate_left
      · simp only [e1, ← hrow]
        (simp only [hc, hsr, han, htl, hlb, hrk, go_sem, ↓reduceIte]; try rfl)
      · simp only; omega
    | false =>
      rw [htb, if_neg (by decide)] at hbit
      rw [htb] at h38 e1 hrow hrk
      subst hbit
      (repeat (first | apply aw_seq | apply aw_block | apply aw_skip | apply aw_label | apply aw_exit | ((first | refine aw_region (hideO fun QQ hQQ => ?_) | refine aw_draw mixed (hideD fun QQ hQQ => ?_)); simp (maxSteps := 400000) (disch := first | decide | omega) only [hc, hsr, han, htl, hlb, hrk, go_sem, ↓reduceIte]; try (first | with_reducible refine unhide hQQ ?_ | refine ⟨by kernel_rfl, unhide hQQ ?_⟩); clear hQQ QQ) | with_reducible first | apply then_n | apply block_n | apply then_x | apply then_r | apply nog_n | apply nog_r | apply block_r | apply block_e (by decide) | apply block_x (by decide)))
      refine aw_cond2 (by simp (disch := first | decide | omega) only [hc, hsr, han, htl, hlb, hrk, go_sem, ↓reduceIte]; rfl) ?_; first | refine .inl ⟨by first | rfl | exact decide_eq_true (by omega) | exact decide_eq_true (by assumption) | (simp (disch := first | decide | omega) only [if_pos_d, if_neg_d, decide_eq_true_eq, Bool.not_eq_true', decide_eq_false_iff_not]; omega), ?_⟩ | refine .inr ⟨by first | rfl | exact decide_eq_false (by omega) | exact decide_eq_false (by assumption) | (simp (disch := first | decide | omega) only [if_pos_d, if_neg_d, decide_eq_true_eq, Bool.not_eq_true', decide_eq_false_iff_not]; omega), ?_⟩
      (repeat (first | apply aw_seq | apply aw_block | apply aw_skip | apply aw_label | apply aw_exit | ((first | refine aw_region (hideO fun QQ hQQ => ?_) | refine aw_draw mixed (hideD fun QQ hQQ => ?_)); simp (maxSteps := 400000) (disch := first | decide | omega) only [hc, hsr, han, htl, hlb, hrk, go_sem, ↓reduceIte]; try (first | with_reducible refine unhide hQQ ?_ | refine ⟨by kernel_rfl, unhide hQQ ?_⟩); clear hQQ QQ) | with_reducible first | apply then_n | apply block_n | apply then_x | apply then_r | apply nog_n | apply nog_r | apply block_r | apply block_e (by decide) | apply block_x (by decide)))
      (refine callD_ok rfl rfl 38 true rfl (by simp (disch := first | decide | omega) only [hc, hsr, han, htl, hlb, hrk, go_sem, ↓reduceIte]; try rfl) (fun _ => rfl) (h38) Try.func38 rfl (by decide) ?_); simp (maxSteps := 400000) (disch := first | decide | omega) only [hc, hsr, han, htl, hlb, hrk, go_sem, ↓reduceIte]; (try (refine ⟨by kernel_rfl, unhide hQQ ?_⟩; clear hQQ QQ; (repeat with_reducible first | apply then_n | apply block_n | apply then_x | apply then_r | apply nog_n | apply nog_r | apply block_r | apply block_e (by decide) | apply block_x (by decide))))
      (repeat (first | apply aw_seq | apply aw_block | apply aw_skip | apply aw_label | apply aw_exit | ((first | refine aw_region (hideO fun QQ hQQ => ?_) | refine aw_draw mixed (hideD fun QQ hQQ => ?_)); simp (maxSteps := 400000) (disch := first | decide | omega) only [hc, hsr, han, htl, hlb, hrk, go_sem, ↓reduceIte]; try (first | with_reducible refine unhide hQQ ?_ | refine ⟨by kernel_rfl, unhide hQQ ?_⟩); clear hQQ QQ) | with_reducible first | apply then_n | apply block_n | apply then_x | apply then_r | apply nog_n | apply nog_r | apply block_r | apply block_e (by decide) | apply block_x (by decide)))
      refine ⟨⟨k + 1, by omega⟩, ?_, weak_round ?_ (by first | rfl | (simp only [hc, hsr, han, htl, hlb, hrk, go_sem, ↓reduceIte]))⟩
      rotate_left
      · simp only [e1, ← hrow]
        (simp only [hc, hsr, han, htl, hlb, hrk, go_sem, ↓reduceIte]; try rfl)
      · simp only; omega
  · have hke : k = tests.length := by omega
    subst hke
    rw [List.take_length] at htl
    rw [List.take_length]
    generalize trT H tests = tk at *
    have htk : List.take tests.length (List.map rowB tk) = List.map rowB tk := List.take_of_length_le (by simp; omega)
    by_cases c1 : L ≤ pc
    · by_cases c2 : pc ≤ U
      · rw [decide_eq_true c1, decide_eq_true c2]
        (repeat (first | apply aw_seq | apply aw_block | apply aw_skip | apply aw_label | apply aw_exit | ((first | refine aw_region (hideO fun QQ hQQ => ?_) | refine aw_draw mixed (hideD fun QQ hQQ => ?_)); simp (maxSteps := 400000) (disch := first | decide | omega) only [htk, htl, go_sem, ↓reduceIte]; try (first | with_reducible refine unhide hQQ ?_ | refine ⟨by kernel_rfl, unhide hQQ ?_⟩); clear hQQ QQ) | with_reducible first | apply then_n | apply block_n | apply then_x | apply then_r | apply nog_n | apply nog_r | apply block_r | apply block_e (by decide) | apply block_x (by decide)))
        refine aw_cond2 (by simp (disch := first | decide | omega) only [htk, htl, go_sem, ↓reduceIte]; rfl) ?_; first | refine .inl ⟨by first | rfl | exact decide_eq_true (by omega) | exact decide_eq_true (by assumption) | (simp (disch := first | decide | omega) only [if_pos_d, if_neg_d, decide_eq_true_eq, Bool.not_eq_true', decide_eq_false_iff_not]; omega), ?_⟩ | refine .inr ⟨by first | rfl | exact decide_eq_false (by omega) | exact decide_eq_false (by assumption) | (simp (disch := first | decide | omega) only [if_pos_d, if_neg_d, decide_eq_true_eq, Bool.not_eq_true', decide_eq_false_iff_not]; omega), ?_⟩
        (repeat (first | apply aw_seq | apply aw_block | apply aw_skip | apply aw_label | apply aw_exit | ((first | refine aw_region (hideO fun QQ hQQ => ?_) | refine aw_draw mixed (hideD fun QQ hQQ => ?_)); simp (maxSteps := 400000) (disch := first | decide | omega) only [htk, htl, go_sem, ↓reduceIte]; try (first | with_reducible refine unhide hQQ ?_ | refine ⟨by kernel_rfl, unhide hQQ ?_⟩); clear hQQ QQ) | with_reducible first | apply then_n | apply block_n | apply then_x | apply then_r | apply nog_n | apply nog_r | apply block_r | apply block_e (by decide) | apply block_x (by decide)))
        (refine callD_ok rfl rfl 37 true rfl (by simp (disch := first | decide | omega) only [htk, htl, go_sem, ↓reduceIte]; try rfl) (fun _ => rfl) (hz) Try.func37 rfl (by decide) ?_); simp (maxSteps := 400000) (disch := first | decide | omega) only [htk, htl, go_sem, ↓reduceIte]; (try (refine ⟨by kernel_rfl, unhide hQQ ?_⟩; clear hQQ QQ; (repeat with_reducible first | apply then_n | apply block_n | apply then_x | apply then_r | apply nog_n | apply nog_r | apply block_r | apply block_e (by decide) | apply block_x (by decide))))
        (refine callD_ok rfl rfl 37 true rfl (by simp (disch := first | decide | omega) only [htk, htl, go_sem, ↓reduceIte]; try rfl) (fun _ => rfl) (hz) Try.func37 rfl (by decide) ?_); simp (maxSteps := 400000) (disch := first | decide | omega) only [htk, htl, go_sem, ↓reduceIte]; (try (refine ⟨by kernel_rfl, unhide hQQ ?_⟩; clear hQQ QQ; (repeat with_reducible first | apply then_n | apply block_n | apply then_x | apply then_r | apply nog_n | apply nog_r | apply block_r | apply block_e (by decide) | apply block_x (by decide))))
        (repeat (first | apply aw_seq | apply aw_block | apply aw_skip | apply aw_label | apply aw_exit | ((first | refine aw_region (hideO fun QQ hQQ => ?_) | refine aw_draw mixed (hideD fun QQ hQQ => ?_)); simp (maxSteps := 400000) (disch := first | decide | omega) only [htk, htl, go_sem, ↓reduceIte]; try (first | with_reducible refine unhide hQQ ?_ | refine ⟨by kernel_rfl, unhide hQQ ?_⟩); clear hQQ QQ) | with_reducible first | apply then_n | apply block_n | apply then_x | apply then_r | apply nog_n | apply nog_r | apply block_r | apply block_e (by decide) | apply block_x (by decide)))
        refine aw_ret ?_; refine ⟨.inr rfl, ?_⟩; simp only [resA, res1, go_sem, ↓reduceIte]
        simp only [or_self, if_true, htk]
        rfl
      · rw [decide_eq_true c1, decide_eq_false c2]
        (repeat (first | apply aw_seq | apply aw_block | apply aw_skip | apply aw_label | apply aw_exit | ((first | refine aw_region (hideO fun QQ hQQ => ?_) | refine aw_draw mixed (hideD fun QQ hQQ => ?_)); simp (maxSteps := 400000) (disch := first | decide | omega) only [htk, htl, go_sem, ↓reduceIte]; try (first | with_reducible refine unhide hQQ ?_ | refine ⟨by kernel_rfl, unhide hQQ ?_⟩); clear hQQ QQ) | with_reducible first | apply then_n | apply block_n | apply then_x | apply then_r | apply nog_n | apply nog_r | apply block_r | apply block_e (by decide) | apply block_x (by decide)))
        refine aw_cond2 (by simp (disch := first | decide | omega) only [htk, htl, go_sem, ↓reduceIte]; rfl) ?_; first | refine .inl ⟨by first | rfl | exact decide_eq_true (by omega) | exact decide_eq_true (by assumption) | (simp (disch := first | decide | omega) only [if_pos_d, if_neg_d, decide_eq_true_eq, Bool.not_eq_true', decide_eq_false_iff_not]; omega), ?_⟩ | refine .inr ⟨by first | rfl | exact decide_eq_false (by omega) | exact decide_eq_false (by assumption) | (simp (disch := first | decide | omega) only [if_pos_d, if_neg_d, decide_eq_true_eq, Bool.not_eq_true', decide_eq_false_iff_not]; omega), ?_⟩
        (repeat (first | apply aw_seq | apply aw_block | apply aw_skip | apply aw_label | apply aw_exit | ((first | refine aw_region (hideO fun QQ hQQ => ?_) | refine aw_draw mixed (hideD fun QQ hQQ => ?_)); simp (maxSteps := 400000) (disch := first | decide | omega) only [htk, htl, go_sem, ↓reduceIte]; try (first | with_reducible refine unhide hQQ ?_ | refine ⟨by kernel_rfl, unhide hQQ ?_⟩); clear hQQ QQ) | with_reducible first | apply then_n | apply block_n | apply then_x | apply then_r | apply nog_n | apply nog_r | apply block_r | apply block_e (by decide) | apply block_x (by decide)))
        (refine callD_ok rfl rfl 37 true rfl (by simp (disch := first | decide | omega) only [htk, htl, go_sem, ↓reduceIte]; try rfl) (fun _ => rfl) (hz) Try.func37 rfl (by decide) ?_); simp (maxSteps := 400000) (disch := first | decide | omega) only [htk, htl, go_sem, ↓reduceIte]; (try (refine ⟨by kernel_rfl, unhide hQQ ?_⟩; clear hQQ QQ; (repeat with_reducible first | apply then_n | apply block_n | apply then_x | apply then_r | apply nog_n | apply nog_r | apply block_r | apply block_e (by decide) | apply block_x (by decide))))
        (refine callD_ok rfl rfl 37 true rfl (by simp (disch := first | decide | omega) only [htk, htl, go_sem, ↓reduceIte]; try rfl) (fun _ => rfl) (hz) Try.func37 rfl (by decide) ?_); simp (maxSteps := 400000) (disch := first | decide | omega) only [htk, htl, go_sem, ↓reduceIte]; (try (refine ⟨by kernel_rfl, unhide hQQ ?_⟩; clear hQQ QQ; (repeat with_reducible first | apply then_n | apply block_n | apply then_x | apply then_r | apply nog_n | apply nog_r | apply block_r | apply block_e (by decide) | apply block_x (by decide))))
        (repeat (first | apply aw_seq | apply aw_block | apply aw_skip | apply aw_label | apply aw_exit | ((first | refine aw_region (hideO fun QQ hQQ => ?_) | refine aw_draw mixed (hideD fun QQ hQQ => ?_)); simp (maxSteps := 400000) (disch := first | decide | omega) only [htk, htl, go_sem, ↓reduceIte]; try (first | with_reducible refine unhide hQQ ?_ | refine ⟨by kernel_rfl, unhide hQQ ?_⟩); clear hQQ QQ) | with_reducible first | apply then_n | apply block_n | apply then_x | apply then_r | apply nog_n | apply nog_r | apply block_r | apply block_e (by decide) | apply block_x (by decide)))
        refine aw_ret ?_; refine ⟨.inr rfl, ?_⟩; simp only [resA, res1, go_sem, ↓reduceIte]
        simp only [or_self, if_true, htk]
        rfl
    · rw [decide_eq_false c1, Bool.false_and]
      (repeat (first | apply aw_seq | apply aw_block | apply aw_skip | apply aw_label | apply aw_exit | ((first | refine aw_region (hideO fun QQ hQQ => ?_) | refine aw_draw mixed (hideD fun QQ hQQ => ?_)); simp (maxSteps := 400000) (disch := first | decide | omega) only [htk, htl, go_sem, ↓reduceIte]; try (first | with_reducible refine unhide hQQ ?_ | refine ⟨by kernel_rfl, unhide hQQ ?_⟩); clear hQQ QQ) | with_reducible first | apply then_n | apply block_n | apply then_x | apply then_r | apply nog_n | apply nog_r | apply block_r | apply block_e (by decide) | apply block_x (by decide)))
      refine aw_cond2 (by simp (disch := first | decide | omega) only [htk, htl, go_sem, ↓reduceIte]; rfl) ?_; first | refine .inl ⟨by first | rfl | exact decide_eq_true (by omega) | exact decide_eq_true (by assumption) | (simp (disch := first | decide | omega) only [if_pos_d, if_neg_d, decide_eq_true_eq, Bool.not_eq_true', decide_eq_false_iff_not]; omega), ?_⟩ | refine .inr ⟨by first | rfl | exact decide_eq_false (by omega) | exact decide_eq_false (by assumption) | (simp (disch := first | decide | omega) only [if_pos_d, if_neg_d, decide_eq_true_eq, Bool.not_eq_true', decide_eq_false_iff_not]; omega), ?_⟩
      (repeat (first | apply aw_seq | apply aw_block | apply aw_skip | apply aw_label | apply aw_exit | ((first | refine aw_region (hideO fun QQ hQQ => ?_) | refine aw_draw mixed (hideD fun QQ hQQ => ?_)); simp (maxSteps := 400000) (disch := first | decide | omega) only [htk, htl, go_sem, ↓reduceIte]; try (first | with_reducible refine unhide hQQ ?_ | refine ⟨by kernel_rfl, unhide hQQ ?_⟩); clear hQQ QQ) | with_reducible first | apply then_n | apply block_n | apply then_x | apply then_r | apply nog_n | apply nog_r | apply block_r | apply block_e (by decide) | apply block_x (by decide)))
      (refine callD_ok rfl rfl 37 true rfl (by simp (disch := first | decide | omega) only [htk, htl, go_sem, ↓reduceIte]; try rfl) (fun _ => rfl) (hz) Try.func37 rfl (by decide) ?_); simp (maxSteps := 400000) (disch := first | decide | omega) only [htk, htl, go_sem, ↓reduceIte]; (try (refine ⟨by kernel_rfl, unhide hQQ ?_⟩; clear hQQ QQ; (repeat with_reducible first | apply then_n | apply block_n | apply then_x | apply then_r | apply nog_n | apply nog_r | apply block_r | apply block_e (by decide) | apply block_x (by decide))))
      (repeat (first | apply aw_seq | apply aw_block | apply aw_skip | apply aw_label | apply aw_exit | ((first | refine aw_region (hideO fun QQ hQQ => ?_) | refine aw_draw mixed (hideD fun QQ hQQ => ?_)); simp (maxSteps := 400000) (disch := first | decide | omega) only [htk, htl, go_sem, ↓reduceIte]; try (first | with_reducible refine unhide hQQ ?_ | refine ⟨by kernel_rfl, unhide hQQ ?_⟩); clear hQQ QQ) | with_reducible first | apply then_n | apply block_n | apply then_x | apply then_r | apply nog_n | apply nog_r | apply block_r | apply block_e (by decide) | apply block_x (by decide)))
      refine aw_ret ?_; refine ⟨.inr rfl, ?_⟩; simp only [resA, res1, go_sem, ↓reduceIte]
      simp only [or_self, if_true, htk]
      rfl
end
end Go.Proofs.Ytknikcpeacmpmaa
 
