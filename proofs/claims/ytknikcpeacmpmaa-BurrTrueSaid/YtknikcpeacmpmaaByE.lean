/- THE LAW BurrTrue, walked: its middle (the bales that are opened). -/
import Derived.Test.YtknikcpeacmpmaaByD
set_option linter.all false
namespace Go.Proofs.Ytknikcpeacmpmaa
open Go Go.RowKit Go.Sh Go.Pv
set_option maxHeartbeats 8000000
set_option maxRecDepth 8000
set_option pp.maxSteps 60000
section
variable {N L U T : Nat} {bales : List (Int × Int)} {tests ts : List (Int × Bool)}
theorem true_tail2 {m h n S : Nat} (hv : burrB N L U T bales ts = true) (hB : BOK N L U T bales ts) (ht : (m, h) ∈ TR N L U bales ts) (hn : n = cntF L U bales ts (2 ^ N)) (hS : S = openS N L U T bales ts) (Z : Zn) (w0 : World) :
    AW ⟨Try.prog, Z, w0, fun _ => False, 346, none, noPan, none, [], true⟩ (rgtN 14 (fnCode Try.f6)) QT6 ⟨[(3, .one (.box 0 0)), (7, .one (.box 1 0)), (9, .one (.p (iP h))), (13, .one (.p (iP n))), (26, .one (.p (iP S)))], [(0, bxC N L U T bales tests), (1, bxC N L U T bales ts)], 2⟩ := by
  have h3 := fun ys => true_tail3 (tests := tests) (ys := ys) hv hB ht hn Z w0
  have ht6 := hB.t6
  have hb6 := hB.b6
  have hx64 := (mem_TR_lt hB ht).2
  have hS6 : S < 64 := by rw [hS]; exact Nat.lt_of_lt_of_le (open_first hB).1 (pow64 hB.b6)
  have hol := opT_len S h
  simp only [bxC] at h3 ⊢
  conv => arg 2; whnf
  try simp only [List.append_eq, List.cons_append, List.nil_append]
  refine tw ?_; try with_reducible intro QQ hQQ
  refine aw_weak (weak_keepA [3, 7, 9, 13, 26, 28, 204, 205] (by simp only [go_sem, ↓reduceIte]; rfl)) ?_
  refine aw_loop_ov (ι := { i : Nat // i ≤ bales.length }) (fun i => [(205, iA i.1)]) (fun i => [(2, .box [.p (iP N), .p (iP L), .p (iP U), .p (.sl (bales.map row2)), .p (iP T), .p (.sl ((ts ++ opT S h i.1).map rowB))])]) (fun i => bales.length - i.1) ⟨0, by omega⟩ (by first | rfl | (simp only [go_sem, ↓reduceIte]; first | done | rfl | (simp; try rfl))) ?_
  rintro ⟨i, hi'⟩
  simp (disch := decide) only [ov, ovL, AL.get_nil, AL.get_eq, AL.get_ne, Option.getD_some, Option.getD_none]
  by_cases hil : i < bales.length
  · have hlen := hol i
    have e1 : opT S h (i + 1) = opT S h i ++ if S.testBit i = true then [((i : Int), h.testBit i)] else [] := rfl
    have hshr : ∀ (T : TypeId) (p q : Operand), binA Try.prog .shr T p q (.int .i64 (S : Int)) (.int .i64 (i : Int)) = some (.int .i64 ((S >>> i : Nat) : Int)) := fun T p q => bin_shr_nat .i64 T p q (by omega) (by omega)
    have hle : S >>> i ≤ S := Nat.shiftRight_le S i
    have hanS : ∀ (T : TypeId) (p q : Operand), binA Try.prog .and T p q (.int .i64 ((S >>> i : Nat) : Int)) (.int .i64 1) = some (.int .i64 ((S >>> i &&& 1 : Nat) : Int)) := fun T p q => bin_and_nat T p q (a := S >>> i) (b := 1) (by omega) (by omega)
    have hbitS := bit_and1 S i
    have hsr : ∀ (T : TypeId) (p q : Operand), binA Try.prog .shr T p q (.int .i64 (h : Int)) (.int .i64 (i : Int)) = some (.int .i64 ((h >>> i : Nat) : Int)) := fun T p q => bin_shr_nat .i64 T p q (by omega) (by omega)
    have hle2 : h >>> i ≤ h := Nat.shiftRight_le h i
    have han : ∀ (T : TypeId) (p q : Operand), binA Try.prog .and T p q (.int .i64 ((h >>> i : Nat) : Int)) (.int .i64 1) = some (.int .i64 ((h >>> i &&& 1 : Nat) : Int)) := fun T p q => bin_and_nat T p q (a := h >>> i) (b := 1) (by omega) (by omega)
    have hbit := bit_and1 h i
    have h38 := ok_test38 (i : Int) (h.testBit i)
    generalize hgo : opT S h i = ol at *
    have hrow : (ts ++ ol).map rowB ++ [[iP (i : Int), PV.v (.bool (h.testBit i))]] = (ts ++ (ol ++ [((i : Int), h.testBit i)])).map rowB := by simp [rowB]
    have hyl : (ts ++ ol).length = ts.length + ol.length := List.length_append
    have hlb : (ts.length + ol.length + 1) * 16 ≤ 140737488355328 := by omega
    have hlb0 : (ts.length + ol.length) * 16 ≤ 140737488355328 := by omega
    have hrk : rowsK 2 [[iP (i : Int), PV.v (.bool (h.testBit i))]] = True := rowsK_2 ((i : Int), h.testBit i)
    have hrB : rowsK 2 ((ts ++ ol).map rowB) = True := eq_true (rowsK_B (ts ++ ol))
    have htk : List.take (ts.length + ol.length + 1) (List.map rowB (ts ++ (ol ++ [((i : Int), h.testBit i)]))) = List.map rowB (ts ++ (ol ++ [((i : Int), h.testBit i)])) := List.take_of_length_le (by simp; omega)
    generalize S >>> i &&& 1 = s1' at *
    generalize S >>> i = sx at *
    generalize h >>> i &&& 1 = b1' at *
    generalize h >>> i = x1 at *
    clear h3 hol
    cases htS : S.testBit i with
    | false =>
      rw [htS, if_neg (by decide)] at hbitS e1
      rw [List.append_nil] at e1
      subst hbitS
      (repeat (first | apply aw_seq | apply aw_block | apply aw_skip | apply aw_label | apply aw_exit | ((first | refine aw_region (hideO fun QQ hQQ => ?_) | refine aw_draw mixed (hideD fun QQ hQQ => ?_)); simp (maxSteps := 400000) (disch := first | decide | omega) only [hshr, hanS, go_sem, ↓reduceIte]; try (first | with_reducible refine unhide hQQ ?_ | refine ⟨by kernel_rfl, unhide hQQ ?_⟩); clear hQQ QQ) | with_reducible first | apply then_n | apply block_n | apply then_x | apply then_r | apply nog_n | apply nog_r | apply block_r | apply block_e (by decide) | apply block_x (by decide)))
      refine aw_cond2 (by simp (disch := first | decide | omega) only [hshr, hanS, go_sem, ↓reduceIte]; rfl) ?_; first | refine .inl ⟨by first | rfl | exact decide_eq_true (by omega) | exact decide_eq_true (by assumption) | (simp (disch := first | decide | omega) only [if_pos_d, if_neg_d, decide_eq_true_eq, Bool.not_eq_true', decide_eq_false_iff_not]; omega), ?_⟩ | refine .inr ⟨by first | rfl | exact decide_eq_false (by omega) | exact decide_eq_false (by assumption) | (simp (disch := first | decide | omega) only [if_pos_d, if_neg_d, decide_eq_true_eq, Bool.not_eq_true', decide_eq_false_iff_not]; omega), ?_⟩
      (repeat (first | apply aw_seq | apply aw_block | apply aw_skip | apply aw_label | apply aw_exit | ((first | refine aw_region (hideO fun QQ hQQ => ?_) | refine aw_draw mixed (hideD fun QQ hQQ => ?_)); simp (maxSteps := 400000) (disch := first | decide | omega) only [hshr, hanS, go_sem, ↓reduceIte]; try (first | with_reducible refine unhide hQQ ?_ | refine ⟨by kernel_rfl, unhide hQQ ?_⟩); clear hQQ QQ) | with_reducible first | apply then_n | apply block_n | apply then_x | apply then_r | apply nog_n | apply nog_r | apply block_r | apply block_e (by decide) | apply block_x (by decide)))
      refine aw_cond2 (by simp (disch := first | decide | omega) only [hshr, hanS, go_sem, ↓reduceIte]; rfl) ?_; first | refine .inl ⟨by first | rfl | exact decide_eq_true (by omega) | exact decide_eq_true (by assumption) | (simp (disch := first | decide | omega) only [if_pos_d, if_neg_d, decide_eq_true_eq, Bool.not_eq_true', decide_eq_false_iff_not]; omega), ?_⟩ | refine .inr ⟨by first | rfl | exact decide_eq_false (by omega) | exact decide_eq_false (by assumption) | (simp (disch := first | decide | omega) only [if_pos_d, if_neg_d, decide_eq_true_eq, Bool.not_eq_true', decide_eq_false_iff_not]; omega), ?_⟩
      (repeat (first | apply aw_seq | apply aw_block | apply aw_skip | apply aw_label | apply aw_exit | ((first | refine aw_region (hideO fun QQ hQQ => ?_) | refine aw_draw mixed (hideD fun QQ hQQ => ?_)); simp (maxSteps := 400000) (disch := first | decide | omega) only [hshr, hanS, go_sem, ↓reduceIte]; try (first | with_reducible refine unhide hQQ ?_ | refine ⟨by kernel_rfl, unhide hQQ ?_⟩); clear hQQ QQ) | with_reducible first | apply then_n | apply block_n | apply then_x | apply then_r | apply nog_n | apply nog_r | apply block_r | apply block_e (by decide) | apply block_x (by decide)))
      refine ⟨⟨i + 1, by omega⟩, ?_, weak_round ?_ (by first | rfl | (simp only [hshr, hanS, go_sem, ↓reduceIte]))⟩
      rotate_left
      · simp only [e1]
        (simp only [hshr, hanS, go_sem, ↓reduceIte]; try rfl)
      · simp only; omega
    | true =>
      rw [htS, if_pos rfl] at hbitS e1
      subst hbitS
      cases htb : h.testBit i with
      | true =>
        rw [htb, if_pos rfl] at hbit
        rw [htb] at h38 hrow hrk htk e1
        subst hbit
        (repeat (first | apply aw_seq | apply aw_block | apply aw_skip | apply aw_label | apply aw_exit | ((first | refine aw_region (hideO fun QQ hQQ => ?_) | refine aw_draw mixed (hideD fun QQ hQQ => ?_)); simp (maxSteps := 400000) (disch := first | decide | omega) only [hshr, hanS, hsr, han, hyl, hlb, hlb0, hrk, hrB, List.isEmpty_nil, List.length_map, hrow, htk, go_sem, ↓reduceIte]; try (first | with_reducible refine unhide hQQ ?_ | refine ⟨by kernel_rfl, unhide hQQ ?_⟩); clear hQQ QQ) | with_reducible first | apply then_n | apply block_n | apply then_x | apply then_r | apply nog_n | apply nog_r | apply block_r | apply block_e (by decide) | apply block_x (by decide)))
        refine aw_cond2 (by simp (disch := first | decide | omega) only [hshr, hanS, hsr, han, hyl, hlb, hlb0, hrk, hrB, List.isEmpty_nil, List.length_map, hrow, htk, go_sem, ↓reduceIte]; rfl) ?_; first | refine .inl ⟨by first | rfl | exact decide_eq_true (by omega) | exact decide_eq_true (by assumption) | (simp (disch := first | decide | omega) only [if_pos_d, if_neg_d, decide_eq_true_eq, Bool.not_eq_true', decide_eq_false_iff_not]; omega), ?_⟩ | refine .inr ⟨by first | rfl | exact decide_eq_false (by omega) | exact decide_eq_false (by assumption) | (simp (disch := first | decide | omega) only [if_pos_d, if_neg_d, decide_eq_true_eq, Bool.not_eq_true', decide_eq_false_iff_not]; omega), ?_⟩
        (repeat (first | apply aw_seq | apply aw_block | apply aw_skip | apply aw_label | apply aw_exit | ((first | refine aw_region (hideO fun QQ hQQ => ?_) | refine aw_draw mixed (hideD fun QQ hQQ => ?_)); simp (maxSteps := 400000) (disch := first | decide | omega) only [hshr, hanS, hsr, han, hyl, hlb, hlb0, hrk, hrB, List.isEmpty_nil, List.length_map, hrow, htk, go_sem, ↓reduceIte]; try (first | with_reducible refine unhide hQQ ?_ | refine ⟨by kernel_rfl, unhide hQQ ?_⟩); clear hQQ QQ) | with_reducible first | apply then_n | apply block_n | apply then_x | apply then_r | apply nog_n | apply nog_r | apply block_r | apply block_e (by decide) | apply block_x (by decide)))
        refine aw_cond2 (by simp (disch := first | decide | omega) only [hshr, hanS, hsr, han, hyl, hlb, hlb0, hrk, hrB, List.isEmpty_nil, List.length_map, hrow, htk, go_sem, ↓reduceIte]; rfl) ?_; first | refine .inl ⟨by first | rfl | exact decide_eq_true (by omega) | exact decide_eq_true (by assumption) | (simp (disch := first | decide | omega) only [if_pos_d, if_neg_d, decide_eq_true_eq, Bool.not_eq_true', decide_eq_false_iff_not]; omega), ?_⟩ | refine .inr ⟨by first | rfl | exact decide_eq_false (by omega) | exact decide_eq_false (by assumption) | (simp (disch := first | decide | omega) only [if_pos_d, if_neg_d, decide_eq_true_eq, Bool.not_eq_true', decide_eq_false_iff_not]; omega), ?_⟩
        (repeat (first | apply aw_seq | apply aw_block | apply aw_skip | apply aw_label | apply aw_exit | ((first | refine aw_region (hideO fun QQ hQQ => ?_) | refine aw_draw mixed (hideD fun QQ hQQ => ?_)); simp (maxSteps := 400000) (disch := first | decide | omega) only [hshr, hanS, hsr, han, hyl, hlb, hlb0, hrk, hrB, List.isEmpty_nil, List.length_map, hrow, htk, go_sem, ↓reduceIte]; try (first | with_reducible refine unhide hQQ ?_ | refine ⟨by kernel_rfl, unhide hQQ ?_⟩); clear hQQ QQ) | with_reducible first | apply then_n | apply block_n | apply then_x | apply then_r | apply nog_n | apply nog_r | apply block_r | apply block_e (by decide) | apply block_x (by decide)))
        (refine callD_ok rfl rfl 38 true rfl (by simp (disch := first | decide | omega) only [hshr, hanS, hsr, han, hyl, hlb, hlb0, hrk, hrB, List.isEmpty_nil, List.length_map, hrow, htk, go_sem, ↓reduceIte]; try rfl) (fun _ => rfl) (h38) Try.func38 rfl (by decide) ?_); simp (maxSteps := 400000) (disch := first | decide | omega) only [hshr, hanS, hsr, han, hyl, hlb, hlb0, hrk, hrB, List.isEmpty_nil, List.length_map, hrow, htk, go_sem, ↓reduceIte]; (try (refine ⟨by kernel_rfl, unhide hQQ ?_⟩; clear hQQ QQ; (repeat with_reducible first | apply then_n | apply block_n | apply then_x | apply then_r | apply nog_n | apply nog_r | apply block_r | apply block_e (by decide) | apply block_x (by decide))))
        (repeat (first | apply aw_seq | apply aw_block | apply aw_skip | apply aw_label | apply aw_exit | ((first | refine aw_region (hideO fun QQ hQQ => ?_) | refine aw_draw mixed (hideD fun QQ hQQ => ?_)); simp (maxSteps := 400000) (disch := first | decide | omega) only [hshr, hanS, hsr, han, hyl, hlb, hlb0, hrk, hrB, List.isEmpty_nil, List.length_map, hrow, htk, go_sem, ↓reduceIte]; try (first | with_reducible refine unhide hQQ ?_ | refine ⟨by kernel_rfl, unhide hQQ ?_⟩); clear hQQ QQ) | with_reducible first | apply then_n | apply block_n | apply then_x | apply then_r | apply nog_n | apply nog_r | apply block_r | apply block_e (by decide) | apply block_x (by decide)))
        refine ⟨⟨i + 1, by omega⟩, by simp only; omega, (weak_share 3 rfl).trans ((weak_dataB 2 5 rfl rfl rfl).trans (weak_round ?_ (by first | rfl | (simp only [hshr, hanS, hsr, han, hyl, hlb, hlb0, hrk, hrB, List.isEmpty_nil, List.length_map, hrow, htk, go_sem, ↓reduceIte]))))⟩
        simp only [e1, ov, ovL, List.set_cons_succ, List.set_cons_zero]
        (simp only [hshr, hanS, hsr, han, hyl, hlb, hlb0, hrk, hrB, List.isEmpty_nil, List.length_map, hrow, htk, go_sem, ↓reduceIte]; try rfl)
      | false =>
        rw [htb, if_neg (by decide)] at hbit
        rw [htb] at h38 hrow hrk htk e1
        subst hbit
        (repeat (first | apply aw_seq | apply aw_block | apply aw_skip | apply aw_label | apply aw_exit | ((first | refine aw_region (hideO fun QQ hQQ => ?_) | refine aw_draw mixed (hideD fun QQ hQQ => ?_)); simp (maxSteps := 400000) (disch := first | decide | omega) only [hshr, hanS, hsr, han, hyl, hlb, hlb0, hrk, hrB, List.isEmpty_nil, List.length_map, hrow, htk, go_sem, ↓reduceIte]; try (first | with_reducible refine unhide hQQ ?_ | refine ⟨by kernel_rfl, unhide hQQ ?_⟩); clear hQQ QQ) | with_reducible first | apply then_n | apply block_n | apply then_x | apply then_r | apply nog_n | apply nog_r | apply block_r | apply block_e (by decide) | apply block_x (by decide)))
        refine aw_cond2 (by simp (disch := first | decide | omega) only [hshr, hanS, hsr, han, hyl, hlb, hlb0, hrk, hrB, List.isEmpty_nil, List.length_map, hrow, htk, go_sem, ↓reduceIte]; rfl) ?_; first | refine .inl ⟨by first | rfl | exact decide_eq_true (by omega) | exact decide_eq_true (by assumption) | (simp (disch := first | decide | omega) only [if_pos_d, if_neg_d, decide_eq_true_eq, Bool.not_eq_true', decide_eq_false_iff_not]; omega), ?_⟩ | refine .inr ⟨by first | rfl | exact decide_eq_false (by omega) | exact decide_eq_false (by assumption) | (simp (disch := first | decide | omega) only [if_pos_d, if_neg_d, decide_eq_true_eq, Bool.not_eq_true', decide_eq_false_iff_not]; omega), ?_⟩
        (repeat (first | apply aw_seq | apply aw_block | apply aw_skip | apply aw_label | apply aw_exit | ((first | refine aw_region (hideO fun QQ hQQ => ?_) | refine aw_draw mixed (hideD fun QQ hQQ => ?_)); simp (maxSteps := 400000) (disch := first | decide | omega) only [hshr, hanS, hsr, han, hyl, hlb, hlb0, hrk, hrB, List.isEmpty_nil, List.length_map, hrow, htk, go_sem, ↓reduceIte]; try (first | with_reducible refine unhide hQQ ?_ | refine ⟨by kernel_rfl, unhide hQQ ?_⟩); clear hQQ QQ) | with_reducible first | apply then_n | apply block_n | apply then_x | apply then_r | apply nog_n | apply nog_r | apply block_r | apply block_e (by decide) | apply block_x (by decide)))
        refine aw_cond2 (by simp (disch := first | decide | omega) only [hshr, hanS, hsr, han, hyl, hlb, hlb0, hrk, hrB, List.isEmpty_nil, List.length_map, hrow, htk, go_sem, ↓reduceIte]; rfl) ?_; first | refine .inl ⟨by first | rfl | exact decide_eq_true (by omega) | exact decide_eq_true (by assumption) | (simp (disch := first | decide | omega) only [if_pos_d, if_neg_d, decide_eq_true_eq, Bool.not_eq_true', decide_eq_false_iff_not]; omega), ?_⟩ | refine .inr ⟨by first | rfl | exact decide_eq_false (by omega) | exact decide_eq_false (by assumption) | (simp (disch := first | decide | omega) only [if_pos_d, if_neg_d, decide_eq_true_eq, Bool.not_eq_true', decide_eq_false_iff_not]; omega), ?_⟩
        (repeat (first | apply aw_seq | apply aw_block | apply aw_skip | apply aw_label | apply aw_exit | ((first | refine aw_region (hideO fun QQ hQQ => ?_) | refine aw_draw mixed (hideD fun QQ hQQ => ?_)); simp (maxSteps := 400000) (disch := first | decide | omega) only [hshr, hanS, hsr, han, hyl, hlb, hlb0, hrk, hrB, List.isEmpty_nil, List.length_map, hrow, htk, go_sem, ↓reduceIte]; try (first | with_reducible refine unhide hQQ ?_ | refine ⟨by kernel_rfl, unhide hQQ ?_⟩); clear hQQ QQ) | with_reducible first | apply then_n | apply block_n | apply then_x | apply then_r | apply nog_n | apply nog_r | apply block_r | apply block_e (by decide) | apply block_x (by decide)))
        (refine callD_ok rfl rfl 38 true rfl (by simp (disch := first | decide | omega) only [hshr, hanS, hsr, han, hyl, hlb, hlb0, hrk, hrB, List.isEmpty_nil, List.length_map, hrow, htk, go_sem, ↓reduceIte]; try rfl) (fun _ => rfl) (h38) Try.func38 rfl (by decide) ?_); simp (maxSteps := 400000) (disch := first | decide | omega) only [hshr, hanS, hsr, han, hyl, hlb, hlb0, hrk, hrB, List.isEmpty_nil, List.length_map, hrow, htk, go_sem, ↓reduceIte]; (try (refine ⟨by kernel_rfl, unhide hQQ ?_⟩; clear hQQ QQ; (repeat with_reducible first | apply then_n | apply block_n | apply then_x | apply then_r | apply nog_n | apply nog_r | apply block_r | apply block_e (by decide) | apply block_x (by decide))))
        (repeat (first | apply aw_seq | apply aw_block | apply aw_skip | apply aw_label | apply aw_exit | ((first | refine aw_region (hideO fun QQ hQQ => ?_) | refine aw_draw mixed (hideD fun QQ hQQ => ?_)); simp (maxSteps := 400000) (disch := first | decide | omega) only [hshr, hanS, hsr, han, hyl, hlb, hlb0, hrk, hrB, List.isEmpty_nil, List.length_map, hrow, htk, go_sem, ↓reduceIte]; try (first | with_reducible refine unhide hQQ ?_ | refine ⟨by kernel_rfl, unhide hQQ ?_⟩); clear hQQ QQ) | with_reducible first | apply then_n | apply block_n | apply then_x | apply then_r | apply nog_n | apply nog_r | apply block_r | apply block_e (by decide) | apply block_x (by decide)))
        refine ⟨⟨i + 1, by omega⟩, by simp only; omega, (weak_share 3 rfl).trans ((weak_dataB 2 5 rfl rfl rfl).trans (weak_round ?_ (by first | rfl | (simp only [hshr, hanS, hsr, han, hyl, hlb, hlb0, hrk, hrB, List.isEmpty_nil, List.length_map, hrow, htk, go_sem, ↓reduceIte]))))⟩
        simp only [e1, ov, ovL, List.set_cons_succ, List.set_cons_zero]
        (simp only [hshr, hanS, hsr, han, hyl, hlb, hlb0, hrk, hrB, List.isEmpty_nil, List.length_map, hrow, htk, go_sem, ↓reduceIte]; try rfl)
  · have hie : i = bales.length := by omega
    subst hie
    have hyl : (ts ++ opT S h bales.length).length = ts.length + (opT S h bales.length).length := List.length_append
    have hlen := hol bales.length
    by_cases h6 : (ts ++ opT S h bales.length).length ≤ 6
    · have hv2 : burrB N L U T bales (ts ++ opT S h bales.length) = true := op_burr hv h6
      rw [hyl] at h6
      obtain ⟨N', L', U', T', e1, e2, e3, e4, hB2⟩ := bok_of hv2
      obtain rfl : N' = N := by omega
      obtain rfl : L' = L := by omega
      obtain rfl : U' = U := by omega
      obtain rfl : T' = T := by omega
      obtain ⟨k1, k2⟩ := open_true hB ht
      rw [← hS] at k1 k2
      have hne : TR N' L' U' bales (ts ++ opT S h bales.length) ≠ [] := List.ne_nil_of_mem k1
      have hcc : cntB N' L' U' bales (ts ++ opT S h bales.length) = (TR N' L' U' bales (ts ++ opT S h bales.length)).length := (show cntB N' L' U' bales (ts ++ opT S h bales.length) = cntF L' U' bales (ts ++ opT S h bales.length) (2 ^ N') from rfl).trans (count_TR hB2.b6 hB2.te6)
      have hwT : whyT N' L' U' T' bales (ts ++ opT S h bales.length) = 0 := by simp [whyT, hv2, hcc, hne]
      have hA := ok_Bales (n := N') (lo := L') (hi := U') (top := T') (bales := bales) (tests := ts ++ opT S h bales.length)
      rw [hwT] at hA
      obtain ⟨a0, ha0⟩ := see_some (L := (TR N' L' U' bales (ts ++ opT S h bales.length)).map (·.2)) (by simpa using hne)
      have eA : balA N' L' U' bales (ts ++ opT S h bales.length) = ((a0 : Int), (((seeL ((TR N' L' U' bales (ts ++ opT S h bales.length)).map (·.2))).1 : Nat) : Int)) := by
        unfold balA
        simp only [Int.toNat_natCast, bal_see hne, ha0]
        rfl
      rw [eA] at hA
      have hl2 := seeL_lt (L := (TR N' L' U' bales (ts ++ opT S h bales.length)).map (·.2)) (by intro x hx; obtain ⟨y, hy, rfl⟩ := List.mem_map.1 hx; exact (mem_TR_lt hB2 hy).2)
      have la0 := hl2.2 a0 ha0
      have lc0 := hl2.1
      obtain ⟨q1, q2⟩ := known_all (T := T') ha0 (x := h) (List.mem_map.2 ⟨_, k1, rfl⟩) (fun y hy => by obtain ⟨x, hx, rfl⟩ := List.mem_map.1 hy; exact k2 x hx)
      have hT6 : T' < 64 := Nat.lt_of_lt_of_le hB.tp (pow64 hB.b6)
      generalize (seeL ((TR N' L' U' bales (ts ++ opT S h bales.length)).map (·.2))).1 = c0 at *
      have ha1 : ∀ (T : TypeId) (x y : Operand), binA Try.prog .and T x y (.int .i64 (a0 : Int)) (.int .i64 (T' : Int)) = some (.int .i64 ((h &&& T' : Nat) : Int)) := fun T x y => by rw [← q1]; exact bin_and_nat T x y (by omega) (by omega)
      have ha2 : ∀ (T : TypeId) (x y : Operand), binA Try.prog .and T x y (.int .i64 (c0 : Int)) (.int .i64 (T' : Int)) = some (.int .i64 ((h &&& T' : Nat) : Int)) := fun T x y => by rw [← q2]; exact bin_and_nat T x y (by omega) (by omega)
      have ha3 : ∀ (T : TypeId) (x y : Operand), binA Try.prog .and T x y (.int .i64 (h : Int)) (.int .i64 (T' : Int)) = some (.int .i64 ((h &&& T' : Nat) : Int)) := fun T x y => bin_and_nat T x y (by omega) (by omega)
      generalize h &&& T' = hT at *
      have h3' := h3 (ts ++ opT S h bales.length)
      simp only [buR, ansR, if_true] at hA
      generalize ts ++ opT S h bales.length = yl at *
      clear q1 q2 k1 k2 eA hcc hl2 hne hv2 h3
      (repeat (first | apply aw_seq | apply aw_block | apply aw_skip | apply aw_label | apply aw_exit | ((first | refine aw_region (hideO fun QQ hQQ => ?_) | refine aw_draw mixed (hideD fun QQ hQQ => ?_)); simp (maxSteps := 400000) (disch := first | decide | omega) only [hyl, ha1, ha2, ha3, go_sem, ↓reduceIte]; try (first | with_reducible refine unhide hQQ ?_ | refine ⟨by kernel_rfl, unhide hQQ ?_⟩); clear hQQ QQ) | with_reducible first | apply then_n | apply block_n | apply then_x | apply then_r | apply nog_n | apply nog_r | apply block_r | apply block_e (by decide) | apply block_x (by decide)))
      refine aw_cond2 (by simp (disch := first | decide | omega) only [hyl, ha1, ha2, ha3, go_sem, ↓reduceIte]; rfl) ?_; first | refine .inl ⟨by first | rfl | exact decide_eq_true (by omega) | exact decide_eq_true (by assumption) | (simp (disch := first | decide | omega) only [if_pos_d, if_neg_d, decide_eq_true_eq, Bool.not_eq_true', decide_eq_false_iff_not]; omega), ?_⟩ | refine .inr ⟨by first | rfl | exact decide_eq_false (by omega) | exact decide_eq_false (by assumption) | (simp (disch := first | decide | omega) only [if_pos_d, if_neg_d, decide_eq_true_eq, Bool.not_eq_true', decide_eq_false_iff_not]; omega), ?_⟩
      (repeat (first | apply aw_seq | apply aw_block | apply aw_skip | apply aw_label | apply aw_exit | ((first | refine aw_region (hideO fun QQ hQQ => ?_) | refine aw_draw mixed (hideD fun QQ hQQ => ?_)); simp (maxSteps := 400000) (disch := first | decide | omega) only [hyl, ha1, ha2, ha3, go_sem, ↓reduceIte]; try (first | with_reducible refine unhide hQQ ?_ | refine ⟨by kernel_rfl, unhide hQQ ?_⟩); clear hQQ QQ) | with_reducible first | apply then_n | apply block_n | apply then_x | apply then_r | apply nog_n | apply nog_r | apply block_r | apply block_e (by decide) | apply block_x (by decide)))
      refine aw_cond2 (by simp (disch := first | decide | omega) only [hyl, ha1, ha2, ha3, go_sem, ↓reduceIte]; rfl) ?_; first | refine .inl ⟨by first | rfl | exact decide_eq_true (by omega) | exact decide_eq_true (by assumption) | (simp (disch := first | decide | omega) only [if_pos_d, if_neg_d, decide_eq_true_eq, Bool.not_eq_true', decide_eq_false_iff_not]; omega), ?_⟩ | refine .inr ⟨by first | rfl | exact decide_eq_false (by omega) | exact decide_eq_false (by assumption) | (simp (disch := first | decide | omega) only [if_pos_d, if_neg_d, decide_eq_true_eq, Bool.not_eq_true', decide_eq_false_iff_not]; omega), ?_⟩
      (repeat (first | apply aw_seq | apply aw_block | apply aw_skip | apply aw_label | apply aw_exit | ((first | refine aw_region (hideO fun QQ hQQ => ?_) | refine aw_draw mixed (hideD fun QQ hQQ => ?_)); simp (maxSteps := 400000) (disch := first | decide | omega) only [hyl, ha1, ha2, ha3, go_sem, ↓reduceIte]; try (first | with_reducible refine unhide hQQ ?_ | refine ⟨by kernel_rfl, unhide hQQ ?_⟩); clear hQQ QQ) | with_reducible first | apply then_n | apply block_n | apply then_x | apply then_r | apply nog_n | apply nog_r | apply block_r | apply block_e (by decide) | apply block_x (by decide)))
      ((refine callO_ok rfl rfl 16 true rfl (by simp (disch := first | decide | omega) only [hyl, ha1, ha2, ha3, go_sem, ↓reduceIte]; try rfl) (fun _ => rfl) (hA) Try.func16 rfl (by decide) ?_); simp (maxSteps := 400000) (disch := first | decide | omega) only [hyl, ha1, ha2, ha3, go_sem, ↓reduceIte]; try (with_reducible refine unhide hQQ ?_; clear hQQ QQ)); (repeat (first | apply aw_seq | apply aw_block | apply aw_skip | apply aw_label | apply aw_exit | ((first | refine aw_region (hideO fun QQ hQQ => ?_) | refine aw_draw mixed (hideD fun QQ hQQ => ?_)); simp (maxSteps := 400000) (disch := first | decide | omega) only [hyl, ha1, ha2, ha3, go_sem, ↓reduceIte]; try (first | with_reducible refine unhide hQQ ?_ | refine ⟨by kernel_rfl, unhide hQQ ?_⟩); clear hQQ QQ) | with_reducible first | apply then_n | apply block_n | apply then_x | apply then_r | apply nog_n | apply nog_r | apply block_r | apply block_e (by decide) | apply block_x (by decide)))
      refine aw_cond2 (by simp (disch := first | decide | omega) only [hyl, ha1, ha2, ha3, go_sem, ↓reduceIte]; rfl) ?_; first | refine .inl ⟨by first | rfl | exact decide_eq_true (by omega) | exact decide_eq_true (by assumption) | (simp (disch := first | decide | omega) only [if_pos_d, if_neg_d, decide_eq_true_eq, Bool.not_eq_true', decide_eq_false_iff_not]; omega), ?_⟩ | refine .inr ⟨by first | rfl | exact decide_eq_false (by omega) | exact decide_eq_false (by assumption) | (simp (disch := first | decide | omega) only [if_pos_d, if_neg_d, decide_eq_true_eq, Bool.not_eq_true', decide_eq_false_iff_not]; omega), ?_⟩
      (refine aw_skip ?_); (repeat with_reducible first | apply then_n | apply block_n | apply then_x | apply then_r | apply nog_n | apply nog_r | apply block_r | apply block_e (by decide) | apply block_x (by decide))
      refine aw_weak (weak_round (T := ⟨[(3, .one (.box 0 0)), (7, .one (.box 1 0)), (9, .one (.p (iP h))), (13, .one (.p (iP n))), (28, .one (.box 2 0))], [(0, .box [.p (iP N'), .p (iP L'), .p (iP U'), .p (.sl (bales.map row2)), .p (iP T'), .p (.sl (tests.map rowB))]), (1, .box [.p (iP N'), .p (iP L'), .p (iP U'), .p (.sl (bales.map row2)), .p (iP T'), .p (.sl (ts.map rowB))]), (2, .box [.p (iP N'), .p (iP L'), .p (iP U'), .p (.sl (bales.map row2)), .p (iP T'), .p (.sl (yl.map rowB))])], 3⟩) (by simp only [go_sem, ↓reduceIte]; try rfl) (by first | rfl | (simp only [go_sem, ↓reduceIte]))) ?_
      exact h3'
    · rw [hyl] at h6
      have h3' := h3 (ts ++ opT S h bales.length)
      generalize ts ++ opT S h bales.length = yl at *
      clear h3
      (repeat (first | apply aw_seq | apply aw_block | apply aw_skip | apply aw_label | apply aw_exit | ((first | refine aw_region (hideO fun QQ hQQ => ?_) | refine aw_draw mixed (hideD fun QQ hQQ => ?_)); simp (maxSteps := 400000) (disch := first | decide | omega) only [hyl, go_sem, ↓reduceIte]; try (first | with_reducible refine unhide hQQ ?_ | refine ⟨by kernel_rfl, unhide hQQ ?_⟩); clear hQQ QQ) | with_reducible first | apply then_n | apply block_n | apply then_x | apply then_r | apply nog_n | apply nog_r | apply block_r | apply block_e (by decide) | apply block_x (by decide)))
      refine aw_cond2 (by simp (disch := first | decide | omega) only [hyl, go_sem, ↓reduceIte]; rfl) ?_; first | refine .inl ⟨by first | rfl | exact decide_eq_true (by omega) | exact decide_eq_true (by assumption) | (simp (disch := first | decide | omega) only [if_pos_d, if_neg_d, decide_eq_true_eq, Bool.not_eq_true', decide_eq_false_iff_not]; omega), ?_⟩ | refine .inr ⟨by first | rfl | exact decide_eq_false (by omega) | exact decide_eq_false (by assumption) | (simp (disch := first | decide | omega) only [if_pos_d, if_neg_d, decide_eq_true_eq, Bool.not_eq_true', decide_eq_false_iff_not]; omega), ?_⟩
      (repeat (first | apply aw_seq | apply aw_block | apply aw_skip | apply aw_label | apply aw_exit | ((first | refine aw_region (hideO fun QQ hQQ => ?_) | refine aw_draw mixed (hideD fun QQ hQQ => ?_)); simp (maxSteps := 400000) (disch := first | decide | omega) only [hyl, go_sem, ↓reduceIte]; try (first | with_reducible refine unhide hQQ ?_ | refine ⟨by kernel_rfl, unhide hQQ ?_⟩); clear hQQ QQ) | with_reducible first | apply then_n | apply block_n | apply then_x | apply then_r | apply nog_n | apply nog_r | apply block_r | apply block_e (by decide) | apply block_x (by decide)))
      refine aw_cond2 (by simp (disch := first | decide | omega) only [hyl, go_sem, ↓reduceIte]; rfl) ?_; first | refine .inl ⟨by first | rfl | exact decide_eq_true (by omega) | exact decide_eq_true (by assumption) | (simp (disch := first | decide | omega) only [if_pos_d, if_neg_d, decide_eq_true_eq, Bool.not_eq_true', decide_eq_false_iff_not]; omega), ?_⟩ | refine .inr ⟨by first | rfl | exact decide_eq_false (by omega) | exact decide_eq_false (by assumption) | (simp (disch := first | decide | omega) only [if_pos_d, if_neg_d, decide_eq_true_eq, Bool.not_eq_true', decide_eq_false_iff_not]; omega), ?_⟩
      (refine aw_skip ?_); (repeat with_reducible first | apply then_n | apply block_n | apply then_x | apply then_r | apply nog_n | apply nog_r | apply block_r | apply block_e (by decide) | apply block_x (by decide))
      refine aw_weak (weak_round (T := ⟨[(3, .one (.box 0 0)), (7, .one (.box 1 0)), (9, .one (.p (iP h))), (13, .one (.p (iP n))), (28, .one (.box 2 0))], [(0, .box [.p (iP N), .p (iP L), .p (iP U), .p (.sl (bales.map row2)), .p (iP T), .p (.sl (tests.map rowB))]), (1, .box [.p (iP N), .p (iP L), .p (iP U), .p (.sl (bales.map row2)), .p (iP T), .p (.sl (ts.map rowB))]), (2, .box [.p (iP N), .p (iP L), .p (iP U), .p (.sl (bales.map row2)), .p (iP T), .p (.sl (yl.map rowB))])], 3⟩) (by simp only [go_sem, ↓reduceIte]; try rfl) (by first | rfl | (simp only [go_sem, ↓reduceIte]))) ?_
      exact h3'
end
end Go.Proofs.Ytknikcpeacmpmaa
