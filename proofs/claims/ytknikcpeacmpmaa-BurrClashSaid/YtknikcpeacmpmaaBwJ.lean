/- burr, the law BurrClash: whether the tests of a set clash. -/
import Derived.Test.YtknikcpeacmpmaaBwG
import Derived.Test.YtknikcpeacmpmaaBwI
set_option linter.all false
namespace Go.Proofs.Ytknikcpeacmpmaa
open Go Go.RowKit Go.Sh Go.Pv
set_option maxHeartbeats 8000000
set_option maxRecDepth 8000
set_option pp.maxSteps 60000
section
variable {n lo hi top : Int} {bales : List (Int × Int)} {tests : List (Int × Bool)}
theorem burr_sub {ts : List (Int × Bool)} (h : burrB n lo hi top bales tests = true) (hl : ts.length ≤ tests.length) (hs : ∀ t ∈ ts, t ∈ tests) : burrB n lo hi top bales ts = true := by
  unfold burrB headB at h ⊢
  simp only [Bool.and_eq_true, decide_eq_true_eq] at h ⊢
  obtain ⟨⟨h1, h2⟩, h3, h4⟩ := h
  refine ⟨⟨h1, by omega⟩, h3, ?_⟩
  rw [List.all_eq_true] at h4 ⊢
  exact fun t ht => h4 t (hs t ht)
attribute [local go_sem] rowB get_someB
theorem s_clash44 (hv : burrB n lo hi top bales tests = true) (x : Nat) (hx : x < 64) :
    FunS Try.prog 44 [.one (.p (iP x)), .one (.box 0 0)] [(0, .box (buC n lo hi top bales tests))] 1 (.one (.one (.v (.bool (clashP n.toNat lo.toNat hi.toNat bales tests x))))) := by
  have ht6 : tests.length ≤ 6 := by obtain ⟨_, _, _, _, _, _, _, _, hB⟩ := bok_of hv; exact hB.t6
  have hv2 : burrB n lo hi top bales (selT tests x tests.length) = true := burr_sub hv (selT_len _ _ _) (selT_sub (Nat.le_refl _))
  have hwhy : whyV n lo hi top bales (selT tests x tests.length) = 0 := by simp [whyV, hv2]
  have hc := ok_Count (n := n) (lo := lo) (hi := hi) (top := top) (bales := bales) (tests := selT tests x tests.length)
  rw [hwhy] at hc
  simp only [buR, ansN, if_true] at hc
  have hcp : clashP n.toNat lo.toNat hi.toNat bales tests x = (((cntB n lo hi bales (selT tests x tests.length) : Nat) : Int) == 0) := by
    unfold clashP cntB
    show _ = decide _
    by_cases h : cntF lo.toNat hi.toNat bales (selT tests x tests.length) (2 ^ n.toNat) = 0
    · rw [h]; rfl
    · rw [decide_eq_false h, decide_eq_false (by omega)]
  rw [hcp]
  generalize cntB n lo hi bales (selT tests x tests.length) = c at *
  clear hcp hwhy hv2
  unfold buC
  refine funS_ok (nt := 42) (rs := [.tmp 3]) Try.func44 rfl rfl rfl (by simp) fun Z w0 cap pan dk tm => ?_; simp only [initV, pins, pinOf, List.map_cons, List.map_nil]
  refine tw ?_; try with_reducible intro QQ hQQ
  refine aw_weak (weak_ownB 2 5 42 2 (by simp (disch := first | decide | omega) only [go_sem, ↓reduceIte]; rfl) rfl) ?_
  (refine ts ?_; try clear hQQ QQ)
  refine aw_weak (weak_keepA [0, 4, 12, 13, 14] (by simp only [go_sem, ↓reduceIte]; rfl)) ?_
  refine aw_loop_ov (ι := { k : Nat // k ≤ tests.length }) (fun k => [(14, iA k.1)]) (fun k => [(3, .arr 42 2 ((selT tests x k.1).map rowB) true), (2, .box [.p (iP n), .p (iP lo), .p (iP hi), .p (.sl (bales.map row2)), .p (iP top), .own 3 (selT tests x k.1).length])]) (fun k => tests.length - k.1) ⟨0, by omega⟩ (by first | rfl | (simp only [go_sem, ↓reduceIte]; first | done | rfl | (simp; try rfl))) ?_
  rintro ⟨k, hk⟩
  simp (disch := decide) only [ov, ovL, AL.get_nil, AL.get_eq, AL.get_ne, Option.getD_some, Option.getD_none]
  by_cases hkl : k < tests.length
  · have hsh : ∀ (T : TypeId) (p q : Operand), binA Try.prog .shr T p q (.int .i64 (x : Int)) (.int .i64 (k : Int)) = some (.int .i64 ((x >>> k : Nat) : Int)) := fun T p q => bin_shr_nat .i64 T p q (by omega) (by omega)
    have hle : x >>> k ≤ x := Nat.shiftRight_le x k
    have han : ∀ (T : TypeId) (p q : Operand), binA Try.prog .and T p q (.int .i64 ((x >>> k : Nat) : Int)) (.int .i64 1) = some (.int .i64 ((x >>> k &&& 1 : Nat) : Int)) := fun T p q => bin_and_nat T p q (a := x >>> k) (b := 1) (by omega) (by omega)
    have hbit := bit_and1 x k
    have hlen := selT_len tests x k
    have e1 : selT tests x (k + 1) = selT tests x k ++ if x.testBit k = true then [tests.getD k (0, false)] else [] := rfl
    obtain ⟨⟨c1, fb⟩, hc⟩ : ∃ t, tests.getD k (0, false) = t := ⟨_, rfl⟩
    rw [hc] at e1
    have hlb : ((selT tests x k).length + 1) * 16 ≤ 140737488355328 := by omega
    have hrow : (selT tests x k).map rowB ++ [[iP c1, PV.v (.bool fb)]] = (selT tests x k ++ [(c1, fb)]).map rowB := by simp [rowB]
    have hlen2 : (selT tests x k).length + 1 = (selT tests x k ++ [(c1, fb)]).length := by simp
    have hrk : rowsK 2 [[iP c1, PV.v (.bool fb)]] = True := rowsK_2 (c1, fb)
    generalize selT tests x k = sl at *
    generalize x >>> k &&& 1 = b1 at *
    generalize x >>> k = x1 at *
    cases htb : x.testBit k with
    | true =>
      rw [htb, if_pos rfl] at hbit e1
      subst hbit
      (repeat (first | apply aw_seq | apply aw_block | apply aw_skip | apply aw_label | apply aw_exit | ((first | refine aw_region (hideO fun QQ hQQ => ?_) | refine aw_draw mixed (hideD fun QQ hQQ => ?_)); simp (maxSteps := 400000) (disch := first | decide | omega) only [hc, hsh, han, rowB, hlb, hrk, go_sem, ↓reduceIte]; try (first | with_reducible refine unhide hQQ ?_ | refine ⟨by kernel_rfl, unhide hQQ ?_⟩); clear hQQ QQ) | with_reducible first | apply then_n | apply block_n | apply then_x | apply then_r | apply nog_n | apply nog_r | apply block_r | apply block_e (by decide) | apply block_x (by decide)))
      refine aw_cond2 (by simp (disch := first | decide | omega) only [hc, hsh, han, rowB, hlb, hrk, go_sem, ↓reduceIte]; rfl) ?_; first | refine .inl ⟨by first | rfl | exact decide_eq_true (by omega) | exact decide_eq_true (by assumption) | (simp (disch := first | decide | omega) only [if_pos_d, if_neg_d, decide_eq_true_eq, Bool.not_eq_true', decide_eq_false_iff_not]; omega), ?_⟩ | refine .inr ⟨by first | rfl | exact decide_eq_false (by omega) | exact decide_eq_false (by assumption) | (simp (disch := first | decide | omega) only [if_pos_d, if_neg_d, decide_eq_true_eq, Bool.not_eq_true', decide_eq_false_iff_not]; omega), ?_⟩
      (repeat (first | apply aw_seq | apply aw_block | apply aw_skip | apply aw_label | apply aw_exit | ((first | refine aw_region (hideO fun QQ hQQ => ?_) | refine aw_draw mixed (hideD fun QQ hQQ => ?_)); simp (maxSteps := 400000) (disch := first | decide | omega) only [hc, hsh, han, rowB, hlb, hrk, go_sem, ↓reduceIte]; try (first | with_reducible refine unhide hQQ ?_ | refine ⟨by kernel_rfl, unhide hQQ ?_⟩); clear hQQ QQ) | with_reducible first | apply then_n | apply block_n | apply then_x | apply then_r | apply nog_n | apply nog_r | apply block_r | apply block_e (by decide) | apply block_x (by decide)))
      refine aw_cond2 (by simp (disch := first | decide | omega) only [hc, hsh, han, rowB, hlb, hrk, go_sem, ↓reduceIte]; rfl) ?_; first | refine .inl ⟨by first | rfl | exact decide_eq_true (by omega) | exact decide_eq_true (by assumption) | (simp (disch := first | decide | omega) only [if_pos_d, if_neg_d, decide_eq_true_eq, Bool.not_eq_true', decide_eq_false_iff_not]; omega), ?_⟩ | refine .inr ⟨by first | rfl | exact decide_eq_false (by omega) | exact decide_eq_false (by assumption) | (simp (disch := first | decide | omega) only [if_pos_d, if_neg_d, decide_eq_true_eq, Bool.not_eq_true', decide_eq_false_iff_not]; omega), ?_⟩
      (repeat (first | apply aw_seq | apply aw_block | apply aw_skip | apply aw_label | apply aw_exit | ((first | refine aw_region (hideO fun QQ hQQ => ?_) | refine aw_draw mixed (hideD fun QQ hQQ => ?_)); simp (maxSteps := 400000) (disch := first | decide | omega) only [hc, hsh, han, rowB, hlb, hrk, go_sem, ↓reduceIte]; try (first | with_reducible refine unhide hQQ ?_ | refine ⟨by kernel_rfl, unhide hQQ ?_⟩); clear hQQ QQ) | with_reducible first | apply then_n | apply block_n | apply then_x | apply then_r | apply nog_n | apply nog_r | apply block_r | apply block_e (by decide) | apply block_x (by decide)))
      refine ⟨⟨k + 1, by omega⟩, ?_, weak_round ?_ (by first | rfl | (simp only [hc, hsh, han, rowB, hlb, hrk, go_sem, ↓reduceIte]))⟩
      rotate_left
      · simp only [e1, ← hrow, ← hlen2]
        (simp only [hc, hsh, han, rowB, hlb, hrk, go_sem, ↓reduceIte]; try rfl)
      · simp only; omega
    | false =>
      rw [htb, if_neg (by decide)] at hbit e1
      rw [List.append_nil] at e1
      subst hbit
      (repeat (first | apply aw_seq | apply aw_block | apply aw_skip | apply aw_label | apply aw_exit | ((first | refine aw_region (hideO fun QQ hQQ => ?_) | refine aw_draw mixed (hideD fun QQ hQQ => ?_)); simp (maxSteps := 400000) (disch := first | decide | omega) only [hc, hsh, han, rowB, go_sem, ↓reduceIte]; try (first | with_reducible refine unhide hQQ ?_ | refine ⟨by kernel_rfl, unhide hQQ ?_⟩); clear hQQ QQ) | with_reducible first | apply then_n | apply block_n | apply then_x | apply then_r | apply nog_n | apply nog_r | apply block_r | apply block_e (by decide) | apply block_x (by decide)))
      refine aw_cond2 (by simp (disch := first | decide | omega) only [hc, hsh, han, rowB, go_sem, ↓reduceIte]; rfl) ?_; first | refine .inl ⟨by first | rfl | exact decide_eq_true (by omega) | exact decide_eq_true (by assumption) | (simp (disch := first | decide | omega) only [if_pos_d, if_neg_d, decide_eq_true_eq, Bool.not_eq_true', decide_eq_false_iff_not]; omega), ?_⟩ | refine .inr ⟨by first | rfl | exact decide_eq_false (by omega) | exact decide_eq_false (by assumption) | (simp (disch := first | decide | omega) only [if_pos_d, if_neg_d, decide_eq_true_eq, Bool.not_eq_true', decide_eq_false_iff_not]; omega), ?_⟩
      (repeat (first | apply aw_seq | apply aw_block | apply aw_skip | apply aw_label | apply aw_exit | ((first | refine aw_region (hideO fun QQ hQQ => ?_) | refine aw_draw mixed (hideD fun QQ hQQ => ?_)); simp (maxSteps := 400000) (disch := first | decide | omega) only [hc, hsh, han, rowB, go_sem, ↓reduceIte]; try (first | with_reducible refine unhide hQQ ?_ | refine ⟨by kernel_rfl, unhide hQQ ?_⟩); clear hQQ QQ) | with_reducible first | apply then_n | apply block_n | apply then_x | apply then_r | apply nog_n | apply nog_r | apply block_r | apply block_e (by decide) | apply block_x (by decide)))
      refine aw_cond2 (by simp (disch := first | decide | omega) only [hc, hsh, han, rowB, go_sem, ↓reduceIte]; rfl) ?_; first | refine .inl ⟨by first | rfl | exact decide_eq_true (by omega) | exact decide_eq_true (by assumption) | (simp (disch := first | decide | omega) only [if_pos_d, if_neg_d, decide_eq_true_eq, Bool.not_eq_true', decide_eq_false_iff_not]; omega), ?_⟩ | refine .inr ⟨by first | rfl | exact decide_eq_false (by omega) | exact decide_eq_false (by assumption) | (simp (disch := first | decide | omega) only [if_pos_d, if_neg_d, decide_eq_true_eq, Bool.not_eq_true', decide_eq_false_iff_not]; omega), ?_⟩
      (repeat (first | apply aw_seq | apply aw_block | apply aw_skip | apply aw_label | apply aw_exit | ((first | refine aw_region (hideO fun QQ hQQ => ?_) | refine aw_draw mixed (hideD fun QQ hQQ => ?_)); simp (maxSteps := 400000) (disch := first | decide | omega) only [hc, hsh, han, rowB, go_sem, ↓reduceIte]; try (first | with_reducible refine unhide hQQ ?_ | refine ⟨by kernel_rfl, unhide hQQ ?_⟩); clear hQQ QQ) | with_reducible first | apply then_n | apply block_n | apply then_x | apply then_r | apply nog_n | apply nog_r | apply block_r | apply block_e (by decide) | apply block_x (by decide)))
      refine ⟨⟨k + 1, by omega⟩, ?_, weak_round ?_ (by first | rfl | (simp only [hc, hsh, han, rowB, go_sem, ↓reduceIte]))⟩
      rotate_left
      · simp only [e1]
        (simp only [hc, hsh, han, rowB, go_sem, ↓reduceIte]; try rfl)
      · simp only; omega
  · have hke : k = tests.length := by omega
    subst hke
    generalize selT tests x tests.length = sl at *
    have htk : List.take sl.length (List.map rowB sl) = List.map rowB sl := List.take_of_length_le (by simp)
    have hll : (List.map rowB sl).length = sl.length := by simp
    (repeat (first | apply aw_seq | apply aw_block | apply aw_skip | apply aw_label | apply aw_exit | ((first | refine aw_region (hideO fun QQ hQQ => ?_) | refine aw_draw mixed (hideD fun QQ hQQ => ?_)); simp (maxSteps := 400000) (disch := first | decide | omega) only [htk, hll, go_sem, ↓reduceIte]; try (first | with_reducible refine unhide hQQ ?_ | refine ⟨by kernel_rfl, unhide hQQ ?_⟩); clear hQQ QQ) | with_reducible first | apply then_n | apply block_n | apply then_x | apply then_r | apply nog_n | apply nog_r | apply block_r | apply block_e (by decide) | apply block_x (by decide)))
    refine aw_cond2 (by simp (disch := first | decide | omega) only [htk, hll, go_sem, ↓reduceIte]; rfl) ?_; first | refine .inl ⟨by first | rfl | exact decide_eq_true (by omega) | exact decide_eq_true (by assumption) | (simp (disch := first | decide | omega) only [if_pos_d, if_neg_d, decide_eq_true_eq, Bool.not_eq_true', decide_eq_false_iff_not]; omega), ?_⟩ | refine .inr ⟨by first | rfl | exact decide_eq_false (by omega) | exact decide_eq_false (by assumption) | (simp (disch := first | decide | omega) only [if_pos_d, if_neg_d, decide_eq_true_eq, Bool.not_eq_true', decide_eq_false_iff_not]; omega), ?_⟩
    (repeat (first | apply aw_seq | apply aw_block | apply aw_skip | apply aw_label | apply aw_exit | ((first | refine aw_region (hideO fun QQ hQQ => ?_) | refine aw_draw mixed (hideD fun QQ hQQ => ?_)); simp (maxSteps := 400000) (disch := first | decide | omega) only [htk, hll, go_sem, ↓reduceIte]; try (first | with_reducible refine unhide hQQ ?_ | refine ⟨by kernel_rfl, unhide hQQ ?_⟩); clear hQQ QQ) | with_reducible first | apply then_n | apply block_n | apply then_x | apply then_r | apply nog_n | apply nog_r | apply block_r | apply block_e (by decide) | apply block_x (by decide)))
    ((refine callO_ok rfl rfl 22 true rfl (by simp (disch := first | decide | omega) only [htk, hll, go_sem, ↓reduceIte]; try rfl) (fun _ => rfl) (hc) Try.func22 rfl (by decide) ?_); simp (maxSteps := 400000) (disch := first | decide | omega) only [htk, hll, go_sem, ↓reduceIte]; try (with_reducible refine unhide hQQ ?_; clear hQQ QQ)); (repeat (first | apply aw_seq | apply aw_block | apply aw_skip | apply aw_label | apply aw_exit | ((first | refine aw_region (hideO fun QQ hQQ => ?_) | refine aw_draw mixed (hideD fun QQ hQQ => ?_)); simp (maxSteps := 400000) (disch := first | decide | omega) only [htk, hll, go_sem, ↓reduceIte]; try (first | with_reducible refine unhide hQQ ?_ | refine ⟨by kernel_rfl, unhide hQQ ?_⟩); clear hQQ QQ) | with_reducible first | apply then_n | apply block_n | apply then_x | apply then_r | apply nog_n | apply nog_r | apply block_r | apply block_e (by decide) | apply block_x (by decide)))
    (refine aw_ret ⟨.inr rfl, (by simp (maxSteps := 400000) (disch := first | decide | omega) only [go_sem, ↓reduceIte]; try rfl), (by simp (maxSteps := 400000) (disch := first | decide | omega) only [go_sem, ↓reduceIte]; try rfl), (by simp only [List.mem_cons, List.mem_nil_iff, forall_eq_or_imp, forall_eq, false_imp_iff, implies_true, or_false, and_true]; simp (maxSteps := 400000) (disch := first | decide | omega) only [go_sem, ↓reduceIte]; try exact ⟨rfl, rfl⟩)⟩)
end
end Go.Proofs.Ytknikcpeacmpmaa
