/- burr: the document's Burr: what is valid. -/
import Derived.Test.YtknikcpeacmpmaaBwE
set_option linter.all false
namespace Go.Proofs.Ytknikcpeacmpmaa
open Go Go.RowKit Go.Sh Go.Pv
set_option maxHeartbeats 8000000
set_option maxRecDepth 8000
set_option pp.maxSteps 60000
theorem and_diff {a b : Nat} : (a &&& b = a) ↔ diffN a b = 0 := by
  rw [sub_iff]
  constructor
  · intro h i hi
    rw [← h, Nat.testBit_and, Bool.and_eq_true] at hi
    exact hi.2
  · intro h
    apply Nat.eq_of_testBit_eq
    intro i
    rw [Nat.testBit_and]
    cases ha : a.testBit i with
    | false => rfl
    | true => rw [h i ha]; rfl
section
variable {n lo hi top : Int} {bales : List (Int × Int)} {tests : List (Int × Bool)}
attribute [local go_sem] rowB get_someB
theorem ok_Burr : FunOK Try.prog 35 [buR n lo hi top bales tests] (.one (.one (.v (.bool (burrB n lo hi top bales tests))))) := by
  have w1 := ok_in n 1 5
  have w2 := ok_in lo 0 hi
  cases b1 : inB n 1 5
  · rw [b1] at w1
    have hbv : burrB n lo hi top bales tests = false := by simp [burrB, headB, b1]
    rw [hbv]
    refine fun_ok (nt := 110) (rs := [.tmp 2]) Try.func35 rfl rfl rfl (by simp) fun Z w0 => ?_; simp only [initFr, avR, List.map_cons, List.map_nil]
    simp only [buR, List.map_cons, List.map_nil]
    try simp only [List.append_eq, List.cons_append, List.nil_append]
    refine tw ?_; try with_reducible intro QQ hQQ
    (refine cD 84 rfl rfl rfl (w1) Try.func84 rfl ?_); refine td ?_; try clear hQQ QQ
    refine tw ?_; try with_reducible intro QQ hQQ
    refine ti ?_; try clear hQQ QQ
    refine tw ?_; try with_reducible intro QQ hQQ
    refine aw_ret ?_; refine ⟨.inr rfl, ?_⟩; simp only [resA, res1, go_sem, ↓reduceIte]
  rw [b1] at w1
  cases b2 : inB lo 0 hi
  · rw [b2] at w2
    have hbv : burrB n lo hi top bales tests = false := by
      have : (decide (0 ≤ lo) && decide (lo ≤ hi)) = false := b2
      simp only [burrB, headB, b1, Bool.true_and, this, Bool.false_and]
    rw [hbv]
    refine fun_ok (nt := 110) (rs := [.tmp 2]) Try.func35 rfl rfl rfl (by simp) fun Z w0 => ?_; simp only [initFr, avR, List.map_cons, List.map_nil]
    simp only [buR, List.map_cons, List.map_nil]
    try simp only [List.append_eq, List.cons_append, List.nil_append]
    refine tw ?_; try with_reducible intro QQ hQQ
    (refine cD 84 rfl rfl rfl (w1) Try.func84 rfl ?_); refine td ?_; try clear hQQ QQ
    (refine cD 84 rfl rfl rfl (w2) Try.func84 rfl ?_); refine td ?_; try clear hQQ QQ
    refine tw ?_; try with_reducible intro QQ hQQ
    refine ti ?_; try clear hQQ QQ
    refine tw ?_; try with_reducible intro QQ hQQ
    refine aw_ret ?_; refine ⟨.inr rfl, ?_⟩; simp only [resA, res1, go_sem, ↓reduceIte]
  rw [b2] at w2
  have hlo : 0 ≤ lo ∧ lo ≤ hi := by simpa [inB] using b2
  have hn5 : 1 ≤ n ∧ n ≤ 5 := by simpa [inB] using b1
  by_cases b3 : hi ≤ n
  rotate_left
  · have hbv : burrB n lo hi top bales tests = false := by simp [burrB, headB, b3]
    rw [hbv]
    refine fun_ok (nt := 110) (rs := [.tmp 2]) Try.func35 rfl rfl rfl (by simp) fun Z w0 => ?_; simp only [initFr, avR, List.map_cons, List.map_nil]
    simp only [buR, List.map_cons, List.map_nil]
    try simp only [List.append_eq, List.cons_append, List.nil_append]
    refine tw ?_; try with_reducible intro QQ hQQ
    (refine cD 84 rfl rfl rfl (w1) Try.func84 rfl ?_); refine td ?_; try clear hQQ QQ
    (refine cD 84 rfl rfl rfl (w2) Try.func84 rfl ?_); refine td ?_; try clear hQQ QQ
    refine tw ?_; try with_reducible intro QQ hQQ
    refine ti ?_; try clear hQQ QQ
    refine tw ?_; try with_reducible intro QQ hQQ
    refine aw_ret ?_; refine ⟨.inr rfl, ?_⟩; simp only [resA, res1, go_sem, ↓reduceIte]
  by_cases b4 : bales.length ≤ 6
  rotate_left
  · have hbv : burrB n lo hi top bales tests = false := by simp [burrB, headB, b4]
    rw [hbv]
    refine fun_ok (nt := 110) (rs := [.tmp 2]) Try.func35 rfl rfl rfl (by simp) fun Z w0 => ?_; simp only [initFr, avR, List.map_cons, List.map_nil]
    simp only [buR, List.map_cons, List.map_nil]
    try simp only [List.append_eq, List.cons_append, List.nil_append]
    refine tw ?_; try with_reducible intro QQ hQQ
    (refine cD 84 rfl rfl rfl (w1) Try.func84 rfl ?_); refine td ?_; try clear hQQ QQ
    (refine cD 84 rfl rfl rfl (w2) Try.func84 rfl ?_); refine td ?_; try clear hQQ QQ
    refine tw ?_; try with_reducible intro QQ hQQ
    refine ti ?_; try clear hQQ QQ
    refine tw ?_; try with_reducible intro QQ hQQ
    refine aw_ret ?_; refine ⟨.inr rfl, ?_⟩; simp only [resA, res1, go_sem, ↓reduceIte]
  have hpw := ok_power bales.length (by omega)
  have hp64 := pow64 b4
  have hp0 := Nat.two_pow_pos bales.length
  have ecast : ((2 ^ bales.length : Nat) : Int) - 1 = ((2 ^ bales.length - 1 : Nat) : Int) := by omega
  have w5 := ok_in top 0 ((2 ^ bales.length - 1 : Nat) : Int)
  cases b5 : inB top 0 ((2 ^ bales.length - 1 : Nat) : Int)
  · rw [b5] at w5
    have hbv : burrB n lo hi top bales tests = false := by simp only [burrB, headB, b5, Bool.and_false, Bool.false_and]
    rw [hbv]
    generalize 2 ^ bales.length = X at *
    refine fun_ok (nt := 110) (rs := [.tmp 2]) Try.func35 rfl rfl rfl (by simp) fun Z w0 => ?_; simp only [initFr, avR, List.map_cons, List.map_nil]
    simp only [buR, List.map_cons, List.map_nil]
    try simp only [List.append_eq, List.cons_append, List.nil_append]
    (repeat (first | apply aw_seq | apply aw_block | apply aw_skip | apply aw_label | apply aw_exit | ((first | refine aw_region (hideO fun QQ hQQ => ?_) | refine aw_draw mixed (hideD fun QQ hQQ => ?_)); simp (maxSteps := 400000) (disch := first | decide | omega) only [ecast, go_sem, ↓reduceIte]; try (first | with_reducible refine unhide hQQ ?_ | refine ⟨by kernel_rfl, unhide hQQ ?_⟩); clear hQQ QQ) | with_reducible first | apply then_n | apply block_n | apply then_x | apply then_r | apply nog_n | apply nog_r | apply block_r | apply block_e (by decide) | apply block_x (by decide)))
    (refine callD_ok rfl rfl 84 true rfl (by simp (disch := first | decide | omega) only [ecast, go_sem, ↓reduceIte]; try rfl) (fun _ => rfl) (w1) Try.func84 rfl (by decide) ?_); simp (maxSteps := 400000) (disch := first | decide | omega) only [ecast, go_sem, ↓reduceIte]; (try (refine ⟨by kernel_rfl, unhide hQQ ?_⟩; clear hQQ QQ; (repeat with_reducible first | apply then_n | apply block_n | apply then_x | apply then_r | apply nog_n | apply nog_r | apply block_r | apply block_e (by decide) | apply block_x (by decide))))
    (refine callD_ok rfl rfl 84 true rfl (by simp (disch := first | decide | omega) only [ecast, go_sem, ↓reduceIte]; try rfl) (fun _ => rfl) (w2) Try.func84 rfl (by decide) ?_); simp (maxSteps := 400000) (disch := first | decide | omega) only [ecast, go_sem, ↓reduceIte]; (try (refine ⟨by kernel_rfl, unhide hQQ ?_⟩; clear hQQ QQ; (repeat with_reducible first | apply then_n | apply block_n | apply then_x | apply then_r | apply nog_n | apply nog_r | apply block_r | apply block_e (by decide) | apply block_x (by decide))))
    (refine callD_ok rfl rfl 72 true rfl (by simp (disch := first | decide | omega) only [ecast, go_sem, ↓reduceIte]; try rfl) (fun _ => rfl) (hpw) Try.func72 rfl (by decide) ?_); simp (maxSteps := 400000) (disch := first | decide | omega) only [ecast, go_sem, ↓reduceIte]; (try (refine ⟨by kernel_rfl, unhide hQQ ?_⟩; clear hQQ QQ; (repeat with_reducible first | apply then_n | apply block_n | apply then_x | apply then_r | apply nog_n | apply nog_r | apply block_r | apply block_e (by decide) | apply block_x (by decide))))
    (refine callD_ok rfl rfl 84 true rfl (by simp (disch := first | decide | omega) only [ecast, go_sem, ↓reduceIte]; try rfl) (fun _ => rfl) (w5) Try.func84 rfl (by decide) ?_); simp (maxSteps := 400000) (disch := first | decide | omega) only [ecast, go_sem, ↓reduceIte]; (try (refine ⟨by kernel_rfl, unhide hQQ ?_⟩; clear hQQ QQ; (repeat with_reducible first | apply then_n | apply block_n | apply then_x | apply then_r | apply nog_n | apply nog_r | apply block_r | apply block_e (by decide) | apply block_x (by decide))))
    (repeat (first | apply aw_seq | apply aw_block | apply aw_skip | apply aw_label | apply aw_exit | ((first | refine aw_region (hideO fun QQ hQQ => ?_) | refine aw_draw mixed (hideD fun QQ hQQ => ?_)); simp (maxSteps := 400000) (disch := first | decide | omega) only [ecast, go_sem, ↓reduceIte]; try (first | with_reducible refine unhide hQQ ?_ | refine ⟨by kernel_rfl, unhide hQQ ?_⟩); clear hQQ QQ) | with_reducible first | apply then_n | apply block_n | apply then_x | apply then_r | apply nog_n | apply nog_r | apply block_r | apply block_e (by decide) | apply block_x (by decide)))
    refine aw_cond2 (by simp (disch := first | decide | omega) only [ecast, go_sem, ↓reduceIte]; rfl) ?_; first | refine .inl ⟨by first | rfl | exact decide_eq_true (by omega) | exact decide_eq_true (by assumption) | (simp (disch := first | decide | omega) only [if_pos_d, if_neg_d, decide_eq_true_eq, Bool.not_eq_true', decide_eq_false_iff_not]; omega), ?_⟩ | refine .inr ⟨by first | rfl | exact decide_eq_false (by omega) | exact decide_eq_false (by assumption) | (simp (disch := first | decide | omega) only [if_pos_d, if_neg_d, decide_eq_true_eq, Bool.not_eq_true', decide_eq_false_iff_not]; omega), ?_⟩
    (repeat (first | apply aw_seq | apply aw_block | apply aw_skip | apply aw_label | apply aw_exit | ((first | refine aw_region (hideO fun QQ hQQ => ?_) | refine aw_draw mixed (hideD fun QQ hQQ => ?_)); simp (maxSteps := 400000) (disch := first | decide | omega) only [ecast, go_sem, ↓reduceIte]; try (first | with_reducible refine unhide hQQ ?_ | refine ⟨by kernel_rfl, unhide hQQ ?_⟩); clear hQQ QQ) | with_reducible first | apply then_n | apply block_n | apply then_x | apply then_r | apply nog_n | apply nog_r | apply block_r | apply block_e (by decide) | apply block_x (by decide)))
    refine aw_ret ?_; refine ⟨.inr rfl, ?_⟩; simp only [resA, res1, go_sem, ↓reduceIte]
  rw [b5] at w5
  by_cases b6 : tests.length ≤ 6
  rotate_left
  · have hbv : burrB n lo hi top bales tests = false := by simp [burrB, headB, b6]
    rw [hbv]
    generalize 2 ^ bales.length = X at *
    refine fun_ok (nt := 110) (rs := [.tmp 2]) Try.func35 rfl rfl rfl (by simp) fun Z w0 => ?_; simp only [initFr, avR, List.map_cons, List.map_nil]
    simp only [buR, List.map_cons, List.map_nil]
    try simp only [List.append_eq, List.cons_append, List.nil_append]
    (repeat (first | apply aw_seq | apply aw_block | apply aw_skip | apply aw_label | apply aw_exit | ((first | refine aw_region (hideO fun QQ hQQ => ?_) | refine aw_draw mixed (hideD fun QQ hQQ => ?_)); simp (maxSteps := 400000) (disch := first | decide | omega) only [ecast, go_sem, ↓reduceIte]; try (first | with_reducible refine unhide hQQ ?_ | refine ⟨by kernel_rfl, unhide hQQ ?_⟩); clear hQQ QQ) | with_reducible first | apply then_n | apply block_n | apply then_x | apply then_r | apply nog_n | apply nog_r | apply block_r | apply block_e (by decide) | apply block_x (by decide)))
    (refine callD_ok rfl rfl 84 true rfl (by simp (disch := first | decide | omega) only [ecast, go_sem, ↓reduceIte]; try rfl) (fun _ => rfl) (w1) Try.func84 rfl (by decide) ?_); simp (maxSteps := 400000) (disch := first | decide | omega) only [ecast, go_sem, ↓reduceIte]; (try (refine ⟨by kernel_rfl, unhide hQQ ?_⟩; clear hQQ QQ; (repeat with_reducible first | apply then_n | apply block_n | apply then_x | apply then_r | apply nog_n | apply nog_r | apply block_r | apply block_e (by decide) | apply block_x (by decide))))
    (refine callD_ok rfl rfl 84 true rfl (by simp (disch := first | decide | omega) only [ecast, go_sem, ↓reduceIte]; try rfl) (fun _ => rfl) (w2) Try.func84 rfl (by decide) ?_); simp (maxSteps := 400000) (disch := first | decide | omega) only [ecast, go_sem, ↓reduceIte]; (try (refine ⟨by kernel_rfl, unhide hQQ ?_⟩; clear hQQ QQ; (repeat with_reducible first | apply then_n | apply block_n | apply then_x | apply then_r | apply nog_n | apply nog_r | apply block_r | apply block_e (by decide) | apply block_x (by decide))))
    (refine callD_ok rfl rfl 72 true rfl (by simp (disch := first | decide | omega) only [ecast, go_sem, ↓reduceIte]; try rfl) (fun _ => rfl) (hpw) Try.func72 rfl (by decide) ?_); simp (maxSteps := 400000) (disch := first | decide | omega) only [ecast, go_sem, ↓reduceIte]; (try (refine ⟨by kernel_rfl, unhide hQQ ?_⟩; clear hQQ QQ; (repeat with_reducible first | apply then_n | apply block_n | apply then_x | apply then_r | apply nog_n | apply nog_r | apply block_r | apply block_e (by decide) | apply block_x (by decide))))
    (refine callD_ok rfl rfl 84 true rfl (by simp (disch := first | decide | omega) only [ecast, go_sem, ↓reduceIte]; try rfl) (fun _ => rfl) (w5) Try.func84 rfl (by decide) ?_); simp (maxSteps := 400000) (disch := first | decide | omega) only [ecast, go_sem, ↓reduceIte]; (try (refine ⟨by kernel_rfl, unhide hQQ ?_⟩; clear hQQ QQ; (repeat with_reducible first | apply then_n | apply block_n | apply then_x | apply then_r | apply nog_n | apply nog_r | apply block_r | apply block_e (by decide) | apply block_x (by decide))))
    (repeat (first | apply aw_seq | apply aw_block | apply aw_skip | apply aw_label | apply aw_exit | ((first | refine aw_region (hideO fun QQ hQQ => ?_) | refine aw_draw mixed (hideD fun QQ hQQ => ?_)); simp (maxSteps := 400000) (disch := first | decide | omega) only [ecast, go_sem, ↓reduceIte]; try (first | with_reducible refine unhide hQQ ?_ | refine ⟨by kernel_rfl, unhide hQQ ?_⟩); clear hQQ QQ) | with_reducible first | apply then_n | apply block_n | apply then_x | apply then_r | apply nog_n | apply nog_r | apply block_r | apply block_e (by decide) | apply block_x (by decide)))
    refine aw_cond2 (by simp (disch := first | decide | omega) only [ecast, go_sem, ↓reduceIte]; rfl) ?_; first | refine .inl ⟨by first | rfl | exact decide_eq_true (by omega) | exact decide_eq_true (by assumption) | (simp (disch := first | decide | omega) only [if_pos_d, if_neg_d, decide_eq_true_eq, Bool.not_eq_true', decide_eq_false_iff_not]; omega), ?_⟩ | refine .inr ⟨by first | rfl | exact decide_eq_false (by omega) | exact decide_eq_false (by assumption) | (simp (disch := first | decide | omega) only [if_pos_d, if_neg_d, decide_eq_true_eq, Bool.not_eq_true', decide_eq_false_iff_not]; omega), ?_⟩
    (repeat (first | apply aw_seq | apply aw_block | apply aw_skip | apply aw_label | apply aw_exit | ((first | refine aw_region (hideO fun QQ hQQ => ?_) | refine aw_draw mixed (hideD fun QQ hQQ => ?_)); simp (maxSteps := 400000) (disch := first | decide | omega) only [ecast, go_sem, ↓reduceIte]; try (first | with_reducible refine unhide hQQ ?_ | refine ⟨by kernel_rfl, unhide hQQ ?_⟩); clear hQQ QQ) | with_reducible first | apply then_n | apply block_n | apply then_x | apply then_r | apply nog_n | apply nog_r | apply block_r | apply block_e (by decide) | apply block_x (by decide)))
    refine aw_ret ?_; refine ⟨.inr rfl, ?_⟩; simp only [resA, res1, go_sem, ↓reduceIte]
  have hhd : headB n lo hi top bales tests = true := by simp only [headB, b1, b5, decide_eq_true hlo.1, decide_eq_true hlo.2, decide_eq_true b3, decide_eq_true b4, decide_eq_true b6]; rfl
  have hbv : burrB n lo hi top bales tests = (bales.all (baleB n) && tests.all fun t => inB t.1 0 ((bales.length : Int) - 1)) := by unfold burrB; rw [hhd, Bool.true_and]
  rw [hbv]
  clear hhd hbv
  obtain ⟨N, rfl⟩ : ∃ N : Nat, n = N := ⟨n.toNat, by omega⟩
  have hq32 := pow32 (N := N) (by omega)
  have hq0 := Nat.two_pow_pos N
  have hpN := ok_power N (by omega)
  have hbal : ∀ x, baleB (N : Int) x = ((inB x.1 0 ((2 ^ N - 1 : Nat) : Int) && inB x.2 0 ((2 ^ N - 1 : Nat) : Int)) && decide (diffN x.1.toNat x.2.toNat = 0)) := fun x => by unfold baleB; rw [Int.toNat_natCast]
  have ecast2 : ((2 ^ N : Nat) : Int) - 1 = ((2 ^ N - 1 : Nat) : Int) := by omega
  obtain ⟨R, hR⟩ : ∃ R, (bales.all (baleB (N : Int)) && tests.all fun t => inB t.1 0 ((bales.length : Int) - 1)) = R := ⟨_, rfl⟩
  rw [hR]
  generalize 2 ^ bales.length = X at *
  generalize 2 ^ N = Y at *
  refine fun_ok (nt := 110) (rs := [.tmp 2]) Try.func35 rfl rfl rfl (by simp) fun Z w0 => ?_; simp only [initFr, avR, List.map_cons, List.map_nil]
  simp only [buR, List.map_cons, List.map_nil]
  try simp only [List.append_eq, List.cons_append, List.nil_append]
  (repeat (first | apply aw_seq | apply aw_block | apply aw_skip | apply aw_label | apply aw_exit | ((first | refine aw_region (hideO fun QQ hQQ => ?_) | refine aw_draw mixed (hideD fun QQ hQQ => ?_)); simp (maxSteps := 400000) (disch := first | decide | omega) only [ecast, go_sem, ↓reduceIte]; try (first | with_reducible refine unhide hQQ ?_ | refine ⟨by kernel_rfl, unhide hQQ ?_⟩); clear hQQ QQ) | with_reducible first | apply then_n | apply block_n | apply then_x | apply then_r | apply nog_n | apply nog_r | apply block_r | apply block_e (by decide) | apply block_x (by decide)))
  (refine callD_ok rfl rfl 84 true rfl (by simp (disch := first | decide | omega) only [ecast, go_sem, ↓reduceIte]; try rfl) (fun _ => rfl) (w1) Try.func84 rfl (by decide) ?_); simp (maxSteps := 400000) (disch := first | decide | omega) only [ecast, go_sem, ↓reduceIte]; (try (refine ⟨by kernel_rfl, unhide hQQ ?_⟩; clear hQQ QQ; (repeat with_reducible first | apply then_n | apply block_n | apply then_x | apply then_r | apply nog_n | apply nog_r | apply block_r | apply block_e (by decide) | apply block_x (by decide))))
  (refine callD_ok rfl rfl 84 true rfl (by simp (disch := first | decide | omega) only [ecast, go_sem, ↓reduceIte]; try rfl) (fun _ => rfl) (w2) Try.func84 rfl (by decide) ?_); simp (maxSteps := 400000) (disch := first | decide | omega) only [ecast, go_sem, ↓reduceIte]; (try (refine ⟨by kernel_rfl, unhide hQQ ?_⟩; clear hQQ QQ; (repeat with_reducible first | apply then_n | apply block_n | apply then_x | apply then_r | apply nog_n | apply nog_r | apply block_r | apply block_e (by decide) | apply block_x (by decide))))
  (refine callD_ok rfl rfl 72 true rfl (by simp (disch := first | decide | omega) only [ecast, go_sem, ↓reduceIte]; try rfl) (fun _ => rfl) (hpw) Try.func72 rfl (by decide) ?_); simp (maxSteps := 400000) (disch := first | decide | omega) only [ecast, go_sem, ↓reduceIte]; (try (refine ⟨by kernel_rfl, unhide hQQ ?_⟩; clear hQQ QQ; (repeat with_reducible first | apply then_n | apply block_n | apply then_x | apply then_r | apply nog_n | apply nog_r | apply block_r | apply block_e (by decide) | apply block_x (by decide))))
  (refine callD_ok rfl rfl 84 true rfl (by simp (disch := first | decide | omega) only [ecast, go_sem, ↓reduceIte]; try rfl) (fun _ => rfl) (w5) Try.func84 rfl (by decide) ?_); simp (maxSteps := 400000) (disch := first | decide | omega) only [ecast, go_sem, ↓reduceIte]; (try (refine ⟨by kernel_rfl, unhide hQQ ?_⟩; clear hQQ QQ; (repeat with_reducible first | apply then_n | apply block_n | apply then_x | apply then_r | apply nog_n | apply nog_r | apply block_r | apply block_e (by decide) | apply block_x (by decide))))
  (repeat (first | apply aw_seq | apply aw_block | apply aw_skip | apply aw_label | apply aw_exit | ((first | refine aw_region (hideO fun QQ hQQ => ?_) | refine aw_draw mixed (hideD fun QQ hQQ => ?_)); simp (maxSteps := 400000) (disch := first | decide | omega) only [ecast, go_sem, ↓reduceIte]; try (first | with_reducible refine unhide hQQ ?_ | refine ⟨by kernel_rfl, unhide hQQ ?_⟩); clear hQQ QQ) | with_reducible first | apply then_n | apply block_n | apply then_x | apply then_r | apply nog_n | apply nog_r | apply block_r | apply block_e (by decide) | apply block_x (by decide)))
  refine aw_cond2 (by simp (disch := first | decide | omega) only [ecast, go_sem, ↓reduceIte]; rfl) ?_; first | refine .inl ⟨by first | rfl | exact decide_eq_true (by omega) | exact decide_eq_true (by assumption) | (simp (disch := first | decide | omega) only [if_pos_d, if_neg_d, decide_eq_true_eq, Bool.not_eq_true', decide_eq_false_iff_not]; omega), ?_⟩ | refine .inr ⟨by first | rfl | exact decide_eq_false (by omega) | exact decide_eq_false (by assumption) | (simp (disch := first | decide | omega) only [if_pos_d, if_neg_d, decide_eq_true_eq, Bool.not_eq_true', decide_eq_false_iff_not]; omega), ?_⟩
  (repeat (first | apply aw_seq | apply aw_block | apply aw_skip | apply aw_label | apply aw_exit | ((first | refine aw_region (hideO fun QQ hQQ => ?_) | refine aw_draw mixed (hideD fun QQ hQQ => ?_)); simp (maxSteps := 400000) (disch := first | decide | omega) only [ecast, go_sem, ↓reduceIte]; try (first | with_reducible refine unhide hQQ ?_ | refine ⟨by kernel_rfl, unhide hQQ ?_⟩); clear hQQ QQ) | with_reducible first | apply then_n | apply block_n | apply then_x | apply then_r | apply nog_n | apply nog_r | apply block_r | apply block_e (by decide) | apply block_x (by decide)))
  refine aw_weak (weak_keep [1, 3] (by simp only [go_sem, ↓reduceIte]; rfl)) ?_
  refine aw_loop_ov (ι := { i : Nat // i ≤ bales.length ∧ ∀ k, k < i → baleB (N : Int) (bales.getD k (0, 0)) = true }) (fun i => [(3, iA i.1)]) (fun _ => []) (fun i => bales.length - i.1) ⟨0, by omega, fun k hk => absurd hk (by omega)⟩ (by first | rfl | (simp only [go_sem, ↓reduceIte]; first | done | rfl | (simp; try rfl))) ?_
  rintro ⟨i, hi', hik⟩
  simp (disch := decide) only [ov, ovL, AL.get_nil, AL.get_eq, AL.get_ne, Option.getD_some, Option.getD_none]
  by_cases hil : i < bales.length
  · have hbi := hbal (bales.getD i (0, 0))
    have hx : baleB (N : Int) (bales.getD i (0, 0)) = true → ∀ k, k < i + 1 → baleB (N : Int) (bales.getD k (0, 0)) = true := fun h0 k hk => by
      by_cases e : k = i
      · rw [e]; exact h0
      · exact hik k (by omega)
    have hbadR : baleB (N : Int) (bales.getD i (0, 0)) = false → R = false := fun h0 => by
      rw [← hR]
      have : bales.all (baleB (N : Int)) = false := by
        rw [← Bool.not_eq_true]
        intro ha
        have := (all_get (d := (0, 0))).1 ha i hil
        rw [h0] at this; cases this
      rw [this, Bool.false_and]
    obtain ⟨⟨s, p⟩, hsp⟩ : ∃ q, bales.getD i (0, 0) = q := ⟨_, rfl⟩
    rw [hsp] at hbi hx hbadR
    dsimp only at hbi
    have v1 := ok_in s 0 ((Y - 1 : Nat) : Int)
    have v2 := ok_in p 0 ((Y - 1 : Nat) : Int)
    clear hik hR hbal
    cases c1 : inB s 0 ((Y - 1 : Nat) : Int)
    · rw [c1] at v1
      rw [c1, Bool.false_and, Bool.false_and] at hbi
      rw [hbadR hbi]
      (repeat (first | apply aw_seq | apply aw_block | apply aw_skip | apply aw_label | apply aw_exit | ((first | refine aw_region (hideO fun QQ hQQ => ?_) | refine aw_draw mixed (hideD fun QQ hQQ => ?_)); simp (maxSteps := 400000) (disch := first | decide | omega) only [hsp, ecast2, go_sem, ↓reduceIte]; try (first | with_reducible refine unhide hQQ ?_ | refine ⟨by kernel_rfl, unhide hQQ ?_⟩); clear hQQ QQ) | with_reducible first | apply then_n | apply block_n | apply then_x | apply then_r | apply nog_n | apply nog_r | apply block_r | apply block_e (by decide) | apply block_x (by decide)))
      refine aw_cond2 (by simp (disch := first | decide | omega) only [hsp, ecast2, go_sem, ↓reduceIte]; rfl) ?_; first | refine .inl ⟨by first | rfl | exact decide_eq_true (by omega) | exact decide_eq_true (by assumption) | (simp (disch := first | decide | omega) only [if_pos_d, if_neg_d, decide_eq_true_eq, Bool.not_eq_true', decide_eq_false_iff_not]; omega), ?_⟩ | refine .inr ⟨by first | rfl | exact decide_eq_false (by omega) | exact decide_eq_false (by assumption) | (simp (disch := first | decide | omega) only [if_pos_d, if_neg_d, decide_eq_true_eq, Bool.not_eq_true', decide_eq_false_iff_not]; omega), ?_⟩
      (repeat (first | apply aw_seq | apply aw_block | apply aw_skip | apply aw_label | apply aw_exit | ((first | refine aw_region (hideO fun QQ hQQ => ?_) | refine aw_draw mixed (hideD fun QQ hQQ => ?_)); simp (maxSteps := 400000) (disch := first | decide | omega) only [hsp, ecast2, go_sem, ↓reduceIte]; try (first | with_reducible refine unhide hQQ ?_ | refine ⟨by kernel_rfl, unhide hQQ ?_⟩); clear hQQ QQ) | with_reducible first | apply then_n | apply block_n | apply then_x | apply then_r | apply nog_n | apply nog_r | apply block_r | apply block_e (by decide) | apply block_x (by decide)))
      (refine callD_ok rfl rfl 72 true rfl (by simp (disch := first | decide | omega) only [hsp, ecast2, go_sem, ↓reduceIte]; try rfl) (fun _ => rfl) (hpN) Try.func72 rfl (by decide) ?_); simp (maxSteps := 400000) (disch := first | decide | omega) only [hsp, ecast2, go_sem, ↓reduceIte]; (try (refine ⟨by kernel_rfl, unhide hQQ ?_⟩; clear hQQ QQ; (repeat with_reducible first | apply then_n | apply block_n | apply then_x | apply then_r | apply nog_n | apply nog_r | apply block_r | apply block_e (by decide) | apply block_x (by decide))))
      (refine callD_ok rfl rfl 84 true rfl (by simp (disch := first | decide | omega) only [hsp, ecast2, go_sem, ↓reduceIte]; try rfl) (fun _ => rfl) (v1) Try.func84 rfl (by decide) ?_); simp (maxSteps := 400000) (disch := first | decide | omega) only [hsp, ecast2, go_sem, ↓reduceIte]; (try (refine ⟨by kernel_rfl, unhide hQQ ?_⟩; clear hQQ QQ; (repeat with_reducible first | apply then_n | apply block_n | apply then_x | apply then_r | apply nog_n | apply nog_r | apply block_r | apply block_e (by decide) | apply block_x (by decide))))
      (repeat (first | apply aw_seq | apply aw_block | apply aw_skip | apply aw_label | apply aw_exit | ((first | refine aw_region (hideO fun QQ hQQ => ?_) | refine aw_draw mixed (hideD fun QQ hQQ => ?_)); simp (maxSteps := 400000) (disch := first | decide | omega) only [hsp, ecast2, go_sem, ↓reduceIte]; try (first | with_reducible refine unhide hQQ ?_ | refine ⟨by kernel_rfl, unhide hQQ ?_⟩); clear hQQ QQ) | with_reducible first | apply then_n | apply block_n | apply then_x | apply then_r | apply nog_n | apply nog_r | apply block_r | apply block_e (by decide) | apply block_x (by decide)))
      refine aw_cond2 (by simp (disch := first | decide | omega) only [hsp, ecast2, go_sem, ↓reduceIte]; rfl) ?_; first | refine .inl ⟨by first | rfl | exact decide_eq_true (by omega) | exact decide_eq_true (by assumption) | (simp (disch := first | decide | omega) only [if_pos_d, if_neg_d, decide_eq_true_eq, Bool.not_eq_true', decide_eq_false_iff_not]; omega), ?_⟩ | refine .inr ⟨by first | rfl | exact decide_eq_false (by omega) | exact decide_eq_false (by assumption) | (simp (disch := first | decide | omega) only [if_pos_d, if_neg_d, decide_eq_true_eq, Bool.not_eq_true', decide_eq_false_iff_not]; omega), ?_⟩
      (repeat (first | apply aw_seq | apply aw_block | apply aw_skip | apply aw_label | apply aw_exit | ((first | refine aw_region (hideO fun QQ hQQ => ?_) | refine aw_draw mixed (hideD fun QQ hQQ => ?_)); simp (maxSteps := 400000) (disch := first | decide | omega) only [hsp, ecast2, go_sem, ↓reduceIte]; try (first | with_reducible refine unhide hQQ ?_ | refine ⟨by kernel_rfl, unhide hQQ ?_⟩); clear hQQ QQ) | with_reducible first | apply then_n | apply block_n | apply then_x | apply then_r | apply nog_n | apply nog_r | apply block_r | apply block_e (by decide) | apply block_x (by decide)))
      refine aw_ret ?_; refine ⟨.inr rfl, ?_⟩; simp only [resA, res1, go_sem, ↓reduceIte]
    rw [c1] at v1
    cases c2 : inB p 0 ((Y - 1 : Nat) : Int)
    · rw [c2] at v2
      rw [c2, Bool.and_false, Bool.false_and] at hbi
      rw [hbadR hbi]
      (repeat (first | apply aw_seq | apply aw_block | apply aw_skip | apply aw_label | apply aw_exit | ((first | refine aw_region (hideO fun QQ hQQ => ?_) | refine aw_draw mixed (hideD fun QQ hQQ => ?_)); simp (maxSteps := 400000) (disch := first | decide | omega) only [hsp, ecast2, go_sem, ↓reduceIte]; try (first | with_reducible refine unhide hQQ ?_ | refine ⟨by kernel_rfl, unhide hQQ ?_⟩); clear hQQ QQ) | with_reducible first | apply then_n | apply block_n | apply then_x | apply then_r | apply nog_n | apply nog_r | apply block_r | apply block_e (by decide) | apply block_x (by decide)))
      refine aw_cond2 (by simp (disch := first | decide | omega) only [hsp, ecast2, go_sem, ↓reduceIte]; rfl) ?_; first | refine .inl ⟨by first | rfl | exact decide_eq_true (by omega) | exact decide_eq_true (by assumption) | (simp (disch := first | decide | omega) only [if_pos_d, if_neg_d, decide_eq_true_eq, Bool.not_eq_true', decide_eq_false_iff_not]; omega), ?_⟩ | refine .inr ⟨by first | rfl | exact decide_eq_false (by omega) | exact decide_eq_false (by assumption) | (simp (disch := first | decide | omega) only [if_pos_d, if_neg_d, decide_eq_true_eq, Bool.not_eq_true', decide_eq_false_iff_not]; omega), ?_⟩
      (repeat (first | apply aw_seq | apply aw_block | apply aw_skip | apply aw_label | apply aw_exit | ((first | refine aw_region (hideO fun QQ hQQ => ?_) | refine aw_draw mixed (hideD fun QQ hQQ => ?_)); simp (maxSteps := 400000) (disch := first | decide | omega) only [hsp, ecast2, go_sem, ↓reduceIte]; try (first | with_reducible refine unhide hQQ ?_ | refine ⟨by kernel_rfl, unhide hQQ ?_⟩); clear hQQ QQ) | with_reducible first | apply then_n | apply block_n | apply then_x | apply then_r | apply nog_n | apply nog_r | apply block_r | apply block_e (by decide) | apply block_x (by decide)))
      (refine callD_ok rfl rfl 72 true rfl (by simp (disch := first | decide | omega) only [hsp, ecast2, go_sem, ↓reduceIte]; try rfl) (fun _ => rfl) (hpN) Try.func72 rfl (by decide) ?_); simp (maxSteps := 400000) (disch := first | decide | omega) only [hsp, ecast2, go_sem, ↓reduceIte]; (try (refine ⟨by kernel_rfl, unhide hQQ ?_⟩; clear hQQ QQ; (repeat with_reducible first | apply then_n | apply block_n | apply then_x | apply then_r | apply nog_n | apply nog_r | apply block_r | apply block_e (by decide) | apply block_x (by decide))))
      (refine callD_ok rfl rfl 84 true rfl (by simp (disch := first | decide | omega) only [hsp, ecast2, go_sem, ↓reduceIte]; try rfl) (fun _ => rfl) (v1) Try.func84 rfl (by decide) ?_); simp (maxSteps := 400000) (disch := first | decide | omega) only [hsp, ecast2, go_sem, ↓reduceIte]; (try (refine ⟨by kernel_rfl, unhide hQQ ?_⟩; clear hQQ QQ; (repeat with_reducible first | apply then_n | apply block_n | apply then_x | apply then_r | apply nog_n | apply nog_r | apply block_r | apply block_e (by decide) | apply block_x (by decide))))
      (refine callD_ok rfl rfl 72 true rfl (by simp (disch := first | decide | omega) only [hsp, ecast2, go_sem, ↓reduceIte]; try rfl) (fun _ => rfl) (hpN) Try.func72 rfl (by decide) ?_); simp (maxSteps := 400000) (disch := first | decide | omega) only [hsp, ecast2, go_sem, ↓reduceIte]; (try (refine ⟨by kernel_rfl, unhide hQQ ?_⟩; clear hQQ QQ; (repeat with_reducible first | apply then_n | apply block_n | apply then_x | apply then_r | apply nog_n | apply nog_r | apply block_r | apply block_e (by decide) | apply block_x (by decide))))
      (refine callD_ok rfl rfl 84 true rfl (by simp (disch := first | decide | omega) only [hsp, ecast2, go_sem, ↓reduceIte]; try rfl) (fun _ => rfl) (v2) Try.func84 rfl (by decide) ?_); simp (maxSteps := 400000) (disch := first | decide | omega) only [hsp, ecast2, go_sem, ↓reduceIte]; (try (refine ⟨by kernel_rfl, unhide hQQ ?_⟩; clear hQQ QQ; (repeat with_reducible first | apply then_n | apply block_n | apply then_x | apply then_r | apply nog_n | apply nog_r | apply block_r | apply block_e (by decide) | apply block_x (by decide))))
      (repeat (first | apply aw_seq | apply aw_block | apply aw_skip | apply aw_label | apply aw_exit | ((first | refine aw_region (hideO fun QQ hQQ => ?_) | refine aw_draw mixed (hideD fun QQ hQQ => ?_)); simp (maxSteps := 400000) (disch := first | decide | omega) only [hsp, ecast2, go_sem, ↓reduceIte]; try (first | with_reducible refine unhide hQQ ?_ | refine ⟨by kernel_rfl, unhide hQQ ?_⟩); clear hQQ QQ) | with_reducible first | apply then_n | apply block_n | apply then_x | apply then_r | apply nog_n | apply nog_r | apply block_r | apply block_e (by decide) | apply block_x (by decide)))
      refine aw_cond2 (by simp (disch := first | decide | omega) only [hsp, ecast2, go_sem, ↓reduceIte]; rfl) ?_; first | refine .inl ⟨by first | rfl | exact decide_eq_true (by omega) | exact decide_eq_true (by assumption) | (simp (disch := first | decide | omega) only [if_pos_d, if_neg_d, decide_eq_true_eq, Bool.not_eq_true', decide_eq_false_iff_not]; omega), ?_⟩ | refine .inr ⟨by first | rfl | exact decide_eq_false (by omega) | exact decide_eq_false (by assumption) | (simp (disch := first | decide | omega) only [if_pos_d, if_neg_d, decide_eq_true_eq, Bool.not_eq_true', decide_eq_false_iff_not]; omega), ?_⟩
      (repeat (first | apply aw_seq | apply aw_block | apply aw_skip | apply aw_label | apply aw_exit | ((first | refine aw_region (hideO fun QQ hQQ => ?_) | refine aw_draw mixed (hideD fun QQ hQQ => ?_)); simp (maxSteps := 400000) (disch := first | decide | omega) only [hsp, ecast2, go_sem, ↓reduceIte]; try (first | with_reducible refine unhide hQQ ?_ | refine ⟨by kernel_rfl, unhide hQQ ?_⟩); clear hQQ QQ) | with_reducible first | apply then_n | apply block_n | apply then_x | apply then_r | apply nog_n | apply nog_r | apply block_r | apply block_e (by decide) | apply block_x (by decide)))
      refine aw_ret ?_; refine ⟨.inr rfl, ?_⟩; simp only [resA, res1, go_sem, ↓reduceIte]
    rw [c2] at v2
    rw [c1, c2, Bool.true_and, Bool.true_and] at hbi
    simp only [inB, Bool.and_eq_true, decide_eq_true_eq] at c1 c2
    obtain ⟨s, rfl⟩ : ∃ k : Nat, s = k := ⟨s.toNat, by omega⟩
    obtain ⟨p, rfl⟩ : ∃ k : Nat, p = k := ⟨p.toNat, by omega⟩
    have hB := ok_both s p (by omega) (by omega)
    rw [Int.toNat_natCast, Int.toNat_natCast] at hbi
    have had := and_diff (a := s) (b := p)
    generalize s &&& p = sp at *
    by_cases c3 : sp = s
    · have hx2 := hx (by rw [hbi]; exact decide_eq_true (had.1 c3))
      clear had hbi hx hbadR
      subst c3
      (repeat (first | apply aw_seq | apply aw_block | apply aw_skip | apply aw_label | apply aw_exit | ((first | refine aw_region (hideO fun QQ hQQ => ?_) | refine aw_draw mixed (hideD fun QQ hQQ => ?_)); simp (maxSteps := 400000) (disch := first | decide | omega) only [hsp, ecast2, go_sem, ↓reduceIte]; try (first | with_reducible refine unhide hQQ ?_ | refine ⟨by kernel_rfl, unhide hQQ ?_⟩); clear hQQ QQ) | with_reducible first | apply then_n | apply block_n | apply then_x | apply then_r | apply nog_n | apply nog_r | apply block_r | apply block_e (by decide) | apply block_x (by decide)))
      refine aw_cond2 (by simp (disch := first | decide | omega) only [hsp, ecast2, go_sem, ↓reduceIte]; rfl) ?_; first | refine .inl ⟨by first | rfl | exact decide_eq_true (by omega) | exact decide_eq_true (by assumption) | (simp (disch := first | decide | omega) only [if_pos_d, if_neg_d, decide_eq_true_eq, Bool.not_eq_true', decide_eq_false_iff_not]; omega), ?_⟩ | refine .inr ⟨by first | rfl | exact decide_eq_false (by omega) | exact decide_eq_false (by assumption) | (simp (disch := first | decide | omega) only [if_pos_d, if_neg_d, decide_eq_true_eq, Bool.not_eq_true', decide_eq_false_iff_not]; omega), ?_⟩
      (repeat (first | apply aw_seq | apply aw_block | apply aw_skip | apply aw_label | apply aw_exit | ((first | refine aw_region (hideO fun QQ hQQ => ?_) | refine aw_draw mixed (hideD fun QQ hQQ => ?_)); simp (maxSteps := 400000) (disch := first | decide | omega) only [hsp, ecast2, go_sem, ↓reduceIte]; try (first | with_reducible refine unhide hQQ ?_ | refine ⟨by kernel_rfl, unhide hQQ ?_⟩); clear hQQ QQ) | with_reducible first | apply then_n | apply block_n | apply then_x | apply then_r | apply nog_n | apply nog_r | apply block_r | apply block_e (by decide) | apply block_x (by decide)))
      (refine callD_ok rfl rfl 72 true rfl (by simp (disch := first | decide | omega) only [hsp, ecast2, go_sem, ↓reduceIte]; try rfl) (fun _ => rfl) (hpN) Try.func72 rfl (by decide) ?_); simp (maxSteps := 400000) (disch := first | decide | omega) only [hsp, ecast2, go_sem, ↓reduceIte]; (try (refine ⟨by kernel_rfl, unhide hQQ ?_⟩; clear hQQ QQ; (repeat with_reducible first | apply then_n | apply block_n | apply then_x | apply then_r | apply nog_n | apply nog_r | apply block_r | apply block_e (by decide) | apply block_x (by decide))))
      (refine callD_ok rfl rfl 84 true rfl (by simp (disch := first | decide | omega) only [hsp, ecast2, go_sem, ↓reduceIte]; try rfl) (fun _ => rfl) (v1) Try.func84 rfl (by decide) ?_); simp (maxSteps := 400000) (disch := first | decide | omega) only [hsp, ecast2, go_sem, ↓reduceIte]; (try (refine ⟨by kernel_rfl, unhide hQQ ?_⟩; clear hQQ QQ; (repeat with_reducible first | apply then_n | apply block_n | apply then_x | apply then_r | apply nog_n | apply nog_r | apply block_r | apply block_e (by decide) | apply block_x (by decide))))
      (refine callD_ok rfl rfl 72 true rfl (by simp (disch := first | decide | omega) only [hsp, ecast2, go_sem, ↓reduceIte]; try rfl) (fun _ => rfl) (hpN) Try.func72 rfl (by decide) ?_); simp (maxSteps := 400000) (disch := first | decide | omega) only [hsp, ecast2, go_sem, ↓reduceIte]; (try (refine ⟨by kernel_rfl, unhide hQQ ?_⟩; clear hQQ QQ; (repeat with_reducible first | apply then_n | apply block_n | apply then_x | apply then_r | apply nog_n | apply nog_r | apply block_r | apply block_e (by decide) | apply block_x (by decide))))
      (refine callD_ok rfl rfl 84 true rfl (by simp (disch := first | decide | omega) only [hsp, ecast2, go_sem, ↓reduceIte]; try rfl) (fun _ => rfl) (v2) Try.func84 rfl (by decide) ?_); simp (maxSteps := 400000) (disch := first | decide | omega) only [hsp, ecast2, go_sem, ↓reduceIte]; (try (refine ⟨by kernel_rfl, unhide hQQ ?_⟩; clear hQQ QQ; (repeat with_reducible first | apply then_n | apply block_n | apply then_x | apply then_r | apply nog_n | apply nog_r | apply block_r | apply block_e (by decide) | apply block_x (by decide))))
      (refine callD_ok rfl rfl 62 true rfl (by simp (disch := first | decide | omega) only [hsp, ecast2, go_sem, ↓reduceIte]; try rfl) (fun _ => rfl) (hB) Try.func62 rfl (by decide) ?_); simp (maxSteps := 400000) (disch := first | decide | omega) only [hsp, ecast2, go_sem, ↓reduceIte]; (try (refine ⟨by kernel_rfl, unhide hQQ ?_⟩; clear hQQ QQ; (repeat with_reducible first | apply then_n | apply block_n | apply then_x | apply then_r | apply nog_n | apply nog_r | apply block_r | apply block_e (by decide) | apply block_x (by decide))))
      (repeat (first | apply aw_seq | apply aw_block | apply aw_skip | apply aw_label | apply aw_exit | ((first | refine aw_region (hideO fun QQ hQQ => ?_) | refine aw_draw mixed (hideD fun QQ hQQ => ?_)); simp (maxSteps := 400000) (disch := first | decide | omega) only [hsp, ecast2, go_sem, ↓reduceIte]; try (first | with_reducible refine unhide hQQ ?_ | refine ⟨by kernel_rfl, unhide hQQ ?_⟩); clear hQQ QQ) | with_reducible first | apply then_n | apply block_n | apply then_x | apply then_r | apply nog_n | apply nog_r | apply block_r | apply block_e (by decide) | apply block_x (by decide)))
      refine aw_cond2 (by simp (disch := first | decide | omega) only [hsp, ecast2, go_sem, ↓reduceIte]; rfl) ?_; first | refine .inl ⟨by first | rfl | exact decide_eq_true (by omega) | exact decide_eq_true (by assumption) | (simp (disch := first | decide | omega) only [if_pos_d, if_neg_d, decide_eq_true_eq, Bool.not_eq_true', decide_eq_false_iff_not]; omega), ?_⟩ | refine .inr ⟨by first | rfl | exact decide_eq_false (by omega) | exact decide_eq_false (by assumption) | (simp (disch := first | decide | omega) only [if_pos_d, if_neg_d, decide_eq_true_eq, Bool.not_eq_true', decide_eq_false_iff_not]; omega), ?_⟩
      (repeat (first | apply aw_seq | apply aw_block | apply aw_skip | apply aw_label | apply aw_exit | ((first | refine aw_region (hideO fun QQ hQQ => ?_) | refine aw_draw mixed (hideD fun QQ hQQ => ?_)); simp (maxSteps := 400000) (disch := first | decide | omega) only [hsp, ecast2, go_sem, ↓reduceIte]; try (first | with_reducible refine unhide hQQ ?_ | refine ⟨by kernel_rfl, unhide hQQ ?_⟩); clear hQQ QQ) | with_reducible first | apply then_n | apply block_n | apply then_x | apply then_r | apply nog_n | apply nog_r | apply block_r | apply block_e (by decide) | apply block_x (by decide)))
      (refine ⟨⟨i + 1, by omega, hx2⟩, ?_, weak_round (by simp only [hsp, ecast2, go_sem, ↓reduceIte]; first | done | rfl) (by first | rfl | (simp only [hsp, ecast2, go_sem, ↓reduceIte]))⟩; (simp only; omega))
    · rw [hbadR (by rw [hbi]; exact decide_eq_false (fun h => c3 (had.2 h)))]
      clear had hbi hx hbadR
      (repeat (first | apply aw_seq | apply aw_block | apply aw_skip | apply aw_label | apply aw_exit | ((first | refine aw_region (hideO fun QQ hQQ => ?_) | refine aw_draw mixed (hideD fun QQ hQQ => ?_)); simp (maxSteps := 400000) (disch := first | decide | omega) only [hsp, ecast2, go_sem, ↓reduceIte]; try (first | with_reducible refine unhide hQQ ?_ | refine ⟨by kernel_rfl, unhide hQQ ?_⟩); clear hQQ QQ) | with_reducible first | apply then_n | apply block_n | apply then_x | apply then_r | apply nog_n | apply nog_r | apply block_r | apply block_e (by decide) | apply block_x (by decide)))
      refine aw_cond2 (by simp (disch := first | decide | omega) only [hsp, ecast2, go_sem, ↓reduceIte]; rfl) ?_; first | refine .inl ⟨by first | rfl | exact decide_eq_true (by omega) | exact decide_eq_true (by assumption) | (simp (disch := first | decide | omega) only [if_pos_d, if_neg_d, decide_eq_true_eq, Bool.not_eq_true', decide_eq_false_iff_not]; omega), ?_⟩ | refine .inr ⟨by first | rfl | exact decide_eq_false (by omega) | exact decide_eq_false (by assumption) | (simp (disch := first | decide | omega) only [if_pos_d, if_neg_d, decide_eq_true_eq, Bool.not_eq_true', decide_eq_false_iff_not]; omega), ?_⟩
      (repeat (first | apply aw_seq | apply aw_block | apply aw_skip | apply aw_label | apply aw_exit | ((first | refine aw_region (hideO fun QQ hQQ => ?_) | refine aw_draw mixed (hideD fun QQ hQQ => ?_)); simp (maxSteps := 400000) (disch := first | decide | omega) only [hsp, ecast2, go_sem, ↓reduceIte]; try (first | with_reducible refine unhide hQQ ?_ | refine ⟨by kernel_rfl, unhide hQQ ?_⟩); clear hQQ QQ) | with_reducible first | apply then_n | apply block_n | apply then_x | apply then_r | apply nog_n | apply nog_r | apply block_r | apply block_e (by decide) | apply block_x (by decide)))
      (refine callD_ok rfl rfl 72 true rfl (by simp (disch := first | decide | omega) only [hsp, ecast2, go_sem, ↓reduceIte]; try rfl) (fun _ => rfl) (hpN) Try.func72 rfl (by decide) ?_); simp (maxSteps := 400000) (disch := first | decide | omega) only [hsp, ecast2, go_sem, ↓reduceIte]; (try (refine ⟨by kernel_rfl, unhide hQQ ?_⟩; clear hQQ QQ; (repeat with_reducible first | apply then_n | apply block_n | apply then_x | apply then_r | apply nog_n | apply nog_r | apply block_r | apply block_e (by decide) | apply block_x (by decide))))
      (refine callD_ok rfl rfl 84 true rfl (by simp (disch := first | decide | omega) only [hsp, ecast2, go_sem, ↓reduceIte]; try rfl) (fun _ => rfl) (v1) Try.func84 rfl (by decide) ?_); simp (maxSteps := 400000) (disch := first | decide | omega) only [hsp, ecast2, go_sem, ↓reduceIte]; (try (refine ⟨by kernel_rfl, unhide hQQ ?_⟩; clear hQQ QQ; (repeat with_reducible first | apply then_n | apply block_n | apply then_x | apply then_r | apply nog_n | apply nog_r | apply block_r | apply block_e (by decide) | apply block_x (by decide))))
      (refine callD_ok rfl rfl 72 true rfl (by simp (disch := first | decide | omega) only [hsp, ecast2, go_sem, ↓reduceIte]; try rfl) (fun _ => rfl) (hpN) Try.func72 rfl (by decide) ?_); simp (maxSteps := 400000) (disch := first | decide | omega) only [hsp, ecast2, go_sem, ↓reduceIte]; (try (refine ⟨by kernel_rfl, unhide hQQ ?_⟩; clear hQQ QQ; (repeat with_reducible first | apply then_n | apply block_n | apply then_x | apply then_r | apply nog_n | apply nog_r | apply block_r | apply block_e (by decide) | apply block_x (by decide))))
      (refine callD_ok rfl rfl 84 true rfl (by simp (disch := first | decide | omega) only [hsp, ecast2, go_sem, ↓reduceIte]; try rfl) (fun _ => rfl) (v2) Try.func84 rfl (by decide) ?_); simp (maxSteps := 400000) (disch := first | decide | omega) only [hsp, ecast2, go_sem, ↓reduceIte]; (try (refine ⟨by kernel_rfl, unhide hQQ ?_⟩; clear hQQ QQ; (repeat with_reducible first | apply then_n | apply block_n | apply then_x | apply then_r | apply nog_n | apply nog_r | apply block_r | apply block_e (by decide) | apply block_x (by decide))))
      (refine callD_ok rfl rfl 62 true rfl (by simp (disch := first | decide | omega) only [hsp, ecast2, go_sem, ↓reduceIte]; try rfl) (fun _ => rfl) (hB) Try.func62 rfl (by decide) ?_); simp (maxSteps := 400000) (disch := first | decide | omega) only [hsp, ecast2, go_sem, ↓reduceIte]; (try (refine ⟨by kernel_rfl, unhide hQQ ?_⟩; clear hQQ QQ; (repeat with_reducible first | apply then_n | apply block_n | apply then_x | apply then_r | apply nog_n | apply nog_r | apply block_r | apply block_e (by decide) | apply block_x (by decide))))
      (repeat (first | apply aw_seq | apply aw_block | apply aw_skip | apply aw_label | apply aw_exit | ((first | refine aw_region (hideO fun QQ hQQ => ?_) | refine aw_draw mixed (hideD fun QQ hQQ => ?_)); simp (maxSteps := 400000) (disch := first | decide | omega) only [hsp, ecast2, go_sem, ↓reduceIte]; try (first | with_reducible refine unhide hQQ ?_ | refine ⟨by kernel_rfl, unhide hQQ ?_⟩); clear hQQ QQ) | with_reducible first | apply then_n | apply block_n | apply then_x | apply then_r | apply nog_n | apply nog_r | apply block_r | apply block_e (by decide) | apply block_x (by decide)))
      refine aw_cond2 (by simp (disch := first | decide | omega) only [hsp, ecast2, go_sem, ↓reduceIte]; rfl) ?_; first | refine .inl ⟨by first | rfl | exact decide_eq_true (by omega) | exact decide_eq_true (by assumption) | (simp (disch := first | decide | omega) only [if_pos_d, if_neg_d, decide_eq_true_eq, Bool.not_eq_true', decide_eq_false_iff_not]; omega), ?_⟩ | refine .inr ⟨by first | rfl | exact decide_eq_false (by omega) | exact decide_eq_false (by assumption) | (simp (disch := first | decide | omega) only [if_pos_d, if_neg_d, decide_eq_true_eq, Bool.not_eq_true', decide_eq_false_iff_not]; omega), ?_⟩
      (repeat (first | apply aw_seq | apply aw_block | apply aw_skip | apply aw_label | apply aw_exit | ((first | refine aw_region (hideO fun QQ hQQ => ?_) | refine aw_draw mixed (hideD fun QQ hQQ => ?_)); simp (maxSteps := 400000) (disch := first | decide | omega) only [hsp, ecast2, go_sem, ↓reduceIte]; try (first | with_reducible refine unhide hQQ ?_ | refine ⟨by kernel_rfl, unhide hQQ ?_⟩); clear hQQ QQ) | with_reducible first | apply then_n | apply block_n | apply then_x | apply then_r | apply nog_n | apply nog_r | apply block_r | apply block_e (by decide) | apply block_x (by decide)))
      refine aw_ret ?_; refine ⟨.inr rfl, ?_⟩; simp only [resA, res1, go_sem, ↓reduceIte]
  · have hie : i = bales.length := by omega
    subst hie
    have hall : bales.all (baleB (N : Int)) = true := all_get.2 hik
    rw [hall, Bool.true_and] at hR
    clear hik hall hbal
    refine tw ?_; try with_reducible intro QQ hQQ
    refine ti ?_; try clear hQQ QQ
    refine tw ?_; try with_reducible intro QQ hQQ
    refine aw_weak (weak_keep [1, 5] (by simp only [go_sem, ↓reduceIte]; rfl)) ?_
    refine aw_loop_ov (ι := { k : Nat // k ≤ tests.length ∧ ∀ j, j < k → inB (tests.getD j (0, false)).1 0 ((bales.length : Int) - 1) = true }) (fun k => [(5, iA k.1)]) (fun _ => []) (fun k => tests.length - k.1) ⟨0, by omega, fun k hk => absurd hk (by omega)⟩ (by first | rfl | (simp only [go_sem, ↓reduceIte]; first | done | rfl | (simp; try rfl))) ?_
    rintro ⟨k, hk, hkj⟩
    simp (disch := decide) only [ov, ovL, AL.get_nil, AL.get_eq, AL.get_ne, Option.getD_some, Option.getD_none]
    by_cases hkl : k < tests.length
    · have hx : inB (tests.getD k (0, false)).1 0 ((bales.length : Int) - 1) = true → ∀ j, j < k + 1 → inB (tests.getD j (0, false)).1 0 ((bales.length : Int) - 1) = true := fun h0 j hj => by
        by_cases e : j = k
        · rw [e]; exact h0
        · exact hkj j (by omega)
      have hbadR : inB (tests.getD k (0, false)).1 0 ((bales.length : Int) - 1) = false → R = false := fun h0 => by
        rw [← hR, ← Bool.not_eq_true]
        intro ha
        have := (all_get (d := (0, false))).1 ha k hkl
        rw [h0] at this; cases this
      obtain ⟨⟨c, fb⟩, hc⟩ : ∃ t, tests.getD k (0, false) = t := ⟨_, rfl⟩
      rw [hc] at hx hbadR
      dsimp only at hx hbadR
      have v1 := ok_in c 0 ((bales.length : Int) - 1)
      clear hkj hR
      cases c1 : inB c 0 ((bales.length : Int) - 1)
      · rw [c1] at v1
        rw [hbadR c1]
        (repeat (first | apply aw_seq | apply aw_block | apply aw_skip | apply aw_label | apply aw_exit | ((first | refine aw_region (hideO fun QQ hQQ => ?_) | refine aw_draw mixed (hideD fun QQ hQQ => ?_)); simp (maxSteps := 400000) (disch := first | decide | omega) only [hc, go_sem, ↓reduceIte]; try (first | with_reducible refine unhide hQQ ?_ | refine ⟨by kernel_rfl, unhide hQQ ?_⟩); clear hQQ QQ) | with_reducible first | apply then_n | apply block_n | apply then_x | apply then_r | apply nog_n | apply nog_r | apply block_r | apply block_e (by decide) | apply block_x (by decide)))
        refine aw_cond2 (by simp (disch := first | decide | omega) only [hc, go_sem, ↓reduceIte]; rfl) ?_; first | refine .inl ⟨by first | rfl | exact decide_eq_true (by omega) | exact decide_eq_true (by assumption) | (simp (disch := first | decide | omega) only [if_pos_d, if_neg_d, decide_eq_true_eq, Bool.not_eq_true', decide_eq_false_iff_not]; omega), ?_⟩ | refine .inr ⟨by first | rfl | exact decide_eq_false (by omega) | exact decide_eq_false (by assumption) | (simp (disch := first | decide | omega) only [if_pos_d, if_neg_d, decide_eq_true_eq, Bool.not_eq_true', decide_eq_false_iff_not]; omega), ?_⟩
        (repeat (first | apply aw_seq | apply aw_block | apply aw_skip | apply aw_label | apply aw_exit | ((first | refine aw_region (hideO fun QQ hQQ => ?_) | refine aw_draw mixed (hideD fun QQ hQQ => ?_)); simp (maxSteps := 400000) (disch := first | decide | omega) only [hc, go_sem, ↓reduceIte]; try (first | with_reducible refine unhide hQQ ?_ | refine ⟨by kernel_rfl, unhide hQQ ?_⟩); clear hQQ QQ) | with_reducible first | apply then_n | apply block_n | apply then_x | apply then_r | apply nog_n | apply nog_r | apply block_r | apply block_e (by decide) | apply block_x (by decide)))
        (refine callD_ok rfl rfl 84 true rfl (by simp (disch := first | decide | omega) only [hc, go_sem, ↓reduceIte]; try rfl) (fun _ => rfl) (v1) Try.func84 rfl (by decide) ?_); simp (maxSteps := 400000) (disch := first | decide | omega) only [hc, go_sem, ↓reduceIte]; (try (refine ⟨by kernel_rfl, unhide hQQ ?_⟩; clear hQQ QQ; (repeat with_reducible first | apply then_n | apply block_n | apply then_x | apply then_r | apply nog_n | apply nog_r | apply block_r | apply block_e (by decide) | apply block_x (by decide))))
        (repeat (first | apply aw_seq | apply aw_block | apply aw_skip | apply aw_label | apply aw_exit | ((first | refine aw_region (hideO fun QQ hQQ => ?_) | refine aw_draw mixed (hideD fun QQ hQQ => ?_)); simp (maxSteps := 400000) (disch := first | decide | omega) only [hc, go_sem, ↓reduceIte]; try (first | with_reducible refine unhide hQQ ?_ | refine ⟨by kernel_rfl, unhide hQQ ?_⟩); clear hQQ QQ) | with_reducible first | apply then_n | apply block_n | apply then_x | apply then_r | apply nog_n | apply nog_r | apply block_r | apply block_e (by decide) | apply block_x (by decide)))
        refine aw_cond2 (by simp (disch := first | decide | omega) only [hc, go_sem, ↓reduceIte]; rfl) ?_; first | refine .inl ⟨by first | rfl | exact decide_eq_true (by omega) | exact decide_eq_true (by assumption) | (simp (disch := first | decide | omega) only [if_pos_d, if_neg_d, decide_eq_true_eq, Bool.not_eq_true', decide_eq_false_iff_not]; omega), ?_⟩ | refine .inr ⟨by first | rfl | exact decide_eq_false (by omega) | exact decide_eq_false (by assumption) | (simp (disch := first | decide | omega) only [if_pos_d, if_neg_d, decide_eq_true_eq, Bool.not_eq_true', decide_eq_false_iff_not]; omega), ?_⟩
        (repeat (first | apply aw_seq | apply aw_block | apply aw_skip | apply aw_label | apply aw_exit | ((first | refine aw_region (hideO fun QQ hQQ => ?_) | refine aw_draw mixed (hideD fun QQ hQQ => ?_)); simp (maxSteps := 400000) (disch := first | decide | omega) only [hc, go_sem, ↓reduceIte]; try (first | with_reducible refine unhide hQQ ?_ | refine ⟨by kernel_rfl, unhide hQQ ?_⟩); clear hQQ QQ) | with_reducible first | apply then_n | apply block_n | apply then_x | apply then_r | apply nog_n | apply nog_r | apply block_r | apply block_e (by decide) | apply block_x (by decide)))
        refine aw_ret ?_; refine ⟨.inr rfl, ?_⟩; simp only [resA, res1, go_sem, ↓reduceIte]
      · rw [c1] at v1
        have hx := hx c1
        (repeat (first | apply aw_seq | apply aw_block | apply aw_skip | apply aw_label | apply aw_exit | ((first | refine aw_region (hideO fun QQ hQQ => ?_) | refine aw_draw mixed (hideD fun QQ hQQ => ?_)); simp (maxSteps := 400000) (disch := first | decide | omega) only [hc, go_sem, ↓reduceIte]; try (first | with_reducible refine unhide hQQ ?_ | refine ⟨by kernel_rfl, unhide hQQ ?_⟩); clear hQQ QQ) | with_reducible first | apply then_n | apply block_n | apply then_x | apply then_r | apply nog_n | apply nog_r | apply block_r | apply block_e (by decide) | apply block_x (by decide)))
        refine aw_cond2 (by simp (disch := first | decide | omega) only [hc, go_sem, ↓reduceIte]; rfl) ?_; first | refine .inl ⟨by first | rfl | exact decide_eq_true (by omega) | exact decide_eq_true (by assumption) | (simp (disch := first | decide | omega) only [if_pos_d, if_neg_d, decide_eq_true_eq, Bool.not_eq_true', decide_eq_false_iff_not]; omega), ?_⟩ | refine .inr ⟨by first | rfl | exact decide_eq_false (by omega) | exact decide_eq_false (by assumption) | (simp (disch := first | decide | omega) only [if_pos_d, if_neg_d, decide_eq_true_eq, Bool.not_eq_true', decide_eq_false_iff_not]; omega), ?_⟩
        (repeat (first | apply aw_seq | apply aw_block | apply aw_skip | apply aw_label | apply aw_exit | ((first | refine aw_region (hideO fun QQ hQQ => ?_) | refine aw_draw mixed (hideD fun QQ hQQ => ?_)); simp (maxSteps := 400000) (disch := first | decide | omega) only [hc, go_sem, ↓reduceIte]; try (first | with_reducible refine unhide hQQ ?_ | refine ⟨by kernel_rfl, unhide hQQ ?_⟩); clear hQQ QQ) | with_reducible first | apply then_n | apply block_n | apply then_x | apply then_r | apply nog_n | apply nog_r | apply block_r | apply block_e (by decide) | apply block_x (by decide)))
        (refine callD_ok rfl rfl 84 true rfl (by simp (disch := first | decide | omega) only [hc, go_sem, ↓reduceIte]; try rfl) (fun _ => rfl) (v1) Try.func84 rfl (by decide) ?_); simp (maxSteps := 400000) (disch := first | decide | omega) only [hc, go_sem, ↓reduceIte]; (try (refine ⟨by kernel_rfl, unhide hQQ ?_⟩; clear hQQ QQ; (repeat with_reducible first | apply then_n | apply block_n | apply then_x | apply then_r | apply nog_n | apply nog_r | apply block_r | apply block_e (by decide) | apply block_x (by decide))))
        (repeat (first | apply aw_seq | apply aw_block | apply aw_skip | apply aw_label | apply aw_exit | ((first | refine aw_region (hideO fun QQ hQQ => ?_) | refine aw_draw mixed (hideD fun QQ hQQ => ?_)); simp (maxSteps := 400000) (disch := first | decide | omega) only [hc, go_sem, ↓reduceIte]; try (first | with_reducible refine unhide hQQ ?_ | refine ⟨by kernel_rfl, unhide hQQ ?_⟩); clear hQQ QQ) | with_reducible first | apply then_n | apply block_n | apply then_x | apply then_r | apply nog_n | apply nog_r | apply block_r | apply block_e (by decide) | apply block_x (by decide)))
        refine aw_cond2 (by simp (disch := first | decide | omega) only [hc, go_sem, ↓reduceIte]; rfl) ?_; first | refine .inl ⟨by first | rfl | exact decide_eq_true (by omega) | exact decide_eq_true (by assumption) | (simp (disch := first | decide | omega) only [if_pos_d, if_neg_d, decide_eq_true_eq, Bool.not_eq_true', decide_eq_false_iff_not]; omega), ?_⟩ | refine .inr ⟨by first | rfl | exact decide_eq_false (by omega) | exact decide_eq_false (by assumption) | (simp (disch := first | decide | omega) only [if_pos_d, if_neg_d, decide_eq_true_eq, Bool.not_eq_true', decide_eq_false_iff_not]; omega), ?_⟩
        (repeat (first | apply aw_seq | apply aw_block | apply aw_skip | apply aw_label | apply aw_exit | ((first | refine aw_region (hideO fun QQ hQQ => ?_) | refine aw_draw mixed (hideD fun QQ hQQ => ?_)); simp (maxSteps := 400000) (disch := first | decide | omega) only [hc, go_sem, ↓reduceIte]; try (first | with_reducible refine unhide hQQ ?_ | refine ⟨by kernel_rfl, unhide hQQ ?_⟩); clear hQQ QQ) | with_reducible first | apply then_n | apply block_n | apply then_x | apply then_r | apply nog_n | apply nog_r | apply block_r | apply block_e (by decide) | apply block_x (by decide)))
        (refine ⟨⟨k + 1, by omega, hx⟩, ?_, weak_round (by simp only [hc, go_sem, ↓reduceIte]; first | done | rfl) (by first | rfl | (simp only [hc, go_sem, ↓reduceIte]))⟩; (simp only; omega))
    · have hke : k = tests.length := by omega
      subst hke
      have hall : (tests.all fun t => inB t.1 0 ((bales.length : Int) - 1)) = true := all_get.2 hkj
      rw [hall] at hR
      subst hR
      clear hkj hall
      refine tw ?_; try with_reducible intro QQ hQQ
      refine ti ?_; try clear hQQ QQ
      refine tw ?_; try with_reducible intro QQ hQQ
      refine aw_ret ?_; refine ⟨.inr rfl, ?_⟩; simp only [resA, res1, go_sem, ↓reduceIte]
end
end Go.Proofs.Ytknikcpeacmpmaa
