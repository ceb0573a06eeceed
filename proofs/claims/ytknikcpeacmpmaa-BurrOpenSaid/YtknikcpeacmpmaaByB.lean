/- THE LAW BurrOpen, walked. -/
import Derived.Test.YtknikcpeacmpmaaByA
set_option linter.all false
namespace Go.Proofs.Ytknikcpeacmpmaa
open Go Go.RowKit Go.Sh Go.Pv
set_option maxHeartbeats 8000000
set_option maxRecDepth 8000
set_option pp.maxSteps 60000
section
variable {n lo hi top : Int} {bales : List (Int × Int)} {tests : List (Int × Bool)}
theorem main_open (bits : Int) (hw : 0 ≤ bits ∧ bits ≤ 255) : FunOK Try.prog 8 [buR n lo hi top bales tests, .one (.v (.int .u8 bits))] (.one (.one (.v (.bool true)))) := by
  have hal := ok_alive
  have hl := ok_long n lo hi top bales tests
  have hB := ok_Burr (n := n) (lo := lo) (hi := hi) (top := top) (bales := bales) (tests := tests)
  cases b1 : decide (40 < max bales.length tests.length)
  rotate_left
  · rw [b1] at hl
    simp only [buR] at hl hB ⊢
    refine fun_ok (nt := 150) (rs := [.tmp 4]) Try.func8 rfl rfl rfl (by simp) fun Z w0 => ?_; simp only [initFr, avR, List.map_cons, List.map_nil]
    try simp only [List.append_eq, List.cons_append, List.nil_append]
    refine tw ?_; try with_reducible intro QQ hQQ
    ((refine cO 12 rfl rfl rfl (hl) Try.func12 rfl ?_); refine tu ?_; try clear hQQ QQ); refine tw ?_; try with_reducible intro QQ hQQ
    refine ti ?_; try clear hQQ QQ
    refine tw ?_; try with_reducible intro QQ hQQ
    ((refine cO 13 rfl rfl rfl (hal) Try.func13 rfl ?_); refine tu ?_; try clear hQQ QQ); refine tw ?_; try with_reducible intro QQ hQQ
    refine aw_ret ?_; refine ⟨.inr rfl, ?_⟩; simp only [resA, res1, go_sem, ↓reduceIte]
  rw [b1] at hl
  cases b2 : burrB n lo hi top bales tests
  · rw [b2] at hB
    simp only [buR] at hl hB ⊢
    refine fun_ok (nt := 150) (rs := [.tmp 4]) Try.func8 rfl rfl rfl (by simp) fun Z w0 => ?_; simp only [initFr, avR, List.map_cons, List.map_nil]
    try simp only [List.append_eq, List.cons_append, List.nil_append]
    refine tw ?_; try with_reducible intro QQ hQQ
    (refine cO 12 rfl rfl rfl (hl) Try.func12 rfl ?_); refine ts ?_; try clear hQQ QQ
    ((refine cO 35 rfl rfl rfl (hB) Try.func35 rfl ?_); refine tu ?_; try clear hQQ QQ); refine tw ?_; try with_reducible intro QQ hQQ
    refine ti ?_; try clear hQQ QQ
    refine tw ?_; try with_reducible intro QQ hQQ
    ((refine cO 13 rfl rfl rfl (hal) Try.func13 rfl ?_); refine tu ?_; try clear hQQ QQ); refine tw ?_; try with_reducible intro QQ hQQ
    refine aw_ret ?_; refine ⟨.inr rfl, ?_⟩; simp only [resA, res1, go_sem, ↓reduceIte]
  rw [b2] at hB
  have hO := ok_Open (n := n) (lo := lo) (hi := hi) (top := top) (bales := bales) (tests := tests)
  have hA := ok_Bales (n := n) (lo := lo) (hi := hi) (top := top) (bales := bales) (tests := tests)
  obtain ⟨N, L, U, T, rfl, rfl, rfl, rfl, hBk⟩ := bok_of b2
  have hcc : cntB N L U bales tests = (TR N L U bales tests).length := (show cntB N L U bales tests = cntF L U bales tests (2 ^ N) from rfl).trans (count_TR hBk.b6 hBk.te6)
  by_cases hne : TR N L U bales tests = []
  · have hwT : whyT N L U T bales tests = 10 := by simp [whyT, b2, hcc, hne]
    rw [hwT] at hO hA
    simp only [buR, ansN, ansR, if_true, show ¬ ((10 : Int) = 0) by decide, if_false] at hl hB hO hA ⊢
    refine fun_ok (nt := 150) (rs := [.tmp 4]) Try.func8 rfl rfl rfl (by simp) fun Z w0 => ?_; simp only [initFr, avR, List.map_cons, List.map_nil]
    try simp only [List.append_eq, List.cons_append, List.nil_append]
    refine tw ?_; try with_reducible intro QQ hQQ
    (refine cO 12 rfl rfl rfl (hl) Try.func12 rfl ?_); refine ts ?_; try clear hQQ QQ
    ((refine cO 35 rfl rfl rfl (hB) Try.func35 rfl ?_); refine tu ?_; try clear hQQ QQ); refine tw ?_; try with_reducible intro QQ hQQ
    refine ti ?_; try clear hQQ QQ
    refine tw ?_; try with_reducible intro QQ hQQ
    ((refine cO 25 rfl rfl rfl (hO) Try.func25 rfl ?_); refine tu ?_; try clear hQQ QQ); refine tw ?_; try with_reducible intro QQ hQQ
    ((refine cO 16 rfl rfl rfl (hA) Try.func16 rfl ?_); refine tu ?_; try clear hQQ QQ); refine tw ?_; try with_reducible intro QQ hQQ
    refine ti ?_; try clear hQQ QQ
    refine tw ?_; try with_reducible intro QQ hQQ
    refine ti ?_; try clear hQQ QQ
    refine tw ?_; try with_reducible intro QQ hQQ
    ((refine cO 13 rfl rfl rfl (hal) Try.func13 rfl ?_); refine tu ?_; try clear hQQ QQ); refine tw ?_; try with_reducible intro QQ hQQ
    refine aw_ret ?_; refine ⟨.inr rfl, ?_⟩; simp only [resA, res1, go_sem, ↓reduceIte]
  have hwT : whyT N L U T bales tests = 0 := by simp [whyT, b2, hcc, hne]
  rw [hwT] at hO hA
  have hs41 := fun x hx => s_open41 (S := x) hBk hx
  have hp6 := pow64 hBk.b6
  have hp0 := Nat.two_pow_pos bales.length
  have hT := hBk.tp
  have hb6 := hBk.b6
  have hsh : ∀ (T' : TypeId) (p q : Operand), binA Try.prog .shl T' p q (.int .i64 1) (.int .i64 (bales.length : Int)) = some (.int .i64 ((2 ^ bales.length : Nat) : Int)) := fun T' p q => bin_shl_one .i64 T' p q (by have := hBk.b6; omega)
  have ecast : ((2 ^ bales.length : Nat) : Int) - 1 = ((2 ^ bales.length - 1 : Nat) : Int) := by omega
  obtain ⟨a0, ha0⟩ := see_some (L := (TR N L U bales tests).map (·.2)) (by simpa using hne)
  have eA : balA N L U bales tests = ((a0 : Int), (((seeL ((TR N L U bales tests).map (·.2))).1 : Nat) : Int)) := by
    unfold balA
    simp only [Int.toNat_natCast, bal_see hne, ha0]
    rfl
  rw [eA] at hA
  have eO : openA N L U T bales tests = (((popc (openS N L U T bales tests) : Nat) : Int), ((openS N L U T bales tests : Nat) : Int)) := by unfold openA; simp only [Int.toNat_natCast]
  rw [eO] at hO
  have hl2 := seeL_lt (L := (TR N L U bales tests).map (·.2)) (by intro x hx; obtain ⟨y, hy, rfl⟩ := List.mem_map.1 hx; exact (mem_TR_lt hBk hy).2)
  have la0 := hl2.2 a0 ha0
  have lc0 := hl2.1
  obtain ⟨g1, g2, g3⟩ := open_first hBk
  have g4 := fun i hi => open_less hBk i hi
  have g5 := open_none hBk hne ha0
  obtain ⟨bt, rfl⟩ : ∃ j : Nat, bits = j := ⟨bits.toNat, by omega⟩
  have hcv := conv5_3 bt hw
  have hand : ∀ (T' : TypeId) (p q : Operand), binA Try.prog .and T' p q (.int .i64 (bt : Int)) (.int .i64 ((2 ^ bales.length - 1 : Nat) : Int)) = some (.int .i64 ((bt &&& (2 ^ bales.length - 1) : Nat) : Int)) := fun T' p q => bin_and_nat T' p q (by omega) (by omega)
  have hol : bt &&& (2 ^ bales.length - 1) ≤ 2 ^ bales.length - 1 := Nat.and_le_right
  have g6 := g3 (bt &&& (2 ^ bales.length - 1)) (by omega)
  have co := hs41 (bt &&& (2 ^ bales.length - 1)) (by omega)
  have cs := hs41 (openS N L U T bales tests) (by omega)
  rw [g2] at cs
  have hz1 := ok_size37 (bt &&& (2 ^ bales.length - 1)) (by omega)
  have hz2 := ok_size37 (openS N L U T bales tests) (by omega)
  have hdel : ∀ i, (openS N L U T bales tests).testBit i = true → FunS Try.prog 41 [.one (.p (iP (diffN (openS N L U T bales tests) (2 ^ i) : Nat))), .one (.box 0 0)] [(0, .box [.p (iP N), .p (iP L), .p (iP U), .p (.sl (bales.map row2)), .p (iP T), .p (.sl (tests.map rowB))])] 1 (.one (.one (.v (.bool false)))) := fun i hi => by
    have hle := diffN_le (openS N L U T bales tests) (2 ^ i)
    have := hs41 (diffN (openS N L U T bales tests) (2 ^ i)) (by omega)
    rw [g4 i hi] at this
    exact this
  have hdall : diffN (openS N L U T bales tests) (2 ^ bales.length - 1) = 0 := sub_iff.2 fun i hi => by
    rw [Nat.testBit_two_pow_sub_one]
    rcases Nat.lt_or_ge i bales.length with h | h
    · exact decide_eq_true h
    · rw [bit_out g1 h] at hi; cases hi
  generalize (seeL ((TR N L U bales tests).map (·.2))).1 = c0 at *
  simp only [buR, ansN, ansR, if_true] at hl hB hO hA ⊢
  simp only [buC] at co cs hs41
  generalize openS N L U T bales tests = S at *
  generalize bt &&& (2 ^ bales.length - 1) = own at *
  clear hs41 hwT g3 g4 g2 eO eA hcc hl2 hBk
  have hd2 : ∀ (T' : TypeId) (x y : Operand), binA Try.prog .andNot T' x y (.int .i64 (S : Int)) (.int .i64 ((2 ^ bales.length - 1 : Nat) : Int)) = some (.int .i64 0) := fun T' x y => by rw [bin_andNot_nat T' x y (by omega) (by omega), hdall]; rfl
  have ha1 : ∀ (T' : TypeId) (x y : Operand), binA Try.prog .and T' x y (.int .i64 (a0 : Int)) (.int .i64 (T : Int)) = some (.int .i64 ((a0 &&& T : Nat) : Int)) := fun T' x y => bin_and_nat T' x y (by omega) (by omega)
  have ha2 : ∀ (T' : TypeId) (x y : Operand), binA Try.prog .and T' x y (.int .i64 (c0 : Int)) (.int .i64 (T : Int)) = some (.int .i64 ((c0 &&& T : Nat) : Int)) := fun T' x y => bin_and_nat T' x y (by omega) (by omega)
  generalize hX : 2 ^ bales.length = X at *
  clear hX
  have hpo6 := popc6 (show own < 64 by omega)
  have hpc6 := popc6 (show S < 64 by omega)
  generalize hpo : popc own = po at *
  generalize hpc : popc S = pc at *
  have heq : ((S : Int) == 0) = (((a0 &&& T : Nat) : Int) == ((c0 &&& T : Nat) : Int)) := by
    rw [Bool.eq_iff_iff, beq_iff_eq, beq_iff_eq]
    omega
  generalize a0 &&& T = aT at *
  generalize c0 &&& T = cT at *
  refine fun_ok (nt := 150) (rs := [.tmp 4]) Try.func8 rfl rfl rfl (by simp) fun Z w0 => ?_; simp only [initFr, avR, List.map_cons, List.map_nil]
  try simp only [List.append_eq, List.cons_append, List.nil_append]
  (repeat (first | apply aw_seq | apply aw_block | apply aw_skip | apply aw_label | apply aw_exit | ((first | refine aw_region (hideO fun QQ hQQ => ?_) | refine aw_draw mixed (hideD fun QQ hQQ => ?_)); simp (maxSteps := 400000) (disch := first | decide | omega) only [hsh, ecast, hd2, ha1, ha2, heq, go_sem, ↓reduceIte]; try (first | with_reducible refine unhide hQQ ?_ | refine ⟨by kernel_rfl, unhide hQQ ?_⟩); clear hQQ QQ) | with_reducible first | apply then_n | apply block_n | apply then_x | apply then_r | apply nog_n | apply nog_r | apply block_r | apply block_e (by decide) | apply block_x (by decide)))
  (refine callO_ok rfl rfl 12 true rfl (by simp (disch := first | decide | omega) only [hsh, ecast, hd2, ha1, ha2, heq, go_sem, ↓reduceIte]; try rfl) (fun _ => rfl) (hl) Try.func12 rfl (by decide) ?_); simp (maxSteps := 400000) (disch := first | decide | omega) only [hsh, ecast, hd2, ha1, ha2, heq, go_sem, ↓reduceIte]; (try (with_reducible refine unhide hQQ ?_; clear hQQ QQ; (repeat with_reducible first | apply then_n | apply block_n | apply then_x | apply then_r | apply nog_n | apply nog_r | apply block_r | apply block_e (by decide) | apply block_x (by decide))))
  ((refine callO_ok rfl rfl 35 true rfl (by simp (disch := first | decide | omega) only [hsh, ecast, hd2, ha1, ha2, heq, go_sem, ↓reduceIte]; try rfl) (fun _ => rfl) (hB) Try.func35 rfl (by decide) ?_); simp (maxSteps := 400000) (disch := first | decide | omega) only [hsh, ecast, hd2, ha1, ha2, heq, go_sem, ↓reduceIte]; try (with_reducible refine unhide hQQ ?_; clear hQQ QQ)); (repeat (first | apply aw_seq | apply aw_block | apply aw_skip | apply aw_label | apply aw_exit | ((first | refine aw_region (hideO fun QQ hQQ => ?_) | refine aw_draw mixed (hideD fun QQ hQQ => ?_)); simp (maxSteps := 400000) (disch := first | decide | omega) only [hsh, ecast, hd2, ha1, ha2, heq, go_sem, ↓reduceIte]; try (first | with_reducible refine unhide hQQ ?_ | refine ⟨by kernel_rfl, unhide hQQ ?_⟩); clear hQQ QQ) | with_reducible first | apply then_n | apply block_n | apply then_x | apply then_r | apply nog_n | apply nog_r | apply block_r | apply block_e (by decide) | apply block_x (by decide)))
  refine aw_cond2 (by simp (disch := first | decide | omega) only [hsh, ecast, hd2, ha1, ha2, heq, go_sem, ↓reduceIte]; rfl) ?_; first | refine .inl ⟨by first | rfl | exact decide_eq_true (by omega) | exact decide_eq_true (by assumption) | (simp (disch := first | decide | omega) only [if_pos_d, if_neg_d, decide_eq_true_eq, Bool.not_eq_true', decide_eq_false_iff_not]; omega), ?_⟩ | refine .inr ⟨by first | rfl | exact decide_eq_false (by omega) | exact decide_eq_false (by assumption) | (simp (disch := first | decide | omega) only [if_pos_d, if_neg_d, decide_eq_true_eq, Bool.not_eq_true', decide_eq_false_iff_not]; omega), ?_⟩
  (repeat (first | apply aw_seq | apply aw_block | apply aw_skip | apply aw_label | apply aw_exit | ((first | refine aw_region (hideO fun QQ hQQ => ?_) | refine aw_draw mixed (hideD fun QQ hQQ => ?_)); simp (maxSteps := 400000) (disch := first | decide | omega) only [hsh, ecast, hd2, ha1, ha2, heq, go_sem, ↓reduceIte]; try (first | with_reducible refine unhide hQQ ?_ | refine ⟨by kernel_rfl, unhide hQQ ?_⟩); clear hQQ QQ) | with_reducible first | apply then_n | apply block_n | apply then_x | apply then_r | apply nog_n | apply nog_r | apply block_r | apply block_e (by decide) | apply block_x (by decide)))
  ((refine callO_ok rfl rfl 25 true rfl (by simp (disch := first | decide | omega) only [hsh, ecast, hd2, ha1, ha2, heq, go_sem, ↓reduceIte]; try rfl) (fun _ => rfl) (hO) Try.func25 rfl (by decide) ?_); simp (maxSteps := 400000) (disch := first | decide | omega) only [hsh, ecast, hd2, ha1, ha2, heq, go_sem, ↓reduceIte]; try (with_reducible refine unhide hQQ ?_; clear hQQ QQ)); (repeat (first | apply aw_seq | apply aw_block | apply aw_skip | apply aw_label | apply aw_exit | ((first | refine aw_region (hideO fun QQ hQQ => ?_) | refine aw_draw mixed (hideD fun QQ hQQ => ?_)); simp (maxSteps := 400000) (disch := first | decide | omega) only [hsh, ecast, hd2, ha1, ha2, heq, go_sem, ↓reduceIte]; try (first | with_reducible refine unhide hQQ ?_ | refine ⟨by kernel_rfl, unhide hQQ ?_⟩); clear hQQ QQ) | with_reducible first | apply then_n | apply block_n | apply then_x | apply then_r | apply nog_n | apply nog_r | apply block_r | apply block_e (by decide) | apply block_x (by decide)))
  ((refine callO_ok rfl rfl 16 true rfl (by simp (disch := first | decide | omega) only [hsh, ecast, hd2, ha1, ha2, heq, go_sem, ↓reduceIte]; try rfl) (fun _ => rfl) (hA) Try.func16 rfl (by decide) ?_); simp (maxSteps := 400000) (disch := first | decide | omega) only [hsh, ecast, hd2, ha1, ha2, heq, go_sem, ↓reduceIte]; try (with_reducible refine unhide hQQ ?_; clear hQQ QQ)); (repeat (first | apply aw_seq | apply aw_block | apply aw_skip | apply aw_label | apply aw_exit | ((first | refine aw_region (hideO fun QQ hQQ => ?_) | refine aw_draw mixed (hideD fun QQ hQQ => ?_)); simp (maxSteps := 400000) (disch := first | decide | omega) only [hsh, ecast, hd2, ha1, ha2, heq, go_sem, ↓reduceIte]; try (first | with_reducible refine unhide hQQ ?_ | refine ⟨by kernel_rfl, unhide hQQ ?_⟩); clear hQQ QQ) | with_reducible first | apply then_n | apply block_n | apply then_x | apply then_r | apply nog_n | apply nog_r | apply block_r | apply block_e (by decide) | apply block_x (by decide)))
  refine aw_cond2 (by simp (disch := first | decide | omega) only [hsh, ecast, hd2, ha1, ha2, heq, go_sem, ↓reduceIte]; rfl) ?_; first | refine .inl ⟨by first | rfl | exact decide_eq_true (by omega) | exact decide_eq_true (by assumption) | (simp (disch := first | decide | omega) only [if_pos_d, if_neg_d, decide_eq_true_eq, Bool.not_eq_true', decide_eq_false_iff_not]; omega), ?_⟩ | refine .inr ⟨by first | rfl | exact decide_eq_false (by omega) | exact decide_eq_false (by assumption) | (simp (disch := first | decide | omega) only [if_pos_d, if_neg_d, decide_eq_true_eq, Bool.not_eq_true', decide_eq_false_iff_not]; omega), ?_⟩
  (repeat (first | apply aw_seq | apply aw_block | apply aw_skip | apply aw_label | apply aw_exit | ((first | refine aw_region (hideO fun QQ hQQ => ?_) | refine aw_draw mixed (hideD fun QQ hQQ => ?_)); simp (maxSteps := 400000) (disch := first | decide | omega) only [hsh, ecast, hd2, ha1, ha2, heq, go_sem, ↓reduceIte]; try (first | with_reducible refine unhide hQQ ?_ | refine ⟨by kernel_rfl, unhide hQQ ?_⟩); clear hQQ QQ) | with_reducible first | apply then_n | apply block_n | apply then_x | apply then_r | apply nog_n | apply nog_r | apply block_r | apply block_e (by decide) | apply block_x (by decide)))
  refine aw_cond2 (by simp (disch := first | decide | omega) only [hsh, ecast, hd2, ha1, ha2, heq, go_sem, ↓reduceIte]; rfl) ?_; first | refine .inl ⟨by first | rfl | exact decide_eq_true (by omega) | exact decide_eq_true (by assumption) | (simp (disch := first | decide | omega) only [if_pos_d, if_neg_d, decide_eq_true_eq, Bool.not_eq_true', decide_eq_false_iff_not]; omega), ?_⟩ | refine .inr ⟨by first | rfl | exact decide_eq_false (by omega) | exact decide_eq_false (by assumption) | (simp (disch := first | decide | omega) only [if_pos_d, if_neg_d, decide_eq_true_eq, Bool.not_eq_true', decide_eq_false_iff_not]; omega), ?_⟩
  (repeat (first | apply aw_seq | apply aw_block | apply aw_skip | apply aw_label | apply aw_exit | ((first | refine aw_region (hideO fun QQ hQQ => ?_) | refine aw_draw mixed (hideD fun QQ hQQ => ?_)); simp (maxSteps := 400000) (disch := first | decide | omega) only [hsh, ecast, hd2, ha1, ha2, heq, go_sem, ↓reduceIte]; try (first | with_reducible refine unhide hQQ ?_ | refine ⟨by kernel_rfl, unhide hQQ ?_⟩); clear hQQ QQ) | with_reducible first | apply then_n | apply block_n | apply then_x | apply then_r | apply nog_n | apply nog_r | apply block_r | apply block_e (by decide) | apply block_x (by decide)))
  (refine callO_ok rfl rfl 37 true rfl (by simp (disch := first | decide | omega) only [hsh, ecast, hd2, ha1, ha2, heq, go_sem, ↓reduceIte]; try rfl) (fun _ => rfl) (hz2) Try.func37 rfl (by decide) ?_); simp (maxSteps := 400000) (disch := first | decide | omega) only [hsh, ecast, hd2, ha1, ha2, heq, go_sem, ↓reduceIte]; (try (with_reducible refine unhide hQQ ?_; clear hQQ QQ; (repeat with_reducible first | apply then_n | apply block_n | apply then_x | apply then_r | apply nog_n | apply nog_r | apply block_r | apply block_e (by decide) | apply block_x (by decide))))
  (refine callO_S [0] (cs) rfl rfl (by simp (disch := first | decide | omega) only [hsh, ecast, hd2, ha1, ha2, heq, go_sem, ↓reduceIte]; try rfl) (by simp (disch := first | decide | omega) only [hsh, ecast, hd2, ha1, ha2, heq, go_sem, ↓reduceIte]; try rfl) Try.func41 rfl (by decide) (by rfl) (by repeat' (first | trivial | apply And.intro | (simp (disch := first | decide | omega) only [hsh, ecast, hd2, ha1, ha2, heq, go_sem, ↓reduceIte]; first | done | rfl))) (by decide) (by decide) (by first | rfl | (simp (disch := first | decide | omega) only [hsh, ecast, hd2, ha1, ha2, heq, go_sem, ↓reduceIte]; try rfl)) ?_); simp (maxSteps := 400000) (disch := first | decide | omega) only [hsh, ecast, hd2, ha1, ha2, heq, go_sem, ↓reduceIte]; (try (with_reducible refine unhide hQQ ?_; clear hQQ QQ; (repeat with_reducible first | apply then_n | apply block_n | apply then_x | apply then_r | apply nog_n | apply nog_r | apply block_r | apply block_e (by decide) | apply block_x (by decide))))
  (repeat (first | apply aw_seq | apply aw_block | apply aw_skip | apply aw_label | apply aw_exit | ((first | refine aw_region (hideO fun QQ hQQ => ?_) | refine aw_draw mixed (hideD fun QQ hQQ => ?_)); simp (maxSteps := 400000) (disch := first | decide | omega) only [hsh, ecast, hd2, ha1, ha2, heq, go_sem, ↓reduceIte]; try (first | with_reducible refine unhide hQQ ?_ | refine ⟨by kernel_rfl, unhide hQQ ?_⟩); clear hQQ QQ) | with_reducible first | apply then_n | apply block_n | apply then_x | apply then_r | apply nog_n | apply nog_r | apply block_r | apply block_e (by decide) | apply block_x (by decide)))
  refine aw_cond2 (by simp (disch := first | decide | omega) only [hsh, ecast, hd2, ha1, ha2, heq, go_sem, ↓reduceIte]; rfl) ?_; first | refine .inl ⟨by first | rfl | exact decide_eq_true (by omega) | exact decide_eq_true (by assumption) | (simp (disch := first | decide | omega) only [if_pos_d, if_neg_d, decide_eq_true_eq, Bool.not_eq_true', decide_eq_false_iff_not]; omega), ?_⟩ | refine .inr ⟨by first | rfl | exact decide_eq_false (by omega) | exact decide_eq_false (by assumption) | (simp (disch := first | decide | omega) only [if_pos_d, if_neg_d, decide_eq_true_eq, Bool.not_eq_true', decide_eq_false_iff_not]; omega), ?_⟩
  (repeat (first | apply aw_seq | apply aw_block | apply aw_skip | apply aw_label | apply aw_exit | ((first | refine aw_region (hideO fun QQ hQQ => ?_) | refine aw_draw mixed (hideD fun QQ hQQ => ?_)); simp (maxSteps := 400000) (disch := first | decide | omega) only [hsh, ecast, hd2, ha1, ha2, heq, go_sem, ↓reduceIte]; try (first | with_reducible refine unhide hQQ ?_ | refine ⟨by kernel_rfl, unhide hQQ ?_⟩); clear hQQ QQ) | with_reducible first | apply then_n | apply block_n | apply then_x | apply then_r | apply nog_n | apply nog_r | apply block_r | apply block_e (by decide) | apply block_x (by decide)))
  refine aw_weak (weak_keep [1, 5, 6, 11, 12, 104, 105] (by simp only [hsh, ecast, hd2, ha1, ha2, heq, go_sem, ↓reduceIte]; rfl)) ?_
  refine aw_loop_ov (ι := { i : Nat // i ≤ bales.length }) (fun i => [(105, iA i.1)]) (fun _ => []) (fun i => bales.length - i.1) ⟨0, by omega⟩ (by first | rfl | (simp only [hsh, ecast, hd2, ha1, ha2, heq, go_sem, ↓reduceIte]; first | done | rfl | (simp; try rfl))) ?_
  rintro ⟨i, hi'⟩
  simp (disch := decide) only [ov, ovL, AL.get_nil, AL.get_eq, AL.get_ne, Option.getD_some, Option.getD_none]
  by_cases hil : i < bales.length
  · have hshr : ∀ (T : TypeId) (p q : Operand), binA Try.prog .shr T p q (.int .i64 (S : Int)) (.int .i64 (i : Int)) = some (.int .i64 ((S >>> i : Nat) : Int)) := fun T p q => bin_shr_nat .i64 T p q (by omega) (by omega)
    have hle : S >>> i ≤ S := Nat.shiftRight_le S i
    have han : ∀ (T : TypeId) (p q : Operand), binA Try.prog .and T p q (.int .i64 ((S >>> i : Nat) : Int)) (.int .i64 1) = some (.int .i64 ((S >>> i &&& 1 : Nat) : Int)) := fun T p q => bin_and_nat T p q (a := S >>> i) (b := 1) (by omega) (by omega)
    have hbit := bit_and1 S i
    have hp5 := pow_six (b := i) (by omega)
    have hshl : ∀ (T' : TypeId) (p q : Operand), binA Try.prog .shl T' p q (.int .i64 1) (.int .i64 (i : Int)) = some (.int .i64 ((2 ^ i : Nat) : Int)) := fun T' p q => bin_shl_one .i64 T' p q (by omega)
    have hdn : ∀ (T : TypeId) (x y : Operand), binA Try.prog .andNot T x y (.int .i64 (S : Int)) (.int .i64 ((2 ^ i : Nat) : Int)) = some (.int .i64 ((diffN S (2 ^ i) : Nat) : Int)) := fun T x y => bin_andNot_nat T x y (by omega) (by omega)
    have hd := hdel i
    generalize diffN S (2 ^ i) = dl at *
    generalize 2 ^ i = pi at *
    generalize S >>> i &&& 1 = b1' at *
    generalize S >>> i = x1 at *
    cases htb : S.testBit i with
    | true =>
      rw [htb, if_pos rfl] at hbit
      subst hbit
      have hd := hd htb
      (repeat (first | apply aw_seq | apply aw_block | apply aw_skip | apply aw_label | apply aw_exit | ((first | refine aw_region (hideO fun QQ hQQ => ?_) | refine aw_draw mixed (hideD fun QQ hQQ => ?_)); simp (maxSteps := 400000) (disch := first | decide | omega) only [hshr, han, hshl, hdn, go_sem, ↓reduceIte]; try (first | with_reducible refine unhide hQQ ?_ | refine ⟨by kernel_rfl, unhide hQQ ?_⟩); clear hQQ QQ) | with_reducible first | apply then_n | apply block_n | apply then_x | apply then_r | apply nog_n | apply nog_r | apply block_r | apply block_e (by decide) | apply block_x (by decide)))
      refine aw_cond2 (by simp (disch := first | decide | omega) only [hshr, han, hshl, hdn, go_sem, ↓reduceIte]; rfl) ?_; first | refine .inl ⟨by first | rfl | exact decide_eq_true (by omega) | exact decide_eq_true (by assumption) | (simp (disch := first | decide | omega) only [if_pos_d, if_neg_d, decide_eq_true_eq, Bool.not_eq_true', decide_eq_false_iff_not]; omega), ?_⟩ | refine .inr ⟨by first | rfl | exact decide_eq_false (by omega) | exact decide_eq_false (by assumption) | (simp (disch := first | decide | omega) only [if_pos_d, if_neg_d, decide_eq_true_eq, Bool.not_eq_true', decide_eq_false_iff_not]; omega), ?_⟩
      (repeat (first | apply aw_seq | apply aw_block | apply aw_skip | apply aw_label | apply aw_exit | ((first | refine aw_region (hideO fun QQ hQQ => ?_) | refine aw_draw mixed (hideD fun QQ hQQ => ?_)); simp (maxSteps := 400000) (disch := first | decide | omega) only [hshr, han, hshl, hdn, go_sem, ↓reduceIte]; try (first | with_reducible refine unhide hQQ ?_ | refine ⟨by kernel_rfl, unhide hQQ ?_⟩); clear hQQ QQ) | with_reducible first | apply then_n | apply block_n | apply then_x | apply then_r | apply nog_n | apply nog_r | apply block_r | apply block_e (by decide) | apply block_x (by decide)))
      (refine callO_S [0] (hd) rfl rfl (by simp (disch := first | decide | omega) only [hshr, han, hshl, hdn, go_sem, ↓reduceIte]; try rfl) (by simp (disch := first | decide | omega) only [hshr, han, hshl, hdn, go_sem, ↓reduceIte]; try rfl) Try.func41 rfl (by decide) (by rfl) (by repeat' (first | trivial | apply And.intro | (simp (disch := first | decide | omega) only [hshr, han, hshl, hdn, go_sem, ↓reduceIte]; first | done | rfl))) (by decide) (by decide) (by first | rfl | (simp (disch := first | decide | omega) only [hshr, han, hshl, hdn, go_sem, ↓reduceIte]; try rfl)) ?_); simp (maxSteps := 400000) (disch := first | decide | omega) only [hshr, han, hshl, hdn, go_sem, ↓reduceIte]; (try (with_reducible refine unhide hQQ ?_; clear hQQ QQ; (repeat with_reducible first | apply then_n | apply block_n | apply then_x | apply then_r | apply nog_n | apply nog_r | apply block_r | apply block_e (by decide) | apply block_x (by decide))))
      (repeat (first | apply aw_seq | apply aw_block | apply aw_skip | apply aw_label | apply aw_exit | ((first | refine aw_region (hideO fun QQ hQQ => ?_) | refine aw_draw mixed (hideD fun QQ hQQ => ?_)); simp (maxSteps := 400000) (disch := first | decide | omega) only [hshr, han, hshl, hdn, go_sem, ↓reduceIte]; try (first | with_reducible refine unhide hQQ ?_ | refine ⟨by kernel_rfl, unhide hQQ ?_⟩); clear hQQ QQ) | with_reducible first | apply then_n | apply block_n | apply then_x | apply then_r | apply nog_n | apply nog_r | apply block_r | apply block_e (by decide) | apply block_x (by decide)))
      refine aw_cond2 (by simp (disch := first | decide | omega) only [hshr, han, hshl, hdn, go_sem, ↓reduceIte]; rfl) ?_; first | refine .inl ⟨by first | rfl | exact decide_eq_true (by omega) | exact decide_eq_true (by assumption) | (simp (disch := first | decide | omega) only [if_pos_d, if_neg_d, decide_eq_true_eq, Bool.not_eq_true', decide_eq_false_iff_not]; omega), ?_⟩ | refine .inr ⟨by first | rfl | exact decide_eq_false (by omega) | exact decide_eq_false (by assumption) | (simp (disch := first | decide | omega) only [if_pos_d, if_neg_d, decide_eq_true_eq, Bool.not_eq_true', decide_eq_false_iff_not]; omega), ?_⟩
      (repeat (first | apply aw_seq | apply aw_block | apply aw_skip | apply aw_label | apply aw_exit | ((first | refine aw_region (hideO fun QQ hQQ => ?_) | refine aw_draw mixed (hideD fun QQ hQQ => ?_)); simp (maxSteps := 400000) (disch := first | decide | omega) only [hshr, han, hshl, hdn, go_sem, ↓reduceIte]; try (first | with_reducible refine unhide hQQ ?_ | refine ⟨by kernel_rfl, unhide hQQ ?_⟩); clear hQQ QQ) | with_reducible first | apply then_n | apply block_n | apply then_x | apply then_r | apply nog_n | apply nog_r | apply block_r | apply block_e (by decide) | apply block_x (by decide)))
      (refine ⟨⟨i + 1, by omega⟩, ?_, weak_round (by simp only [hshr, han, hshl, hdn, go_sem, ↓reduceIte]; first | done | rfl) (by first | rfl | (simp only [hshr, han, hshl, hdn, go_sem, ↓reduceIte]))⟩; (simp only; omega))
    | false =>
      rw [htb, if_neg (by decide)] at hbit
      subst hbit
      clear hd
      (repeat (first | apply aw_seq | apply aw_block | apply aw_skip | apply aw_label | apply aw_exit | ((first | refine aw_region (hideO fun QQ hQQ => ?_) | refine aw_draw mixed (hideD fun QQ hQQ => ?_)); simp (maxSteps := 400000) (disch := first | decide | omega) only [hshr, han, hshl, hdn, go_sem, ↓reduceIte]; try (first | with_reducible refine unhide hQQ ?_ | refine ⟨by kernel_rfl, unhide hQQ ?_⟩); clear hQQ QQ) | with_reducible first | apply then_n | apply block_n | apply then_x | apply then_r | apply nog_n | apply nog_r | apply block_r | apply block_e (by decide) | apply block_x (by decide)))
      refine aw_cond2 (by simp (disch := first | decide | omega) only [hshr, han, hshl, hdn, go_sem, ↓reduceIte]; rfl) ?_; first | refine .inl ⟨by first | rfl | exact decide_eq_true (by omega) | exact decide_eq_true (by assumption) | (simp (disch := first | decide | omega) only [if_pos_d, if_neg_d, decide_eq_true_eq, Bool.not_eq_true', decide_eq_false_iff_not]; omega), ?_⟩ | refine .inr ⟨by first | rfl | exact decide_eq_false (by omega) | exact decide_eq_false (by assumption) | (simp (disch := first | decide | omega) only [if_pos_d, if_neg_d, decide_eq_true_eq, Bool.not_eq_true', decide_eq_false_iff_not]; omega), ?_⟩
      (repeat (first | apply aw_seq | apply aw_block | apply aw_skip | apply aw_label | apply aw_exit | ((first | refine aw_region (hideO fun QQ hQQ => ?_) | refine aw_draw mixed (hideD fun QQ hQQ => ?_)); simp (maxSteps := 400000) (disch := first | decide | omega) only [hshr, han, hshl, hdn, go_sem, ↓reduceIte]; try (first | with_reducible refine unhide hQQ ?_ | refine ⟨by kernel_rfl, unhide hQQ ?_⟩); clear hQQ QQ) | with_reducible first | apply then_n | apply block_n | apply then_x | apply then_r | apply nog_n | apply nog_r | apply block_r | apply block_e (by decide) | apply block_x (by decide)))
      refine aw_cond2 (by simp (disch := first | decide | omega) only [hshr, han, hshl, hdn, go_sem, ↓reduceIte]; rfl) ?_; first | refine .inl ⟨by first | rfl | exact decide_eq_true (by omega) | exact decide_eq_true (by assumption) | (simp (disch := first | decide | omega) only [if_pos_d, if_neg_d, decide_eq_true_eq, Bool.not_eq_true', decide_eq_false_iff_not]; omega), ?_⟩ | refine .inr ⟨by first | rfl | exact decide_eq_false (by omega) | exact decide_eq_false (by assumption) | (simp (disch := first | decide | omega) only [if_pos_d, if_neg_d, decide_eq_true_eq, Bool.not_eq_true', decide_eq_false_iff_not]; omega), ?_⟩
      (repeat (first | apply aw_seq | apply aw_block | apply aw_skip | apply aw_label | apply aw_exit | ((first | refine aw_region (hideO fun QQ hQQ => ?_) | refine aw_draw mixed (hideD fun QQ hQQ => ?_)); simp (maxSteps := 400000) (disch := first | decide | omega) only [hshr, han, hshl, hdn, go_sem, ↓reduceIte]; try (first | with_reducible refine unhide hQQ ?_ | refine ⟨by kernel_rfl, unhide hQQ ?_⟩); clear hQQ QQ) | with_reducible first | apply then_n | apply block_n | apply then_x | apply then_r | apply nog_n | apply nog_r | apply block_r | apply block_e (by decide) | apply block_x (by decide)))
      (refine ⟨⟨i + 1, by omega⟩, ?_, weak_round (by simp only [hshr, han, hshl, hdn, go_sem, ↓reduceIte]; first | done | rfl) (by first | rfl | (simp only [hshr, han, hshl, hdn, go_sem, ↓reduceIte]))⟩; (simp only; omega))
  · clear hdel
    (repeat (first | apply aw_seq | apply aw_block | apply aw_skip | apply aw_label | apply aw_exit | ((first | refine aw_region (hideO fun QQ hQQ => ?_) | refine aw_draw mixed (hideD fun QQ hQQ => ?_)); simp (maxSteps := 400000) (disch := first | decide | omega) only [hcv, hand, go_sem, ↓reduceIte]; try (first | with_reducible refine unhide hQQ ?_ | refine ⟨by kernel_rfl, unhide hQQ ?_⟩); clear hQQ QQ) | with_reducible first | apply then_n | apply block_n | apply then_x | apply then_r | apply nog_n | apply nog_r | apply block_r | apply block_e (by decide) | apply block_x (by decide)))
    refine aw_cond2 (by simp (disch := first | decide | omega) only [hcv, hand, go_sem, ↓reduceIte]; rfl) ?_; first | refine .inl ⟨by first | rfl | exact decide_eq_true (by omega) | exact decide_eq_true (by assumption) | (simp (disch := first | decide | omega) only [if_pos_d, if_neg_d, decide_eq_true_eq, Bool.not_eq_true', decide_eq_false_iff_not]; omega), ?_⟩ | refine .inr ⟨by first | rfl | exact decide_eq_false (by omega) | exact decide_eq_false (by assumption) | (simp (disch := first | decide | omega) only [if_pos_d, if_neg_d, decide_eq_true_eq, Bool.not_eq_true', decide_eq_false_iff_not]; omega), ?_⟩
    (repeat (first | apply aw_seq | apply aw_block | apply aw_skip | apply aw_label | apply aw_exit | ((first | refine aw_region (hideO fun QQ hQQ => ?_) | refine aw_draw mixed (hideD fun QQ hQQ => ?_)); simp (maxSteps := 400000) (disch := first | decide | omega) only [hcv, hand, go_sem, ↓reduceIte]; try (first | with_reducible refine unhide hQQ ?_ | refine ⟨by kernel_rfl, unhide hQQ ?_⟩); clear hQQ QQ) | with_reducible first | apply then_n | apply block_n | apply then_x | apply then_r | apply nog_n | apply nog_r | apply block_r | apply block_e (by decide) | apply block_x (by decide)))
    cases hbo : tlB N L U T bales tests own
    · rw [hbo] at co
      (refine callO_S [0] (co) rfl rfl (by simp (disch := first | decide | omega) only [hcv, hand, go_sem, ↓reduceIte]; try rfl) (by simp (disch := first | decide | omega) only [hcv, hand, go_sem, ↓reduceIte]; try rfl) Try.func41 rfl (by decide) (by rfl) (by repeat' (first | trivial | apply And.intro | (simp (disch := first | decide | omega) only [hcv, hand, go_sem, ↓reduceIte]; first | done | rfl))) (by decide) (by decide) (by first | rfl | (simp (disch := first | decide | omega) only [hcv, hand, go_sem, ↓reduceIte]; try rfl)) ?_); simp (maxSteps := 400000) (disch := first | decide | omega) only [hcv, hand, go_sem, ↓reduceIte]; (try (with_reducible refine unhide hQQ ?_; clear hQQ QQ; (repeat with_reducible first | apply then_n | apply block_n | apply then_x | apply then_r | apply nog_n | apply nog_r | apply block_r | apply block_e (by decide) | apply block_x (by decide))))
      (repeat (first | apply aw_seq | apply aw_block | apply aw_skip | apply aw_label | apply aw_exit | ((first | refine aw_region (hideO fun QQ hQQ => ?_) | refine aw_draw mixed (hideD fun QQ hQQ => ?_)); simp (maxSteps := 400000) (disch := first | decide | omega) only [hcv, hand, go_sem, ↓reduceIte]; try (first | with_reducible refine unhide hQQ ?_ | refine ⟨by kernel_rfl, unhide hQQ ?_⟩); clear hQQ QQ) | with_reducible first | apply then_n | apply block_n | apply then_x | apply then_r | apply nog_n | apply nog_r | apply block_r | apply block_e (by decide) | apply block_x (by decide)))
      ((refine callO_ok rfl rfl 13 true rfl (by simp (disch := first | decide | omega) only [hcv, hand, go_sem, ↓reduceIte]; try rfl) (fun _ => rfl) (hal) Try.func13 rfl (by decide) ?_); simp (maxSteps := 400000) (disch := first | decide | omega) only [hcv, hand, go_sem, ↓reduceIte]; try (with_reducible refine unhide hQQ ?_; clear hQQ QQ)); (repeat (first | apply aw_seq | apply aw_block | apply aw_skip | apply aw_label | apply aw_exit | ((first | refine aw_region (hideO fun QQ hQQ => ?_) | refine aw_draw mixed (hideD fun QQ hQQ => ?_)); simp (maxSteps := 400000) (disch := first | decide | omega) only [hcv, hand, go_sem, ↓reduceIte]; try (first | with_reducible refine unhide hQQ ?_ | refine ⟨by kernel_rfl, unhide hQQ ?_⟩); clear hQQ QQ) | with_reducible first | apply then_n | apply block_n | apply then_x | apply then_r | apply nog_n | apply nog_r | apply block_r | apply block_e (by decide) | apply block_x (by decide)))
      refine aw_ret ?_; refine ⟨.inr rfl, ?_⟩; simp only [resA, res1, go_sem, ↓reduceIte]
    · rw [hbo] at co
      have g6 := g6 hbo
      by_cases hlt : pc < po
      · (refine callO_S [0] (co) rfl rfl (by simp (disch := first | decide | omega) only [hcv, hand, go_sem, ↓reduceIte]; try rfl) (by simp (disch := first | decide | omega) only [hcv, hand, go_sem, ↓reduceIte]; try rfl) Try.func41 rfl (by decide) (by rfl) (by repeat' (first | trivial | apply And.intro | (simp (disch := first | decide | omega) only [hcv, hand, go_sem, ↓reduceIte]; first | done | rfl))) (by decide) (by decide) (by first | rfl | (simp (disch := first | decide | omega) only [hcv, hand, go_sem, ↓reduceIte]; try rfl)) ?_); simp (maxSteps := 400000) (disch := first | decide | omega) only [hcv, hand, go_sem, ↓reduceIte]; (try (with_reducible refine unhide hQQ ?_; clear hQQ QQ; (repeat with_reducible first | apply then_n | apply block_n | apply then_x | apply then_r | apply nog_n | apply nog_r | apply block_r | apply block_e (by decide) | apply block_x (by decide))))
        ((refine callO_ok rfl rfl 37 true rfl (by simp (disch := first | decide | omega) only [hcv, hand, go_sem, ↓reduceIte]; try rfl) (fun _ => rfl) (hz1) Try.func37 rfl (by decide) ?_); simp (maxSteps := 400000) (disch := first | decide | omega) only [hcv, hand, go_sem, ↓reduceIte]; try (with_reducible refine unhide hQQ ?_; clear hQQ QQ)); (repeat (first | apply aw_seq | apply aw_block | apply aw_skip | apply aw_label | apply aw_exit | ((first | refine aw_region (hideO fun QQ hQQ => ?_) | refine aw_draw mixed (hideD fun QQ hQQ => ?_)); simp (maxSteps := 400000) (disch := first | decide | omega) only [hcv, hand, go_sem, ↓reduceIte]; try (first | with_reducible refine unhide hQQ ?_ | refine ⟨by kernel_rfl, unhide hQQ ?_⟩); clear hQQ QQ) | with_reducible first | apply then_n | apply block_n | apply then_x | apply then_r | apply nog_n | apply nog_r | apply block_r | apply block_e (by decide) | apply block_x (by decide)))
        ((refine callO_ok rfl rfl 13 true rfl (by simp (disch := first | decide | omega) only [hcv, hand, go_sem, ↓reduceIte]; try rfl) (fun _ => rfl) (hal) Try.func13 rfl (by decide) ?_); simp (maxSteps := 400000) (disch := first | decide | omega) only [hcv, hand, go_sem, ↓reduceIte]; try (with_reducible refine unhide hQQ ?_; clear hQQ QQ)); (repeat (first | apply aw_seq | apply aw_block | apply aw_skip | apply aw_label | apply aw_exit | ((first | refine aw_region (hideO fun QQ hQQ => ?_) | refine aw_draw mixed (hideD fun QQ hQQ => ?_)); simp (maxSteps := 400000) (disch := first | decide | omega) only [hcv, hand, go_sem, ↓reduceIte]; try (first | with_reducible refine unhide hQQ ?_ | refine ⟨by kernel_rfl, unhide hQQ ?_⟩); clear hQQ QQ) | with_reducible first | apply then_n | apply block_n | apply then_x | apply then_r | apply nog_n | apply nog_r | apply block_r | apply block_e (by decide) | apply block_x (by decide)))
        refine aw_ret ?_; refine ⟨.inr rfl, ?_⟩; simp only [resA, res1, go_sem, ↓reduceIte]
      · have heq : po = pc := by omega
        have hge : S ≤ own := by omega
        subst heq
        (refine callO_S [0] (co) rfl rfl (by simp (disch := first | decide | omega) only [hcv, hand, go_sem, ↓reduceIte]; try rfl) (by simp (disch := first | decide | omega) only [hcv, hand, go_sem, ↓reduceIte]; try rfl) Try.func41 rfl (by decide) (by rfl) (by repeat' (first | trivial | apply And.intro | (simp (disch := first | decide | omega) only [hcv, hand, go_sem, ↓reduceIte]; first | done | rfl))) (by decide) (by decide) (by first | rfl | (simp (disch := first | decide | omega) only [hcv, hand, go_sem, ↓reduceIte]; try rfl)) ?_); simp (maxSteps := 400000) (disch := first | decide | omega) only [hcv, hand, go_sem, ↓reduceIte]; (try (with_reducible refine unhide hQQ ?_; clear hQQ QQ; (repeat with_reducible first | apply then_n | apply block_n | apply then_x | apply then_r | apply nog_n | apply nog_r | apply block_r | apply block_e (by decide) | apply block_x (by decide))))
        (refine callO_ok rfl rfl 37 true rfl (by simp (disch := first | decide | omega) only [hcv, hand, go_sem, ↓reduceIte]; try rfl) (fun _ => rfl) (hz1) Try.func37 rfl (by decide) ?_); simp (maxSteps := 400000) (disch := first | decide | omega) only [hcv, hand, go_sem, ↓reduceIte]; (try (with_reducible refine unhide hQQ ?_; clear hQQ QQ; (repeat with_reducible first | apply then_n | apply block_n | apply then_x | apply then_r | apply nog_n | apply nog_r | apply block_r | apply block_e (by decide) | apply block_x (by decide))))
        ((refine callO_ok rfl rfl 37 true rfl (by simp (disch := first | decide | omega) only [hcv, hand, go_sem, ↓reduceIte]; try rfl) (fun _ => rfl) (hz1) Try.func37 rfl (by decide) ?_); simp (maxSteps := 400000) (disch := first | decide | omega) only [hcv, hand, go_sem, ↓reduceIte]; try (with_reducible refine unhide hQQ ?_; clear hQQ QQ)); (repeat (first | apply aw_seq | apply aw_block | apply aw_skip | apply aw_label | apply aw_exit | ((first | refine aw_region (hideO fun QQ hQQ => ?_) | refine aw_draw mixed (hideD fun QQ hQQ => ?_)); simp (maxSteps := 400000) (disch := first | decide | omega) only [hcv, hand, go_sem, ↓reduceIte]; try (first | with_reducible refine unhide hQQ ?_ | refine ⟨by kernel_rfl, unhide hQQ ?_⟩); clear hQQ QQ) | with_reducible first | apply then_n | apply block_n | apply then_x | apply then_r | apply nog_n | apply nog_r | apply block_r | apply block_e (by decide) | apply block_x (by decide)))
        ((refine callO_ok rfl rfl 13 true rfl (by simp (disch := first | decide | omega) only [hcv, hand, go_sem, ↓reduceIte]; try rfl) (fun _ => rfl) (hal) Try.func13 rfl (by decide) ?_); simp (maxSteps := 400000) (disch := first | decide | omega) only [hcv, hand, go_sem, ↓reduceIte]; try (with_reducible refine unhide hQQ ?_; clear hQQ QQ)); (repeat (first | apply aw_seq | apply aw_block | apply aw_skip | apply aw_label | apply aw_exit | ((first | refine aw_region (hideO fun QQ hQQ => ?_) | refine aw_draw mixed (hideD fun QQ hQQ => ?_)); simp (maxSteps := 400000) (disch := first | decide | omega) only [hcv, hand, go_sem, ↓reduceIte]; try (first | with_reducible refine unhide hQQ ?_ | refine ⟨by kernel_rfl, unhide hQQ ?_⟩); clear hQQ QQ) | with_reducible first | apply then_n | apply block_n | apply then_x | apply then_r | apply nog_n | apply nog_r | apply block_r | apply block_e (by decide) | apply block_x (by decide)))
        refine aw_ret ?_; refine ⟨.inr rfl, ?_⟩; simp only [resA, res1, go_sem, ↓reduceIte]
end
end Go.Proofs.Ytknikcpeacmpmaa
