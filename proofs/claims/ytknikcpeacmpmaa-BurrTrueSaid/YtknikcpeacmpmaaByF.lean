/- THE LAW BurrTrue, walked. -/
import Derived.Test.YtknikcpeacmpmaaByG
import Derived.Test.YtknikcpeacmpmaaBwF
set_option linter.all false
namespace Go.Proofs.Ytknikcpeacmpmaa
open Go Go.RowKit Go.Sh Go.Pv
set_option maxHeartbeats 8000000
set_option maxRecDepth 8000
set_option pp.maxSteps 60000
section
variable {n lo hi top : Int} {bales : List (Int × Int)} {tests : List (Int × Bool)}
theorem main_true (which others : Int) (hw : 0 ≤ which ∧ which ≤ 255) (ho : 0 ≤ others ∧ others ≤ 255) : FunOK Try.prog 6 [buR n lo hi top bales tests, .one (.v (.int .u8 which)), .one (.v (.int .u8 others))] (.one (.one (.v (.bool true)))) := by
  have hal := ok_alive
  have hl := ok_long n lo hi top bales tests
  have hB := ok_Burr (n := n) (lo := lo) (hi := hi) (top := top) (bales := bales) (tests := tests)
  cases b1 : decide (40 < max bales.length tests.length)
  rotate_left
  · rw [b1] at hl
    simp only [buR] at hl hB ⊢
    refine fun_ok (nt := 346) (rs := [.tmp 6]) Try.func6 rfl rfl rfl (by simp) fun Z w0 => ?_; simp only [initFr, avR, List.map_cons, List.map_nil]
    try simp only [List.append_eq, List.cons_append, List.nil_append]
    refine tw ?_; try with_reducible intro QQ hQQ
    ((refine cO 12 rfl rfl rfl (hl) Try.func12 rfl ?_); refine tu ?_; try clear hQQ QQ); refine tw ?_; try with_reducible intro QQ hQQ
    refine ti ?_; try clear hQQ QQ
    refine tw ?_; try with_reducible intro QQ hQQ
    ((refine cO 13 rfl rfl rfl (hal) Try.func13 rfl ?_); refine tu ?_; try clear hQQ QQ); refine tw ?_; try with_reducible intro QQ hQQ
    refine aw_ret ?_; refine ⟨.inr rfl, ?_⟩; simp only [resA, res1, go_sem, ↓reduceIte]
  rw [b1] at hl
  cases b2 : burrB n lo hi top bales tests
  · rw [b2] at hB
    simp only [buR] at hl hB ⊢
    refine fun_ok (nt := 346) (rs := [.tmp 6]) Try.func6 rfl rfl rfl (by simp) fun Z w0 => ?_; simp only [initFr, avR, List.map_cons, List.map_nil]
    try simp only [List.append_eq, List.cons_append, List.nil_append]
    refine tw ?_; try with_reducible intro QQ hQQ
    (refine cO 12 rfl rfl rfl (hl) Try.func12 rfl ?_); refine ts ?_; try clear hQQ QQ
    ((refine cO 35 rfl rfl rfl (hB) Try.func35 rfl ?_); refine tu ?_; try clear hQQ QQ); refine tw ?_; try with_reducible intro QQ hQQ
    refine ti ?_; try clear hQQ QQ
    refine tw ?_; try with_reducible intro QQ hQQ
    ((refine cO 13 rfl rfl rfl (hal) Try.func13 rfl ?_); refine tu ?_; try clear hQQ QQ); refine tw ?_; try with_reducible intro QQ hQQ
    refine aw_ret ?_; refine ⟨.inr rfl, ?_⟩; simp only [resA, res1, go_sem, ↓reduceIte]
  rw [b2] at hB
  obtain ⟨N, L, U, T, rfl, rfl, rfl, rfl, hBk⟩ := bok_of b2
  obtain ⟨wh, rfl⟩ : ∃ j : Nat, which = j := ⟨which.toNat, by omega⟩
  obtain ⟨ot, rfl⟩ : ∃ j : Nat, others = j := ⟨others.toNat, by omega⟩
  have hcv1 := conv5_3 wh hw
  have hcv2 := conv5_3 ot ho
  have htr := ok_truly hBk (w := wh) (o := ot) (by omega) (by omega)
  have hq0 := Nat.two_pow_pos N
  have hml : wh &&& (2 ^ N - 1) ≤ 2 ^ N - 1 := Nat.and_le_right
  have hti := fun hp => truth_in (o := ot) (tests := tests) hBk (m := wh &&& (2 ^ N - 1)) (by omega) hp
  have hBt := trT_ok hBk (trH bales (wh &&& (2 ^ N - 1)) ot)
  have hvt := trT_burr b2 (trH bales (wh &&& (2 ^ N - 1)) ot)
  have hq5 := pow32 hBk.n5
  generalize trT (trH bales (wh &&& (2 ^ N - 1)) ot) tests = ts at *
  generalize trH bales (wh &&& (2 ^ N - 1)) ot = h at *
  have hm64 : wh &&& (2 ^ N - 1) < 64 := by omega
  generalize wh &&& (2 ^ N - 1) = m at *
  by_cases hpr : L ≤ popc m ∧ popc m ≤ U
  rotate_left
  · have e : (decide (L ≤ popc m) && decide (popc m ≤ U)) = false := by
      rw [Bool.and_eq_false_iff, decide_eq_false_iff_not, decide_eq_false_iff_not]
      omega
    rw [e] at htr
    simp only [buR] at hl hB htr ⊢
    refine fun_ok (nt := 346) (rs := [.tmp 6]) Try.func6 rfl rfl rfl (by simp) fun Z w0 => ?_; simp only [initFr, avR, List.map_cons, List.map_nil]
    try simp only [List.append_eq, List.cons_append, List.nil_append]
    (repeat (first | apply aw_seq | apply aw_block | apply aw_skip | apply aw_label | apply aw_exit | ((first | refine aw_region (hideO fun QQ hQQ => ?_) | refine aw_draw mixed (hideD fun QQ hQQ => ?_)); simp (maxSteps := 400000) (disch := first | decide | omega) only [hcv1, hcv2, go_sem, ↓reduceIte]; try (first | with_reducible refine unhide hQQ ?_ | refine ⟨by kernel_rfl, unhide hQQ ?_⟩); clear hQQ QQ) | with_reducible first | apply then_n | apply block_n | apply then_x | apply then_r | apply nog_n | apply nog_r | apply block_r | apply block_e (by decide) | apply block_x (by decide)))
    (refine callO_ok rfl rfl 12 true rfl (by simp (disch := first | decide | omega) only [hcv1, hcv2, go_sem, ↓reduceIte]; try rfl) (fun _ => rfl) (hl) Try.func12 rfl (by decide) ?_); simp (maxSteps := 400000) (disch := first | decide | omega) only [hcv1, hcv2, go_sem, ↓reduceIte]; (try (with_reducible refine unhide hQQ ?_; clear hQQ QQ; (repeat with_reducible first | apply then_n | apply block_n | apply then_x | apply then_r | apply nog_n | apply nog_r | apply block_r | apply block_e (by decide) | apply block_x (by decide))))
    ((refine callO_ok rfl rfl 35 true rfl (by simp (disch := first | decide | omega) only [hcv1, hcv2, go_sem, ↓reduceIte]; try rfl) (fun _ => rfl) (hB) Try.func35 rfl (by decide) ?_); simp (maxSteps := 400000) (disch := first | decide | omega) only [hcv1, hcv2, go_sem, ↓reduceIte]; try (with_reducible refine unhide hQQ ?_; clear hQQ QQ)); (repeat (first | apply aw_seq | apply aw_block | apply aw_skip | apply aw_label | apply aw_exit | ((first | refine aw_region (hideO fun QQ hQQ => ?_) | refine aw_draw mixed (hideD fun QQ hQQ => ?_)); simp (maxSteps := 400000) (disch := first | decide | omega) only [hcv1, hcv2, go_sem, ↓reduceIte]; try (first | with_reducible refine unhide hQQ ?_ | refine ⟨by kernel_rfl, unhide hQQ ?_⟩); clear hQQ QQ) | with_reducible first | apply then_n | apply block_n | apply then_x | apply then_r | apply nog_n | apply nog_r | apply block_r | apply block_e (by decide) | apply block_x (by decide)))
    refine aw_cond2 (by simp (disch := first | decide | omega) only [hcv1, hcv2, go_sem, ↓reduceIte]; rfl) ?_; first | refine .inl ⟨by first | rfl | exact decide_eq_true (by omega) | exact decide_eq_true (by assumption) | (simp (disch := first | decide | omega) only [if_pos_d, if_neg_d, decide_eq_true_eq, Bool.not_eq_true', decide_eq_false_iff_not]; omega), ?_⟩ | refine .inr ⟨by first | rfl | exact decide_eq_false (by omega) | exact decide_eq_false (by assumption) | (simp (disch := first | decide | omega) only [if_pos_d, if_neg_d, decide_eq_true_eq, Bool.not_eq_true', decide_eq_false_iff_not]; omega), ?_⟩
    (repeat (first | apply aw_seq | apply aw_block | apply aw_skip | apply aw_label | apply aw_exit | ((first | refine aw_region (hideO fun QQ hQQ => ?_) | refine aw_draw mixed (hideD fun QQ hQQ => ?_)); simp (maxSteps := 400000) (disch := first | decide | omega) only [hcv1, hcv2, go_sem, ↓reduceIte]; try (first | with_reducible refine unhide hQQ ?_ | refine ⟨by kernel_rfl, unhide hQQ ?_⟩); clear hQQ QQ) | with_reducible first | apply then_n | apply block_n | apply then_x | apply then_r | apply nog_n | apply nog_r | apply block_r | apply block_e (by decide) | apply block_x (by decide)))
    ((refine callO_ok rfl rfl 36 false rfl (by simp (disch := first | decide | omega) only [hcv1, hcv2, go_sem, ↓reduceIte]; try rfl) (fun h => by cases h) (htr) Try.func36 rfl (by decide) ?_); simp (maxSteps := 400000) (disch := first | decide | omega) only [hcv1, hcv2, go_sem, ↓reduceIte]; try (with_reducible refine unhide hQQ ?_; clear hQQ QQ)); (repeat (first | apply aw_seq | apply aw_block | apply aw_skip | apply aw_label | apply aw_exit | ((first | refine aw_region (hideO fun QQ hQQ => ?_) | refine aw_draw mixed (hideD fun QQ hQQ => ?_)); simp (maxSteps := 400000) (disch := first | decide | omega) only [hcv1, hcv2, go_sem, ↓reduceIte]; try (first | with_reducible refine unhide hQQ ?_ | refine ⟨by kernel_rfl, unhide hQQ ?_⟩); clear hQQ QQ) | with_reducible first | apply then_n | apply block_n | apply then_x | apply then_r | apply nog_n | apply nog_r | apply block_r | apply block_e (by decide) | apply block_x (by decide)))
    refine aw_cond2 (by simp (disch := first | decide | omega) only [hcv1, hcv2, go_sem, ↓reduceIte]; rfl) ?_; first | refine .inl ⟨by first | rfl | exact decide_eq_true (by omega) | exact decide_eq_true (by assumption) | (simp (disch := first | decide | omega) only [if_pos_d, if_neg_d, decide_eq_true_eq, Bool.not_eq_true', decide_eq_false_iff_not]; omega), ?_⟩ | refine .inr ⟨by first | rfl | exact decide_eq_false (by omega) | exact decide_eq_false (by assumption) | (simp (disch := first | decide | omega) only [if_pos_d, if_neg_d, decide_eq_true_eq, Bool.not_eq_true', decide_eq_false_iff_not]; omega), ?_⟩
    (repeat (first | apply aw_seq | apply aw_block | apply aw_skip | apply aw_label | apply aw_exit | ((first | refine aw_region (hideO fun QQ hQQ => ?_) | refine aw_draw mixed (hideD fun QQ hQQ => ?_)); simp (maxSteps := 400000) (disch := first | decide | omega) only [hcv1, hcv2, go_sem, ↓reduceIte]; try (first | with_reducible refine unhide hQQ ?_ | refine ⟨by kernel_rfl, unhide hQQ ?_⟩); clear hQQ QQ) | with_reducible first | apply then_n | apply block_n | apply then_x | apply then_r | apply nog_n | apply nog_r | apply block_r | apply block_e (by decide) | apply block_x (by decide)))
    ((refine callO_ok rfl rfl 13 true rfl (by simp (disch := first | decide | omega) only [hcv1, hcv2, go_sem, ↓reduceIte]; try rfl) (fun _ => rfl) (hal) Try.func13 rfl (by decide) ?_); simp (maxSteps := 400000) (disch := first | decide | omega) only [hcv1, hcv2, go_sem, ↓reduceIte]; try (with_reducible refine unhide hQQ ?_; clear hQQ QQ)); (repeat (first | apply aw_seq | apply aw_block | apply aw_skip | apply aw_label | apply aw_exit | ((first | refine aw_region (hideO fun QQ hQQ => ?_) | refine aw_draw mixed (hideD fun QQ hQQ => ?_)); simp (maxSteps := 400000) (disch := first | decide | omega) only [hcv1, hcv2, go_sem, ↓reduceIte]; try (first | with_reducible refine unhide hQQ ?_ | refine ⟨by kernel_rfl, unhide hQQ ?_⟩); clear hQQ QQ) | with_reducible first | apply then_n | apply block_n | apply then_x | apply then_r | apply nog_n | apply nog_r | apply block_r | apply block_e (by decide) | apply block_x (by decide)))
    refine aw_ret ?_; refine ⟨.inr rfl, ?_⟩; simp only [resA, res1, go_sem, ↓reduceIte]
  rw [show (decide (L ≤ popc m) && decide (popc m ≤ U)) = true by rw [decide_eq_true hpr.1, decide_eq_true hpr.2]; rfl] at htr
  have ht := hti hpr
  have hne : TR N L U bales ts ≠ [] := List.ne_nil_of_mem ht
  have hx64 := (mem_TR_lt hBt ht).2
  have hT6 : T < 64 := Nat.lt_of_lt_of_le hBk.tp (pow64 hBk.b6)
  have hC := ok_Clash (n := N) (lo := L) (hi := U) (top := T) (bales := bales) (tests := ts)
  have hwC : whyC N L U T bales ts = 4 := by
    unfold whyC
    rw [hvt, if_pos rfl]
    simp only [Int.toNat_natCast, no_clash hBt ht]
    rfl
  rw [hwC] at hC
  have hcc : cntB N L U bales ts = cntF L U bales ts (2 ^ N) := rfl
  have hcl : cntF L U bales ts (2 ^ N) = (TR N L U bales ts).length := count_TR hBt.b6 hBt.te6
  have hpos : 0 < cntF L U bales ts (2 ^ N) := by rw [hcl]; exact List.length_pos_of_mem ht
  have hN := ok_Count (n := N) (lo := L) (hi := U) (top := T) (bales := bales) (tests := ts)
  have hwV : whyV N L U T bales ts = 0 := by simp [whyV, hvt]
  rw [hwV, hcc] at hN
  have hwT : whyT N L U T bales ts = 0 := by
    unfold whyT
    rw [hvt, if_pos rfl, hcc, if_neg (by omega)]
  have hM := ok_Mobs (n := N) (lo := L) (hi := U) (top := T) (bales := bales) (tests := ts)
  have hA := ok_Bales (n := N) (lo := L) (hi := U) (top := T) (bales := bales) (tests := ts)
  have hE := ok_Clean (n := N) (lo := L) (hi := U) (top := T) (bales := bales) (tests := ts)
  have hP := ok_Pure (n := N) (lo := L) (hi := U) (top := T) (bales := bales) (tests := ts)
  rw [hwT] at hM hA hE hP
  obtain ⟨a1, ha1⟩ := see_some (L := (TR N L U bales ts).map (·.1)) (by simpa using hne)
  obtain ⟨a2, ha2⟩ := see_some (L := (TR N L U bales ts).map (·.2)) (by simpa using hne)
  have hm1 : m ∈ (TR N L U bales ts).map (·.1) := List.mem_map.2 ⟨_, ht, rfl⟩
  have hm2 : h ∈ (TR N L U bales ts).map (·.2) := List.mem_map.2 ⟨_, ht, rfl⟩
  have s1 := all_sub ha1 hm1
  have s2 := some_sup hm1
  have s3 := all_sub ha2 hm2
  have s4 := some_sup hm2
  obtain ⟨s5, s6⟩ := pure_true (T := T) s4
  obtain ⟨k1, k2⟩ := clean_true hBt ht
  have k3 := clean_range hBt
  have l1 := seeL_lt (L := (TR N L U bales ts).map (·.1)) (by intro x hx; obtain ⟨y, hy, rfl⟩ := List.mem_map.1 hx; have := (mem_TR_lt hBt hy).1; omega)
  have l2 := seeL_lt (L := (TR N L U bales ts).map (·.2)) (by intro x hx; obtain ⟨y, hy, rfl⟩ := List.mem_map.1 hx; exact (mem_TR_lt hBt hy).2)
  have la1 := l1.2 a1 ha1
  have la2 := l2.2 a2 ha2
  have eM : mobA N L U bales ts = ((a1 : Int), (((seeL ((TR N L U bales ts).map (·.1))).1 : Nat) : Int)) := by unfold mobA; simp only [Int.toNat_natCast, mob_see hne, ha1]; rfl
  have eA : balA N L U bales ts = ((a2 : Int), (((seeL ((TR N L U bales ts).map (·.2))).1 : Nat) : Int)) := by unfold balA; simp only [Int.toNat_natCast, bal_see hne, ha2]; rfl
  have eP : pureA N L U T bales ts = ((diffN T (seeL ((TR N L U bales ts).map (·.2))).1 : Nat) : Int) := by unfold pureA; simp only [Int.toNat_natCast, bal_see hne]
  rw [eM] at hM
  rw [eA] at hA
  rw [eP] at hP
  have lc1 := l1.1
  have lc2 := l2.1
  generalize (seeL ((TR N L U bales ts).map (·.1))).1 = c1 at *
  generalize (seeL ((TR N L U bales ts).map (·.2))).1 = c2 at *
  have d1 : ∀ (T' : TypeId) (x y : Operand), binA Try.prog .andNot T' x y (.int .i64 (a1 : Int)) (.int .i64 (m : Int)) = some (.int .i64 0) := fun T' x y => by rw [bin_andNot_nat T' x y (by omega) (by omega), s1]; rfl
  have d2 : ∀ (T' : TypeId) (x y : Operand), binA Try.prog .andNot T' x y (.int .i64 (m : Int)) (.int .i64 (c1 : Int)) = some (.int .i64 0) := fun T' x y => by rw [bin_andNot_nat T' x y (by omega) (by omega), s2]; rfl
  have d3 : ∀ (T' : TypeId) (x y : Operand), binA Try.prog .andNot T' x y (.int .i64 (a2 : Int)) (.int .i64 (h : Int)) = some (.int .i64 0) := fun T' x y => by rw [bin_andNot_nat T' x y (by omega) (by omega), s3]; rfl
  have d4 : ∀ (T' : TypeId) (x y : Operand), binA Try.prog .andNot T' x y (.int .i64 (h : Int)) (.int .i64 (c2 : Int)) = some (.int .i64 0) := fun T' x y => by rw [bin_andNot_nat T' x y (by omega) (by omega), s4]; rfl
  have hpl := diffN_le T c2
  have d5 : ∀ (T' : TypeId) (x y : Operand), binA Try.prog .and T' x y (.int .i64 ((diffN T c2 : Nat) : Int)) (.int .i64 (h : Int)) = some (.int .i64 0) := fun T' x y => by rw [bin_and_nat T' x y (by omega) (by omega), s5]; rfl
  have d6 : ∀ (T' : TypeId) (x y : Operand), binA Try.prog .andNot T' x y (.int .i64 ((diffN T c2 : Nat) : Int)) (.int .i64 (T : Int)) = some (.int .i64 0) := fun T' x y => by rw [bin_andNot_nat T' x y (by omega) (by omega), s6]; rfl
  have h2 := fun Z w0 => true_tail1 (tests := tests) hvt hBt ht rfl k1 k2 k3 d5 d6 Z w0
  generalize diffN T c2 = pu at *
  generalize cntF L U bales ts (2 ^ N) = cn at *
  generalize cleanA N L U T bales ts = cl at *
  simp only [bxC] at h2
  simp only [buR, ansN, ansR, if_true, show ¬ ((4 : Int) = 0) by decide, if_false] at hl hB htr hC hN hM hA hE hP ⊢
  clear hti hBk hBt hvt hwC hcc hcl hwV hwT eM eA eP l1 l2 ht hne hm1 hm2 ha1 ha2 s1 s2 s3 s4 s5 s6 k1 k2 k3
  refine fun_ok (nt := 346) (rs := [.tmp 6]) Try.func6 rfl rfl rfl (by simp) fun Z w0 => ?_; simp only [initFr, avR, List.map_cons, List.map_nil]
  try simp only [List.append_eq, List.cons_append, List.nil_append]
  (repeat (first | apply aw_seq | apply aw_block | apply aw_skip | apply aw_label | apply aw_exit | ((first | refine aw_region (hideO fun QQ hQQ => ?_) | refine aw_draw mixed (hideD fun QQ hQQ => ?_)); simp (maxSteps := 400000) (disch := first | decide | omega) only [hcv1, hcv2, d1, d2, d3, d4, d5, d6, go_sem, ↓reduceIte]; try (first | with_reducible refine unhide hQQ ?_ | refine ⟨by kernel_rfl, unhide hQQ ?_⟩); clear hQQ QQ) | with_reducible first | apply then_n | apply block_n | apply then_x | apply then_r | apply nog_n | apply nog_r | apply block_r | apply block_e (by decide) | apply block_x (by decide)))
  (refine callO_ok rfl rfl 12 true rfl (by simp (disch := first | decide | omega) only [hcv1, hcv2, d1, d2, d3, d4, d5, d6, go_sem, ↓reduceIte]; try rfl) (fun _ => rfl) (hl) Try.func12 rfl (by decide) ?_); simp (maxSteps := 400000) (disch := first | decide | omega) only [hcv1, hcv2, d1, d2, d3, d4, d5, d6, go_sem, ↓reduceIte]; (try (with_reducible refine unhide hQQ ?_; clear hQQ QQ; (repeat with_reducible first | apply then_n | apply block_n | apply then_x | apply then_r | apply nog_n | apply nog_r | apply block_r | apply block_e (by decide) | apply block_x (by decide))))
  ((refine callO_ok rfl rfl 35 true rfl (by simp (disch := first | decide | omega) only [hcv1, hcv2, d1, d2, d3, d4, d5, d6, go_sem, ↓reduceIte]; try rfl) (fun _ => rfl) (hB) Try.func35 rfl (by decide) ?_); simp (maxSteps := 400000) (disch := first | decide | omega) only [hcv1, hcv2, d1, d2, d3, d4, d5, d6, go_sem, ↓reduceIte]; try (with_reducible refine unhide hQQ ?_; clear hQQ QQ)); (repeat (first | apply aw_seq | apply aw_block | apply aw_skip | apply aw_label | apply aw_exit | ((first | refine aw_region (hideO fun QQ hQQ => ?_) | refine aw_draw mixed (hideD fun QQ hQQ => ?_)); simp (maxSteps := 400000) (disch := first | decide | omega) only [hcv1, hcv2, d1, d2, d3, d4, d5, d6, go_sem, ↓reduceIte]; try (first | with_reducible refine unhide hQQ ?_ | refine ⟨by kernel_rfl, unhide hQQ ?_⟩); clear hQQ QQ) | with_reducible first | apply then_n | apply block_n | apply then_x | apply then_r | apply nog_n | apply nog_r | apply block_r | apply block_e (by decide) | apply block_x (by decide)))
  refine aw_cond2 (by simp (disch := first | decide | omega) only [hcv1, hcv2, d1, d2, d3, d4, d5, d6, go_sem, ↓reduceIte]; rfl) ?_; first | refine .inl ⟨by first | rfl | exact decide_eq_true (by omega) | exact decide_eq_true (by assumption) | (simp (disch := first | decide | omega) only [if_pos_d, if_neg_d, decide_eq_true_eq, Bool.not_eq_true', decide_eq_false_iff_not]; omega), ?_⟩ | refine .inr ⟨by first | rfl | exact decide_eq_false (by omega) | exact decide_eq_false (by assumption) | (simp (disch := first | decide | omega) only [if_pos_d, if_neg_d, decide_eq_true_eq, Bool.not_eq_true', decide_eq_false_iff_not]; omega), ?_⟩
  (repeat (first | apply aw_seq | apply aw_block | apply aw_skip | apply aw_label | apply aw_exit | ((first | refine aw_region (hideO fun QQ hQQ => ?_) | refine aw_draw mixed (hideD fun QQ hQQ => ?_)); simp (maxSteps := 400000) (disch := first | decide | omega) only [hcv1, hcv2, d1, d2, d3, d4, d5, d6, go_sem, ↓reduceIte]; try (first | with_reducible refine unhide hQQ ?_ | refine ⟨by kernel_rfl, unhide hQQ ?_⟩); clear hQQ QQ) | with_reducible first | apply then_n | apply block_n | apply then_x | apply then_r | apply nog_n | apply nog_r | apply block_r | apply block_e (by decide) | apply block_x (by decide)))
  ((refine callO_ok rfl rfl 36 false rfl (by simp (disch := first | decide | omega) only [hcv1, hcv2, d1, d2, d3, d4, d5, d6, go_sem, ↓reduceIte]; try rfl) (fun h => by cases h) (htr) Try.func36 rfl (by decide) ?_); simp (maxSteps := 400000) (disch := first | decide | omega) only [hcv1, hcv2, d1, d2, d3, d4, d5, d6, go_sem, ↓reduceIte]; try (with_reducible refine unhide hQQ ?_; clear hQQ QQ)); (repeat (first | apply aw_seq | apply aw_block | apply aw_skip | apply aw_label | apply aw_exit | ((first | refine aw_region (hideO fun QQ hQQ => ?_) | refine aw_draw mixed (hideD fun QQ hQQ => ?_)); simp (maxSteps := 400000) (disch := first | decide | omega) only [hcv1, hcv2, d1, d2, d3, d4, d5, d6, go_sem, ↓reduceIte]; try (first | with_reducible refine unhide hQQ ?_ | refine ⟨by kernel_rfl, unhide hQQ ?_⟩); clear hQQ QQ) | with_reducible first | apply then_n | apply block_n | apply then_x | apply then_r | apply nog_n | apply nog_r | apply block_r | apply block_e (by decide) | apply block_x (by decide)))
  refine aw_cond2 (by simp (disch := first | decide | omega) only [hcv1, hcv2, d1, d2, d3, d4, d5, d6, go_sem, ↓reduceIte]; rfl) ?_; first | refine .inl ⟨by first | rfl | exact decide_eq_true (by omega) | exact decide_eq_true (by assumption) | (simp (disch := first | decide | omega) only [if_pos_d, if_neg_d, decide_eq_true_eq, Bool.not_eq_true', decide_eq_false_iff_not]; omega), ?_⟩ | refine .inr ⟨by first | rfl | exact decide_eq_false (by omega) | exact decide_eq_false (by assumption) | (simp (disch := first | decide | omega) only [if_pos_d, if_neg_d, decide_eq_true_eq, Bool.not_eq_true', decide_eq_false_iff_not]; omega), ?_⟩
  (repeat (first | apply aw_seq | apply aw_block | apply aw_skip | apply aw_label | apply aw_exit | ((first | refine aw_region (hideO fun QQ hQQ => ?_) | refine aw_draw mixed (hideD fun QQ hQQ => ?_)); simp (maxSteps := 400000) (disch := first | decide | omega) only [hcv1, hcv2, d1, d2, d3, d4, d5, d6, go_sem, ↓reduceIte]; try (first | with_reducible refine unhide hQQ ?_ | refine ⟨by kernel_rfl, unhide hQQ ?_⟩); clear hQQ QQ) | with_reducible first | apply then_n | apply block_n | apply then_x | apply then_r | apply nog_n | apply nog_r | apply block_r | apply block_e (by decide) | apply block_x (by decide)))
  ((refine callO_ok rfl rfl 29 true rfl (by simp (disch := first | decide | omega) only [hcv1, hcv2, d1, d2, d3, d4, d5, d6, go_sem, ↓reduceIte]; try rfl) (fun _ => rfl) (hC) Try.func29 rfl (by decide) ?_); simp (maxSteps := 400000) (disch := first | decide | omega) only [hcv1, hcv2, d1, d2, d3, d4, d5, d6, go_sem, ↓reduceIte]; try (with_reducible refine unhide hQQ ?_; clear hQQ QQ)); (repeat (first | apply aw_seq | apply aw_block | apply aw_skip | apply aw_label | apply aw_exit | ((first | refine aw_region (hideO fun QQ hQQ => ?_) | refine aw_draw mixed (hideD fun QQ hQQ => ?_)); simp (maxSteps := 400000) (disch := first | decide | omega) only [hcv1, hcv2, d1, d2, d3, d4, d5, d6, go_sem, ↓reduceIte]; try (first | with_reducible refine unhide hQQ ?_ | refine ⟨by kernel_rfl, unhide hQQ ?_⟩); clear hQQ QQ) | with_reducible first | apply then_n | apply block_n | apply then_x | apply then_r | apply nog_n | apply nog_r | apply block_r | apply block_e (by decide) | apply block_x (by decide)))
  ((refine callO_ok rfl rfl 22 true rfl (by simp (disch := first | decide | omega) only [hcv1, hcv2, d1, d2, d3, d4, d5, d6, go_sem, ↓reduceIte]; try rfl) (fun _ => rfl) (hN) Try.func22 rfl (by decide) ?_); simp (maxSteps := 400000) (disch := first | decide | omega) only [hcv1, hcv2, d1, d2, d3, d4, d5, d6, go_sem, ↓reduceIte]; try (with_reducible refine unhide hQQ ?_; clear hQQ QQ)); (repeat (first | apply aw_seq | apply aw_block | apply aw_skip | apply aw_label | apply aw_exit | ((first | refine aw_region (hideO fun QQ hQQ => ?_) | refine aw_draw mixed (hideD fun QQ hQQ => ?_)); simp (maxSteps := 400000) (disch := first | decide | omega) only [hcv1, hcv2, d1, d2, d3, d4, d5, d6, go_sem, ↓reduceIte]; try (first | with_reducible refine unhide hQQ ?_ | refine ⟨by kernel_rfl, unhide hQQ ?_⟩); clear hQQ QQ) | with_reducible first | apply then_n | apply block_n | apply then_x | apply then_r | apply nog_n | apply nog_r | apply block_r | apply block_e (by decide) | apply block_x (by decide)))
  ((refine callO_ok rfl rfl 14 true rfl (by simp (disch := first | decide | omega) only [hcv1, hcv2, d1, d2, d3, d4, d5, d6, go_sem, ↓reduceIte]; try rfl) (fun _ => rfl) (hM) Try.func14 rfl (by decide) ?_); simp (maxSteps := 400000) (disch := first | decide | omega) only [hcv1, hcv2, d1, d2, d3, d4, d5, d6, go_sem, ↓reduceIte]; try (with_reducible refine unhide hQQ ?_; clear hQQ QQ)); (repeat (first | apply aw_seq | apply aw_block | apply aw_skip | apply aw_label | apply aw_exit | ((first | refine aw_region (hideO fun QQ hQQ => ?_) | refine aw_draw mixed (hideD fun QQ hQQ => ?_)); simp (maxSteps := 400000) (disch := first | decide | omega) only [hcv1, hcv2, d1, d2, d3, d4, d5, d6, go_sem, ↓reduceIte]; try (first | with_reducible refine unhide hQQ ?_ | refine ⟨by kernel_rfl, unhide hQQ ?_⟩); clear hQQ QQ) | with_reducible first | apply then_n | apply block_n | apply then_x | apply then_r | apply nog_n | apply nog_r | apply block_r | apply block_e (by decide) | apply block_x (by decide)))
  ((refine callO_ok rfl rfl 16 true rfl (by simp (disch := first | decide | omega) only [hcv1, hcv2, d1, d2, d3, d4, d5, d6, go_sem, ↓reduceIte]; try rfl) (fun _ => rfl) (hA) Try.func16 rfl (by decide) ?_); simp (maxSteps := 400000) (disch := first | decide | omega) only [hcv1, hcv2, d1, d2, d3, d4, d5, d6, go_sem, ↓reduceIte]; try (with_reducible refine unhide hQQ ?_; clear hQQ QQ)); (repeat (first | apply aw_seq | apply aw_block | apply aw_skip | apply aw_label | apply aw_exit | ((first | refine aw_region (hideO fun QQ hQQ => ?_) | refine aw_draw mixed (hideD fun QQ hQQ => ?_)); simp (maxSteps := 400000) (disch := first | decide | omega) only [hcv1, hcv2, d1, d2, d3, d4, d5, d6, go_sem, ↓reduceIte]; try (first | with_reducible refine unhide hQQ ?_ | refine ⟨by kernel_rfl, unhide hQQ ?_⟩); clear hQQ QQ) | with_reducible first | apply then_n | apply block_n | apply then_x | apply then_r | apply nog_n | apply nog_r | apply block_r | apply block_e (by decide) | apply block_x (by decide)))
  ((refine callO_ok rfl rfl 18 true rfl (by simp (disch := first | decide | omega) only [hcv1, hcv2, d1, d2, d3, d4, d5, d6, go_sem, ↓reduceIte]; try rfl) (fun _ => rfl) (hE) Try.func18 rfl (by decide) ?_); simp (maxSteps := 400000) (disch := first | decide | omega) only [hcv1, hcv2, d1, d2, d3, d4, d5, d6, go_sem, ↓reduceIte]; try (with_reducible refine unhide hQQ ?_; clear hQQ QQ)); (repeat (first | apply aw_seq | apply aw_block | apply aw_skip | apply aw_label | apply aw_exit | ((first | refine aw_region (hideO fun QQ hQQ => ?_) | refine aw_draw mixed (hideD fun QQ hQQ => ?_)); simp (maxSteps := 400000) (disch := first | decide | omega) only [hcv1, hcv2, d1, d2, d3, d4, d5, d6, go_sem, ↓reduceIte]; try (first | with_reducible refine unhide hQQ ?_ | refine ⟨by kernel_rfl, unhide hQQ ?_⟩); clear hQQ QQ) | with_reducible first | apply then_n | apply block_n | apply then_x | apply then_r | apply nog_n | apply nog_r | apply block_r | apply block_e (by decide) | apply block_x (by decide)))
  ((refine callO_ok rfl rfl 20 true rfl (by simp (disch := first | decide | omega) only [hcv1, hcv2, d1, d2, d3, d4, d5, d6, go_sem, ↓reduceIte]; try rfl) (fun _ => rfl) (hP) Try.func20 rfl (by decide) ?_); simp (maxSteps := 400000) (disch := first | decide | omega) only [hcv1, hcv2, d1, d2, d3, d4, d5, d6, go_sem, ↓reduceIte]; try (with_reducible refine unhide hQQ ?_; clear hQQ QQ)); (repeat (first | apply aw_seq | apply aw_block | apply aw_skip | apply aw_label | apply aw_exit | ((first | refine aw_region (hideO fun QQ hQQ => ?_) | refine aw_draw mixed (hideD fun QQ hQQ => ?_)); simp (maxSteps := 400000) (disch := first | decide | omega) only [hcv1, hcv2, d1, d2, d3, d4, d5, d6, go_sem, ↓reduceIte]; try (first | with_reducible refine unhide hQQ ?_ | refine ⟨by kernel_rfl, unhide hQQ ?_⟩); clear hQQ QQ) | with_reducible first | apply then_n | apply block_n | apply then_x | apply then_r | apply nog_n | apply nog_r | apply block_r | apply block_e (by decide) | apply block_x (by decide)))
  refine aw_cond2 (by simp (disch := first | decide | omega) only [hcv1, hcv2, d1, d2, d3, d4, d5, d6, go_sem, ↓reduceIte]; rfl) ?_; first | refine .inl ⟨by first | rfl | exact decide_eq_true (by omega) | exact decide_eq_true (by assumption) | (simp (disch := first | decide | omega) only [if_pos_d, if_neg_d, decide_eq_true_eq, Bool.not_eq_true', decide_eq_false_iff_not]; omega), ?_⟩ | refine .inr ⟨by first | rfl | exact decide_eq_false (by omega) | exact decide_eq_false (by assumption) | (simp (disch := first | decide | omega) only [if_pos_d, if_neg_d, decide_eq_true_eq, Bool.not_eq_true', decide_eq_false_iff_not]; omega), ?_⟩
  (refine aw_skip ?_); (repeat with_reducible first | apply then_n | apply block_n | apply then_x | apply then_r | apply nog_n | apply nog_r | apply block_r | apply block_e (by decide) | apply block_x (by decide))
  refine aw_weak (weak_round (T := ⟨[(3, .one (.box 0 0)), (7, .one (.box 1 0)), (9, .one (.p (iP h))), (13, .one (.p (iP cn))), (21, .one (.p (iP cl))), (23, .one (.p (iP pu)))], [(0, .box [.p (iP N), .p (iP L), .p (iP U), .p (.sl (bales.map row2)), .p (iP T), .p (.sl (tests.map rowB))]), (1, .box [.p (iP N), .p (iP L), .p (iP U), .p (.sl (bales.map row2)), .p (iP T), .p (.sl (ts.map rowB))])], 2⟩) (by simp only [go_sem, ↓reduceIte]; try rfl) (by first | rfl | (simp only [go_sem, ↓reduceIte]))) ?_
  exact h2 Z w0
end
end Go.Proofs.Ytknikcpeacmpmaa
