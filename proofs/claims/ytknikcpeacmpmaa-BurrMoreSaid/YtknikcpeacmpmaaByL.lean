/- THE LAW BurrMore, walked. -/
import Derived.Test.YtknikcpeacmpmaaByM
set_option linter.all false
namespace Go.Proofs.Ytknikcpeacmpmaa
open Go Go.RowKit Go.Sh Go.Pv
set_option maxHeartbeats 8000000
set_option maxRecDepth 8000
set_option pp.maxSteps 60000
theorem sub_le {a b : Nat} (h : diffN a b = 0) : a ≤ b := by
  have h2 : a = a &&& b := by
    apply Nat.eq_of_testBit_eq
    intro j
    rw [Nat.testBit_and]
    cases hj : a.testBit j with
    | false => rfl
    | true => rw [sub_iff.1 h j hj]; rfl
  rw [h2]; exact Nat.and_le_right
section
variable {n lo hi top : Int} {bales : List (Int × Int)} {tests : List (Int × Bool)}
theorem main_more (which : Int) (found : Bool) (hw : 0 ≤ which ∧ which ≤ 255) : FunOK Try.prog 11 [buR n lo hi top bales tests, .one (.v (.int .u8 which)), .one (.v (.bool found))] (.one (.one (.v (.bool true)))) := by
  have hal := ok_alive
  have hl := ok_long n lo hi top bales tests
  have hB := ok_Burr (n := n) (lo := lo) (hi := hi) (top := top) (bales := bales) (tests := tests)
  cases b1 : decide (40 < max bales.length tests.length)
  rotate_left
  · rw [b1] at hl
    simp only [buR] at hl hB ⊢
    refine fun_ok (nt := 463) (rs := [.tmp 6]) Try.func11 rfl rfl rfl (by simp) fun Z w0 => ?_; simp only [initFr, avR, List.map_cons, List.map_nil]
    try simp only [List.append_eq, List.cons_append, List.nil_append]
    refine tw ?_; try with_reducible intro QQ hQQ
    ((refine cO 12 rfl rfl rfl (hl) Try.func12 rfl ?_); refine tu ?_; try clear hQQ QQ); refine tw ?_; try with_reducible intro QQ hQQ
    refine ti ?_; try clear hQQ QQ
    refine tw ?_; try with_reducible intro QQ hQQ
    ((refine cO 13 rfl rfl rfl (hal) Try.func13 rfl ?_); refine tu ?_; try clear hQQ QQ); refine tw ?_; try with_reducible intro QQ hQQ
    refine aw_ret ?_; refine ⟨.inr rfl, ?_⟩; simp only [resA, res1, go_sem, ↓reduceIte]
  rw [b1] at hl
  cases b2 : burrB n lo hi top bales tests
  · rw [b2] at hB
    simp only [buR] at hl hB ⊢
    refine fun_ok (nt := 463) (rs := [.tmp 6]) Try.func11 rfl rfl rfl (by simp) fun Z w0 => ?_; simp only [initFr, avR, List.map_cons, List.map_nil]
    try simp only [List.append_eq, List.cons_append, List.nil_append]
    refine tw ?_; try with_reducible intro QQ hQQ
    (refine cO 12 rfl rfl rfl (hl) Try.func12 rfl ?_); refine ts ?_; try clear hQQ QQ
    ((refine cO 35 rfl rfl rfl (hB) Try.func35 rfl ?_); refine tu ?_; try clear hQQ QQ); refine tw ?_; try with_reducible intro QQ hQQ
    refine ti ?_; try clear hQQ QQ
    refine tw ?_; try with_reducible intro QQ hQQ
    ((refine cO 13 rfl rfl rfl (hal) Try.func13 rfl ?_); refine tu ?_; try clear hQQ QQ); refine tw ?_; try with_reducible intro QQ hQQ
    refine aw_ret ?_; refine ⟨.inr rfl, ?_⟩; simp only [resA, res1, go_sem, ↓reduceIte]
  rw [b2] at hB
  by_cases b3 : bales.length = 0
  · simp only [buR] at hl hB ⊢
    refine fun_ok (nt := 463) (rs := [.tmp 6]) Try.func11 rfl rfl rfl (by simp) fun Z w0 => ?_; simp only [initFr, avR, List.map_cons, List.map_nil]
    try simp only [List.append_eq, List.cons_append, List.nil_append]
    (repeat (first | apply aw_seq | apply aw_block | apply aw_skip | apply aw_label | apply aw_exit | ((first | refine aw_region (hideO fun QQ hQQ => ?_) | refine aw_draw mixed (hideD fun QQ hQQ => ?_)); simp (maxSteps := 400000) (disch := first | decide | omega) only [b3, go_sem, ↓reduceIte]; try (first | with_reducible refine unhide hQQ ?_ | refine ⟨by kernel_rfl, unhide hQQ ?_⟩); clear hQQ QQ) | with_reducible first | apply then_n | apply block_n | apply then_x | apply then_r | apply nog_n | apply nog_r | apply block_r | apply block_e (by decide) | apply block_x (by decide)))
    (refine callO_ok rfl rfl 12 true rfl (by simp (disch := first | decide | omega) only [b3, go_sem, ↓reduceIte]; try rfl) (fun _ => rfl) (hl) Try.func12 rfl (by decide) ?_); simp (maxSteps := 400000) (disch := first | decide | omega) only [b3, go_sem, ↓reduceIte]; (try (with_reducible refine unhide hQQ ?_; clear hQQ QQ; (repeat with_reducible first | apply then_n | apply block_n | apply then_x | apply then_r | apply nog_n | apply nog_r | apply block_r | apply block_e (by decide) | apply block_x (by decide))))
    ((refine callO_ok rfl rfl 35 true rfl (by simp (disch := first | decide | omega) only [b3, go_sem, ↓reduceIte]; try rfl) (fun _ => rfl) (hB) Try.func35 rfl (by decide) ?_); simp (maxSteps := 400000) (disch := first | decide | omega) only [b3, go_sem, ↓reduceIte]; try (with_reducible refine unhide hQQ ?_; clear hQQ QQ)); (repeat (first | apply aw_seq | apply aw_block | apply aw_skip | apply aw_label | apply aw_exit | ((first | refine aw_region (hideO fun QQ hQQ => ?_) | refine aw_draw mixed (hideD fun QQ hQQ => ?_)); simp (maxSteps := 400000) (disch := first | decide | omega) only [b3, go_sem, ↓reduceIte]; try (first | with_reducible refine unhide hQQ ?_ | refine ⟨by kernel_rfl, unhide hQQ ?_⟩); clear hQQ QQ) | with_reducible first | apply then_n | apply block_n | apply then_x | apply then_r | apply nog_n | apply nog_r | apply block_r | apply block_e (by decide) | apply block_x (by decide)))
    refine aw_cond2 (by simp (disch := first | decide | omega) only [b3, go_sem, ↓reduceIte]; rfl) ?_; first | refine .inl ⟨by first | rfl | exact decide_eq_true (by omega) | exact decide_eq_true (by assumption) | (simp (disch := first | decide | omega) only [if_pos_d, if_neg_d, decide_eq_true_eq, Bool.not_eq_true', decide_eq_false_iff_not]; omega), ?_⟩ | refine .inr ⟨by first | rfl | exact decide_eq_false (by omega) | exact decide_eq_false (by assumption) | (simp (disch := first | decide | omega) only [if_pos_d, if_neg_d, decide_eq_true_eq, Bool.not_eq_true', decide_eq_false_iff_not]; omega), ?_⟩
    (repeat (first | apply aw_seq | apply aw_block | apply aw_skip | apply aw_label | apply aw_exit | ((first | refine aw_region (hideO fun QQ hQQ => ?_) | refine aw_draw mixed (hideD fun QQ hQQ => ?_)); simp (maxSteps := 400000) (disch := first | decide | omega) only [b3, go_sem, ↓reduceIte]; try (first | with_reducible refine unhide hQQ ?_ | refine ⟨by kernel_rfl, unhide hQQ ?_⟩); clear hQQ QQ) | with_reducible first | apply then_n | apply block_n | apply then_x | apply then_r | apply nog_n | apply nog_r | apply block_r | apply block_e (by decide) | apply block_x (by decide)))
    ((refine callO_ok rfl rfl 13 true rfl (by simp (disch := first | decide | omega) only [b3, go_sem, ↓reduceIte]; try rfl) (fun _ => rfl) (hal) Try.func13 rfl (by decide) ?_); simp (maxSteps := 400000) (disch := first | decide | omega) only [b3, go_sem, ↓reduceIte]; try (with_reducible refine unhide hQQ ?_; clear hQQ QQ)); (repeat (first | apply aw_seq | apply aw_block | apply aw_skip | apply aw_label | apply aw_exit | ((first | refine aw_region (hideO fun QQ hQQ => ?_) | refine aw_draw mixed (hideD fun QQ hQQ => ?_)); simp (maxSteps := 400000) (disch := first | decide | omega) only [b3, go_sem, ↓reduceIte]; try (first | with_reducible refine unhide hQQ ?_ | refine ⟨by kernel_rfl, unhide hQQ ?_⟩); clear hQQ QQ) | with_reducible first | apply then_n | apply block_n | apply then_x | apply then_r | apply nog_n | apply nog_r | apply block_r | apply block_e (by decide) | apply block_x (by decide)))
    refine aw_ret ?_; refine ⟨.inr rfl, ?_⟩; simp only [resA, res1, go_sem, ↓reduceIte]
  obtain ⟨N, L, U, T, rfl, rfl, rfl, rfl, hBk⟩ := bok_of b2
  obtain ⟨wh, rfl⟩ : ∃ j : Nat, which = j := ⟨which.toNat, by omega⟩
  have hcv := conv5_3 wh hw
  have hrem : ∀ (T' : TypeId) (x y : Operand), binA Try.prog .rem T' x y (.int .i64 (wh : Int)) (.int .i64 (bales.length : Int)) = some (.int .i64 ((wh % bales.length : Nat) : Int)) := fun T' x y => by
    rw [bin_rem _ _ _ _ _ _ (by omega), Int.tmod_eq_emod_of_nonneg (by omega)]
    rfl
  have hj : wh % bales.length < bales.length := Nat.mod_lt _ (by omega)
  generalize wh % bales.length = j at *
  have h38 := ok_test38 (j : Int) found
  have hrow : tests.map rowB ++ [[iP (j : Int), PV.v (.bool found)]] = (tests ++ [((j : Int), found)]).map rowB := by simp [rowB]
  have ht6 := hBk.t6
  have hb6 := hBk.b6
  have hlb : (tests.length + 1) * 16 ≤ 140737488355328 := by omega
  have hlb0 : tests.length * 16 ≤ 140737488355328 := by omega
  have hlb1 : bales.length * 16 ≤ 140737488355328 := by omega
  have hrk : rowsK 2 [[iP (j : Int), PV.v (.bool found)]] = True := rowsK_2 ((j : Int), found)
  have hrB : rowsK 2 (tests.map rowB) = True := eq_true (rowsK_B tests)
  have hr2 : rowsK 2 (bales.map row2) = True := eq_true fun i r h => by rw [List.getElem?_map] at h; obtain ⟨x, _, rfl⟩ := Option.map_eq_some_iff.1 h; rfl
  obtain ⟨⟨s, p⟩, hc⟩ : ∃ t, bales.getD j (0, 0) = t := ⟨_, rfl⟩
  have hbj := hBk.ba j hj
  have hb32 := hBk.b32 j hj
  rw [show sN bales j = s.toNat by unfold sN; rw [hc], show pN bales j = p.toNat by unfold pN; rw [hc], hc] at hbj
  rw [hc] at hb32
  dsimp only at hbj hb32
  obtain ⟨s, rfl⟩ : ∃ k : Nat, s = k := ⟨s.toNat, by omega⟩
  obtain ⟨p, rfl⟩ : ∃ k : Nat, p = k := ⟨p.toNat, by omega⟩
  have hsp : diffN s p = 0 := by have := hbj.2.2; rwa [Int.toNat_natCast, Int.toNat_natCast] at this
  clear hbj
  have hmo : ∀ (T' : TypeId) (x y : Operand), binA Try.prog .andNot T' x y (.int .i64 (p : Int)) (.int .i64 (s : Int)) = some (.int .i64 ((diffN p s : Nat) : Int)) := fun T' x y => bin_andNot_nat T' x y (by omega) (by omega)
  have hmle := diffN_le p s
  have htu := s_turned45 (n := bales.length) (x := T) hb6 (Nat.lt_of_lt_of_le hBk.tp (pow64 hb6))
  have hlow := fun T' x y => bin_and_low T' x y (a := diffN p s) (by omega)
  have hlows := lowN_sub (a := diffN p s) (by omega)
  have hlowle : lowN (diffN p s) ≤ 63 := by have := sub_le hlows; omega
  have hor : ∀ (T' : TypeId) (x y : Operand), binA Try.prog .or T' x y (.int .i64 (s : Int)) (.int .i64 ((lowN (diffN p s) : Nat) : Int)) = some (.int .i64 ((s ||| lowN (diffN p s) : Nat) : Int)) := fun T' x y => bin_or_nat T' x y (by omega) (by omega)
  have hs1 : diffN s (s ||| lowN (diffN p s)) = 0 := sub_iff.2 fun i hi => by rw [Nat.testBit_or, hi]; rfl
  have hs2 : diffN (s ||| lowN (diffN p s)) p = 0 := sub_iff.2 fun i hi => by
    rw [Nat.testBit_or, Bool.or_eq_true] at hi
    rcases hi with hi | hi
    · exact sub_iff.1 hsp i hi
    · have := sub_iff.1 hlows i hi
      rw [diffN_testBit, Bool.and_eq_true] at this
      exact this.1
  have hs0 : diffN s s = 0 := sub_iff.2 fun i hi => hi
  generalize s ||| lowN (diffN p s) = s2 at *
  generalize lowN (diffN p s) = lo2 at *
  generalize diffN p s = mo at *
  simp only [buR] at hl hB ⊢
  refine fun_ok (nt := 463) (rs := [.tmp 6]) Try.func11 rfl rfl rfl (by simp) fun Z w0 => ?_; simp only [initFr, avR, List.map_cons, List.map_nil]
  try simp only [List.append_eq, List.cons_append, List.nil_append]
  (repeat (first | apply aw_seq | apply aw_block | apply aw_skip | apply aw_label | apply aw_exit | ((first | refine aw_region (hideO fun QQ hQQ => ?_) | refine aw_draw mixed (hideD fun QQ hQQ => ?_)); simp (maxSteps := 400000) (disch := first | decide | omega) only [hc, hmo, hcv, hrem, hlb, hlb0, hlb1, hrk, hrB, hr2, List.isEmpty_nil, List.length_map, hrow, go_sem, ↓reduceIte]; try (first | with_reducible refine unhide hQQ ?_ | refine ⟨by kernel_rfl, unhide hQQ ?_⟩); clear hQQ QQ) | with_reducible first | apply then_n | apply block_n | apply then_x | apply then_r | apply nog_n | apply nog_r | apply block_r | apply block_e (by decide) | apply block_x (by decide)))
  (refine callO_ok rfl rfl 12 true rfl (by simp (disch := first | decide | omega) only [hc, hmo, hcv, hrem, hlb, hlb0, hlb1, hrk, hrB, hr2, List.isEmpty_nil, List.length_map, hrow, go_sem, ↓reduceIte]; try rfl) (fun _ => rfl) (hl) Try.func12 rfl (by decide) ?_); simp (maxSteps := 400000) (disch := first | decide | omega) only [hc, hmo, hcv, hrem, hlb, hlb0, hlb1, hrk, hrB, hr2, List.isEmpty_nil, List.length_map, hrow, go_sem, ↓reduceIte]; (try (with_reducible refine unhide hQQ ?_; clear hQQ QQ; (repeat with_reducible first | apply then_n | apply block_n | apply then_x | apply then_r | apply nog_n | apply nog_r | apply block_r | apply block_e (by decide) | apply block_x (by decide))))
  ((refine callO_ok rfl rfl 35 true rfl (by simp (disch := first | decide | omega) only [hc, hmo, hcv, hrem, hlb, hlb0, hlb1, hrk, hrB, hr2, List.isEmpty_nil, List.length_map, hrow, go_sem, ↓reduceIte]; try rfl) (fun _ => rfl) (hB) Try.func35 rfl (by decide) ?_); simp (maxSteps := 400000) (disch := first | decide | omega) only [hc, hmo, hcv, hrem, hlb, hlb0, hlb1, hrk, hrB, hr2, List.isEmpty_nil, List.length_map, hrow, go_sem, ↓reduceIte]; try (with_reducible refine unhide hQQ ?_; clear hQQ QQ)); (repeat (first | apply aw_seq | apply aw_block | apply aw_skip | apply aw_label | apply aw_exit | ((first | refine aw_region (hideO fun QQ hQQ => ?_) | refine aw_draw mixed (hideD fun QQ hQQ => ?_)); simp (maxSteps := 400000) (disch := first | decide | omega) only [hc, hmo, hcv, hrem, hlb, hlb0, hlb1, hrk, hrB, hr2, List.isEmpty_nil, List.length_map, hrow, go_sem, ↓reduceIte]; try (first | with_reducible refine unhide hQQ ?_ | refine ⟨by kernel_rfl, unhide hQQ ?_⟩); clear hQQ QQ) | with_reducible first | apply then_n | apply block_n | apply then_x | apply then_r | apply nog_n | apply nog_r | apply block_r | apply block_e (by decide) | apply block_x (by decide)))
  refine aw_cond2 (by simp (disch := first | decide | omega) only [hc, hmo, hcv, hrem, hlb, hlb0, hlb1, hrk, hrB, hr2, List.isEmpty_nil, List.length_map, hrow, go_sem, ↓reduceIte]; rfl) ?_; first | refine .inl ⟨by first | rfl | exact decide_eq_true (by omega) | exact decide_eq_true (by assumption) | (simp (disch := first | decide | omega) only [if_pos_d, if_neg_d, decide_eq_true_eq, Bool.not_eq_true', decide_eq_false_iff_not]; omega), ?_⟩ | refine .inr ⟨by first | rfl | exact decide_eq_false (by omega) | exact decide_eq_false (by assumption) | (simp (disch := first | decide | omega) only [if_pos_d, if_neg_d, decide_eq_true_eq, Bool.not_eq_true', decide_eq_false_iff_not]; omega), ?_⟩
  (repeat (first | apply aw_seq | apply aw_block | apply aw_skip | apply aw_label | apply aw_exit | ((first | refine aw_region (hideO fun QQ hQQ => ?_) | refine aw_draw mixed (hideD fun QQ hQQ => ?_)); simp (maxSteps := 400000) (disch := first | decide | omega) only [hc, hmo, hcv, hrem, hlb, hlb0, hlb1, hrk, hrB, hr2, List.isEmpty_nil, List.length_map, hrow, go_sem, ↓reduceIte]; try (first | with_reducible refine unhide hQQ ?_ | refine ⟨by kernel_rfl, unhide hQQ ?_⟩); clear hQQ QQ) | with_reducible first | apply then_n | apply block_n | apply then_x | apply then_r | apply nog_n | apply nog_r | apply block_r | apply block_e (by decide) | apply block_x (by decide)))
  (refine callD_ok rfl rfl 38 true rfl (by simp (disch := first | decide | omega) only [hc, hmo, hcv, hrem, hlb, hlb0, hlb1, hrk, hrB, hr2, List.isEmpty_nil, List.length_map, hrow, go_sem, ↓reduceIte]; try rfl) (fun _ => rfl) (h38) Try.func38 rfl (by decide) ?_); simp (maxSteps := 400000) (disch := first | decide | omega) only [hc, hmo, hcv, hrem, hlb, hlb0, hlb1, hrk, hrB, hr2, List.isEmpty_nil, List.length_map, hrow, go_sem, ↓reduceIte]; (try (refine ⟨by kernel_rfl, unhide hQQ ?_⟩; clear hQQ QQ; (repeat with_reducible first | apply then_n | apply block_n | apply then_x | apply then_r | apply nog_n | apply nog_r | apply block_r | apply block_e (by decide) | apply block_x (by decide))))
  (repeat (first | apply aw_seq | apply aw_block | apply aw_skip | apply aw_label | apply aw_exit | ((first | refine aw_region (hideO fun QQ hQQ => ?_) | refine aw_draw mixed (hideD fun QQ hQQ => ?_)); simp (maxSteps := 400000) (disch := first | decide | omega) only [hc, hmo, hcv, hrem, hlb, hlb0, hlb1, hrk, hrB, hr2, List.isEmpty_nil, List.length_map, hrow, go_sem, ↓reduceIte]; try (first | with_reducible refine unhide hQQ ?_ | refine ⟨by kernel_rfl, unhide hQQ ?_⟩); clear hQQ QQ) | with_reducible first | apply then_n | apply block_n | apply then_x | apply then_r | apply nog_n | apply nog_r | apply block_r | apply block_e (by decide) | apply block_x (by decide)))
  have t1 : List.take (tests.length + 1) (List.map rowB (tests ++ [((j : Int), found)])) = List.map rowB (tests ++ [((j : Int), found)]) := List.take_of_length_le (by simp)
  by_cases hm0 : 0 < mo
  · have hfin := more_tail0 (N := N) (L := L) (U := U) (T := T) (tests := tests) (found := found) hBk hj hc hs1 hs2 Z w0
    have t2 : (List.map row2 bales).set j [PV.v (.int .i64 (s2 : Int)), iP p] = (bales.set j ((s2 : Int), (p : Int))).map row2 := by rw [List.map_set]; rfl
    have t3 : List.take bales.length ((bales.set j ((s2 : Int), (p : Int))).map row2) = (bales.set j ((s2 : Int), (p : Int))).map row2 := List.take_of_length_le (by simp)
    simp only [bxC] at hfin
    refine aw_cond2 (by simp (disch := first | decide | omega) only [hc, hlow, hor, go_sem, ↓reduceIte]; rfl) ?_; first | refine .inl ⟨by first | rfl | exact decide_eq_true (by omega) | exact decide_eq_true (by assumption) | (simp (disch := first | decide | omega) only [if_pos_d, if_neg_d, decide_eq_true_eq, Bool.not_eq_true', decide_eq_false_iff_not]; omega), ?_⟩ | refine .inr ⟨by first | rfl | exact decide_eq_false (by omega) | exact decide_eq_false (by assumption) | (simp (disch := first | decide | omega) only [if_pos_d, if_neg_d, decide_eq_true_eq, Bool.not_eq_true', decide_eq_false_iff_not]; omega), ?_⟩
    (repeat (first | apply aw_seq | apply aw_block | apply aw_skip | apply aw_label | apply aw_exit | ((first | refine aw_region (hideO fun QQ hQQ => ?_) | refine aw_draw mixed (hideD fun QQ hQQ => ?_)); simp (maxSteps := 400000) (disch := first | decide | omega) only [hc, hlow, hor, go_sem, ↓reduceIte]; try (first | with_reducible refine unhide hQQ ?_ | refine ⟨by kernel_rfl, unhide hQQ ?_⟩); clear hQQ QQ) | with_reducible first | apply then_n | apply block_n | apply then_x | apply then_r | apply nog_n | apply nog_r | apply block_r | apply block_e (by decide) | apply block_x (by decide)))
    (refine callO_S [1] (htu) rfl rfl (by simp (disch := first | decide | omega) only [hc, hlow, hor, go_sem, ↓reduceIte]; try rfl) (by simp (disch := first | decide | omega) only [hc, hlow, hor, go_sem, ↓reduceIte]; try rfl) Try.func45 rfl (by decide) (by rfl) (by repeat' (first | trivial | apply And.intro | (simp (disch := first | decide | omega) only [hc, hlow, hor, go_sem, ↓reduceIte]; first | done | rfl))) (by decide) (by decide) (by first | rfl | (simp (disch := first | decide | omega) only [hc, hlow, hor, go_sem, ↓reduceIte]; try rfl)) ?_); simp (maxSteps := 400000) (disch := first | decide | omega) only [hc, hlow, hor, go_sem, ↓reduceIte]; (try (with_reducible refine unhide hQQ ?_; clear hQQ QQ; (repeat with_reducible first | apply then_n | apply block_n | apply then_x | apply then_r | apply nog_n | apply nog_r | apply block_r | apply block_e (by decide) | apply block_x (by decide))))
    refine aw_weak (weak_share 5 rfl) ?_
    refine aw_weak (weak_dataB 2 5 rfl rfl rfl) ?_
    refine aw_weak (weak_share 7 rfl) ?_
    refine aw_weak (weak_dataB 3 3 rfl rfl rfl) ?_
    simp only [AL.set, List.set, t1, t2, t3]
    refine aw_weak (weak_round (T := ⟨[(3, .one (.box 0 0)), (7, .one (.box 1 0)), (9, .one (.box 2 0)), (10, .one (.box 3 0)), (11, .one (.box 4 0)), (14, .one (.fn 45 [.box 1]))], [(0, .box [.p (iP N), .p (iP L), .p (iP U), .p (.sl (bales.map row2)), .p (iP T), .p (.sl (tests.map rowB))]), (1, .box [.p (iP bales.length)]), (2, .box [.p (iP N), .p (iP L), .p (iP U), .p (.sl (bales.map row2)), .p (iP T), .p (.sl ((tests ++ [((j : Int), found)]).map rowB))]), (3, .box [.p (iP N), .p (iP L), .p (iP U), .p (.sl ((bales.set j ((s2 : Int), (p : Int))).map row2)), .p (iP T), .p (.sl (tests.map rowB))]), (4, .box [.p (iP N), .p (iP L), .p (iP U), .nil, .p (iP (turnN bales.length T : Nat)), .nil])], 5⟩) (by simp only [go_sem, ↓reduceIte]; try rfl) (by first | rfl | (simp only [go_sem, ↓reduceIte]))) ?_
    exact hfin
  · have hfin := more_tail0 (N := N) (L := L) (U := U) (T := T) (tests := tests) (found := found) hBk hj hc hs0 hsp Z w0
    have t2 : bales.set j ((s : Int), (p : Int)) = bales := by
      apply List.ext_getElem?
      intro k
      rw [List.getElem?_set]
      split
      · rename_i e
        subst e
        try rw [if_pos hj]
        rw [← hc, List.getElem?_eq_getElem hj]
        simp [List.getD, hj]
      · rfl
    rw [t2] at hfin
    have t3 : List.take bales.length (bales.map row2) = bales.map row2 := List.take_of_length_le (by simp)
    simp only [bxC] at hfin
    refine aw_cond2 (by simp (disch := first | decide | omega) only [hc, hlow, hor, go_sem, ↓reduceIte]; rfl) ?_; first | refine .inl ⟨by first | rfl | exact decide_eq_true (by omega) | exact decide_eq_true (by assumption) | (simp (disch := first | decide | omega) only [if_pos_d, if_neg_d, decide_eq_true_eq, Bool.not_eq_true', decide_eq_false_iff_not]; omega), ?_⟩ | refine .inr ⟨by first | rfl | exact decide_eq_false (by omega) | exact decide_eq_false (by assumption) | (simp (disch := first | decide | omega) only [if_pos_d, if_neg_d, decide_eq_true_eq, Bool.not_eq_true', decide_eq_false_iff_not]; omega), ?_⟩
    (repeat (first | apply aw_seq | apply aw_block | apply aw_skip | apply aw_label | apply aw_exit | ((first | refine aw_region (hideO fun QQ hQQ => ?_) | refine aw_draw mixed (hideD fun QQ hQQ => ?_)); simp (maxSteps := 400000) (disch := first | decide | omega) only [hc, hlow, hor, go_sem, ↓reduceIte]; try (first | with_reducible refine unhide hQQ ?_ | refine ⟨by kernel_rfl, unhide hQQ ?_⟩); clear hQQ QQ) | with_reducible first | apply then_n | apply block_n | apply then_x | apply then_r | apply nog_n | apply nog_r | apply block_r | apply block_e (by decide) | apply block_x (by decide)))
    (refine callO_S [1] (htu) rfl rfl (by simp (disch := first | decide | omega) only [hc, hlow, hor, go_sem, ↓reduceIte]; try rfl) (by simp (disch := first | decide | omega) only [hc, hlow, hor, go_sem, ↓reduceIte]; try rfl) Try.func45 rfl (by decide) (by rfl) (by repeat' (first | trivial | apply And.intro | (simp (disch := first | decide | omega) only [hc, hlow, hor, go_sem, ↓reduceIte]; first | done | rfl))) (by decide) (by decide) (by first | rfl | (simp (disch := first | decide | omega) only [hc, hlow, hor, go_sem, ↓reduceIte]; try rfl)) ?_); simp (maxSteps := 400000) (disch := first | decide | omega) only [hc, hlow, hor, go_sem, ↓reduceIte]; (try (with_reducible refine unhide hQQ ?_; clear hQQ QQ; (repeat with_reducible first | apply then_n | apply block_n | apply then_x | apply then_r | apply nog_n | apply nog_r | apply block_r | apply block_e (by decide) | apply block_x (by decide))))
    refine aw_weak (weak_share 5 rfl) ?_
    refine aw_weak (weak_dataB 2 5 rfl rfl rfl) ?_
    refine aw_weak (weak_share 7 rfl) ?_
    refine aw_weak (weak_dataB 3 3 rfl rfl rfl) ?_
    simp only [AL.set, List.set, t1, t3]
    refine aw_weak (weak_round (T := ⟨[(3, .one (.box 0 0)), (7, .one (.box 1 0)), (9, .one (.box 2 0)), (10, .one (.box 3 0)), (11, .one (.box 4 0)), (14, .one (.fn 45 [.box 1]))], [(0, .box [.p (iP N), .p (iP L), .p (iP U), .p (.sl (bales.map row2)), .p (iP T), .p (.sl (tests.map rowB))]), (1, .box [.p (iP bales.length)]), (2, .box [.p (iP N), .p (iP L), .p (iP U), .p (.sl (bales.map row2)), .p (iP T), .p (.sl ((tests ++ [((j : Int), found)]).map rowB))]), (3, .box [.p (iP N), .p (iP L), .p (iP U), .p (.sl (bales.map row2)), .p (iP T), .p (.sl (tests.map rowB))]), (4, .box [.p (iP N), .p (iP L), .p (iP U), .nil, .p (iP (turnN bales.length T : Nat)), .nil])], 5⟩) (by simp only [go_sem, ↓reduceIte]; try rfl) (by first | rfl | (simp only [go_sem, ↓reduceIte]))) ?_
    exact hfin
end
end Go.Proofs.Ytknikcpeacmpmaa
