/- THE LAW BurrMore, walked: bales numbered from the other side are laid. -/
import Derived.Test.YtknikcpeacmpmaaByK
set_option linter.all false
namespace Go.Proofs.Ytknikcpeacmpmaa
open Go Go.RowKit Go.Sh Go.Pv
set_option maxHeartbeats 8000000
set_option maxRecDepth 8000
set_option pp.maxSteps 60000
attribute [local go_sem] rowB get_someB
theorem take_snoc {α : Type} {l : List α} {k : Nat} (d : α) (hk : k < l.length) : l.take (k + 1) = l.take k ++ [l.getD k d] := by
  rw [List.take_succ, List.getElem?_eq_getElem hk, show l.getD k d = l[k] by simp [List.getD, hk]]
  rfl
theorem tzT_getD {n : Nat} {tests : List (Int × Bool)} {k : Nat} (hk : k < tests.length) : (tzT n tests).getD k (0, false) = ((n : Int) - 1 - (tests.getD (tests.length - 1 - k) (0, false)).1, (tests.getD (tests.length - 1 - k) (0, false)).2) := by
  have h1 : k < tests.reverse.length := by simpa using hk
  rw [← rev_getD (d := (0, false)) hk]
  unfold tzT
  simp only [List.getD_eq_getElem?_getD, List.getElem?_map, List.getElem?_eq_getElem h1, Option.map_some, Option.getD_some]
theorem rowsK_row2 (l : List (Int × Int)) : rowsK 2 (l.map row2) = True := eq_true fun i r h => by rw [List.getElem?_map] at h; obtain ⟨x, _, rfl⟩ := Option.map_eq_some_iff.1 h; rfl
theorem rowsK_two (x : Int × Int) : rowsK 2 [row2 x] = True := eq_true fun i r h => by
  rcases i with _ | i
  · simp at h; rw [← h]; rfl
  · simp at h
section
variable {N L U T : Nat} {bales : List (Int × Int)} {tests : List (Int × Bool)}
theorem more_tail0 {j s s' p : Nat} {found : Bool} (hB : BOK N L U T bales tests) (hj : j < bales.length) (hsp : bales.getD j (0, 0) = ((s : Int), (p : Int))) (h1 : diffN s s' = 0) (h2 : diffN s' p = 0) (Z : Zn) (w0 : World) :
    AW ⟨Try.prog, Z, w0, fun _ => False, 463, none, noPan, none, [], true⟩ (rgtN 10 (fnCode Try.f11)) QT6 ⟨[(3, .one (.box 0 0)), (7, .one (.box 1 0)), (9, .one (.box 2 0)), (10, .one (.box 3 0)), (11, .one (.box 4 0)), (14, .one (.fn 45 [.box 1]))], [(0, bxC N L U T bales tests), (1, .box [.p (iP bales.length)]), (2, bxC N L U T bales (tests ++ [((j : Int), found)])), (3, bxC N L U T (bales.set j ((s' : Int), (p : Int))) tests), (4, .box [.p (iP N), .p (iP L), .p (iP U), .nil, .p (iP (turnN bales.length T : Nat)), .nil])], 5⟩ := by
  have hmain := more_all (found := found) hB hj hsp h1 h2 Z w0
  have hb6 := hB.b6
  have ht6 := hB.t6
  have hte := hB.te
  clear hsp h1 h2
  generalize bales.set j ((s' : Int), (p : Int)) = yb at *
  generalize tests ++ [((j : Int), found)] = xt at *
  generalize turnN bales.length T = Tz at *
  simp only [bxC] at *
  conv => arg 2; whnf
  try simp only [List.append_eq, List.cons_append, List.nil_append]
  refine aw_weak (weak_ownB 4 3 55 2 (by simp (disch := first | decide | omega) only [go_sem, ↓reduceIte]; rfl) rfl) ?_
  refine aw_weak (weak_ownB 4 5 42 2 (by simp (disch := first | decide | omega) only [go_sem, ↓reduceIte]; rfl) rfl) ?_
  (refine ts ?_; try clear hQQ QQ)
  refine tw ?_; try with_reducible intro QQ hQQ
  refine aw_weak (weak_keepA [3, 7, 9, 10, 11, 14, 136, 137] (by simp only [go_sem, ↓reduceIte]; rfl)) ?_
  refine aw_loop_ov (ι := { k : Nat // k ≤ bales.length }) (fun k => [(137, iA k.1)]) (fun k => [(5, .arr 55 2 ((bales.reverse.take k.1).map row2) true), (4, .box [.p (iP N), .p (iP L), .p (iP U), .own 5 k.1, .p (iP Tz), .own 6 0])]) (fun k => bales.length - k.1) ⟨0, by omega⟩ (by first | rfl | (simp only [go_sem, ↓reduceIte]; first | done | rfl | (simp; try rfl))) ?_
  rintro ⟨k, hk⟩
  simp (disch := decide) only [ov, ovL, AL.get_nil, AL.get_eq, AL.get_ne, Option.getD_some, Option.getD_none]
  by_cases hkl : k < bales.length
  · have e1 := take_snoc (l := bales.reverse) (k := k) (0, 0) (by simpa using hkl)
    rw [rev_getD hkl] at e1
    have htl : (bales.reverse.take k).length = k := by rw [List.length_take, List.length_reverse]; omega
    have ec : (bales.length : Int) - 1 - (k : Int) = ((bales.length - 1 - k : Nat) : Int) := by omega
    have hik : bales.length - 1 - k < bales.length := by omega
    obtain ⟨⟨s0, p0⟩, hc⟩ : ∃ t, bales.getD (bales.length - 1 - k) (0, 0) = t := ⟨_, rfl⟩
    rw [hc] at e1
    generalize bales.reverse.take k = tk at *
    have hrow : tk.map row2 ++ [[iP s0, iP p0]] = (tk ++ [(s0, p0)]).map row2 := by simp [row2]
    have hlb : (k + 1) * 16 ≤ 140737488355328 := by omega
    have hrk : rowsK 2 [[iP s0, iP p0]] = True := rowsK_two (s0, p0)
    clear hmain
    (repeat (first | apply aw_seq | apply aw_block | apply aw_skip | apply aw_label | apply aw_exit | ((first | refine aw_region (hideO fun QQ hQQ => ?_) | refine aw_draw mixed (hideD fun QQ hQQ => ?_)); simp (maxSteps := 400000) (disch := first | decide | omega) only [ec, hc, htl, hlb, hrk, go_sem, ↓reduceIte]; try (first | with_reducible refine unhide hQQ ?_ | refine ⟨by kernel_rfl, unhide hQQ ?_⟩); clear hQQ QQ) | with_reducible first | apply then_n | apply block_n | apply then_x | apply then_r | apply nog_n | apply nog_r | apply block_r | apply block_e (by decide) | apply block_x (by decide)))
    refine aw_cond2 (by simp (disch := first | decide | omega) only [ec, hc, htl, hlb, hrk, go_sem, ↓reduceIte]; rfl) ?_; first | refine .inl ⟨by first | rfl | exact decide_eq_true (by omega) | exact decide_eq_true (by assumption) | (simp (disch := first | decide | omega) only [if_pos_d, if_neg_d, decide_eq_true_eq, Bool.not_eq_true', decide_eq_false_iff_not]; omega), ?_⟩ | refine .inr ⟨by first | rfl | exact decide_eq_false (by omega) | exact decide_eq_false (by assumption) | (simp (disch := first | decide | omega) only [if_pos_d, if_neg_d, decide_eq_true_eq, Bool.not_eq_true', decide_eq_false_iff_not]; omega), ?_⟩
    (repeat (first | apply aw_seq | apply aw_block | apply aw_skip | apply aw_label | apply aw_exit | ((first | refine aw_region (hideO fun QQ hQQ => ?_) | refine aw_draw mixed (hideD fun QQ hQQ => ?_)); simp (maxSteps := 400000) (disch := first | decide | omega) only [ec, hc, htl, hlb, hrk, go_sem, ↓reduceIte]; try (first | with_reducible refine unhide hQQ ?_ | refine ⟨by kernel_rfl, unhide hQQ ?_⟩); clear hQQ QQ) | with_reducible first | apply then_n | apply block_n | apply then_x | apply then_r | apply nog_n | apply nog_r | apply block_r | apply block_e (by decide) | apply block_x (by decide)))
    refine ⟨⟨k + 1, by omega⟩, by simp only; omega, weak_round ?_ (by first | rfl | (simp only [go_sem, ↓reduceIte]))⟩
    simp only [e1, ← hrow]
    (simp only [go_sem, ↓reduceIte]; try rfl)
  · have hke : k = bales.length := by omega
    subst hke
    rw [show bales.reverse.take bales.length = bales.reverse from List.take_of_length_le (by simp)]
    refine tw ?_; try with_reducible intro QQ hQQ
    refine ti ?_; try clear hQQ QQ
    refine tw ?_; try with_reducible intro QQ hQQ
    refine aw_weak (weak_keepA [3, 7, 9, 10, 11, 14, 156, 157] (by simp only [go_sem, ↓reduceIte]; rfl)) ?_
    refine aw_loop_ov (ι := { k : Nat // k ≤ tests.length }) (fun k => [(157, iA k.1)]) (fun k => [(6, .arr 42 2 (((tzT bales.length tests).take k.1).map rowB) true), (4, .box [.p (iP N), .p (iP L), .p (iP U), .own 5 bales.length, .p (iP Tz), .own 6 k.1])]) (fun k => tests.length - k.1) ⟨0, by omega⟩ (by first | rfl | (simp only [go_sem, ↓reduceIte]; first | done | rfl | (simp; try rfl))) ?_
    rintro ⟨k, hk⟩
    simp (disch := decide) only [ov, ovL, AL.get_nil, AL.get_eq, AL.get_ne, Option.getD_some, Option.getD_none]
    have hzl : (tzT bales.length tests).length = tests.length := by unfold tzT; simp
    by_cases hkl : k < tests.length
    · have e1 := take_snoc (l := tzT bales.length tests) (k := k) (0, false) (by omega)
      rw [tzT_getD hkl] at e1
      have htl : ((tzT bales.length tests).take k).length = k := by rw [List.length_take]; omega
      have ec : (tests.length : Int) - 1 - (k : Int) = ((tests.length - 1 - k : Nat) : Int) := by omega
      have hik : tests.length - 1 - k < tests.length := by omega
      have htk := hte _ (mem_of_getD (d := (0, false)) hik)
      obtain ⟨⟨c, fb⟩, hc⟩ : ∃ t, tests.getD (tests.length - 1 - k) (0, false) = t := ⟨_, rfl⟩
      rw [hc] at e1 htk
      dsimp only at e1 htk
      rw [show (bales.length : Int) - 1 = ((bales.length - 1 : Nat) : Int) by omega] at e1
      have h38 := ok_test38 (((bales.length - 1 : Nat) : Int) - c) fb
      generalize (tzT bales.length tests).take k = tk at *
      have hrow : tk.map rowB ++ [[iP (((bales.length - 1 : Nat) : Int) - c), PV.v (.bool fb)]] = (tk ++ [(((bales.length - 1 : Nat) : Int) - c, fb)]).map rowB := by simp [rowB]
      have hlb : (k + 1) * 16 ≤ 140737488355328 := by omega
      have hrk : rowsK 2 [[iP (((bales.length - 1 : Nat) : Int) - c), PV.v (.bool fb)]] = True := rowsK_2 (((bales.length - 1 : Nat) : Int) - c, fb)
      clear hmain
      (repeat (first | apply aw_seq | apply aw_block | apply aw_skip | apply aw_label | apply aw_exit | ((first | refine aw_region (hideO fun QQ hQQ => ?_) | refine aw_draw mixed (hideD fun QQ hQQ => ?_)); simp (maxSteps := 400000) (disch := first | decide | omega) only [ec, hc, htl, hlb, hrk, go_sem, ↓reduceIte]; try (first | with_reducible refine unhide hQQ ?_ | refine ⟨by kernel_rfl, unhide hQQ ?_⟩); clear hQQ QQ) | with_reducible first | apply then_n | apply block_n | apply then_x | apply then_r | apply nog_n | apply nog_r | apply block_r | apply block_e (by decide) | apply block_x (by decide)))
      refine aw_cond2 (by simp (disch := first | decide | omega) only [ec, hc, htl, hlb, hrk, go_sem, ↓reduceIte]; rfl) ?_; first | refine .inl ⟨by first | rfl | exact decide_eq_true (by omega) | exact decide_eq_true (by assumption) | (simp (disch := first | decide | omega) only [if_pos_d, if_neg_d, decide_eq_true_eq, Bool.not_eq_true', decide_eq_false_iff_not]; omega), ?_⟩ | refine .inr ⟨by first | rfl | exact decide_eq_false (by omega) | exact decide_eq_false (by assumption) | (simp (disch := first | decide | omega) only [if_pos_d, if_neg_d, decide_eq_true_eq, Bool.not_eq_true', decide_eq_false_iff_not]; omega), ?_⟩
      (repeat (first | apply aw_seq | apply aw_block | apply aw_skip | apply aw_label | apply aw_exit | ((first | refine aw_region (hideO fun QQ hQQ => ?_) | refine aw_draw mixed (hideD fun QQ hQQ => ?_)); simp (maxSteps := 400000) (disch := first | decide | omega) only [ec, hc, htl, hlb, hrk, go_sem, ↓reduceIte]; try (first | with_reducible refine unhide hQQ ?_ | refine ⟨by kernel_rfl, unhide hQQ ?_⟩); clear hQQ QQ) | with_reducible first | apply then_n | apply block_n | apply then_x | apply then_r | apply nog_n | apply nog_r | apply block_r | apply block_e (by decide) | apply block_x (by decide)))
      (refine callD_ok rfl rfl 38 true rfl (by simp (disch := first | decide | omega) only [ec, hc, htl, hlb, hrk, go_sem, ↓reduceIte]; try rfl) (fun _ => rfl) (h38) Try.func38 rfl (by decide) ?_); simp (maxSteps := 400000) (disch := first | decide | omega) only [ec, hc, htl, hlb, hrk, go_sem, ↓reduceIte]; (try (refine ⟨by kernel_rfl, unhide hQQ ?_⟩; clear hQQ QQ; (repeat with_reducible first | apply then_n | apply block_n | apply then_x | apply then_r | apply nog_n | apply nog_r | apply block_r | apply block_e (by decide) | apply block_x (by decide))))
      (repeat (first | apply aw_seq | apply aw_block | apply aw_skip | apply aw_label | apply aw_exit | ((first | refine aw_region (hideO fun QQ hQQ => ?_) | refine aw_draw mixed (hideD fun QQ hQQ => ?_)); simp (maxSteps := 400000) (disch := first | decide | omega) only [ec, hc, htl, hlb, hrk, go_sem, ↓reduceIte]; try (first | with_reducible refine unhide hQQ ?_ | refine ⟨by kernel_rfl, unhide hQQ ?_⟩); clear hQQ QQ) | with_reducible first | apply then_n | apply block_n | apply then_x | apply then_r | apply nog_n | apply nog_r | apply block_r | apply block_e (by decide) | apply block_x (by decide)))
      refine ⟨⟨k + 1, by omega⟩, by simp only; omega, weak_round ?_ (by first | rfl | (simp only [go_sem, ↓reduceIte]))⟩
      simp only [e1, ← hrow]
      (simp only [go_sem, ↓reduceIte]; try rfl)
    · have hke : k = tests.length := by omega
      subst hke
      rw [show (tzT bales.length tests).take tests.length = tzT bales.length tests from List.take_of_length_le (by omega)]
      have hlb0 : tests.length * 16 ≤ 140737488355328 := by omega
      have hlb1 : bales.length * 16 ≤ 140737488355328 := by omega
      have hrB : rowsK 2 (tests.map rowB) = True := eq_true (rowsK_B tests)
      have hr2 := rowsK_row2 bales
      have t1 : List.take bales.length (List.map row2 bales.reverse) = List.map row2 bales.reverse := List.take_of_length_le (by simp)
      have t2 : List.take tests.length (List.map rowB (tzT bales.length tests)) = List.map rowB (tzT bales.length tests) := List.take_of_length_le (by simp [hzl])
      have t3 : List.take bales.length (List.map row2 bales) = List.map row2 bales := List.take_of_length_le (by simp)
      have t4 : List.take tests.length (List.map rowB tests) = List.map rowB tests := List.take_of_length_le (by simp)
      (repeat (first | apply aw_seq | apply aw_block | apply aw_skip | apply aw_label | apply aw_exit | ((first | refine aw_region (hideO fun QQ hQQ => ?_) | refine aw_draw mixed (hideD fun QQ hQQ => ?_)); simp (maxSteps := 400000) (disch := first | decide | omega) only [hlb0, hlb1, hrB, hr2, List.isEmpty_nil, List.length_map, go_sem, ↓reduceIte]; try (first | with_reducible refine unhide hQQ ?_ | refine ⟨by kernel_rfl, unhide hQQ ?_⟩); clear hQQ QQ) | with_reducible first | apply then_n | apply block_n | apply then_x | apply then_r | apply nog_n | apply nog_r | apply block_r | apply block_e (by decide) | apply block_x (by decide)))
      refine aw_cond2 (by simp (disch := first | decide | omega) only [hlb0, hlb1, hrB, hr2, List.isEmpty_nil, List.length_map, go_sem, ↓reduceIte]; rfl) ?_; first | refine .inl ⟨by first | rfl | exact decide_eq_true (by omega) | exact decide_eq_true (by assumption) | (simp (disch := first | decide | omega) only [if_pos_d, if_neg_d, decide_eq_true_eq, Bool.not_eq_true', decide_eq_false_iff_not]; omega), ?_⟩ | refine .inr ⟨by first | rfl | exact decide_eq_false (by omega) | exact decide_eq_false (by assumption) | (simp (disch := first | decide | omega) only [if_pos_d, if_neg_d, decide_eq_true_eq, Bool.not_eq_true', decide_eq_false_iff_not]; omega), ?_⟩
      (refine aw_exit ?_); (repeat with_reducible first | apply then_n | apply block_n | apply then_x | apply then_r | apply nog_n | apply nog_r | apply block_r | apply block_e (by decide) | apply block_x (by decide))
      (try apply aw_seq); refine aw_draw mixed (hideD fun QQ hQQ => ?_); simp (maxSteps := 400000) (disch := first | decide | omega) only [hlb0, hlb1, hrB, hr2, List.isEmpty_nil, List.length_map, go_sem, ↓reduceIte]; (try (refine ⟨by kernel_rfl, unhide hQQ ?_⟩; clear hQQ QQ; (repeat with_reducible first | apply then_n | apply block_n | apply then_x | apply then_r | apply nog_n | apply nog_r | apply block_r | apply block_e (by decide) | apply block_x (by decide))))
      refine aw_weak (weak_dataB 4 3 rfl rfl rfl) ?_
      refine aw_weak (weak_dataB 4 5 rfl rfl rfl) ?_
      refine aw_weak (weak_share 7 rfl) ?_
      refine aw_weak (weak_dataS 18 rfl rfl) ?_
      refine aw_weak (weak_share 8 rfl) ?_
      refine aw_weak (weak_dataS 19 rfl rfl) ?_
      simp only [AL.set, List.set, t1, t2, t3, t4]
      refine aw_weak (weak_round (T := ⟨[(3, .one (.box 0 0)), (9, .one (.box 2 0)), (10, .one (.box 3 0)), (11, .one (.box 4 0)), (14, .one (.fn 45 [.box 1])), (18, .one (.p (.sl (bales.map row2)))), (19, .one (.p (.sl (tests.map rowB))))], [(0, .box [.p (iP N), .p (iP L), .p (iP U), .p (.sl (bales.map row2)), .p (iP T), .p (.sl (tests.map rowB))]), (1, .box [.p (iP bales.length)]), (2, .box [.p (iP N), .p (iP L), .p (iP U), .p (.sl (bales.map row2)), .p (iP T), .p (.sl (xt.map rowB))]), (3, .box [.p (iP N), .p (iP L), .p (iP U), .p (.sl (yb.map row2)), .p (iP T), .p (.sl (tests.map rowB))]), (4, .box [.p (iP N), .p (iP L), .p (iP U), .p (.sl (bales.reverse.map row2)), .p (iP Tz), .p (.sl ((tzT bales.length tests).map rowB))])], 5⟩) (by simp only [go_sem, ↓reduceIte]; try rfl) (by first | rfl | (simp only [go_sem, ↓reduceIte]))) ?_
      exact hmain
end
end Go.Proofs.Ytknikcpeacmpmaa
