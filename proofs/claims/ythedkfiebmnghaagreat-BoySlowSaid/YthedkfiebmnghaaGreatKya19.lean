/- Texts of the proof, joined. -/
import Derived.Test.YthedkfiebmnghaaGreatKdy20
import Derived.Test.YthedkfiebmnghaaGreatKpv21
set_option linter.all false
set_option maxHeartbeats 16000000
set_option maxRecDepth 20000
namespace Go.Proofs.YthedkfiebmnghaaGreat
open Go Go.RowKit Go.Sh Go.Pv Go.By Go.Sh.Stand
theorem rowsK_r1 (l : List Int) : rowsK 1 (l.map row1) = True := eq_true fun i r h => by rw [List.getElem?_map] at h; obtain ⟨x, _, rfl⟩ := Option.map_eq_some_iff.1 h; rfl
theorem get_some1' {l : List Int} {k : Nat} (h : k < l.length) : l[k]? = some (l.getD k 0) := by simp [List.getD, h]
theorem take_row {L : List Int} {i : Nat} (h : i < L.length) : (L.take i).map row1 ++ [[iP (L.getD i 0)]] = (L.take (i + 1)).map row1 := by
 rw [List.take_succ_eq_append_getElem h, List.map_append]
 simp [row1, List.getD, h]
attribute [local go_sem] rowsK_r1
theorem ok_needs {s : SD} (h : s.ok = true) : FunOK Tryz.prog 88 [.agg s.row] (.one (.one (.sl (s.needL.map row1)))) := by
 have hn := need_len (s := s)
 have h16 := sheep_16 h
 have hdone := fun (k : Nat) (hk : k < s.sheep.length) => ok_doneS h hk
 have hkind : ∀ k, k < s.sheep.length → 0 ≤ s.sheep.getD k 0 ∧ s.sheep.getD k 0 ≤ 2 := fun k hk => kinds_ok h _ (mem_getD hk)
 have hlt : ∀ k, k < s.needL.length → s.needL.getD k 0 < 600 ∧ 0 ≤ s.needL.getD k 0 := fun k hk => ⟨need_lt h _ (mem_getD hk), need_ge h _ (mem_getD hk)⟩
 have htk : ∀ k : Int, 1 ≤ tk s.quick k ∧ tk s.quick k ≤ 40 := fun k => ⟨(tk_rng h (quick_mem h) k).1, (tk_rng h (quick_mem h) k).2.1⟩
 have hq : ∀ k, s.doneQ k = if k < s.needL.length then s.needL.getD k 0 + tk s.quick (s.sheep.getD k 0) else 1000 := fun k => rfl
 have e0 : tk s.quick 0 = s.m0.1 := rfl
 have e1 : tk s.quick 1 = s.m1.1 := rfl
 have e2 : tk s.quick 2 = s.m2.1 := rfl
 obtain ⟨m0, m1, m2, runs, sheep, looks⟩ := s
 dsimp only [SD.row] at *
 generalize SD.needL ⟨m0, m1, m2, runs, sheep, looks⟩ = L at *
 generalize SD.quick ⟨m0, m1, m2, runs, sheep, looks⟩ = q at *
 generalize SD.doneQ ⟨m0, m1, m2, runs, sheep, looks⟩ = D at *
 clear h
 refine fun_ok (nt := 37) (rs := [.tmp 2]) Tryz.func88 rfl rfl rfl (by simp) fun Z w0 => ?_; simp only [initFr, avR, List.map_cons, List.map_nil]
 refine tw ?_; try with_reducible intro QQ hQQ
 refine aw_weak (weak_own 2 3 1 rfl) ?_
 refine aw_weak (weak_keep [1, 2, 8, 9, 10] (by simp only [go_sem, ↓reduceIte]; rfl)) ?_
 refine aw_loop_ov (ι := { i : Nat // i ≤ sheep.length ∧ i ≤ L.length }) (fun i => [(2, .one (.own 1 i.1)), (10, iA i.1)]) (fun i => [(1, .arr 3 1 ((L.take i.1).map row1) true)]) (fun i => sheep.length - i.1) ⟨0, by omega, by omega⟩ (by first | rfl | (simp only [go_sem, ↓reduceIte]; first | done | rfl | (simp; try rfl))) ?_
 rintro ⟨i, hi, hiL⟩
 simp (disch := decide) only [ov, ovL, AL.get_nil, AL.get_eq, AL.get_ne, Option.getD_some, Option.getD_none]
 by_cases hin : i < sheep.length
 ·obtain ⟨x, hd⟩ := hdone i hin
  have hD := hq i
  have hk := hkind i hin
  have hg : sheep[i]? = some (sheep.getD i 0) := get_some1' hin
  obtain ⟨kd, hkd⟩ : ∃ kd, sheep.getD i 0 = kd := ⟨_, rfl⟩
  rw [hkd] at hD hk hg
  by_cases hiL2 : i < L.length
  ·rw [if_pos hiL2] at hD
   have hb := hlt i hiL2
   have hr := take_row hiL2
   have ht := htk kd
   obtain ⟨a, ha⟩ : ∃ a, L.getD i 0 = a := ⟨_, rfl⟩
   rw [ha] at hD hb hr
   rw [hD] at hd
   have hlb : (i + 1) * 8 ≤ 140737488355328 := by omega
   have hll : ((L.take i).map row1).length = i := by simp; omega
   have hsub : ∀ m : Int, tk q kd = m → (a + tk q kd) - m = a := fun m hm => by omega
   clear hdone hq hkind hlt htk
   rcases (show kd = 0 ∨ kd = 1 ∨ kd = 2 by omega) with rfl | rfl | rfl
   ·rw [e0] at hd ht hD
    have hs1 : a + m0.1 - m0.1 = a := by omega
    clear e0 e1 e2 hsub
    (repeat (first | apply aw_seq | apply aw_block | apply aw_skip | apply aw_label | apply aw_exit | ((first | refine aw_region (hideO fun QQ hQQ => ?_) | refine aw_draw mixed (hideD fun QQ hQQ => ?_)); simp (maxSteps := 400000) (disch := first | decide | omega) only [hg, hlb, hll, hs1, go_sem, ↓reduceIte]; try (first | with_reducible refine unhide hQQ ?_ | refine ⟨by kernel_rfl, unhide hQQ ?_⟩); clear hQQ QQ) | with_reducible first | apply then_n | apply block_n | apply then_x | apply then_r | apply nog_n | apply nog_r | apply block_r | apply block_e (by decide) | apply block_x (by decide)))
    refine aw_cond2 (by simp (disch := first | decide | omega) only [hg, hlb, hll, hs1, go_sem, ↓reduceIte]; rfl) ?_; first | refine .inl ⟨by first | rfl | exact decide_eq_true (by omega) | exact decide_eq_true (by assumption) | (simp (disch := first | decide | omega) only [if_pos_d, if_neg_d, decide_eq_true_eq, Bool.not_eq_true', decide_eq_false_iff_not]; omega), ?_⟩ | refine .inr ⟨by first | rfl | exact decide_eq_false (by omega) | exact decide_eq_false (by assumption) | (simp (disch := first | decide | omega) only [if_pos_d, if_neg_d, decide_eq_true_eq, Bool.not_eq_true', decide_eq_false_iff_not]; omega), ?_⟩
    (repeat (first | apply aw_seq | apply aw_block | apply aw_skip | apply aw_label | apply aw_exit | ((first | refine aw_region (hideO fun QQ hQQ => ?_) | refine aw_draw mixed (hideD fun QQ hQQ => ?_)); simp (maxSteps := 400000) (disch := first | decide | omega) only [hg, hlb, hll, hs1, go_sem, ↓reduceIte]; try (first | with_reducible refine unhide hQQ ?_ | refine ⟨by kernel_rfl, unhide hQQ ?_⟩); clear hQQ QQ) | with_reducible first | apply then_n | apply block_n | apply then_x | apply then_r | apply nog_n | apply nog_r | apply block_r | apply block_e (by decide) | apply block_x (by decide)))
    ((refine callO_ok rfl rfl 33 true rfl (by simp (disch := first | decide | omega) only [hg, hlb, hll, hs1, go_sem, ↓reduceIte]; try rfl) (fun _ => rfl) (hd) Tryz.func33 rfl (by decide) ?_); simp (maxSteps := 400000) (disch := first | decide | omega) only [hg, hlb, hll, hs1, go_sem, ↓reduceIte]; try (with_reducible refine unhide hQQ ?_; clear hQQ QQ)); (repeat (first | apply aw_seq | apply aw_block | apply aw_skip | apply aw_label | apply aw_exit | ((first | refine aw_region (hideO fun QQ hQQ => ?_) | refine aw_draw mixed (hideD fun QQ hQQ => ?_)); simp (maxSteps := 400000) (disch := first | decide | omega) only [hg, hlb, hll, hs1, go_sem, ↓reduceIte]; try (first | with_reducible refine unhide hQQ ?_ | refine ⟨by kernel_rfl, unhide hQQ ?_⟩); clear hQQ QQ) | with_reducible first | apply then_n | apply block_n | apply then_x | apply then_r | apply nog_n | apply nog_r | apply block_r | apply block_e (by decide) | apply block_x (by decide)))
    refine aw_cond2 (by simp (disch := first | decide | omega) only [hg, hlb, hll, hs1, go_sem, ↓reduceIte]; rfl) ?_; first | refine .inl ⟨by first | rfl | exact decide_eq_true (by omega) | exact decide_eq_true (by assumption) | (simp (disch := first | decide | omega) only [if_pos_d, if_neg_d, decide_eq_true_eq, Bool.not_eq_true', decide_eq_false_iff_not]; omega), ?_⟩ | refine .inr ⟨by first | rfl | exact decide_eq_false (by omega) | exact decide_eq_false (by assumption) | (simp (disch := first | decide | omega) only [if_pos_d, if_neg_d, decide_eq_true_eq, Bool.not_eq_true', decide_eq_false_iff_not]; omega), ?_⟩
    (repeat (first | apply aw_seq | apply aw_block | apply aw_skip | apply aw_label | apply aw_exit | ((first | refine aw_region (hideO fun QQ hQQ => ?_) | refine aw_draw mixed (hideD fun QQ hQQ => ?_)); simp (maxSteps := 400000) (disch := first | decide | omega) only [hg, hlb, hll, hs1, go_sem, ↓reduceIte]; try (first | with_reducible refine unhide hQQ ?_ | refine ⟨by kernel_rfl, unhide hQQ ?_⟩); clear hQQ QQ) | with_reducible first | apply then_n | apply block_n | apply then_x | apply then_r | apply nog_n | apply nog_r | apply block_r | apply block_e (by decide) | apply block_x (by decide)))
    refine ⟨⟨i + 1, by omega, by omega⟩, ?_, weak_round ?_ (by first | rfl | (simp only [hg, hlb, hll, hs1, go_sem, ↓reduceIte]))⟩
    rotate_left
    ·simp only [← hr]
     (simp only [hg, hlb, hll, hs1, go_sem, ↓reduceIte]; try rfl)
    ·simp only; omega
   ·rw [e1] at hd ht hD
    have hs1 : a + m1.1 - m1.1 = a := by omega
    clear e0 e1 e2 hsub
    (repeat (first | apply aw_seq | apply aw_block | apply aw_skip | apply aw_label | apply aw_exit | ((first | refine aw_region (hideO fun QQ hQQ => ?_) | refine aw_draw mixed (hideD fun QQ hQQ => ?_)); simp (maxSteps := 400000) (disch := first | decide | omega) only [hg, hlb, hll, hs1, go_sem, ↓reduceIte]; try (first | with_reducible refine unhide hQQ ?_ | refine ⟨by kernel_rfl, unhide hQQ ?_⟩); clear hQQ QQ) | with_reducible first | apply then_n | apply block_n | apply then_x | apply then_r | apply nog_n | apply nog_r | apply block_r | apply block_e (by decide) | apply block_x (by decide)))
    refine aw_cond2 (by simp (disch := first | decide | omega) only [hg, hlb, hll, hs1, go_sem, ↓reduceIte]; rfl) ?_; first | refine .inl ⟨by first | rfl | exact decide_eq_true (by omega) | exact decide_eq_true (by assumption) | (simp (disch := first | decide | omega) only [if_pos_d, if_neg_d, decide_eq_true_eq, Bool.not_eq_true', decide_eq_false_iff_not]; omega), ?_⟩ | refine .inr ⟨by first | rfl | exact decide_eq_false (by omega) | exact decide_eq_false (by assumption) | (simp (disch := first | decide | omega) only [if_pos_d, if_neg_d, decide_eq_true_eq, Bool.not_eq_true', decide_eq_false_iff_not]; omega), ?_⟩
    (repeat (first | apply aw_seq | apply aw_block | apply aw_skip | apply aw_label | apply aw_exit | ((first | refine aw_region (hideO fun QQ hQQ => ?_) | refine aw_draw mixed (hideD fun QQ hQQ => ?_)); simp (maxSteps := 400000) (disch := first | decide | omega) only [hg, hlb, hll, hs1, go_sem, ↓reduceIte]; try (first | with_reducible refine unhide hQQ ?_ | refine ⟨by kernel_rfl, unhide hQQ ?_⟩); clear hQQ QQ) | with_reducible first | apply then_n | apply block_n | apply then_x | apply then_r | apply nog_n | apply nog_r | apply block_r | apply block_e (by decide) | apply block_x (by decide)))
    ((refine callO_ok rfl rfl 33 true rfl (by simp (disch := first | decide | omega) only [hg, hlb, hll, hs1, go_sem, ↓reduceIte]; try rfl) (fun _ => rfl) (hd) Tryz.func33 rfl (by decide) ?_); simp (maxSteps := 400000) (disch := first | decide | omega) only [hg, hlb, hll, hs1, go_sem, ↓reduceIte]; try (with_reducible refine unhide hQQ ?_; clear hQQ QQ)); (repeat (first | apply aw_seq | apply aw_block | apply aw_skip | apply aw_label | apply aw_exit | ((first | refine aw_region (hideO fun QQ hQQ => ?_) | refine aw_draw mixed (hideD fun QQ hQQ => ?_)); simp (maxSteps := 400000) (disch := first | decide | omega) only [hg, hlb, hll, hs1, go_sem, ↓reduceIte]; try (first | with_reducible refine unhide hQQ ?_ | refine ⟨by kernel_rfl, unhide hQQ ?_⟩); clear hQQ QQ) | with_reducible first | apply then_n | apply block_n | apply then_x | apply then_r | apply nog_n | apply nog_r | apply block_r | apply block_e (by decide) | apply block_x (by decide)))
    refine aw_cond2 (by simp (disch := first | decide | omega) only [hg, hlb, hll, hs1, go_sem, ↓reduceIte]; rfl) ?_; first | refine .inl ⟨by first | rfl | exact decide_eq_true (by omega) | exact decide_eq_true (by assumption) | (simp (disch := first | decide | omega) only [if_pos_d, if_neg_d, decide_eq_true_eq, Bool.not_eq_true', decide_eq_false_iff_not]; omega), ?_⟩ | refine .inr ⟨by first | rfl | exact decide_eq_false (by omega) | exact decide_eq_false (by assumption) | (simp (disch := first | decide | omega) only [if_pos_d, if_neg_d, decide_eq_true_eq, Bool.not_eq_true', decide_eq_false_iff_not]; omega), ?_⟩
    (repeat (first | apply aw_seq | apply aw_block | apply aw_skip | apply aw_label | apply aw_exit | ((first | refine aw_region (hideO fun QQ hQQ => ?_) | refine aw_draw mixed (hideD fun QQ hQQ => ?_)); simp (maxSteps := 400000) (disch := first | decide | omega) only [hg, hlb, hll, hs1, go_sem, ↓reduceIte]; try (first | with_reducible refine unhide hQQ ?_ | refine ⟨by kernel_rfl, unhide hQQ ?_⟩); clear hQQ QQ) | with_reducible first | apply then_n | apply block_n | apply then_x | apply then_r | apply nog_n | apply nog_r | apply block_r | apply block_e (by decide) | apply block_x (by decide)))
    refine ⟨⟨i + 1, by omega, by omega⟩, ?_, weak_round ?_ (by first | rfl | (simp only [hg, hlb, hll, hs1, go_sem, ↓reduceIte]))⟩
    rotate_left
    ·simp only [← hr]
     (simp only [hg, hlb, hll, hs1, go_sem, ↓reduceIte]; try rfl)
    ·simp only; omega
   ·rw [e2] at hd ht hD
    have hs1 : a + m2.1 - m2.1 = a := by omega
    clear e0 e1 e2 hsub
    (repeat (first | apply aw_seq | apply aw_block | apply aw_skip | apply aw_label | apply aw_exit | ((first | refine aw_region (hideO fun QQ hQQ => ?_) | refine aw_draw mixed (hideD fun QQ hQQ => ?_)); simp (maxSteps := 400000) (disch := first | decide | omega) only [hg, hlb, hll, hs1, go_sem, ↓reduceIte]; try (first | with_reducible refine unhide hQQ ?_ | refine ⟨by kernel_rfl, unhide hQQ ?_⟩); clear hQQ QQ) | with_reducible first | apply then_n | apply block_n | apply then_x | apply then_r | apply nog_n | apply nog_r | apply block_r | apply block_e (by decide) | apply block_x (by decide)))
    refine aw_cond2 (by simp (disch := first | decide | omega) only [hg, hlb, hll, hs1, go_sem, ↓reduceIte]; rfl) ?_; first | refine .inl ⟨by first | rfl | exact decide_eq_true (by omega) | exact decide_eq_true (by assumption) | (simp (disch := first | decide | omega) only [if_pos_d, if_neg_d, decide_eq_true_eq, Bool.not_eq_true', decide_eq_false_iff_not]; omega), ?_⟩ | refine .inr ⟨by first | rfl | exact decide_eq_false (by omega) | exact decide_eq_false (by assumption) | (simp (disch := first | decide | omega) only [if_pos_d, if_neg_d, decide_eq_true_eq, Bool.not_eq_true', decide_eq_false_iff_not]; omega), ?_⟩
    (repeat (first | apply aw_seq | apply aw_block | apply aw_skip | apply aw_label | apply aw_exit | ((first | refine aw_region (hideO fun QQ hQQ => ?_) | refine aw_draw mixed (hideD fun QQ hQQ => ?_)); simp (maxSteps := 400000) (disch := first | decide | omega) only [hg, hlb, hll, hs1, go_sem, ↓reduceIte]; try (first | with_reducible refine unhide hQQ ?_ | refine ⟨by kernel_rfl, unhide hQQ ?_⟩); clear hQQ QQ) | with_reducible first | apply then_n | apply block_n | apply then_x | apply then_r | apply nog_n | apply nog_r | apply block_r | apply block_e (by decide) | apply block_x (by decide)))
    ((refine callO_ok rfl rfl 33 true rfl (by simp (disch := first | decide | omega) only [hg, hlb, hll, hs1, go_sem, ↓reduceIte]; try rfl) (fun _ => rfl) (hd) Tryz.func33 rfl (by decide) ?_); simp (maxSteps := 400000) (disch := first | decide | omega) only [hg, hlb, hll, hs1, go_sem, ↓reduceIte]; try (with_reducible refine unhide hQQ ?_; clear hQQ QQ)); (repeat (first | apply aw_seq | apply aw_block | apply aw_skip | apply aw_label | apply aw_exit | ((first | refine aw_region (hideO fun QQ hQQ => ?_) | refine aw_draw mixed (hideD fun QQ hQQ => ?_)); simp (maxSteps := 400000) (disch := first | decide | omega) only [hg, hlb, hll, hs1, go_sem, ↓reduceIte]; try (first | with_reducible refine unhide hQQ ?_ | refine ⟨by kernel_rfl, unhide hQQ ?_⟩); clear hQQ QQ) | with_reducible first | apply then_n | apply block_n | apply then_x | apply then_r | apply nog_n | apply nog_r | apply block_r | apply block_e (by decide) | apply block_x (by decide)))
    refine aw_cond2 (by simp (disch := first | decide | omega) only [hg, hlb, hll, hs1, go_sem, ↓reduceIte]; rfl) ?_; first | refine .inl ⟨by first | rfl | exact decide_eq_true (by omega) | exact decide_eq_true (by assumption) | (simp (disch := first | decide | omega) only [if_pos_d, if_neg_d, decide_eq_true_eq, Bool.not_eq_true', decide_eq_false_iff_not]; omega), ?_⟩ | refine .inr ⟨by first | rfl | exact decide_eq_false (by omega) | exact decide_eq_false (by assumption) | (simp (disch := first | decide | omega) only [if_pos_d, if_neg_d, decide_eq_true_eq, Bool.not_eq_true', decide_eq_false_iff_not]; omega), ?_⟩
    (repeat (first | apply aw_seq | apply aw_block | apply aw_skip | apply aw_label | apply aw_exit | ((first | refine aw_region (hideO fun QQ hQQ => ?_) | refine aw_draw mixed (hideD fun QQ hQQ => ?_)); simp (maxSteps := 400000) (disch := first | decide | omega) only [hg, hlb, hll, hs1, go_sem, ↓reduceIte]; try (first | with_reducible refine unhide hQQ ?_ | refine ⟨by kernel_rfl, unhide hQQ ?_⟩); clear hQQ QQ) | with_reducible first | apply then_n | apply block_n | apply then_x | apply then_r | apply nog_n | apply nog_r | apply block_r | apply block_e (by decide) | apply block_x (by decide)))
    refine ⟨⟨i + 1, by omega, by omega⟩, ?_, weak_round ?_ (by first | rfl | (simp only [hg, hlb, hll, hs1, go_sem, ↓reduceIte]))⟩
    rotate_left
    ·simp only [← hr]
     (simp only [hg, hlb, hll, hs1, go_sem, ↓reduceIte]; try rfl)
    ·simp only; omega
  ·rw [if_neg hiL2] at hD
   rw [hD] at hd
   have hie : i = L.length := by omega
   subst hie
   rw [List.take_length]
   clear hdone hq hkind hlt htk
   have hta : List.take L.length (L.map row1) = L.map row1 := List.take_of_length_le (by simp)
   (repeat (first | apply aw_seq | apply aw_block | apply aw_skip | apply aw_label | apply aw_exit | ((first | refine aw_region (hideO fun QQ hQQ => ?_) | refine aw_draw mixed (hideD fun QQ hQQ => ?_)); simp (maxSteps := 400000) (disch := first | decide | omega) only [hg, hta, go_sem, ↓reduceIte]; try (first | with_reducible refine unhide hQQ ?_ | refine ⟨by kernel_rfl, unhide hQQ ?_⟩); clear hQQ QQ) | with_reducible first | apply then_n | apply block_n | apply then_x | apply then_r | apply nog_n | apply nog_r | apply block_r | apply block_e (by decide) | apply block_x (by decide)))
   refine aw_cond2 (by simp (disch := first | decide | omega) only [hg, hta, go_sem, ↓reduceIte]; rfl) ?_; first | refine .inl ⟨by first | rfl | exact decide_eq_true (by omega) | exact decide_eq_true (by assumption) | (simp (disch := first | decide | omega) only [if_pos_d, if_neg_d, decide_eq_true_eq, Bool.not_eq_true', decide_eq_false_iff_not]; omega), ?_⟩ | refine .inr ⟨by first | rfl | exact decide_eq_false (by omega) | exact decide_eq_false (by assumption) | (simp (disch := first | decide | omega) only [if_pos_d, if_neg_d, decide_eq_true_eq, Bool.not_eq_true', decide_eq_false_iff_not]; omega), ?_⟩
   (repeat (first | apply aw_seq | apply aw_block | apply aw_skip | apply aw_label | apply aw_exit | ((first | refine aw_region (hideO fun QQ hQQ => ?_) | refine aw_draw mixed (hideD fun QQ hQQ => ?_)); simp (maxSteps := 400000) (disch := first | decide | omega) only [hg, hta, go_sem, ↓reduceIte]; try (first | with_reducible refine unhide hQQ ?_ | refine ⟨by kernel_rfl, unhide hQQ ?_⟩); clear hQQ QQ) | with_reducible first | apply then_n | apply block_n | apply then_x | apply then_r | apply nog_n | apply nog_r | apply block_r | apply block_e (by decide) | apply block_x (by decide)))
   ((refine callO_ok rfl rfl 33 true rfl (by simp (disch := first | decide | omega) only [hg, hta, go_sem, ↓reduceIte]; try rfl) (fun _ => rfl) (hd) Tryz.func33 rfl (by decide) ?_); simp (maxSteps := 400000) (disch := first | decide | omega) only [hg, hta, go_sem, ↓reduceIte]; try (with_reducible refine unhide hQQ ?_; clear hQQ QQ)); (repeat (first | apply aw_seq | apply aw_block | apply aw_skip | apply aw_label | apply aw_exit | ((first | refine aw_region (hideO fun QQ hQQ => ?_) | refine aw_draw mixed (hideD fun QQ hQQ => ?_)); simp (maxSteps := 400000) (disch := first | decide | omega) only [hg, hta, go_sem, ↓reduceIte]; try (first | with_reducible refine unhide hQQ ?_ | refine ⟨by kernel_rfl, unhide hQQ ?_⟩); clear hQQ QQ) | with_reducible first | apply then_n | apply block_n | apply then_x | apply then_r | apply nog_n | apply nog_r | apply block_r | apply block_e (by decide) | apply block_x (by decide)))
   refine aw_cond2 (by simp (disch := first | decide | omega) only [hg, hta, go_sem, ↓reduceIte]; rfl) ?_; first | refine .inl ⟨by first | rfl | exact decide_eq_true (by omega) | exact decide_eq_true (by assumption) | (simp (disch := first | decide | omega) only [if_pos_d, if_neg_d, decide_eq_true_eq, Bool.not_eq_true', decide_eq_false_iff_not]; omega), ?_⟩ | refine .inr ⟨by first | rfl | exact decide_eq_false (by omega) | exact decide_eq_false (by assumption) | (simp (disch := first | decide | omega) only [if_pos_d, if_neg_d, decide_eq_true_eq, Bool.not_eq_true', decide_eq_false_iff_not]; omega), ?_⟩
   (repeat (first | apply aw_seq | apply aw_block | apply aw_skip | apply aw_label | apply aw_exit | ((first | refine aw_region (hideO fun QQ hQQ => ?_) | refine aw_draw mixed (hideD fun QQ hQQ => ?_)); simp (maxSteps := 400000) (disch := first | decide | omega) only [hg, hta, go_sem, ↓reduceIte]; try (first | with_reducible refine unhide hQQ ?_ | refine ⟨by kernel_rfl, unhide hQQ ?_⟩); clear hQQ QQ) | with_reducible first | apply then_n | apply block_n | apply then_x | apply then_r | apply nog_n | apply nog_r | apply block_r | apply block_e (by decide) | apply block_x (by decide)))
   refine aw_ret ?_; refine ⟨.inr rfl, ?_⟩; simp only [resA, res1, go_sem, ↓reduceIte]
   rw [hta]
 ·have hie : i = L.length := by omega
  subst hie
  rw [List.take_length]
  have hta : List.take L.length (L.map row1) = L.map row1 := List.take_of_length_le (by simp)
  (repeat (first | apply aw_seq | apply aw_block | apply aw_skip | apply aw_label | apply aw_exit | ((first | refine aw_region (hideO fun QQ hQQ => ?_) | refine aw_draw mixed (hideD fun QQ hQQ => ?_)); simp (maxSteps := 400000) (disch := first | decide | omega) only [hta, go_sem, ↓reduceIte]; try (first | with_reducible refine unhide hQQ ?_ | refine ⟨by kernel_rfl, unhide hQQ ?_⟩); clear hQQ QQ) | with_reducible first | apply then_n | apply block_n | apply then_x | apply then_r | apply nog_n | apply nog_r | apply block_r | apply block_e (by decide) | apply block_x (by decide)))
  refine aw_cond2 (by simp (disch := first | decide | omega) only [hta, go_sem, ↓reduceIte]; rfl) ?_; first | refine .inl ⟨by first | rfl | exact decide_eq_true (by omega) | exact decide_eq_true (by assumption) | (simp (disch := first | decide | omega) only [if_pos_d, if_neg_d, decide_eq_true_eq, Bool.not_eq_true', decide_eq_false_iff_not]; omega), ?_⟩ | refine .inr ⟨by first | rfl | exact decide_eq_false (by omega) | exact decide_eq_false (by assumption) | (simp (disch := first | decide | omega) only [if_pos_d, if_neg_d, decide_eq_true_eq, Bool.not_eq_true', decide_eq_false_iff_not]; omega), ?_⟩
  (repeat (first | apply aw_seq | apply aw_block | apply aw_skip | apply aw_label | apply aw_exit | ((first | refine aw_region (hideO fun QQ hQQ => ?_) | refine aw_draw mixed (hideD fun QQ hQQ => ?_)); simp (maxSteps := 400000) (disch := first | decide | omega) only [hta, go_sem, ↓reduceIte]; try (first | with_reducible refine unhide hQQ ?_ | refine ⟨by kernel_rfl, unhide hQQ ?_⟩); clear hQQ QQ) | with_reducible first | apply then_n | apply block_n | apply then_x | apply then_r | apply nog_n | apply nog_r | apply block_r | apply block_e (by decide) | apply block_x (by decide)))
  refine aw_ret ?_; refine ⟨.inr rfl, ?_⟩; simp only [resA, res1, go_sem, ↓reduceIte]
  rw [hta]
end Go.Proofs.YthedkfiebmnghaaGreat
namespace Go.Proofs.YthedkfiebmnghaaGreat
open Go Go.RowKit Go.Sh Go.Pv Go.By
theorem key94 : WideMaps.KeyLaw Tryz.prog 94 := deep_law_laid Tryz.laidOut (m := 5) (by omega) (of_decide_eq_true (by kernel_rfl)) (by kernel_rfl) (by kernel_rfl)
theorem und73 : Tryz.prog.underlying 73 = some (.map 94 3) := by kernel_rfl
theorem cells94 : Tryz.prog.cellsOf 94 = 2 := by kernel_rfl
theorem zero3 : ∀ w, (zeroValue 3).run Tryz.prog w = .ok (.int .i64 0) w := fun w => by kernel_rfl
theorem keyOf94 (x : Nat × Nat) (h1 : x.1 < 2 ^ 63) (h2 : x.2 < 2 ^ 63) : ∃ l, keyOf Tryz.prog 94 (tkV x) = some l := by
 obtain ⟨a, b⟩ := x
 dsimp only at h1 h2
 have hw : ∀ n : Nat, n < 2 ^ 63 → (Lit.int .i64 (n : Int)).wf = true := fun n hn => by
  have : IntKind.min .i64 = -9223372036854775808 ∧ IntKind.max .i64 = 9223372036854775807 := by decide
  simp only [Lit.wf, Bool.and_eq_true, decide_eq_true_eq]; omega
 have hk : Tryz.prog.keyType 94 = true := by kernel_rfl
 have i1 : ∀ d n, n < 2 ^ 63 → Tryz.prog.keyLits (d + 1) 3 [.int .i64 ((n : Nat) : Int)] = some [.int .i64 (n : Int)] := fun d n hn => by
  unfold Program.keyLits; simp [Tryz.underlying3, hw n hn]
 have i2 : ∀ d, Tryz.prog.keyLits (d + 1 + 1) 94 [.int .i64 (a : Int), .int .i64 (b : Int)] = some [.int .i64 (a : Int), .int .i64 (b : Int)] := fun d => by
  unfold Program.keyLits; simp [Tryz.underlying94, cells94, cells3, i1 d a h1, i1 d b h2]
 unfold keyOf tkV
 simp only [Tryz.underlying94, hk, types_size, Value.formed, Value.cells, cells94]
 exact ⟨_, by rw [show (232 + 1 : Nat) = 231 + 1 + 1 from rfl, i2 231]; rfl⟩
theorem toE_keys {D : Nat → List Int} {L : List (Nat × Nat)} (h : ∀ x ∈ L, x.1 < 2 ^ 63 ∧ x.2 < 2 ^ 63) : ∀ e ∈ (toE D L).toList, ∃ l, keyOf Tryz.prog 94 e.key = some l := fun e he => by
 obtain ⟨i, x, hi, rfl⟩ := mem_toE.1 he
 have := h x (List.mem_of_getElem? hi)
 exact keyOf94 x this.1 this.2
theorem get_someSD {l : List SD} {i : Nat} (h : i < l.length) : l[i]? = some (l.getD i dSD) := by simp [List.getD, h]
theorem rowsK_SD (l : List SD) : rowsK 9 (l.map SD.row) = True := eq_true fun i r h => by rw [List.getElem?_map] at h; obtain ⟨x, _, rfl⟩ := Option.map_eq_some_iff.1 h; rfl
theorem rowsK_nd (y : YD) (i : Nat) : rowsK 1 (y.ndR i) = True := eq_true fun j r h => by unfold YD.ndR at h; rw [List.getElem?_map] at h; obtain ⟨x, _, rfl⟩ := Option.map_eq_some_iff.1 h; rfl
theorem ndR_len (y : YD) (i : Nat) : (y.ndR i).length = i := by unfold YD.ndR; simp
theorem ndR_succ (y : YD) (i : Nat) : y.ndR i ++ [[PV.sl ((y.need i).map row1)]] = y.ndR (i + 1) := by unfold YD.ndR; simp [List.range_succ]
theorem getD_some {α : Type} {l : List α} {i : Nat} {d : α} (h : i < l.length) : l[i]? = some (l.getD i d) := by simp [List.getD, h]
def cells0 (ss : List SD) (first : List Int) (trip load : Int) (m : Nat) : List AC := [.p (.sl (ss.map SD.row)), .p (.sl (first.map row1)), .p (iP trip), .p (iP load), .nil, .raw m]
end Go.Proofs.YthedkfiebmnghaaGreat
