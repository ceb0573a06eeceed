/- The law's own day. -/
import Derived.Test.YtojbkpnkcpcioaaKe
import Derived.Test.YtojbkpnkcpcioaaKf
import Derived.Test.YtojbkpnkcpcioaaKd
set_option linter.all false
namespace Go.Proofs.Ytojbkpnkcpcioaa
open Go Go.RowKit Go.Sh Go.Sh.Stand Go.Pv

theorem rowsK_nil (k : Nat) : rowsK k [] = True := eq_true fun i r h => by simp at h
theorem rowsK_cons (k : Nat) (r : List PV) (l : List (List PV)) : rowsK k (r :: l) = (r.length = k ∧ rowsK k l) := propext ⟨fun h => ⟨h 0 r rfl, fun i r' hi => h (i + 1) r' hi⟩, fun h i r' hi => by
  cases i with
  | zero => cases hi; exact h.1
  | succ i => exact h.2 i r' hi⟩
attribute [local go_sem] rowsK_nil rowsK_cons Bool.true_or max_eq min_eq List.length_append List.map_append
set_option maxHeartbeats 4000000
/-- Amid the law's day, ahead of a run. -/
structure DayI (runs : List (Int × Int)) (t : Shearer) (sheep : List Int) (r : Nat) (bs ds : List Int) (free : Int) : Prop where
  run : r ≤ runs.length
  len : bs.length = ds.length
  next : ds.length ≤ sheep.length
  done : ds ++ doneFrom runs t (sheep.drop ds.length) r free = doneFrom runs t sheep 0 0
  beg : bs ++ begFrom runs t (sheep.drop ds.length) r free = begFrom runs t sheep 0 0
  free : 0 ≤ free ∧ free ≤ 1000
theorem DayI.start (runs : List (Int × Int)) (t : Shearer) (sheep : List Int) : DayI runs t sheep 0 [] [] 0 := ⟨by omega, rfl, by simp, rfl, rfl, by omega⟩
theorem DayI.over {runs : List (Int × Int)} {t : Shearer} {sheep : List Int} {r : Nat} {bs ds : List Int} {free : Int} (h : DayI runs t sheep r bs ds free) {p : Int × Int} (hp : runs[r]? = some p) (hn : ¬ gmax free p.1 < p.2 ∨ ds.length = sheep.length) : DayI runs t sheep (r + 1) bs ds free := by
  have hr : r + 1 ≤ runs.length := (List.getElem?_eq_some_iff.1 hp).1
  rcases hn with hn | hn
  · exact ⟨hr, h.len, h.next, by rw [← doneFrom_next hp hn]; exact h.done, by rw [← begFrom_next hp hn]; exact h.beg, h.free⟩
  · have hd : sheep.drop ds.length = [] := List.drop_eq_nil_of_le (by omega)
    have h1 := h.done
    have h2 := h.beg
    rw [hd] at h1 h2
    exact ⟨hr, h.len, h.next, by rw [hd]; exact h1, by rw [hd]; exact h2, h.free⟩
theorem DayI.step {runs : List (Int × Int)} {t : Shearer} {sheep : List Int} {r : Nat} {bs ds : List Int} {free : Int} (h : DayI runs t sheep r bs ds free) {p : Int × Int} (hp : runs[r]? = some p) (hd : gmax free p.1 < p.2) (hn : ds.length < sheep.length) (hb : 0 ≤ gmax free p.1 + tk t (sheep.getD ds.length 0) ∧ gmax free p.1 + tk t (sheep.getD ds.length 0) ≤ 1000) :
    DayI runs t sheep r (bs ++ [gmax free p.1]) (ds ++ [gmax free p.1 + tk t (sheep.getD ds.length 0)]) (gmax free p.1 + tk t (sheep.getD ds.length 0)) := by
  have h1 := h.done
  have h2 := h.beg
  have hdr : sheep.drop ds.length = sheep.getD ds.length 0 :: sheep.drop (ds.length + 1) := drop_getD hn
  rw [hdr] at h1 h2
  rw [doneFrom_here hp hd] at h1
  rw [begFrom_here hp hd] at h2
  refine ⟨h.run, by simp [h.len], by simp; omega, ?_, ?_, hb⟩
  · rw [List.length_append, List.append_assoc]; exact h1
  · rw [List.length_append, List.append_assoc]; exact h2
section
variable (m0 m1 m2 : Int × Int) (runs : List (Int × Int)) (sheep : List Int) (looks : List (Int × Int × Int))
def shObj (l : List Int) : Obj' := .arr 3 1 (l.map row1) true
theorem gmax_max (a b : Int) : max a b = gmax a b := by unfold gmax; split <;> omega
theorem ok_day (a b c : Int) (hr : ∀ p ∈ runs, 0 ≤ p.1 ∧ p.1 < p.2 ∧ p.2 ≤ 600) (hrl : runs.length ≤ 4) (hsl : sheep.length ≤ 16) (hk : ∀ k ∈ sheep, 0 ≤ k ∧ k ≤ 2) (ht : Tok (a, b, c)) :
    FunOK Try.prog 29 [stR m0 m1 m2 runs sheep looks, .agg [iP a, iP b, iP c]] (.tup [.one (.sl ((begFrom runs (a, b, c) sheep 0 0).map row1)), .one (.sl ((doneFrom runs (a, b, c) sheep 0 0).map row1))]) := by
  refine fun_ok (nt := 69) (rs := [.tmp 4, .tmp 5]) Try.func29 rfl rfl rfl (by simp) fun Z w0 => ?_; simp only [initFr, avR, List.map_cons, List.map_nil]
  simp only [stR]
  (repeat (first | refine aw_seq ?_ | refine aw_block ?_ | refine aw_skip ?_ | refine aw_exit ?_ | with_reducible refine then_n ?_ | with_reducible refine block_n ?_ | with_reducible refine then_x ?_ | with_reducible refine then_r ?_ | with_reducible refine block_r ?_ | with_reducible refine block_e (by decide) ?_ | with_reducible refine block_x (by decide) ?_ | (first | refine aw_region (hideO fun QQ hQQ => ?_) | refine aw_draw mixed (hideD fun QQ hQQ => ?_)); simp (maxSteps := 400000) (disch := first | decide | omega) only [go_sem, Nat.reduceLT, Nat.reduceLeDiff, Nat.reduceEqDiff, Nat.reduceAdd, Nat.reduceSub, Nat.reduceMul, Nat.reduceBEq, ↓reduceIte, reduceCtorEq, Int.reduceToNat, Int.reduceAdd, Int.reduceSub, Int.reduceMul, Int.reduceLT, Int.reduceLE, Int.reduceNeg, Int.reduceBEq, Int.reduceBNe]; try (first | with_reducible refine unhide hQQ ?_ | refine ⟨by kernel_rfl, unhide hQQ ?_⟩); clear hQQ QQ))
  refine aw_weak (weak_own 4 3 1 (by (simp (maxSteps := 400000) (disch := first | decide | omega) only [go_sem, Nat.reduceLT, Nat.reduceLeDiff, Nat.reduceEqDiff, Nat.reduceAdd, Nat.reduceSub, Nat.reduceMul, Nat.reduceBEq, ↓reduceIte, reduceCtorEq, Int.reduceToNat, Int.reduceAdd, Int.reduceSub, Int.reduceMul, Int.reduceLT, Int.reduceLE, Int.reduceNeg, Int.reduceBEq, Int.reduceBNe]; (try (with_reducible refine unhide hQQ ?_; clear hQQ QQ; (repeat (first | with_reducible refine then_n ?_ | with_reducible refine block_n ?_ | with_reducible refine then_x ?_ | with_reducible refine then_r ?_ | with_reducible refine block_r ?_ | with_reducible refine block_e (by decide) ?_ | with_reducible refine block_x (by decide) ?_))))))) ?_
  refine aw_weak (weak_own 5 3 1 (by (simp (maxSteps := 400000) (disch := first | decide | omega) only [go_sem, Nat.reduceLT, Nat.reduceLeDiff, Nat.reduceEqDiff, Nat.reduceAdd, Nat.reduceSub, Nat.reduceMul, Nat.reduceBEq, ↓reduceIte, reduceCtorEq, Int.reduceToNat, Int.reduceAdd, Int.reduceSub, Int.reduceMul, Int.reduceLT, Int.reduceLE, Int.reduceNeg, Int.reduceBEq, Int.reduceBNe]; (try (with_reducible refine unhide hQQ ?_; clear hQQ QQ; (repeat (first | with_reducible refine then_n ?_ | with_reducible refine block_n ?_ | with_reducible refine then_x ?_ | with_reducible refine then_r ?_ | with_reducible refine block_r ?_ | with_reducible refine block_e (by decide) ?_ | with_reducible refine block_x (by decide) ?_))))))) ?_
  (repeat (first | refine aw_seq ?_ | refine aw_block ?_ | refine aw_skip ?_ | refine aw_exit ?_ | with_reducible refine then_n ?_ | with_reducible refine block_n ?_ | with_reducible refine then_x ?_ | with_reducible refine then_r ?_ | with_reducible refine block_r ?_ | with_reducible refine block_e (by decide) ?_ | with_reducible refine block_x (by decide) ?_ | (first | refine aw_region (hideO fun QQ hQQ => ?_) | refine aw_draw mixed (hideD fun QQ hQQ => ?_)); simp (maxSteps := 400000) (disch := first | decide | omega) only [go_sem, Nat.reduceLT, Nat.reduceLeDiff, Nat.reduceEqDiff, Nat.reduceAdd, Nat.reduceSub, Nat.reduceMul, Nat.reduceBEq, ↓reduceIte, reduceCtorEq, Int.reduceToNat, Int.reduceAdd, Int.reduceSub, Int.reduceMul, Int.reduceLT, Int.reduceLE, Int.reduceNeg, Int.reduceBEq, Int.reduceBNe]; try (first | with_reducible refine unhide hQQ ?_ | refine ⟨by kernel_rfl, unhide hQQ ?_⟩); clear hQQ QQ))
  refine aw_weak (weak_keep [2, 3, 4, 5, 6, 7, 12, 13, 14] (by simp only [go_sem, Nat.reduceLT, Nat.reduceLeDiff, Nat.reduceEqDiff, Nat.reduceAdd, Nat.reduceSub, Nat.reduceMul, Nat.reduceBEq, ↓reduceIte, reduceCtorEq]; rfl)) ?_
  refine aw_loop_ov (ι := { p : Nat × List Int × List Int × Int // DayI runs (a, b, c) sheep p.1 p.2.1 p.2.2.1 p.2.2.2 }) (fun p => [(4, .one (.own 2 p.1.2.1.length)), (5, .one (.own 3 p.1.2.2.1.length)), (6, iA p.1.2.2.1.length), (7, iA p.1.2.2.2), (14, iA p.1.1)]) (fun p => [(2, shObj p.1.2.1), (3, shObj p.1.2.2.1)]) (fun p => runs.length - p.1.1) ⟨(0, [], [], 0), DayI.start _ _ _⟩ (by first | rfl | (simp only [go_sem, Nat.reduceLT, Nat.reduceLeDiff, Nat.reduceEqDiff, Nat.reduceAdd, Nat.reduceSub, Nat.reduceMul, Nat.reduceBEq, ↓reduceIte, reduceCtorEq]; first | done | rfl | (simp; try rfl))) ?_
  rintro ⟨⟨r, bs, ds, free⟩, hI⟩
  simp (disch := decide) only [ov, ovL, AL.get_nil, AL.get_eq, AL.get_ne, Option.getD_some, Option.getD_none]
  simp only at hI
  simp only [shObj]
  by_cases hrr : r < runs.length
  · have hp : runs[r]? = some (runs.getD r (0, 0)) := by simp [List.getD, hrr]
    have hpb := hr _ (List.mem_of_getElem? hp)
    (repeat (first | refine aw_seq ?_ | refine aw_block ?_ | refine aw_skip ?_ | refine aw_exit ?_ | with_reducible refine then_n ?_ | with_reducible refine block_n ?_ | with_reducible refine then_x ?_ | with_reducible refine then_r ?_ | with_reducible refine block_r ?_ | with_reducible refine block_e (by decide) ?_ | with_reducible refine block_x (by decide) ?_ | (first | refine aw_region (hideO fun QQ hQQ => ?_) | refine aw_draw mixed (hideD fun QQ hQQ => ?_)); simp (maxSteps := 400000) (disch := first | decide | omega) only [go_sem, Nat.reduceLT, Nat.reduceLeDiff, Nat.reduceEqDiff, Nat.reduceAdd, Nat.reduceSub, Nat.reduceMul, Nat.reduceBEq, ↓reduceIte, reduceCtorEq, Int.reduceToNat, Int.reduceAdd, Int.reduceSub, Int.reduceMul, Int.reduceLT, Int.reduceLE, Int.reduceNeg, Int.reduceBEq, Int.reduceBNe]; try (first | with_reducible refine unhide hQQ ?_ | refine ⟨by kernel_rfl, unhide hQQ ?_⟩); clear hQQ QQ))
    refine aw_cond2 (by simp (disch := first | decide | omega) only [go_sem, Nat.reduceEqDiff, Nat.reduceLT, Nat.reduceAdd, Nat.reduceMul, ↓reduceIte, reduceCtorEq]; rfl) ?_; first | refine .inl ⟨by first | rfl | exact decide_eq_true (by omega) | exact decide_eq_true (by assumption) | (simp (disch := first | decide | omega) only [if_pos_d, if_neg_d, decide_eq_true_eq, Bool.not_eq_true', decide_eq_false_iff_not]; omega), ?_⟩ | refine .inr ⟨by first | rfl | exact decide_eq_false (by omega) | exact decide_eq_false (by assumption) | (simp (disch := first | decide | omega) only [if_pos_d, if_neg_d, decide_eq_true_eq, Bool.not_eq_true', decide_eq_false_iff_not]; omega), ?_⟩
    (repeat (first | refine aw_seq ?_ | refine aw_block ?_ | refine aw_skip ?_ | refine aw_exit ?_ | with_reducible refine then_n ?_ | with_reducible refine block_n ?_ | with_reducible refine then_x ?_ | with_reducible refine then_r ?_ | with_reducible refine block_r ?_ | with_reducible refine block_e (by decide) ?_ | with_reducible refine block_x (by decide) ?_ | (first | refine aw_region (hideO fun QQ hQQ => ?_) | refine aw_draw mixed (hideD fun QQ hQQ => ?_)); simp (maxSteps := 400000) (disch := first | decide | omega) only [go_sem, Nat.reduceLT, Nat.reduceLeDiff, Nat.reduceEqDiff, Nat.reduceAdd, Nat.reduceSub, Nat.reduceMul, Nat.reduceBEq, ↓reduceIte, reduceCtorEq, Int.reduceToNat, Int.reduceAdd, Int.reduceSub, Int.reduceMul, Int.reduceLT, Int.reduceLE, Int.reduceNeg, Int.reduceBEq, Int.reduceBNe]; try (first | with_reducible refine unhide hQQ ?_ | refine ⟨by kernel_rfl, unhide hQQ ?_⟩); clear hQQ QQ))
    generalize runs.getD r (0, 0) = pr at hp hpb ⊢
    obtain ⟨st, be⟩ := pr
    simp only at hpb
    have hf := hI.free
    simp only [gmax_max]
    refine aw_weak (weak_keep [2, 3, 4, 5, 6, 7, 9, 10, 12, 13, 14] (by simp only [go_sem, Nat.reduceLT, Nat.reduceLeDiff, Nat.reduceEqDiff, Nat.reduceAdd, Nat.reduceSub, Nat.reduceMul, Nat.reduceBEq, ↓reduceIte, reduceCtorEq]; rfl)) ?_
    refine aw_weak (weak_restrict [2, 3, 4, 5, 6, 7, 9, 10, 12, 13, 14] [0, 1, 2, 3, 4] 5 (by simp only [go_sem, Nat.reduceLT, Nat.reduceLeDiff, Nat.reduceEqDiff, Nat.reduceAdd, Nat.reduceSub, Nat.reduceMul, Nat.reduceBEq, ↓reduceIte, reduceCtorEq]; rfl)) ?_
    refine aw_loop (ι := { p : List Int × List Int × Int // DayI runs (a, b, c) sheep r p.1 p.2.1 p.2.2 })
      (fun p => ⟨[(2, .one (.box 0 0)), (3, .one (.box 1 0)), (4, .one (.own 2 p.1.1.length)), (5, .one (.own 3 p.1.2.1.length)), (6, iA p.1.2.1.length), (7, iA p.1.2.2), (9, .one (.box 4 0)), (10, iA (gmax p.1.2.2 st)), (12, .one (.p (.sl (runs.map row2)))), (13, iA runs.length), (14, iA r)],
        [(0, .box (stO m0 m1 m2 runs sheep looks)), (1, .box [.p (iP a), .p (iP b), .p (iP c)]), (2, shObj p.1.1), (3, shObj p.1.2.1), (4, .box [.p (iP st), .p (iP be)])], 5⟩) (fun p => sheep.length - p.1.2.1.length) ?_ ⟨(bs, ds, free), hI⟩
    clear hI hf free ds bs
    rintro ⟨⟨bs, ds, free⟩, hI⟩
    simp only at hI
    simp only [stO, shObj]
    have hf := hI.free
    have hl := hI.len
    have hn := hI.next
    have hg := gmax_ge free st
    have hg2 : gmax free st ≤ 1000 := by unfold gmax; split <;> omega
    by_cases h1 : gmax free st < be
    · by_cases h2 : ds.length < sheep.length
      · have hkk := hk (sheep.getD ds.length 0) (by
          have : sheep.getD ds.length 0 = sheep[ds.length] := by simp [List.getD, h2]
          rw [this]; exact List.getElem_mem _)
        have hbb : ∀ k, 1 ≤ tk (a, b, c) k ∧ tk (a, b, c) k ≤ 40 := fun k => tok_tk ht k
        have hstep := hI.step hp h1 h2 (by have := hbb (sheep.getD ds.length 0); simp only; omega)
        have ha := ht.1
        have hb' := ht.2.1
        have hc' := ht.2.2
        simp only at ha hb' hc'
        (repeat (first | refine aw_seq ?_ | refine aw_block ?_ | refine aw_skip ?_ | refine aw_exit ?_ | with_reducible refine then_n ?_ | with_reducible refine block_n ?_ | with_reducible refine then_x ?_ | with_reducible refine then_r ?_ | with_reducible refine block_r ?_ | with_reducible refine block_e (by decide) ?_ | with_reducible refine block_x (by decide) ?_ | (first | refine aw_region (hideO fun QQ hQQ => ?_) | refine aw_draw mixed (hideD fun QQ hQQ => ?_)); simp (maxSteps := 400000) (disch := first | decide | omega) only [go_sem, Nat.reduceLT, Nat.reduceLeDiff, Nat.reduceEqDiff, Nat.reduceAdd, Nat.reduceSub, Nat.reduceMul, Nat.reduceBEq, ↓reduceIte, reduceCtorEq, Int.reduceToNat, Int.reduceAdd, Int.reduceSub, Int.reduceMul, Int.reduceLT, Int.reduceLE, Int.reduceNeg, Int.reduceBEq, Int.reduceBNe]; try (first | with_reducible refine unhide hQQ ?_ | refine ⟨by kernel_rfl, unhide hQQ ?_⟩); clear hQQ QQ))
        refine aw_cond2 (by simp (disch := first | decide | omega) only [go_sem, Nat.reduceEqDiff, Nat.reduceLT, Nat.reduceAdd, Nat.reduceMul, ↓reduceIte, reduceCtorEq]; rfl) ?_; first | refine .inl ⟨by first | rfl | exact decide_eq_true (by omega) | exact decide_eq_true (by assumption) | (simp (disch := first | decide | omega) only [if_pos_d, if_neg_d, decide_eq_true_eq, Bool.not_eq_true', decide_eq_false_iff_not]; omega), ?_⟩ | refine .inr ⟨by first | rfl | exact decide_eq_false (by omega) | exact decide_eq_false (by assumption) | (simp (disch := first | decide | omega) only [if_pos_d, if_neg_d, decide_eq_true_eq, Bool.not_eq_true', decide_eq_false_iff_not]; omega), ?_⟩
        (repeat (first | refine aw_seq ?_ | refine aw_block ?_ | refine aw_skip ?_ | refine aw_exit ?_ | with_reducible refine then_n ?_ | with_reducible refine block_n ?_ | with_reducible refine then_x ?_ | with_reducible refine then_r ?_ | with_reducible refine block_r ?_ | with_reducible refine block_e (by decide) ?_ | with_reducible refine block_x (by decide) ?_ | (first | refine aw_region (hideO fun QQ hQQ => ?_) | refine aw_draw mixed (hideD fun QQ hQQ => ?_)); simp (maxSteps := 400000) (disch := first | decide | omega) only [go_sem, Nat.reduceLT, Nat.reduceLeDiff, Nat.reduceEqDiff, Nat.reduceAdd, Nat.reduceSub, Nat.reduceMul, Nat.reduceBEq, ↓reduceIte, reduceCtorEq, Int.reduceToNat, Int.reduceAdd, Int.reduceSub, Int.reduceMul, Int.reduceLT, Int.reduceLE, Int.reduceNeg, Int.reduceBEq, Int.reduceBNe]; try (first | with_reducible refine unhide hQQ ?_ | refine ⟨by kernel_rfl, unhide hQQ ?_⟩); clear hQQ QQ))
        generalize sheep.getD ds.length 0 = q at hkk hstep ⊢
        generalize hnow : gmax free st = now at *
        rcases (show q = 0 ∨ q = 1 ∨ q = 2 by omega) with rfl | rfl | rfl
        all_goals
          (simp (maxSteps := 400000) (disch := first | decide | omega) only [go_sem, Nat.reduceLT, Nat.reduceLeDiff, Nat.reduceEqDiff, Nat.reduceAdd, Nat.reduceSub, Nat.reduceMul, Nat.reduceBEq, ↓reduceIte, reduceCtorEq, Int.reduceToNat, Int.reduceAdd, Int.reduceSub, Int.reduceMul, Int.reduceLT, Int.reduceLE, Int.reduceNeg, Int.reduceBEq, Int.reduceBNe]; (try (with_reducible refine unhide hQQ ?_; clear hQQ QQ; (repeat (first | with_reducible refine then_n ?_ | with_reducible refine block_n ?_ | with_reducible refine then_x ?_ | with_reducible refine then_r ?_ | with_reducible refine block_r ?_ | with_reducible refine block_e (by decide) ?_ | with_reducible refine block_x (by decide) ?_)))))
          (repeat (first | refine aw_seq ?_ | refine aw_block ?_ | refine aw_skip ?_ | refine aw_exit ?_ | with_reducible refine then_n ?_ | with_reducible refine block_n ?_ | with_reducible refine then_x ?_ | with_reducible refine then_r ?_ | with_reducible refine block_r ?_ | with_reducible refine block_e (by decide) ?_ | with_reducible refine block_x (by decide) ?_ | (first | refine aw_region (hideO fun QQ hQQ => ?_) | refine aw_draw mixed (hideD fun QQ hQQ => ?_)); simp (maxSteps := 400000) (disch := first | decide | omega) only [go_sem, Nat.reduceLT, Nat.reduceLeDiff, Nat.reduceEqDiff, Nat.reduceAdd, Nat.reduceSub, Nat.reduceMul, Nat.reduceBEq, ↓reduceIte, reduceCtorEq, Int.reduceToNat, Int.reduceAdd, Int.reduceSub, Int.reduceMul, Int.reduceLT, Int.reduceLE, Int.reduceNeg, Int.reduceBEq, Int.reduceBNe]; try (first | with_reducible refine unhide hQQ ?_ | refine ⟨by kernel_rfl, unhide hQQ ?_⟩); clear hQQ QQ))
        · have e : tk (a, b, c) 0 = a := rfl
          rw [e] at hstep
          refine ⟨⟨(bs ++ [now], ds ++ [now + a], now + a), hstep⟩, ?_, weak_restrict [2, 3, 4, 5, 6, 7, 9, 10, 12, 13, 14] [0, 1, 2, 3, 4] 5 ?_⟩
          rotate_left
          · have hgm : gmax (now + a) st = now + a := by unfold gmax; split <;> omega
            simp only [go_sem, Nat.reduceLT, Nat.reduceLeDiff, Nat.reduceEqDiff, Nat.reduceAdd, Nat.reduceSub, Nat.reduceMul, Nat.reduceBEq, ↓reduceIte, reduceCtorEq]
            simp [hgm, stO, shObj, row1]
          · simp; omega
        · have e : tk (a, b, c) 1 = b := rfl
          rw [e] at hstep
          refine ⟨⟨(bs ++ [now], ds ++ [now + b], now + b), hstep⟩, ?_, weak_restrict [2, 3, 4, 5, 6, 7, 9, 10, 12, 13, 14] [0, 1, 2, 3, 4] 5 ?_⟩
          rotate_left
          · have hgm : gmax (now + b) st = now + b := by unfold gmax; split <;> omega
            simp only [go_sem, Nat.reduceLT, Nat.reduceLeDiff, Nat.reduceEqDiff, Nat.reduceAdd, Nat.reduceSub, Nat.reduceMul, Nat.reduceBEq, ↓reduceIte, reduceCtorEq]
            simp [hgm, stO, shObj, row1]
          · simp; omega
        · have e : tk (a, b, c) 2 = c := rfl
          rw [e] at hstep
          refine ⟨⟨(bs ++ [now], ds ++ [now + c], now + c), hstep⟩, ?_, weak_restrict [2, 3, 4, 5, 6, 7, 9, 10, 12, 13, 14] [0, 1, 2, 3, 4] 5 ?_⟩
          rotate_left
          · have hgm : gmax (now + c) st = now + c := by unfold gmax; split <;> omega
            simp only [go_sem, Nat.reduceLT, Nat.reduceLeDiff, Nat.reduceEqDiff, Nat.reduceAdd, Nat.reduceSub, Nat.reduceMul, Nat.reduceBEq, ↓reduceIte, reduceCtorEq]
            simp [hgm, stO, shObj, row1]
          · simp; omega
      · have h3 : ds.length = sheep.length := by omega
        (repeat (first | refine aw_seq ?_ | refine aw_block ?_ | refine aw_skip ?_ | refine aw_exit ?_ | with_reducible refine then_n ?_ | with_reducible refine block_n ?_ | with_reducible refine then_x ?_ | with_reducible refine then_r ?_ | with_reducible refine block_r ?_ | with_reducible refine block_e (by decide) ?_ | with_reducible refine block_x (by decide) ?_ | (first | refine aw_region (hideO fun QQ hQQ => ?_) | refine aw_draw mixed (hideD fun QQ hQQ => ?_)); simp (maxSteps := 400000) (disch := first | decide | omega) only [go_sem, Nat.reduceLT, Nat.reduceLeDiff, Nat.reduceEqDiff, Nat.reduceAdd, Nat.reduceSub, Nat.reduceMul, Nat.reduceBEq, ↓reduceIte, reduceCtorEq, Int.reduceToNat, Int.reduceAdd, Int.reduceSub, Int.reduceMul, Int.reduceLT, Int.reduceLE, Int.reduceNeg, Int.reduceBEq, Int.reduceBNe]; try (first | with_reducible refine unhide hQQ ?_ | refine ⟨by kernel_rfl, unhide hQQ ?_⟩); clear hQQ QQ))
        refine aw_cond2 (by simp (disch := first | decide | omega) only [go_sem, Nat.reduceEqDiff, Nat.reduceLT, Nat.reduceAdd, Nat.reduceMul, ↓reduceIte, reduceCtorEq]; rfl) ?_; first | refine .inl ⟨by first | rfl | exact decide_eq_true (by omega) | exact decide_eq_true (by assumption) | (simp (disch := first | decide | omega) only [if_pos_d, if_neg_d, decide_eq_true_eq, Bool.not_eq_true', decide_eq_false_iff_not]; omega), ?_⟩ | refine .inr ⟨by first | rfl | exact decide_eq_false (by omega) | exact decide_eq_false (by assumption) | (simp (disch := first | decide | omega) only [if_pos_d, if_neg_d, decide_eq_true_eq, Bool.not_eq_true', decide_eq_false_iff_not]; omega), ?_⟩
        (repeat (first | refine aw_seq ?_ | refine aw_block ?_ | refine aw_skip ?_ | refine aw_exit ?_ | with_reducible refine then_n ?_ | with_reducible refine block_n ?_ | with_reducible refine then_x ?_ | with_reducible refine then_r ?_ | with_reducible refine block_r ?_ | with_reducible refine block_e (by decide) ?_ | with_reducible refine block_x (by decide) ?_ | (first | refine aw_region (hideO fun QQ hQQ => ?_) | refine aw_draw mixed (hideD fun QQ hQQ => ?_)); simp (maxSteps := 400000) (disch := first | decide | omega) only [go_sem, Nat.reduceLT, Nat.reduceLeDiff, Nat.reduceEqDiff, Nat.reduceAdd, Nat.reduceSub, Nat.reduceMul, Nat.reduceBEq, ↓reduceIte, reduceCtorEq, Int.reduceToNat, Int.reduceAdd, Int.reduceSub, Int.reduceMul, Int.reduceLT, Int.reduceLE, Int.reduceNeg, Int.reduceBEq, Int.reduceBNe]; try (first | with_reducible refine unhide hQQ ?_ | refine ⟨by kernel_rfl, unhide hQQ ?_⟩); clear hQQ QQ))
        refine ⟨⟨(r + 1, bs, ds, free), hI.over hp (.inr h3)⟩, ?_, weak_round ?_ (by first | rfl | (simp only [go_sem, Nat.reduceLT, Nat.reduceLeDiff, Nat.reduceEqDiff, Nat.reduceAdd, Nat.reduceSub, Nat.reduceMul, Nat.reduceBEq, ↓reduceIte, reduceCtorEq]))⟩
        rotate_left
        · simp only [go_sem, Nat.reduceLT, Nat.reduceLeDiff, Nat.reduceEqDiff, Nat.reduceAdd, Nat.reduceSub, Nat.reduceMul, Nat.reduceBEq, ↓reduceIte, reduceCtorEq]
          simp [stO, shObj]
        · simp; omega
    · (repeat (first | refine aw_seq ?_ | refine aw_block ?_ | refine aw_skip ?_ | refine aw_exit ?_ | with_reducible refine then_n ?_ | with_reducible refine block_n ?_ | with_reducible refine then_x ?_ | with_reducible refine then_r ?_ | with_reducible refine block_r ?_ | with_reducible refine block_e (by decide) ?_ | with_reducible refine block_x (by decide) ?_ | (first | refine aw_region (hideO fun QQ hQQ => ?_) | refine aw_draw mixed (hideD fun QQ hQQ => ?_)); simp (maxSteps := 400000) (disch := first | decide | omega) only [go_sem, Nat.reduceLT, Nat.reduceLeDiff, Nat.reduceEqDiff, Nat.reduceAdd, Nat.reduceSub, Nat.reduceMul, Nat.reduceBEq, ↓reduceIte, reduceCtorEq, Int.reduceToNat, Int.reduceAdd, Int.reduceSub, Int.reduceMul, Int.reduceLT, Int.reduceLE, Int.reduceNeg, Int.reduceBEq, Int.reduceBNe]; try (first | with_reducible refine unhide hQQ ?_ | refine ⟨by kernel_rfl, unhide hQQ ?_⟩); clear hQQ QQ))
      refine aw_cond2 (by simp (disch := first | decide | omega) only [go_sem, Nat.reduceEqDiff, Nat.reduceLT, Nat.reduceAdd, Nat.reduceMul, ↓reduceIte, reduceCtorEq]; rfl) ?_; first | refine .inl ⟨by first | rfl | exact decide_eq_true (by omega) | exact decide_eq_true (by assumption) | (simp (disch := first | decide | omega) only [if_pos_d, if_neg_d, decide_eq_true_eq, Bool.not_eq_true', decide_eq_false_iff_not]; omega), ?_⟩ | refine .inr ⟨by first | rfl | exact decide_eq_false (by omega) | exact decide_eq_false (by assumption) | (simp (disch := first | decide | omega) only [if_pos_d, if_neg_d, decide_eq_true_eq, Bool.not_eq_true', decide_eq_false_iff_not]; omega), ?_⟩
      (repeat (first | refine aw_seq ?_ | refine aw_block ?_ | refine aw_skip ?_ | refine aw_exit ?_ | with_reducible refine then_n ?_ | with_reducible refine block_n ?_ | with_reducible refine then_x ?_ | with_reducible refine then_r ?_ | with_reducible refine block_r ?_ | with_reducible refine block_e (by decide) ?_ | with_reducible refine block_x (by decide) ?_ | (first | refine aw_region (hideO fun QQ hQQ => ?_) | refine aw_draw mixed (hideD fun QQ hQQ => ?_)); simp (maxSteps := 400000) (disch := first | decide | omega) only [go_sem, Nat.reduceLT, Nat.reduceLeDiff, Nat.reduceEqDiff, Nat.reduceAdd, Nat.reduceSub, Nat.reduceMul, Nat.reduceBEq, ↓reduceIte, reduceCtorEq, Int.reduceToNat, Int.reduceAdd, Int.reduceSub, Int.reduceMul, Int.reduceLT, Int.reduceLE, Int.reduceNeg, Int.reduceBEq, Int.reduceBNe]; try (first | with_reducible refine unhide hQQ ?_ | refine ⟨by kernel_rfl, unhide hQQ ?_⟩); clear hQQ QQ))
      refine ⟨⟨(r + 1, bs, ds, free), hI.over hp (.inl h1)⟩, ?_, weak_round ?_ (by first | rfl | (simp only [go_sem, Nat.reduceLT, Nat.reduceLeDiff, Nat.reduceEqDiff, Nat.reduceAdd, Nat.reduceSub, Nat.reduceMul, Nat.reduceBEq, ↓reduceIte, reduceCtorEq]))⟩
      rotate_left
      · simp only [go_sem, Nat.reduceLT, Nat.reduceLeDiff, Nat.reduceEqDiff, Nat.reduceAdd, Nat.reduceSub, Nat.reduceMul, Nat.reduceBEq, ↓reduceIte, reduceCtorEq]
        simp [stO, shObj]
      · simp; omega
  · have hrl2 : r = runs.length := by have := hI.run; omega
    have hn := hI.next
    have h1 := hI.done
    have h2 := hI.beg
    have hl := hI.len
    rw [doneFrom_end (by omega)] at h1
    rw [begFrom_end (by omega)] at h2
    (repeat (first | refine aw_seq ?_ | refine aw_block ?_ | refine aw_skip ?_ | refine aw_exit ?_ | with_reducible refine then_n ?_ | with_reducible refine block_n ?_ | with_reducible refine then_x ?_ | with_reducible refine then_r ?_ | with_reducible refine block_r ?_ | with_reducible refine block_e (by decide) ?_ | with_reducible refine block_x (by decide) ?_ | (first | refine aw_region (hideO fun QQ hQQ => ?_) | refine aw_draw mixed (hideD fun QQ hQQ => ?_)); simp (maxSteps := 400000) (disch := first | decide | omega) only [go_sem, Nat.reduceLT, Nat.reduceLeDiff, Nat.reduceEqDiff, Nat.reduceAdd, Nat.reduceSub, Nat.reduceMul, Nat.reduceBEq, ↓reduceIte, reduceCtorEq, Int.reduceToNat, Int.reduceAdd, Int.reduceSub, Int.reduceMul, Int.reduceLT, Int.reduceLE, Int.reduceNeg, Int.reduceBEq, Int.reduceBNe]; try (first | with_reducible refine unhide hQQ ?_ | refine ⟨by kernel_rfl, unhide hQQ ?_⟩); clear hQQ QQ))
    refine aw_cond2 (by simp (disch := first | decide | omega) only [go_sem, Nat.reduceEqDiff, Nat.reduceLT, Nat.reduceAdd, Nat.reduceMul, ↓reduceIte, reduceCtorEq]; rfl) ?_; first | refine .inl ⟨by first | rfl | exact decide_eq_true (by omega) | exact decide_eq_true (by assumption) | (simp (disch := first | decide | omega) only [if_pos_d, if_neg_d, decide_eq_true_eq, Bool.not_eq_true', decide_eq_false_iff_not]; omega), ?_⟩ | refine .inr ⟨by first | rfl | exact decide_eq_false (by omega) | exact decide_eq_false (by assumption) | (simp (disch := first | decide | omega) only [if_pos_d, if_neg_d, decide_eq_true_eq, Bool.not_eq_true', decide_eq_false_iff_not]; omega), ?_⟩
    (repeat (first | refine aw_seq ?_ | refine aw_block ?_ | refine aw_skip ?_ | refine aw_exit ?_ | with_reducible refine then_n ?_ | with_reducible refine block_n ?_ | with_reducible refine then_x ?_ | with_reducible refine then_r ?_ | with_reducible refine block_r ?_ | with_reducible refine block_e (by decide) ?_ | with_reducible refine block_x (by decide) ?_ | (first | refine aw_region (hideO fun QQ hQQ => ?_) | refine aw_draw mixed (hideD fun QQ hQQ => ?_)); simp (maxSteps := 400000) (disch := first | decide | omega) only [go_sem, Nat.reduceLT, Nat.reduceLeDiff, Nat.reduceEqDiff, Nat.reduceAdd, Nat.reduceSub, Nat.reduceMul, Nat.reduceBEq, ↓reduceIte, reduceCtorEq, Int.reduceToNat, Int.reduceAdd, Int.reduceSub, Int.reduceMul, Int.reduceLT, Int.reduceLE, Int.reduceNeg, Int.reduceBEq, Int.reduceBNe]; try (first | with_reducible refine unhide hQQ ?_ | refine ⟨by kernel_rfl, unhide hQQ ?_⟩); clear hQQ QQ))
    rw [List.length_drop] at h1 h2
    refine aw_weak (weak_keep [2, 4, 5, 6] (by simp only [go_sem, Nat.reduceLT, Nat.reduceLeDiff, Nat.reduceEqDiff, Nat.reduceAdd, Nat.reduceSub, Nat.reduceMul, Nat.reduceBEq, ↓reduceIte, reduceCtorEq]; rfl)) ?_
    refine aw_loop_ov (ι := { p : List Int × List Int // p.1.length = p.2.length ∧ p.2.length ≤ sheep.length ∧ p.2 ++ List.replicate (sheep.length - p.2.length) 1000 = doneFrom runs (a, b, c) sheep 0 0 ∧ p.1 ++ List.replicate (sheep.length - p.2.length) 1000 = begFrom runs (a, b, c) sheep 0 0 }) (fun p => [(4, .one (.own 2 p.1.1.length)), (5, .one (.own 3 p.1.2.length)), (6, iA p.1.2.length)]) (fun p => [(2, shObj p.1.1), (3, shObj p.1.2)]) (fun p => sheep.length - p.1.2.length) ⟨(bs, ds), hl, hn, h1, h2⟩ (by first | rfl | (simp only [go_sem, Nat.reduceLT, Nat.reduceLeDiff, Nat.reduceEqDiff, Nat.reduceAdd, Nat.reduceSub, Nat.reduceMul, Nat.reduceBEq, ↓reduceIte, reduceCtorEq]; first | done | rfl | (simp; try rfl))) ?_
    clear h1 h2 hl hn hI hr hk ht
    rintro ⟨⟨bs, ds⟩, hl, hn, h1, h2⟩
    simp (disch := decide) only [ov, ovL, AL.get_nil, AL.get_eq, AL.get_ne, Option.getD_some, Option.getD_none]
    simp only at hl hn h1 h2
    simp only [shObj]
    by_cases hq : ds.length < sheep.length
    · (repeat (first | refine aw_seq ?_ | refine aw_block ?_ | refine aw_skip ?_ | refine aw_exit ?_ | with_reducible refine then_n ?_ | with_reducible refine block_n ?_ | with_reducible refine then_x ?_ | with_reducible refine then_r ?_ | with_reducible refine block_r ?_ | with_reducible refine block_e (by decide) ?_ | with_reducible refine block_x (by decide) ?_ | (first | refine aw_region (hideO fun QQ hQQ => ?_) | refine aw_draw mixed (hideD fun QQ hQQ => ?_)); simp (maxSteps := 400000) (disch := first | decide | omega) only [go_sem, Nat.reduceLT, Nat.reduceLeDiff, Nat.reduceEqDiff, Nat.reduceAdd, Nat.reduceSub, Nat.reduceMul, Nat.reduceBEq, ↓reduceIte, reduceCtorEq, Int.reduceToNat, Int.reduceAdd, Int.reduceSub, Int.reduceMul, Int.reduceLT, Int.reduceLE, Int.reduceNeg, Int.reduceBEq, Int.reduceBNe]; try (first | with_reducible refine unhide hQQ ?_ | refine ⟨by kernel_rfl, unhide hQQ ?_⟩); clear hQQ QQ))
      refine aw_cond2 (by simp (disch := first | decide | omega) only [go_sem, Nat.reduceEqDiff, Nat.reduceLT, Nat.reduceAdd, Nat.reduceMul, ↓reduceIte, reduceCtorEq]; rfl) ?_; first | refine .inl ⟨by first | rfl | exact decide_eq_true (by omega) | exact decide_eq_true (by assumption) | (simp (disch := first | decide | omega) only [if_pos_d, if_neg_d, decide_eq_true_eq, Bool.not_eq_true', decide_eq_false_iff_not]; omega), ?_⟩ | refine .inr ⟨by first | rfl | exact decide_eq_false (by omega) | exact decide_eq_false (by assumption) | (simp (disch := first | decide | omega) only [if_pos_d, if_neg_d, decide_eq_true_eq, Bool.not_eq_true', decide_eq_false_iff_not]; omega), ?_⟩
      (repeat (first | refine aw_seq ?_ | refine aw_block ?_ | refine aw_skip ?_ | refine aw_exit ?_ | with_reducible refine then_n ?_ | with_reducible refine block_n ?_ | with_reducible refine then_x ?_ | with_reducible refine then_r ?_ | with_reducible refine block_r ?_ | with_reducible refine block_e (by decide) ?_ | with_reducible refine block_x (by decide) ?_ | (first | refine aw_region (hideO fun QQ hQQ => ?_) | refine aw_draw mixed (hideD fun QQ hQQ => ?_)); simp (maxSteps := 400000) (disch := first | decide | omega) only [go_sem, Nat.reduceLT, Nat.reduceLeDiff, Nat.reduceEqDiff, Nat.reduceAdd, Nat.reduceSub, Nat.reduceMul, Nat.reduceBEq, ↓reduceIte, reduceCtorEq, Int.reduceToNat, Int.reduceAdd, Int.reduceSub, Int.reduceMul, Int.reduceLT, Int.reduceLE, Int.reduceNeg, Int.reduceBEq, Int.reduceBNe]; try (first | with_reducible refine unhide hQQ ?_ | refine ⟨by kernel_rfl, unhide hQQ ?_⟩); clear hQQ QQ))
      have e : ∀ l : List Int, l ++ [1000] ++ List.replicate (sheep.length - (ds.length + 1)) 1000 = l ++ List.replicate (sheep.length - ds.length) 1000 := by
        intro l
        rw [show sheep.length - ds.length = (sheep.length - (ds.length + 1)) + 1 by omega, List.replicate_succ, List.append_assoc]; rfl
      refine ⟨⟨(bs ++ [1000], ds ++ [1000]), by simp [hl], by simp; omega, by simp only [List.length_append, List.length_cons, List.length_nil, Nat.zero_add]; rw [e]; exact h1, by simp only [List.length_append, List.length_cons, List.length_nil, Nat.zero_add]; rw [e]; exact h2⟩, ?_, weak_round ?_ (by first | rfl | (simp only [go_sem, Nat.reduceLT, Nat.reduceLeDiff, Nat.reduceEqDiff, Nat.reduceAdd, Nat.reduceSub, Nat.reduceMul, Nat.reduceBEq, ↓reduceIte, reduceCtorEq]))⟩
      rotate_left
      · simp only [go_sem, Nat.reduceLT, Nat.reduceLeDiff, Nat.reduceEqDiff, Nat.reduceAdd, Nat.reduceSub, Nat.reduceMul, Nat.reduceBEq, ↓reduceIte, reduceCtorEq]
        simp [shObj, row1]
      · simp; omega
    · have e0 : sheep.length - ds.length = 0 := by omega
      rw [e0] at h1 h2
      simp only [List.replicate_zero, List.append_nil] at h1 h2
      subst h1 h2
      (repeat (first | refine aw_seq ?_ | refine aw_block ?_ | refine aw_skip ?_ | refine aw_exit ?_ | with_reducible refine then_n ?_ | with_reducible refine block_n ?_ | with_reducible refine then_x ?_ | with_reducible refine then_r ?_ | with_reducible refine block_r ?_ | with_reducible refine block_e (by decide) ?_ | with_reducible refine block_x (by decide) ?_ | (first | refine aw_region (hideO fun QQ hQQ => ?_) | refine aw_draw mixed (hideD fun QQ hQQ => ?_)); simp (maxSteps := 400000) (disch := first | decide | omega) only [go_sem, Nat.reduceLT, Nat.reduceLeDiff, Nat.reduceEqDiff, Nat.reduceAdd, Nat.reduceSub, Nat.reduceMul, Nat.reduceBEq, ↓reduceIte, reduceCtorEq, Int.reduceToNat, Int.reduceAdd, Int.reduceSub, Int.reduceMul, Int.reduceLT, Int.reduceLE, Int.reduceNeg, Int.reduceBEq, Int.reduceBNe]; try (first | with_reducible refine unhide hQQ ?_ | refine ⟨by kernel_rfl, unhide hQQ ?_⟩); clear hQQ QQ))
      refine aw_cond2 (by simp (disch := first | decide | omega) only [go_sem, Nat.reduceEqDiff, Nat.reduceLT, Nat.reduceAdd, Nat.reduceMul, ↓reduceIte, reduceCtorEq]; rfl) ?_; first | refine .inl ⟨by first | rfl | exact decide_eq_true (by omega) | exact decide_eq_true (by assumption) | (simp (disch := first | decide | omega) only [if_pos_d, if_neg_d, decide_eq_true_eq, Bool.not_eq_true', decide_eq_false_iff_not]; omega), ?_⟩ | refine .inr ⟨by first | rfl | exact decide_eq_false (by omega) | exact decide_eq_false (by assumption) | (simp (disch := first | decide | omega) only [if_pos_d, if_neg_d, decide_eq_true_eq, Bool.not_eq_true', decide_eq_false_iff_not]; omega), ?_⟩
      (repeat (first | refine aw_seq ?_ | refine aw_block ?_ | refine aw_skip ?_ | refine aw_exit ?_ | with_reducible refine then_n ?_ | with_reducible refine block_n ?_ | with_reducible refine then_x ?_ | with_reducible refine then_r ?_ | with_reducible refine block_r ?_ | with_reducible refine block_e (by decide) ?_ | with_reducible refine block_x (by decide) ?_ | (first | refine aw_region (hideO fun QQ hQQ => ?_) | refine aw_draw mixed (hideD fun QQ hQQ => ?_)); simp (maxSteps := 400000) (disch := first | decide | omega) only [go_sem, Nat.reduceLT, Nat.reduceLeDiff, Nat.reduceEqDiff, Nat.reduceAdd, Nat.reduceSub, Nat.reduceMul, Nat.reduceBEq, ↓reduceIte, reduceCtorEq, Int.reduceToNat, Int.reduceAdd, Int.reduceSub, Int.reduceMul, Int.reduceLT, Int.reduceLE, Int.reduceNeg, Int.reduceBEq, Int.reduceBNe]; try (first | with_reducible refine unhide hQQ ?_ | refine ⟨by kernel_rfl, unhide hQQ ?_⟩); clear hQQ QQ))
      refine aw_ret ?_; refine ⟨.inr rfl, ?_⟩; simp only [resA, res1, go_sem, Nat.reduceLT, Nat.reduceLeDiff, Nat.reduceEqDiff, Nat.reduceAdd, Nat.reduceSub, Nat.reduceMul, Nat.reduceBEq, ↓reduceIte, reduceCtorEq]
      simp [List.take_of_length_le]
end
end Go.Proofs.Ytojbkpnkcpcioaa
