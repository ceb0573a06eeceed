/- classer: the document's states after one more bale. -/
import Derived.Test.YtgdhdikeicgndaaWcL
set_option linter.all false
namespace Go.Proofs.Ytgdhdikeicgndaa
open Go Go.RowKit Go.Sh Go.Pv Go.Cl
set_option maxHeartbeats 4000000
set_option maxRecDepth 20000
set_option pp.maxSteps 60000
attribute [local go_sem] rowsK_st
theorem rowsK_five (a b c d e : PV) : rowsK 5 [[a, b, c, d, e]] = True := eq_true fun i r h => by
  rcases i with _ | i
  · simp at h; subst h; rfl
  · simp at h
/-- Several ways meet again: the rest of the code is walked once for all of them. -/
theorem aw_merge {K : Kx} {c : Code} {Q : Exit → St → Prop} {ι : Type} (R : ι → Prop) (ST : ι → St) {G : Prop} (h1 : (∀ i, R i → AW K c Q (ST i)) → G) (h2 : ∀ i, R i → AW K c Q (ST i)) : G := h1 h2
section
variable {bs : List (Nat × Nat × Nat)} {D May most tk n : Nat} {asked : Int} {l : List St5}
theorem ok_after86 (h : LOK bs) (hn : n < bs.length) (hMay : May ≤ 30) (hD : D ≤ 30) (hm : most ≤ 1000) (mist : Int) (hl : l.length ≤ 28629151) (hb : ∀ s ∈ l, s.1 ≤ 30 ∧ s.2.1 ≤ 1000 ∧ s.2.2.1 ≤ 1000 ∧ s.2.2.2.2 ≤ 30) :
    FunOK Try.prog 86 [.agg [.sl (bs.map baleP), iP (May : Int), iP (D : Int), iP mist], .one (iP (n : Int)), .one (iP asked), .one (.v (.bool (tk.testBit n))), .one (iP (most : Int)), .one (.sl (l.map stP))]
      (.one (.one (.sl ((outL bs D May most tk asked n l l.length).map stP)))) := by
  have hll : (l.map stP).length = l.length := List.length_map _
  have hg : (bs.map baleP)[n]? = some [iP ((bG bs n).1 : Int), iP ((bG bs n).2.1 : Int), iP ((bG bs n).2.2 : Int)] := by rw [List.getElem?_map, get_someBale hn]; rfl
  have hba := h.ba n hn
  have hlen := outL_len (bs := bs) (D := D) (May := May) (most := most) (tk := tk) (asked := asked) n l (by omega)
  have ho0 : outL bs D May most tk asked n l 0 = [] := rfl
  have hos : ∀ i, outL bs D May most tk asked n l (i + 1) = inW bs D May most tk asked n (l.getD i (0, 0, 0, true, 0)) (outL bs D May most tk asked n l i) ((bG bs n).1 + 1) := fun i => rfl
  generalize outL bs D May most tk asked n l = OL at *
  refine fun_ok (nt := 110) (rs := [.tmp 12]) Try.func86 rfl rfl rfl (by simp) fun Z w0 => ?_; simp only [initFr, avR, List.map_cons, List.map_nil]
  try clear hF
  have hF := And.intro hg (hll)
  refine twF ?_; try with_reducible intro QQ hQQ
  refine aw_weak (weak_own 13 67 5 rfl) ?_
  (refine ts ?_; try clear hQQ QQ)
  try clear hF
  have hF := ho0
  refine aw_weak (weak_keep [1, 2, 3, 4, 5, 6, 13, 14, 15] (by simp only [hF, go_sem, ↓reduceIte]; rfl)) ?_
  refine aw_loop_ov (ι := { i : Nat // i ≤ l.length }) (fun i => [(15, iA i.1), (13, .one (.own 2 (OL i.1).length))]) (fun i => [(2, .arr 67 5 ((OL i.1).map stP) true)]) (fun i => l.length - i.1) ⟨0, by omega⟩ (by first | rfl | (simp only [hF, go_sem, ↓reduceIte]; first | done | rfl | (simp; try rfl))) ?_
  rintro ⟨i, hi⟩
  simp (disch := decide) only [ov, ovL, AL.get_nil, AL.get_eq, AL.get_ne, Option.getD_some, Option.getD_none]
  by_cases hil : i < l.length
  · obtain ⟨t, ht⟩ : ∃ t, l.getD i (0, 0, 0, true, 0) = t := ⟨_, rfl⟩
    have htm : t ∈ l := by rw [← ht, List.getD_eq_getElem?_getD, List.getElem?_eq_getElem hil]; exact List.getElem_mem hil
    have hgt : (l.map stP)[i]? = some (stP t) := by rw [List.getElem?_map, ← ht, List.getD_eq_getElem?_getD, List.getElem?_eq_getElem hil]; rfl
    have hbt := hb t htm
    have hlo := hlen i
    have hXl := fun w => inW_len (bs := bs) (D := D) (May := May) (most := most) (tk := tk) (asked := asked) n t (OL i) w
    have hX0 : inW bs D May most tk asked n t (OL i) 0 = OL i := rfl
    have hXs : ∀ w, inW bs D May most tk asked n t (OL i) (w + 1) = addS (okS (decide (n = 0)) D most t (stepS (bG bs n) (tk.testBit n) May (decide ((n : Int) = asked)) t w)) (inW bs D May most tk asked n t (OL i) w) (stepS (bG bs n) (tk.testBit n) May (decide ((n : Int) = asked)) t w) := fun w => rfl
    have hoi := hos i
    rw [ht] at hoi
    generalize inW bs D May most tk asked n t (OL i) = X at *
    try clear hF
    have hF := And.intro hll (hX0)
    refine twF ?_; try with_reducible intro QQ hQQ
    refine tiF ?_; try clear hQQ QQ
    refine twF ?_; try with_reducible intro QQ hQQ
    refine aw_weak (weak_keep [1, 2, 3, 4, 5, 6, 13, 14, 15, 16] (by simp only [hF, go_sem, ↓reduceIte]; rfl)) ?_
    refine aw_loop_ov (ι := { w : Nat // w ≤ (bG bs n).1 + 1 }) (fun w => [(16, iA w.1), (13, .one (.own 2 (X w.1).length))]) (fun w => [(2, .arr 67 5 ((X w.1).map stP) true)]) (fun w => (bG bs n).1 + 1 - w.1) ⟨0, by omega⟩ (by first | rfl | (simp only [hF, go_sem, ↓reduceIte]; first | done | rfl | (simp; try rfl))) ?_
    rintro ⟨w, hw⟩
    simp (disch := decide) only [ov, ovL, AL.get_nil, AL.get_eq, AL.get_ne, Option.getD_some, Option.getD_none]
    by_cases hwF : w ≤ (bG bs n).1
    · obtain ⟨t1, t2, t3, t4, t5⟩ := t
      have hgt : (l.map stP)[i]? = some [iP (t1 : Int), iP (t2 : Int), iP (t3 : Int), .v (.bool t4), iP (t5 : Int)] := hgt
      dsimp only at hbt
      have hXw := hXs w
      have hXl2 := hXl w
      clear hXs hXl hos hoi hlen
      have hcb : costB (bG bs n) w ≤ 60 := by
        generalize bG bs n = b at *
        obtain ⟨F, K, W⟩ := b
        unfold costB; dsimp only at *; omega
      apply aw_merge (ι := Bool) (fun k => k = (t4 && decide (w ≤ May)) ∧ (decide (n = 0) || decide (near D w t1)) = true) (fun k => ⟨[(1, .one (.p (iP (n : Int)))), (2, .one (.p (iP asked))), (3, .one (.p (.v (.bool (tk.testBit n))))), (4, .one (.p (iP (most : Int)))), (5, .one (.p (.sl (l.map stP)))), (6, .one (.box 0 0)), (13, .one (.own 2 (X w).length)), (14, .one (.box 1 0)), (15, iA i), (16, iA w), (17, .one (.box 3 0)), (79, .one (.p (.v (.bool (tk.testBit n)))))],
        [(0, .box [.p (.sl (bs.map baleP)), .p (iP (May : Int)), .p (iP (D : Int)), .p (iP mist)]), (2, .arr 67 5 ((X w).map stP) true), (1, .box [.p (iP ((bG bs n).1 : Int)), .p (iP ((bG bs n).2.1 : Int)), .p (iP ((bG bs n).2.2 : Int))]), (3, .box [.p (iP (w : Int)), .p (iP ((t2 + w : Nat) : Int)), .p (iP (t3 : Int)), .p (.v (.bool k)), .p (iP (t5 : Int))])], 4⟩)
      · intro hrest
        have hfar := ok_farD w t1 (by omega) (by omega)
        have hfn : farN w t1 ≤ D ↔ near D w t1 := by unfold farN near; omega
        generalize farN w t1 = fw at *
        by_cases hn0 : n = 0
        · have hnz : ¬ (0 : Int) < (n : Int) := by omega
          try clear hF
          have hF := And.intro hll (hgt)
          refine twF ?_; try with_reducible intro QQ hQQ
          refine tiF ?_; try clear hQQ QQ
          refine twF ?_; try with_reducible intro QQ hQQ
          refine tiF ?_; try clear hQQ QQ
          rcases Bool.eq_false_or_eq_true t4 with h4 | h4
          · by_cases hwM : w ≤ May
            · skip
              try clear hF
              have hF := And.intro h4 (And.intro hgt (hll))
              refine twF ?_; try with_reducible intro QQ hQQ
              refine aw_weak (weak_restrict [1, 2, 3, 4, 5, 6, 13, 14, 15, 16, 17, 79] [0, 2, 1, 3] 4 (by simp only [go_sem, ↓reduceIte]; rfl)) ?_
              exact hrest true ⟨by rw [h4, decide_eq_true hwM]; rfl, by rw [decide_eq_true hn0]; rfl⟩
            · skip
              try clear hF
              have hF := And.intro h4 (And.intro hgt (hll))
              refine twF ?_; try with_reducible intro QQ hQQ
              refine aw_weak (weak_restrict [1, 2, 3, 4, 5, 6, 13, 14, 15, 16, 17, 79] [0, 2, 1, 3] 4 (by simp only [go_sem, ↓reduceIte]; rfl)) ?_
              exact hrest false ⟨by rw [h4, decide_eq_false hwM]; rfl, by rw [decide_eq_true hn0]; rfl⟩
          · skip
            try clear hF
            have hF := And.intro h4 (And.intro hgt (hll))
            refine twF ?_; try with_reducible intro QQ hQQ
            refine aw_weak (weak_restrict [1, 2, 3, 4, 5, 6, 13, 14, 15, 16, 17, 79] [0, 2, 1, 3] 4 (by simp only [go_sem, ↓reduceIte]; rfl)) ?_
            exact hrest false ⟨by rw [h4]; rfl, by rw [decide_eq_true hn0]; rfl⟩
        · by_cases hne : fw ≤ D
          · skip
            try clear hF
            have hF := And.intro hll (hgt)
            refine twF ?_; try with_reducible intro QQ hQQ
            refine tiF ?_; try clear hQQ QQ
            refine twF ?_; try with_reducible intro QQ hQQ
            (refine cDF 98 rfl rfl rfl (hfar) Try.func98 rfl ?_); refine tdF ?_; try clear hQQ QQ
            refine twF ?_; try with_reducible intro QQ hQQ
            refine tiF ?_; try clear hQQ QQ
            rcases Bool.eq_false_or_eq_true t4 with h4 | h4
            · by_cases hwM : w ≤ May
              · skip
                try clear hF
                have hF := And.intro h4 (And.intro hgt (hll))
                refine twF ?_; try with_reducible intro QQ hQQ
                refine aw_weak (weak_restrict [1, 2, 3, 4, 5, 6, 13, 14, 15, 16, 17, 79] [0, 2, 1, 3] 4 (by simp only [go_sem, ↓reduceIte]; rfl)) ?_
                exact hrest true ⟨by rw [h4, decide_eq_true hwM]; rfl, by rw [decide_eq_true (hfn.1 hne)]; simp⟩
              · skip
                try clear hF
                have hF := And.intro h4 (And.intro hgt (hll))
                refine twF ?_; try with_reducible intro QQ hQQ
                refine aw_weak (weak_restrict [1, 2, 3, 4, 5, 6, 13, 14, 15, 16, 17, 79] [0, 2, 1, 3] 4 (by simp only [go_sem, ↓reduceIte]; rfl)) ?_
                exact hrest false ⟨by rw [h4, decide_eq_false hwM]; rfl, by rw [decide_eq_true (hfn.1 hne)]; simp⟩
            · skip
              try clear hF
              have hF := And.intro h4 (And.intro hgt (hll))
              refine twF ?_; try with_reducible intro QQ hQQ
              refine aw_weak (weak_restrict [1, 2, 3, 4, 5, 6, 13, 14, 15, 16, 17, 79] [0, 2, 1, 3] 4 (by simp only [go_sem, ↓reduceIte]; rfl)) ?_
              exact hrest false ⟨by rw [h4]; rfl, by rw [decide_eq_true (hfn.1 hne)]; simp⟩
          · have hXe : X (w + 1) = X w := by
              rw [hXw]
              unfold addS okS
              rw [decide_eq_false hn0, show decide (near D (stepS (bG bs n) (tk.testBit n) May (decide ((n : Int) = asked)) (t1, t2, t3, t4, t5) w).1 (t1, t2, t3, t4, t5).1) = false from decide_eq_false (fun h => hne (hfn.2 h))]
              simp
            try clear hF
            have hF := And.intro hll (hgt)
            refine twF ?_; try with_reducible intro QQ hQQ
            refine tiF ?_; try clear hQQ QQ
            refine twF ?_; try with_reducible intro QQ hQQ
            (refine cDF 98 rfl rfl rfl (hfar) Try.func98 rfl ?_); refine tdF ?_; try clear hQQ QQ
            refine twF ?_; try with_reducible intro QQ hQQ
            refine tiF ?_; try clear hQQ QQ
            refine twF ?_; try with_reducible intro QQ hQQ
            refine ⟨⟨w + 1, by omega⟩, ?_, weak_round ?_ (by first | rfl | (simp only [go_sem, ↓reduceIte]))⟩
            rotate_left
            · simp only [hXe]
              (simp only [go_sem, ↓reduceIte]; try rfl)
            · simp only; omega
      · rintro k ⟨hk, hnr⟩
        have hlY := hXl2 
        have htk : ((X w).map stP).take (X w).length = (X w).map stP := List.take_of_length_le (by simp)
        have hlen5 : ((X w).map stP).length = (X w).length := List.length_map _
        have hS : stepS (bG bs n) (tk.testBit n) May (decide ((n : Int) = asked)) (t1, t2, t3, t4, t5) w = (w, t2 + w, t3 + (if tk.testBit n = true then costB (bG bs n) w else 0), k, if decide ((n : Int) = asked) = true then w else t5) := by unfold stepS; dsimp only; rw [hk]
        have hO : okS (decide (n = 0)) D most (t1, t2, t3, t4, t5) (w, t2 + w, t3 + (if tk.testBit n = true then costB (bG bs n) w else 0), k, if decide ((n : Int) = asked) = true then w else t5) = decide (t3 + (if tk.testBit n = true then costB (bG bs n) w else 0) ≤ most) := by unfold okS; dsimp only; rw [hnr, Bool.true_and]
        rw [hS, hO] at hXw
        have hco := ok_CostD (bG bs n) w (by omega) (by omega) (by omega) hwF
        have hhas := fun (m a : Nat) => ok_hasD (X w) (w, t2 + w, m, k, a) (by omega)
        generalize hX1 : X (w + 1) = X1 at *
        generalize X w = Y at *
        generalize costB (bG bs n) w = cb at *
        clear hS hO hk hnr
        cases hT : tk.testBit n
        · rw [hT] at hXw
          simp only [Bool.false_eq_true, if_false, Nat.add_zero] at hXw
          try clear hF
          have hF := And.intro hll (hgt)
          refine tiF ?_; try clear hQQ QQ
          refine twF ?_; try with_reducible intro QQ hQQ
          by_cases ha : (n : Int) = asked
          · rw [decide_eq_true ha] at hXw
            simp only [if_true] at hXw
            by_cases hmo : t3 ≤ most
            · have hha := hhas (t3) w
              simp only [stP] at hha
              rw [decide_eq_true hmo] at hXw
              try clear hF
              have hF := And.intro htk (hlen5)
              refine tiF ?_; try clear hQQ QQ
              refine twF ?_; try with_reducible intro QQ hQQ
              by_cases hmem : (w, t2 + w, t3, k, w) ∈ Y
              · rw [decide_eq_true hmem] at hha
                have hXe : X1 = Y := by rw [hXw]; unfold addS; simp [hmem]
                subst hXe
                try clear hF
                have hF := And.intro htk (hlen5)
                ((refine cOF 100 rfl rfl rfl (hha) Try.func100 rfl ?_); refine tuF ?_; try clear hQQ QQ); refine twF ?_; try with_reducible intro QQ hQQ
                refine tiF ?_; try clear hQQ QQ
                refine twF ?_; try with_reducible intro QQ hQQ
                refine ⟨⟨w + 1, by omega⟩, ?_, weak_round ?_ (by first | rfl | (simp only [hF, go_sem, ↓reduceIte]))⟩
                rotate_left
                · simp only [hX1]
                  (simp only [hF, go_sem, ↓reduceIte]; try rfl)
                · simp only; omega
              · rw [decide_eq_false hmem] at hha
                have hXe : X1 = Y ++ [(w, t2 + w, t3, k, w)] := by rw [hXw]; unfold addS; simp [hmem]
                have hlb : (Y.length + 1) * 40 ≤ 140737488355328 := by omega
                have hrow : Y.map stP ++ [[iP (w : Int), iP ((t2 + w : Nat) : Int), iP ((t3 : Nat) : Int), PV.v (.bool k), iP (w : Int)]] = (Y ++ [(w, t2 + w, t3, k, w)]).map stP := by simp [stP]
                have hlen2 : Y.length + 1 = (Y ++ [(w, t2 + w, t3, k, w)]).length := by simp
                have hrk := rowsK_five
                subst hXe
                try clear hF
                have hF := And.intro htk (And.intro hlen5 (And.intro hlb (hrk)))
                ((refine cOF 100 rfl rfl rfl (hha) Try.func100 rfl ?_); refine tuF ?_; try clear hQQ QQ); refine twF ?_; try with_reducible intro QQ hQQ
                refine tiF ?_; try clear hQQ QQ
                refine twF ?_; try with_reducible intro QQ hQQ
                refine ⟨⟨w + 1, by omega⟩, ?_, weak_round ?_ (by first | rfl | (simp only [hF, go_sem, ↓reduceIte]))⟩
                rotate_left
                · simp only [hX1, ← hrow, ← hlen2]
                  (simp only [hF, go_sem, ↓reduceIte]; try rfl)
                · simp only; omega
            · rw [decide_eq_false hmo] at hXw
              have hXe : X1 = Y := by rw [hXw]; unfold addS; simp
              subst hXe
              refine ti ?_; try clear hQQ QQ
              refine tw ?_; try with_reducible intro QQ hQQ
              refine ti ?_; try clear hQQ QQ
              refine tw ?_; try with_reducible intro QQ hQQ
              refine ⟨⟨w + 1, by omega⟩, ?_, weak_round ?_ (by first | rfl | (simp only [go_sem, ↓reduceIte]))⟩
              rotate_left
              · simp only [hX1]
                (simp only [go_sem, ↓reduceIte]; try rfl)
              · simp only; omega
          · rw [decide_eq_false ha] at hXw
            simp only [Bool.false_eq_true, if_false] at hXw
            by_cases hmo : t3 ≤ most
            · have hha := hhas (t3) t5
              simp only [stP] at hha
              rw [decide_eq_true hmo] at hXw
              try clear hF
              have hF := And.intro htk (hlen5)
              refine tiF ?_; try clear hQQ QQ
              refine twF ?_; try with_reducible intro QQ hQQ
              by_cases hmem : (w, t2 + w, t3, k, t5) ∈ Y
              · rw [decide_eq_true hmem] at hha
                have hXe : X1 = Y := by rw [hXw]; unfold addS; simp [hmem]
                subst hXe
                try clear hF
                have hF := And.intro htk (hlen5)
                ((refine cOF 100 rfl rfl rfl (hha) Try.func100 rfl ?_); refine tuF ?_; try clear hQQ QQ); refine twF ?_; try with_reducible intro QQ hQQ
                refine tiF ?_; try clear hQQ QQ
                refine twF ?_; try with_reducible intro QQ hQQ
                refine ⟨⟨w + 1, by omega⟩, ?_, weak_round ?_ (by first | rfl | (simp only [hF, go_sem, ↓reduceIte]))⟩
                rotate_left
                · simp only [hX1]
                  (simp only [hF, go_sem, ↓reduceIte]; try rfl)
                · simp only; omega
              · rw [decide_eq_false hmem] at hha
                have hXe : X1 = Y ++ [(w, t2 + w, t3, k, t5)] := by rw [hXw]; unfold addS; simp [hmem]
                have hlb : (Y.length + 1) * 40 ≤ 140737488355328 := by omega
                have hrow : Y.map stP ++ [[iP (w : Int), iP ((t2 + w : Nat) : Int), iP ((t3 : Nat) : Int), PV.v (.bool k), iP (t5 : Int)]] = (Y ++ [(w, t2 + w, t3, k, t5)]).map stP := by simp [stP]
                have hlen2 : Y.length + 1 = (Y ++ [(w, t2 + w, t3, k, t5)]).length := by simp
                have hrk := rowsK_five
                subst hXe
                try clear hF
                have hF := And.intro htk (And.intro hlen5 (And.intro hlb (hrk)))
                ((refine cOF 100 rfl rfl rfl (hha) Try.func100 rfl ?_); refine tuF ?_; try clear hQQ QQ); refine twF ?_; try with_reducible intro QQ hQQ
                refine tiF ?_; try clear hQQ QQ
                refine twF ?_; try with_reducible intro QQ hQQ
                refine ⟨⟨w + 1, by omega⟩, ?_, weak_round ?_ (by first | rfl | (simp only [hF, go_sem, ↓reduceIte]))⟩
                rotate_left
                · simp only [hX1, ← hrow, ← hlen2]
                  (simp only [hF, go_sem, ↓reduceIte]; try rfl)
                · simp only; omega
            · rw [decide_eq_false hmo] at hXw
              have hXe : X1 = Y := by rw [hXw]; unfold addS; simp
              subst hXe
              refine ti ?_; try clear hQQ QQ
              refine tw ?_; try with_reducible intro QQ hQQ
              refine ti ?_; try clear hQQ QQ
              refine tw ?_; try with_reducible intro QQ hQQ
              refine ⟨⟨w + 1, by omega⟩, ?_, weak_round ?_ (by first | rfl | (simp only [go_sem, ↓reduceIte]))⟩
              rotate_left
              · simp only [hX1]
                (simp only [go_sem, ↓reduceIte]; try rfl)
              · simp only; omega
        · rw [hT] at hXw
          simp only [if_true] at hXw
          try clear hF
          have hF := And.intro hll (hgt)
          refine tiF ?_; try clear hQQ QQ
          refine twF ?_; try with_reducible intro QQ hQQ
          (refine cDF 99 rfl rfl rfl (hco) Try.func99 rfl ?_); refine tdF ?_; try clear hQQ QQ
          refine twF ?_; try with_reducible intro QQ hQQ
          by_cases ha : (n : Int) = asked
          · rw [decide_eq_true ha] at hXw
            simp only [if_true] at hXw
            by_cases hmo : t3 + cb ≤ most
            · have hha := hhas (t3 + cb) w
              simp only [stP] at hha
              rw [decide_eq_true hmo] at hXw
              try clear hF
              have hF := And.intro htk (hlen5)
              refine tiF ?_; try clear hQQ QQ
              refine twF ?_; try with_reducible intro QQ hQQ
              by_cases hmem : (w, t2 + w, t3 + cb, k, w) ∈ Y
              · rw [decide_eq_true hmem] at hha
                have hXe : X1 = Y := by rw [hXw]; unfold addS; simp [hmem]
                subst hXe
                try clear hF
                have hF := And.intro htk (hlen5)
                ((refine cOF 100 rfl rfl rfl (hha) Try.func100 rfl ?_); refine tuF ?_; try clear hQQ QQ); refine twF ?_; try with_reducible intro QQ hQQ
                refine tiF ?_; try clear hQQ QQ
                refine twF ?_; try with_reducible intro QQ hQQ
                refine ⟨⟨w + 1, by omega⟩, ?_, weak_round ?_ (by first | rfl | (simp only [hF, go_sem, ↓reduceIte]))⟩
                rotate_left
                · simp only [hX1]
                  (simp only [hF, go_sem, ↓reduceIte]; try rfl)
                · simp only; omega
              · rw [decide_eq_false hmem] at hha
                have hXe : X1 = Y ++ [(w, t2 + w, t3 + cb, k, w)] := by rw [hXw]; unfold addS; simp [hmem]
                have hlb : (Y.length + 1) * 40 ≤ 140737488355328 := by omega
                have hrow : Y.map stP ++ [[iP (w : Int), iP ((t2 + w : Nat) : Int), iP ((t3 + cb : Nat) : Int), PV.v (.bool k), iP (w : Int)]] = (Y ++ [(w, t2 + w, t3 + cb, k, w)]).map stP := by simp [stP]
                have hlen2 : Y.length + 1 = (Y ++ [(w, t2 + w, t3 + cb, k, w)]).length := by simp
                have hrk := rowsK_five
                subst hXe
                try clear hF
                have hF := And.intro htk (And.intro hlen5 (And.intro hlb (hrk)))
                ((refine cOF 100 rfl rfl rfl (hha) Try.func100 rfl ?_); refine tuF ?_; try clear hQQ QQ); refine twF ?_; try with_reducible intro QQ hQQ
                refine tiF ?_; try clear hQQ QQ
                refine twF ?_; try with_reducible intro QQ hQQ
                refine ⟨⟨w + 1, by omega⟩, ?_, weak_round ?_ (by first | rfl | (simp only [hF, go_sem, ↓reduceIte]))⟩
                rotate_left
                · simp only [hX1, ← hrow, ← hlen2]
                  (simp only [hF, go_sem, ↓reduceIte]; try rfl)
                · simp only; omega
            · rw [decide_eq_false hmo] at hXw
              have hXe : X1 = Y := by rw [hXw]; unfold addS; simp
              subst hXe
              refine ti ?_; try clear hQQ QQ
              refine tw ?_; try with_reducible intro QQ hQQ
              refine ti ?_; try clear hQQ QQ
              refine tw ?_; try with_reducible intro QQ hQQ
              refine ⟨⟨w + 1, by omega⟩, ?_, weak_round ?_ (by first | rfl | (simp only [go_sem, ↓reduceIte]))⟩
              rotate_left
              · simp only [hX1]
                (simp only [go_sem, ↓reduceIte]; try rfl)
              · simp only; omega
          · rw [decide_eq_false ha] at hXw
            simp only [Bool.false_eq_true, if_false] at hXw
            by_cases hmo : t3 + cb ≤ most
            · have hha := hhas (t3 + cb) t5
              simp only [stP] at hha
              rw [decide_eq_true hmo] at hXw
              try clear hF
              have hF := And.intro htk (hlen5)
              refine tiF ?_; try clear hQQ QQ
              refine twF ?_; try with_reducible intro QQ hQQ
              by_cases hmem : (w, t2 + w, t3 + cb, k, t5) ∈ Y
              · rw [decide_eq_true hmem] at hha
                have hXe : X1 = Y := by rw [hXw]; unfold addS; simp [hmem]
                subst hXe
                try clear hF
                have hF := And.intro htk (hlen5)
                ((refine cOF 100 rfl rfl rfl (hha) Try.func100 rfl ?_); refine tuF ?_; try clear hQQ QQ); refine twF ?_; try with_reducible intro QQ hQQ
                refine tiF ?_; try clear hQQ QQ
                refine twF ?_; try with_reducible intro QQ hQQ
                refine ⟨⟨w + 1, by omega⟩, ?_, weak_round ?_ (by first | rfl | (simp only [hF, go_sem, ↓reduceIte]))⟩
                rotate_left
                · simp only [hX1]
                  (simp only [hF, go_sem, ↓reduceIte]; try rfl)
                · simp only; omega
              · rw [decide_eq_false hmem] at hha
                have hXe : X1 = Y ++ [(w, t2 + w, t3 + cb, k, t5)] := by rw [hXw]; unfold addS; simp [hmem]
                have hlb : (Y.length + 1) * 40 ≤ 140737488355328 := by omega
                have hrow : Y.map stP ++ [[iP (w : Int), iP ((t2 + w : Nat) : Int), iP ((t3 + cb : Nat) : Int), PV.v (.bool k), iP (t5 : Int)]] = (Y ++ [(w, t2 + w, t3 + cb, k, t5)]).map stP := by simp [stP]
                have hlen2 : Y.length + 1 = (Y ++ [(w, t2 + w, t3 + cb, k, t5)]).length := by simp
                have hrk := rowsK_five
                subst hXe
                try clear hF
                have hF := And.intro htk (And.intro hlen5 (And.intro hlb (hrk)))
                ((refine cOF 100 rfl rfl rfl (hha) Try.func100 rfl ?_); refine tuF ?_; try clear hQQ QQ); refine twF ?_; try with_reducible intro QQ hQQ
                refine tiF ?_; try clear hQQ QQ
                refine twF ?_; try with_reducible intro QQ hQQ
                refine ⟨⟨w + 1, by omega⟩, ?_, weak_round ?_ (by first | rfl | (simp only [hF, go_sem, ↓reduceIte]))⟩
                rotate_left
                · simp only [hX1, ← hrow, ← hlen2]
                  (simp only [hF, go_sem, ↓reduceIte]; try rfl)
                · simp only; omega
            · rw [decide_eq_false hmo] at hXw
              have hXe : X1 = Y := by rw [hXw]; unfold addS; simp
              subst hXe
              refine ti ?_; try clear hQQ QQ
              refine tw ?_; try with_reducible intro QQ hQQ
              refine ti ?_; try clear hQQ QQ
              refine tw ?_; try with_reducible intro QQ hQQ
              refine ⟨⟨w + 1, by omega⟩, ?_, weak_round ?_ (by first | rfl | (simp only [go_sem, ↓reduceIte]))⟩
              rotate_left
              · simp only [hX1]
                (simp only [go_sem, ↓reduceIte]; try rfl)
              · simp only; omega
    · have hwe : w = (bG bs n).1 + 1 := by omega
      subst hwe
      refine tw ?_; try with_reducible intro QQ hQQ
      refine ti ?_; try clear hQQ QQ
      refine tw ?_; try with_reducible intro QQ hQQ
      refine ⟨⟨i + 1, by omega⟩, ?_, weak_round ?_ (by first | rfl | (simp only [go_sem, ↓reduceIte]))⟩
      rotate_left
      · simp only [hoi]
        (simp only [go_sem, ↓reduceIte]; try rfl)
      · simp only; omega
  · have hie : i = l.length := by omega
    subst hie
    have htk : ((OL l.length).map stP).take (OL l.length).length = (OL l.length).map stP := List.take_of_length_le (by simp)
    try clear hF
    have hF := hll
    refine twF ?_; try with_reducible intro QQ hQQ
    refine tiF ?_; try clear hQQ QQ
    refine twF ?_; try with_reducible intro QQ hQQ
    refine aw_weak (weak_restrict [12] [2] 3 (by simp only [go_sem, ↓reduceIte]; rfl)) ?_
    refine aw_ret ?_; refine ⟨.inr rfl, ?_⟩; simp only [resA, res1, go_sem, ↓reduceIte]
    simp only [or_self, or_true, true_or, if_true, htk]; rfl
end
end Go.Proofs.Ytgdhdikeicgndaa
