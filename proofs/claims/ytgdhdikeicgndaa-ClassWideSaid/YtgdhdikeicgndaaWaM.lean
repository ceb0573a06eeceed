/- classer: how many fleeces of all bales can be wrong, walked. -/
import Derived.Test.YtgdhdikeicgndaaKwa9
set_option linter.all false
namespace Go.Proofs.Ytgdhdikeicgndaa
open Go Go.RowKit Go.Sh Go.Pv Go.Cl
set_option maxHeartbeats 16000000
set_option maxRecDepth 20000
set_option pp.maxSteps 60000
theorem ok_join (a b : Int × Int) : FunOK Try.prog 77 [.agg [iP a.1, iP a.2], .agg [iP b.1, iP b.2]] (.one (.agg [iP (joinS a b).1, iP (joinS a b).2])) := by
  obtain ⟨a1, a2⟩ := a
  obtain ⟨b1, b2⟩ := b
  have h1 : (if b1 < a1 then b1 else a1) = (joinS (a1, a2) (b1, b2)).1 := min_eq _ _
  have h2 : (if b2 > a2 then b2 else a2) = (joinS (a1, a2) (b1, b2)).2 := max_eq _ _
  refine fun_ok (nt := 16) (rs := [.cell 4 28]) Try.func77 rfl rfl rfl (by simp) fun Z w0 => ?_; simp only [initFr, avR, List.map_cons, List.map_nil]
  try clear hF
  have hF := And.intro h1 (h2)
  refine twF ?_; try with_reducible intro QQ hQQ
  refine aw_ret ?_; refine ⟨.inr rfl, ?_⟩; simp only [resA, res1, go_sem, ↓reduceIte]
theorem near_in (D v w : Nat) : inB ((v : Int) - (w : Int)) (0 - (D : Int)) (D : Int) = decide (near D v w) := by
  by_cases h : near D v w
  · rw [decide_eq_true h]
    unfold near at h
    unfold inB
    rw [decide_eq_true (show 0 - (D : Int) ≤ (v : Int) - (w : Int) by omega), decide_eq_true (show (v : Int) - (w : Int) ≤ (D : Int) by omega)]; rfl
  · rw [decide_eq_false h]
    unfold near at h
    unfold inB
    by_cases h2 : 0 - (D : Int) ≤ (v : Int) - (w : Int)
    · rw [decide_eq_false (show ¬ (v : Int) - (w : Int) ≤ (D : Int) by omega), Bool.and_false]
    · rw [decide_eq_false h2, Bool.false_and]
/-- A table's row, as rows of a slice. -/
def rowsT (t : Nat → Int × Int) (k : Nat) : List (List PV) := (List.range k).map fun m => [iP (t m).1, iP (t m).2]
theorem rowsT_len (t : Nat → Int × Int) (k : Nat) : (rowsT t k).length = k := by unfold rowsT; simp
theorem rowsT_get {t : Nat → Int × Int} {k m : Nat} (h : m < k) : (rowsT t k)[m]? = some [iP (t m).1, iP (t m).2] := by unfold rowsT; simp [h]
theorem rowsT_K (t : Nat → Int × Int) (k : Nat) : rowsK 2 (rowsT t k) := fun i r h => by unfold rowsT at h; rw [List.getElem?_map] at h; obtain ⟨x, _, rfl⟩ := Option.map_eq_some_iff.1 h; rfl
theorem rowsT_take {t : Nat → Int × Int} {k m : Nat} (h : m ≤ k) : ((rowsT t k).take m).drop 0 = rowsT t m := by
  rw [List.drop_zero]
  unfold rowsT
  rw [← List.map_take, List.take_range, Nat.min_eq_left h]
theorem rowsT_row {T : Nat → Nat → Int × Int} {w : Nat} (hw : w < 31) (i : Nat) (r : List PV) (j : Nat) (c : PV) (h1 : (rowsT (T w) 7)[i]? = some r) (h2 : r[j]? = some c) : (arrP 434 (totF 7 T))[w * 14 + i * 2 + j]? = some c := by
  have hi : i < 7 := by have := (List.getElem?_eq_some_iff.1 h1).1; rwa [rowsT_len] at this
  rw [rowsT_get hi] at h1
  cases h1
  rcases j with _ | _ | j
  · cases h2
    rw [arrP_get (by omega), show w * 14 + i * 2 + 0 = w * (2 * 7) + i * 2 by omega, totF_lo hi]
  · cases h2
    rw [arrP_get (by omega), show w * 14 + i * 2 + (0 + 1) = w * (2 * 7) + i * 2 + 1 by omega, totF_hi hi]
  · cases h2
section
attribute [local go_sem] rowsT_len rowsT_get tot_len tot_refs tot_get tot_put tot_take tot_drop updT_same updT_twice List.length_drop
variable {D M May : Nat} {bs : List (Nat × Nat × Nat)}
theorem ok_all (h : LOK bs) (hD : D ≤ 30) (hM : M ≤ 6) : FunOK Try.prog 55 [.one (tP D M May bs)] (.one (.agg [iP (allS D M bs).1, iP (allS D M bs).2])) := by
  have h1 := h.n1
  have h6 := h.n6
  have hev := ok_every (D := D) (M := M) (May := May) h
  have hst := fun n hn => ok_step (M := M) (May := May) (D := D) h n (2 ^ bs.length - 1) hn (Nat.lt_trans (all_lt h) (by decide))
  have hown : ∀ n, FunOK Try.prog 79 [.agg (stepP D (bG bs n) ((2 ^ bs.length - 1).testBit n))] (.one (.agg (cP (oT bs (2 ^ bs.length - 1) n)))) := fun n => ok_own D (bG bs n) _ (h.bd n).1 (h.bd n).2.1 (h.bd n).2.2
  have hat : ∀ (n w : Nat), w < 31 → FunOK Try.prog 80 [.agg (cP (oT bs (2 ^ bs.length - 1) n)), .one (iP (w : Int))] (.one (.one (iP ((oT bs (2 ^ bs.length - 1) n w : Nat) : Int)))) := fun n w hw => ok_at _ w hw
  have hob := fun n w => oT_le h (2 ^ bs.length - 1) n w
  have hS : allS D M bs = allW (tabT D (oT bs (2 ^ bs.length - 1)) bs.length) M 31 := by
    unfold allS
    rw [show bs.length = bs.length - 1 + 1 by omega]; rfl
  rw [hS]
  unfold tP at hev hst
  simp only [stepP] at hst hown
  generalize oT bs (2 ^ bs.length - 1) = O at *
  generalize (2 ^ bs.length - 1) = E at *
  clear hS
  refine fun_ok (nt := 148) (rs := [.cell 2 28]) Try.func55 rfl rfl rfl (by simp) fun Z w0 => ?_; simp only [initFr, avR, List.map_cons, List.map_nil]
  simp only [tP]
  refine tw ?_; try with_reducible intro QQ hQQ
  refine aw_weak (weak_restrict [0, 2, 3, 4, 5, 24, 25] [2, 1, 0] 3 (by simp only [go_sem, ↓reduceIte]; rfl)) ?_
  refine aw_loop_ov (ι := { n : Nat // n ≤ bs.length }) (fun n => [(25, iA n.1)]) (fun n => [(2, .box (totA 31 7 (tabT D O n.1)))]) (fun n => bs.length - n.1) ⟨0, by omega⟩ (by first | rfl | (simp only [go_sem, ↓reduceIte]; first | done | rfl | (simp; try rfl))) ?_
  rintro ⟨n, hn⟩
  simp (disch := decide) only [ov, ovL, AL.get_nil, AL.get_eq, AL.get_ne, Option.getD_some, Option.getD_none]
  by_cases hnl : n < bs.length
  · have hstn := hst n hnl
    have hownn := hown n
    have hatn := hat n
    have hobn := hob n
    have hFe := tot_eq D O n
    have htb := tab_bd (D := D) (o := O) n
    have hoke : ∀ w m v, okT D O n w m v = if n = 0 then decide (v = 0) && decide (m - O n w = 0) else decide (near D v w) && decide (0 ≤ (tabT D O n v (m - O n w)).2) := fun w m v => by
      unfold okT
      by_cases h0 : n = 0
      · subst h0; rfl
      · rw [if_neg h0, if_neg h0]
    clear hst hown hat hob
    generalize tabT D O n = T at *
    have hTn : tabT D O (n + 1) = tot D O n := rfl
    generalize tot D O n = F at *
    generalize okT D O n = okf at *
    generalize O n = ow at *
    refine tw ?_; try with_reducible intro QQ hQQ
    refine ti ?_; try clear hQQ QQ
    refine tw ?_; try with_reducible intro QQ hQQ
    ((refine cO 54 rfl rfl rfl (hev) Try.func54 rfl ?_); refine tu ?_; try clear hQQ QQ); refine tw ?_; try with_reducible intro QQ hQQ
    ((refine cO 78 rfl rfl rfl (hstn) Try.func78 rfl ?_); refine tu ?_; try clear hQQ QQ); refine tw ?_; try with_reducible intro QQ hQQ
    ((refine cO 79 rfl rfl rfl (hownn) Try.func79 rfl ?_); refine tu ?_; try clear hQQ QQ); refine tw ?_; try with_reducible intro QQ hQQ
    refine aw_weak (weak_restrict [0, 2, 3, 4, 5, 6, 7, 8, 24, 25, 35] [3, 2, 1, 0] 4 (by simp only [go_sem, ↓reduceIte]; rfl)) ?_
    have hz := fill_zero F
    have hab := fill_all F
    try clear hF
    have hF := hz
    refine aw_loop_ov (ι := { w : Nat // w ≤ 31 }) (fun w => [(35, iA w.1)]) (fun w => [(3, .box (totA 31 7 (fillT F w.1 0)))]) (fun w => 31 - w.1) ⟨0, by omega⟩ (by first | rfl | (simp only [hF, go_sem, ↓reduceIte]; first | done | rfl | (simp; try rfl))) ?_
    clear hz
    rintro ⟨w, hw⟩
    simp (disch := decide) only [ov, ovL, AL.get_nil, AL.get_eq, AL.get_ne, Option.getD_some, Option.getD_none]
    by_cases hwl : w < 31
    · have hatw := hatn w hwl
      have hobw := hobn w
      have hFw := hFe w
      have hFs := fill_step F w
      have hFn := fill_next F w
      clear hatn hobn hFe
      refine tw ?_; try with_reducible intro QQ hQQ
      refine ti ?_; try clear hQQ QQ
      refine tw ?_; try with_reducible intro QQ hQQ
      refine aw_weak (weak_restrict [0, 2, 3, 4, 5, 6, 7, 8, 9, 24, 25, 35, 38] [3, 2, 1, 0] 4 (by simp only [go_sem, ↓reduceIte]; rfl)) ?_
      refine aw_loop_ov (ι := { m : Nat // m ≤ 7 }) (fun m => [(38, iA m.1)]) (fun m => [(3, .box (totA 31 7 (fillT F w m.1)))]) (fun m => 7 - m.1) ⟨0, by omega⟩ (by first | rfl | (simp only [go_sem, ↓reduceIte]; first | done | rfl | (simp; try rfl))) ?_
      rintro ⟨m, hm⟩
      simp (disch := decide) only [ov, ovL, AL.get_nil, AL.get_eq, AL.get_ne, Option.getD_some, Option.getD_none]
      by_cases hml : m < 7
      · have hFm := hFw m
        have hFt := hFs m
        have hok := fun v => hoke w m v
        clear hoke hFw hFs
        generalize ow w = x at *
        unfold FAR at hobw
        by_cases hle : x ≤ m
        · rw [if_pos hle] at hFm
          have he : (m : Int) - (x : Int) = ((m - x : Nat) : Int) := by omega
          have hL7 : m - x < 7 := by omega
          generalize m - x = L at *
          try clear hF
          have hF := he
          refine twF ?_; try with_reducible intro QQ hQQ
          refine tiF ?_; try clear hQQ QQ
          refine twF ?_; try with_reducible intro QQ hQQ
          (refine ⟨rfl, .inr ⟨rfl, callS_bound (any := true) rfl rfl 80 (by simp (disch := first | decide | omega) only [hF, go_sem, ↓reduceIte]; try rfl) (by simp (disch := first | decide | omega) only [hF, go_sem, ↓reduceIte]; try rfl) Try.func80 rfl (by decide) (fun _ => rfl) (hatw) ?_⟩⟩); refine tsF ?_; try clear hQQ QQ
          refine twF ?_; try with_reducible intro QQ hQQ
          refine tiF ?_; try clear hQQ QQ
          refine twF ?_; try with_reducible intro QQ hQQ
          refine aw_weak (weak_restrict [0, 2, 3, 4, 5, 6, 7, 8, 9, 10, 11, 24, 25, 35, 38, 53] [3, 2, 1, 0] 4 (by simp only [go_sem, ↓reduceIte]; rfl)) ?_
          refine aw_loop_ov (ι := { v : Nat // v ≤ 31 }) (fun v => [(53, iA v.1)]) (fun v => [(3, .box (totA 31 7 (updT (fillT F w m) w m (totL (okf w m) w (fun v => T v L) v.1))))]) (fun v => 31 - v.1) ⟨0, by omega⟩ (by first | rfl | (simp only [go_sem, ↓reduceIte]; first | done | rfl | (simp; try rfl))) ?_
          rintro ⟨v, hv⟩
          simp (disch := decide) only [ov, ovL, AL.get_nil, AL.get_eq, AL.get_ne, Option.getD_some, Option.getD_none]
          by_cases hvl : v < 31
          · have hokv := hok v
            have hst : totL (okf w m) w (fun v => T v L) (v + 1) = if okf w m v = true then joinS (totL (okf w m) w (fun v => T v L) v) ((T v L).1 + w, (T v L).2 + w) else totL (okf w m) w (fun v => T v L) v := rfl
            have hbv := htb v L (by omega)
            have hbq := totL_bd (ok := okf w m) (w := w) (B := 30 * (n : Int)) (by omega) (by omega) (prev := fun v => T v L) (fun v hv => htb v L (by omega)) v (by omega)
            obtain ⟨⟨r1, r2⟩, hq'⟩ : ∃ q', totL (okf w m) w (fun v => T v L) (v + 1) = q' := ⟨_, rfl⟩
            rw [hq'] at hst
            generalize totL (okf w m) w (fun v => T v L) v = q at *
            obtain ⟨⟨s1, s2⟩, hs⟩ : ∃ s, T v L = s := ⟨_, rfl⟩
            rw [hs] at hst hokv hbv
            obtain ⟨q1, q2⟩ := q
            unfold BdS at hbv hbq
            dsimp only at hst hokv hbv hbq
            have hj := ok_join (q1, q2) (s1 + w, s2 + w)
            dsimp only at hj
            have hskip : okf w m v = false → totA 31 7 (updT (fillT F w m) w m (r1, r2)) = totA 31 7 (updT (fillT F w m) w m (q1, q2)) := fun h => by rw [h, if_neg (by decide)] at hst; rw [hst]
            have hjoin : okf w m v = true → joinS (q1, q2) (s1 + w, s2 + w) = (r1, r2) := fun h => by rw [h, if_pos rfl] at hst; exact hst.symm
            generalize okf w m v = ok at *
            clear hst hok hFm hFt
            by_cases hn0 : n = 0
            · rw [if_pos hn0] at hokv
              by_cases hv0 : v = 0
              · by_cases hL0 : L = 0
                · rw [hjoin (by rw [hokv, hv0, hL0]; rfl)] at hj
                  try clear hF
                  have hF := hs
                  refine twF ?_; try with_reducible intro QQ hQQ
                  refine tiF ?_; try clear hQQ QQ
                  refine twF ?_; try with_reducible intro QQ hQQ
                  refine tiF ?_; try clear hQQ QQ
                  refine twF ?_; try with_reducible intro QQ hQQ
                  (refine cDF 77 rfl rfl rfl (hj) Try.func77 rfl ?_); refine tdF ?_; try clear hQQ QQ
                  refine twF ?_; try with_reducible intro QQ hQQ
                  refine ⟨⟨v + 1, by omega⟩, ?_, weak_round ?_ (by first | rfl | (simp only [hF, go_sem, ↓reduceIte]))⟩
                  rotate_left
                  · simp only [hq']
                    (simp only [hF, go_sem, ↓reduceIte]; try rfl)
                  · simp only; omega
                · have hsk := hskip (by rw [hokv, decide_eq_false hL0, Bool.and_false])
                  try clear hF
                  have hF := hs
                  refine twF ?_; try with_reducible intro QQ hQQ
                  refine tiF ?_; try clear hQQ QQ
                  refine twF ?_; try with_reducible intro QQ hQQ
                  refine tiF ?_; try clear hQQ QQ
                  (refine aw_exit ?_); (repeat with_reducible first | apply then_n | apply block_n | apply then_x | apply then_r | apply nog_n | apply nog_r | apply block_r | apply block_e (by decide) | apply block_x (by decide))
                  refine twF ?_; try with_reducible intro QQ hQQ
                  refine ⟨⟨v + 1, by omega⟩, ?_, weak_round ?_ (by first | rfl | (simp only [hF, go_sem, ↓reduceIte]))⟩
                  rotate_left
                  · simp only [hq', hsk]
                    (simp only [hF, go_sem, ↓reduceIte]; try rfl)
                  · simp only; omega
              · have hsk := hskip (by rw [hokv, decide_eq_false hv0, Bool.false_and])
                try clear hF
                have hF := hs
                refine twF ?_; try with_reducible intro QQ hQQ
                refine tiF ?_; try clear hQQ QQ
                refine twF ?_; try with_reducible intro QQ hQQ
                refine tiF ?_; try clear hQQ QQ
                (refine aw_exit ?_); (repeat with_reducible first | apply then_n | apply block_n | apply then_x | apply then_r | apply nog_n | apply nog_r | apply block_r | apply block_e (by decide) | apply block_x (by decide))
                refine twF ?_; try with_reducible intro QQ hQQ
                refine ⟨⟨v + 1, by omega⟩, ?_, weak_round ?_ (by first | rfl | (simp only [hF, go_sem, ↓reduceIte]))⟩
                rotate_left
                · simp only [hq', hsk]
                  (simp only [hF, go_sem, ↓reduceIte]; try rfl)
                · simp only; omega
            · rw [if_neg hn0] at hokv
              have hwi := ok_within ((v : Int) - (w : Int)) (0 - (D : Int)) (D : Int)
              rw [near_in] at hwi
              cases hnd : decide (near D v w)
              · have hsk := hskip (by rw [hokv, hnd, Bool.false_and])
                rw [hnd] at hwi
                try clear hF
                have hF := hs
                refine twF ?_; try with_reducible intro QQ hQQ
                refine tiF ?_; try clear hQQ QQ
                refine twF ?_; try with_reducible intro QQ hQQ
                (refine cDF 76 rfl rfl rfl (hwi) Try.func76 rfl ?_); refine tdF ?_; try clear hQQ QQ
                refine twF ?_; try with_reducible intro QQ hQQ
                refine tiF ?_; try clear hQQ QQ
                (refine aw_exit ?_); (repeat with_reducible first | apply then_n | apply block_n | apply then_x | apply then_r | apply nog_n | apply nog_r | apply block_r | apply block_e (by decide) | apply block_x (by decide))
                refine twF ?_; try with_reducible intro QQ hQQ
                refine ⟨⟨v + 1, by omega⟩, ?_, weak_round ?_ (by first | rfl | (simp only [hF, go_sem, ↓reduceIte]))⟩
                rotate_left
                · simp only [hq', hsk]
                  (simp only [hF, go_sem, ↓reduceIte]; try rfl)
                · simp only; omega
              · rw [hnd] at hwi
                by_cases hh : 0 ≤ s2
                · rw [hjoin (by rw [hokv, hnd, decide_eq_true hh]; rfl)] at hj
                  try clear hF
                  have hF := hs
                  refine twF ?_; try with_reducible intro QQ hQQ
                  refine tiF ?_; try clear hQQ QQ
                  refine twF ?_; try with_reducible intro QQ hQQ
                  (refine cDF 76 rfl rfl rfl (hwi) Try.func76 rfl ?_); refine tdF ?_; try clear hQQ QQ
                  refine twF ?_; try with_reducible intro QQ hQQ
                  refine tiF ?_; try clear hQQ QQ
                  refine twF ?_; try with_reducible intro QQ hQQ
                  (refine cDF 77 rfl rfl rfl (hj) Try.func77 rfl ?_); refine tdF ?_; try clear hQQ QQ
                  refine twF ?_; try with_reducible intro QQ hQQ
                  refine ⟨⟨v + 1, by omega⟩, ?_, weak_round ?_ (by first | rfl | (simp only [hF, go_sem, ↓reduceIte]))⟩
                  rotate_left
                  · simp only [hq']
                    (simp only [hF, go_sem, ↓reduceIte]; try rfl)
                  · simp only; omega
                · have hsk := hskip (by rw [hokv, hnd, decide_eq_false hh]; rfl)
                  try clear hF
                  have hF := hs
                  refine twF ?_; try with_reducible intro QQ hQQ
                  refine tiF ?_; try clear hQQ QQ
                  refine twF ?_; try with_reducible intro QQ hQQ
                  (refine cDF 76 rfl rfl rfl (hwi) Try.func76 rfl ?_); refine tdF ?_; try clear hQQ QQ
                  refine twF ?_; try with_reducible intro QQ hQQ
                  refine tiF ?_; try clear hQQ QQ
                  (refine aw_exit ?_); (repeat with_reducible first | apply then_n | apply block_n | apply then_x | apply then_r | apply nog_n | apply nog_r | apply block_r | apply block_e (by decide) | apply block_x (by decide))
                  refine twF ?_; try with_reducible intro QQ hQQ
                  refine ⟨⟨v + 1, by omega⟩, ?_, weak_round ?_ (by first | rfl | (simp only [hF, go_sem, ↓reduceIte]))⟩
                  rotate_left
                  · simp only [hq', hsk]
                    (simp only [hF, go_sem, ↓reduceIte]; try rfl)
                  · simp only; omega
          · have : v = 31 := by omega
            subst this
            rw [← hFm, hFt]
            refine tw ?_; try with_reducible intro QQ hQQ
            refine ti ?_; try clear hQQ QQ
            refine tw ?_; try with_reducible intro QQ hQQ
            (refine ⟨⟨m + 1, by omega⟩, ?_, weak_round (by simp only [go_sem, ↓reduceIte]; first | done | rfl) (by first | rfl | (simp only [go_sem, ↓reduceIte]))⟩; (simp only; omega))
        · rw [if_neg hle] at hFm
          rw [hFm] at hFt
          unfold none2 at hFt
          try clear hF
          have hF := hFt
          refine twF ?_; try with_reducible intro QQ hQQ
          refine tiF ?_; try clear hQQ QQ
          refine twF ?_; try with_reducible intro QQ hQQ
          (refine ⟨rfl, .inr ⟨rfl, callS_bound (any := true) rfl rfl 80 (by simp (disch := first | decide | omega) only [hF, go_sem, ↓reduceIte]; try rfl) (by simp (disch := first | decide | omega) only [hF, go_sem, ↓reduceIte]; try rfl) Try.func80 rfl (by decide) (fun _ => rfl) (hatw) ?_⟩⟩); refine tsF ?_; try clear hQQ QQ
          refine twF ?_; try with_reducible intro QQ hQQ
          refine tiF ?_; try clear hQQ QQ
          refine twF ?_; try with_reducible intro QQ hQQ
          (refine ⟨⟨m + 1, by omega⟩, ?_, weak_round (by simp only [hF, go_sem, ↓reduceIte]; first | done | rfl) (by first | rfl | (simp only [hF, go_sem, ↓reduceIte]))⟩; (simp only; omega))
      · have : m = 7 := by omega
        subst this
        try clear hF
        have hF := hFn
        refine twF ?_; try with_reducible intro QQ hQQ
        refine tiF ?_; try clear hQQ QQ
        refine twF ?_; try with_reducible intro QQ hQQ
        (refine ⟨⟨w + 1, by omega⟩, ?_, weak_round (by simp only [hF, go_sem, ↓reduceIte]; first | done | rfl) (by first | rfl | (simp only [hF, go_sem, ↓reduceIte]))⟩; (simp only; omega))
    · have : w = 31 := by omega
      subst this
      rw [hab]
      refine tw ?_; try with_reducible intro QQ hQQ
      refine ti ?_; try clear hQQ QQ
      refine tw ?_; try with_reducible intro QQ hQQ
      refine ⟨⟨n + 1, by omega⟩, ?_, weak_round ?_ (by first | rfl | (simp only [go_sem, ↓reduceIte]))⟩
      rotate_left
      · simp only [hTn]
        (simp only [go_sem, ↓reduceIte]; try rfl)
      · simp only; omega
  · have : n = bs.length := by omega
    subst this
    clear hst hown hat hob
    generalize tabT D O bs.length = T at *
    refine tw ?_; try with_reducible intro QQ hQQ
    refine ti ?_; try clear hQQ QQ
    refine tw ?_; try with_reducible intro QQ hQQ
    refine aw_weak (weak_give 5 2 (arrP 434 (totF 7 T)) [0, 2, 4, 14, 124] [3, 0] 4 (by simp only [go_sem, ↓reduceIte]; rfl) (by rw [arrA_map]; rfl) (by rfl) (by decide) (fun _ h => h)) ?_
    dsimp only [AL.set]
    refine aw_loop_ov (ι := { w : Nat // w ≤ 31 }) (fun w => [(124, iA w.1)]) (fun w => [(3, .box [.p (iP (allW T M w.1).1), .p (iP (allW T M w.1).2)])]) (fun w => 31 - w.1) ⟨0, by omega⟩ (by first | rfl | (simp only [go_sem, ↓reduceIte]; first | done | rfl | (simp; try rfl))) ?_
    rintro ⟨w, hw⟩
    simp (disch := decide) only [ov, ovL, AL.get_nil, AL.get_eq, AL.get_ne, Option.getD_some, Option.getD_none]
    by_cases hwl : w < 31
    · have hr0 : joinR (allW T M w) (T w) 0 = allW T M w := rfl
      have hrn : joinR (allW T M w) (T w) (M + 1) = allW T M (w + 1) := rfl
      have htk := rowsT_take (t := T w) (k := 7) (m := M + 1) (by omega)
      refine tw ?_; try with_reducible intro QQ hQQ
      refine ti ?_; try clear hQQ QQ
      refine tw ?_; try with_reducible intro QQ hQQ
      refine callD_turn rfl rfl [] _ _ _ (by exact turns_sliceA (T := 103) (x := .tmp 128) (lo := none) (hi := some (.tmp 134)) rfl rfl ty_arr103 ty_size28 (row := arrP 434 (totF 7 T)) (off := w * 14) (.inl (by simp (disch := first | decide | omega) only [go_sem, ↓reduceIte]; try rfl)) (rowsT (T w) 7) (rowsT_row hwl) (rowsT_K _ _) (rowsT_len _ _) (by decide) (l := 0) (h := M + 1) rfl ⟨.i64, by simp (disch := first | decide | omega) only [go_sem, ↓reduceIte]; try rfl⟩ (by omega) (by omega)) ?_
      rw [htk]
      (refine td ?_; try clear hQQ QQ)
      refine tw ?_; try with_reducible intro QQ hQQ
      refine aw_weak (weak_restrict [0, 2, 4, 5, 14, 124, 135, 136, 137] [3, 0] 4 (by simp only [go_sem, ↓reduceIte]; rfl)) ?_
      try clear hF
      have hF := hr0
      refine aw_loop_ov (ι := { m : Nat // m ≤ M + 1 }) (fun m => [(137, iA m.1)]) (fun m => [(3, .box [.p (iP (joinR (allW T M w) (T w) m.1).1), .p (iP (joinR (allW T M w) (T w) m.1).2)])]) (fun m => M + 1 - m.1) ⟨0, by omega⟩ (by first | rfl | (simp only [hF, go_sem, ↓reduceIte]; first | done | rfl | (simp; try rfl))) ?_
      rintro ⟨m, hm⟩
      simp (disch := decide) only [ov, ovL, AL.get_nil, AL.get_eq, AL.get_ne, Option.getD_some, Option.getD_none]
      by_cases hml : m < M + 1
      · have hj := ok_join (joinR (allW T M w) (T w) m) (T w m)
        have hq' : joinS (joinR (allW T M w) (T w) m) (T w m) = joinR (allW T M w) (T w) (m + 1) := rfl
        rw [hq'] at hj
        refine tw ?_; try with_reducible intro QQ hQQ
        refine ti ?_; try clear hQQ QQ
        refine tw ?_; try with_reducible intro QQ hQQ
        ((refine cO 77 rfl rfl rfl (hj) Try.func77 rfl ?_); refine tu ?_; try clear hQQ QQ); refine tw ?_; try with_reducible intro QQ hQQ
        (refine ⟨⟨m + 1, by omega⟩, ?_, weak_round (by simp only [go_sem, ↓reduceIte]; first | done | rfl) (by first | rfl | (simp only [go_sem, ↓reduceIte]))⟩; (simp only; omega))
      · have : m = M + 1 := by omega
        subst this
        rw [hrn]
        refine tw ?_; try with_reducible intro QQ hQQ
        refine ti ?_; try clear hQQ QQ
        refine tw ?_; try with_reducible intro QQ hQQ
        (refine ⟨⟨w + 1, by omega⟩, ?_, weak_round (by simp only [go_sem, ↓reduceIte]; first | done | rfl) (by first | rfl | (simp only [go_sem, ↓reduceIte]))⟩; (simp only; omega))
    · have : w = 31 := by omega
      subst this
      refine tw ?_; try with_reducible intro QQ hQQ
      refine ti ?_; try clear hQQ QQ
      refine tw ?_; try with_reducible intro QQ hQQ
      refine aw_ret ?_; refine ⟨.inr rfl, ?_⟩; simp only [resA, res1, go_sem, ↓reduceIte]
end
end Go.Proofs.Ytgdhdikeicgndaa
