/- burr: which bale is best opened next, walked. -/
import Derived.Test.YtknikcpeacmpmaaKo
set_option linter.all false
namespace Go.Proofs.Ytknikcpeacmpmaa
open Go Go.RowKit Go.Sh Go.Pv
set_option maxHeartbeats 8000000
set_option maxRecDepth 8000
set_option pp.maxSteps 60000
section
variable {n lo hi top : Int} {bales : List (Int × Int)} {tests : List (Int × Bool)}
/-- How many truths there are if a bale holds a burr, or if not. -/
def cntT (N L U : Nat) (bales : List (Int × Int)) (tests : List (Int × Bool)) (i : Nat) (f : Bool) : Nat := cntF L U bales (tests ++ [((i : Int), f)]) (2 ^ N)
def worstF (N L U : Nat) (bales : List (Int × Int)) (tests : List (Int × Bool)) (i : Nat) : Nat := max (cntT N L U bales tests i false) (cntT N L U bales tests i true)
/-- The best of the first bales, and how many truths it leaves at most. -/
def nextF (N L U : Nat) (bales : List (Int × Int)) (tests : List (Int × Bool)) : Nat → Nat × Nat
  | 0 => (0, 0)
  | i + 1 => if i = 0 ∨ worstF N L U bales tests i < (nextF N L U bales tests i).2 then (i, worstF N L U bales tests i) else nextF N L U bales tests i
def whyN (n lo hi top : Int) (bales : List (Int × Int)) (tests : List (Int × Bool)) : Int := if burrB n lo hi top bales tests = true then (if cntB n lo hi bales tests = 0 then 10 else if bales.length = 0 then 4 else 0) else 1
def nextA (n lo hi : Int) (bales : List (Int × Int)) (tests : List (Int × Bool)) : Int × Int := (((nextF n.toNat lo.toNat hi.toNat bales tests bales.length).1 : Nat), ((nextF n.toNat lo.toNat hi.toNat bales tests bales.length).2 : Nat))
theorem cntF_2048 {L U N : Nat} {ts : List (Int × Bool)} (hN : N ≤ 5) (hb6 : bales.length ≤ 6) (ht : ∀ t ∈ ts, 0 ≤ t.1 ∧ t.1 < 6) : cntF L U bales ts (2 ^ N) ≤ 2048 := by
  have := cntF_le L U bales ts (fun m => waysH_le _ (held_lt hb6 ht).2) (2 ^ N)
  have := pow32 hN
  omega
theorem ok_Next : FunOK Try.prog 27 [buR n lo hi top bales tests] (ansR (whyN n lo hi top bales tests) (nextA n lo hi bales tests)) := by
  cases hv : burrB n lo hi top bales tests
  · have hwhy : whyN n lo hi top bales tests = 1 := by simp [whyN, hv]
    have hb := hwhy
    refine fun_exp (l := [_]) (od := _) (nt := 59) (t := 12) (eb := 1) (rs := [.tmp 2, .tmp 3, .cell 4 30]) ans75 Try.func27 rfl rfl rfl (by simp) rfl rfl rfl Try.func75 rfl (by decide) fun Z w0 => ?_; simp only [initFr, avR, List.map_cons, List.map_nil]
    simp only [buR, List.map_cons, List.map_nil]
    try simp only [List.append_eq, List.cons_append, List.nil_append]
    refine tw ?_; try with_reducible intro QQ hQQ
    refine ⟨rfl, ?_⟩
    (refine ts ?_; try clear hQQ QQ)
    refine tw ?_; try with_reducible intro QQ hQQ
    (refine ⟨rfl, .inr ⟨rfl, callS_x rfl 48 ⟨by simp (disch := first | decide | omega) only [go_sem, ↓reduceIte]; try rfl, by simp (disch := first | decide | omega) only [go_sem, ↓reduceIte]; try rfl⟩ Try.func48 rfl (by decide) (x_open hv) ?_⟩⟩)
    exact ⟨1, 0, rfl, by simp (disch := first | decide | omega) only [go_sem, ↓reduceIte]; try rfl, by simp (disch := first | decide | omega) only [go_sem, ↓reduceIte]; try rfl, by simp (disch := first | decide | omega) only [resA, res1, ansR, ansN, hwhy, hb, go_sem, ↓reduceIte]; try rfl⟩
  obtain ⟨N, L, U, T, rfl, rfl, rfl, rfl, hB⟩ := bok_of hv
  have hU : U ≤ 5 := by have := hB.hn; have := hB.n5; omega
  have ht6 : tests.length ≤ 100 := by have := hB.t6; omega
  have hcn : cntB (N : Int) (L : Int) (U : Int) bales tests = cntF L U bales tests (2 ^ N) := rfl
  by_cases hc : cntF L U bales tests (2 ^ N) = 0
  · have hwhy : whyN N L U T bales tests = 10 := by simp [whyN, hv, hcn, hc]
    have hb := hwhy
    have hx := x_told (top := T) hB.n5 hU hB.b6 hB.b32 ht6 hB.te6 hc
    simp only [shP] at hx
    refine fun_exp (l := [_]) (od := _) (nt := 59) (t := 12) (eb := 1) (rs := [.tmp 2, .tmp 3, .cell 4 30]) ans75 Try.func27 rfl rfl rfl (by simp) rfl rfl rfl Try.func75 rfl (by decide) fun Z w0 => ?_; simp only [initFr, avR, List.map_cons, List.map_nil]
    simp only [buR, List.map_cons, List.map_nil]
    try simp only [List.append_eq, List.cons_append, List.nil_append]
    refine tw ?_; try with_reducible intro QQ hQQ
    refine ⟨rfl, ?_⟩
    (refine ts ?_; try clear hQQ QQ)
    refine tw ?_; try with_reducible intro QQ hQQ
    refine callS_ok rfl rfl 48 (by simp (disch := first | decide | omega) only [go_sem, ↓reduceIte]; try rfl) (by simp (disch := first | decide | omega) only [go_sem, ↓reduceIte]; try rfl) Try.func48 rfl (by decide) (CallF.mono (c_open hv) ?_); rintro _ _ ⟨rfl, rfl⟩; refine ts ?_; try clear hQQ QQ
    unfold buC
    refine tw ?_; try with_reducible intro QQ hQQ
    (refine ⟨rfl, .inr ⟨rfl, callS_x rfl 49 ⟨by simp (disch := first | decide | omega) only [go_sem, ↓reduceIte]; try rfl, by simp (disch := first | decide | omega) only [go_sem, ↓reduceIte]; try rfl⟩ Try.func49 rfl (by decide) (hx) ?_⟩⟩)
    exact ⟨10, 0, rfl, by simp (disch := first | decide | omega) only [go_sem, ↓reduceIte]; try rfl, by simp (disch := first | decide | omega) only [go_sem, ↓reduceIte]; try rfl, by simp (disch := first | decide | omega) only [resA, res1, ansR, ansN, hwhy, hb, go_sem, ↓reduceIte]; try rfl⟩
  have htold := ok_told (top := T) hB.n5 hU hB.b6 hB.b32 ht6 hB.te6 (Nat.pos_of_ne_zero hc)
  simp only [shP] at htold
  by_cases h0 : bales.length = 0
  · have hwhy : whyN N L U T bales tests = 4 := by simp [whyN, hv, hcn, hc, h0]
    have hb := hwhy
    refine fun_exp (l := [_]) (od := _) (nt := 59) (t := 12) (eb := 1) (rs := [.tmp 2, .tmp 3, .cell 4 30]) ans75 Try.func27 rfl rfl rfl (by simp) rfl rfl rfl Try.func75 rfl (by decide) fun Z w0 => ?_; simp only [initFr, avR, List.map_cons, List.map_nil]
    simp only [buR, List.map_cons, List.map_nil]
    try simp only [List.append_eq, List.cons_append, List.nil_append]
    refine tw ?_; try with_reducible intro QQ hQQ
    refine ⟨rfl, ?_⟩
    (refine ts ?_; try clear hQQ QQ)
    refine tw ?_; try with_reducible intro QQ hQQ
    refine callS_ok rfl rfl 48 (by simp (disch := first | decide | omega) only [go_sem, ↓reduceIte]; try rfl) (by simp (disch := first | decide | omega) only [go_sem, ↓reduceIte]; try rfl) Try.func48 rfl (by decide) (CallF.mono (c_open hv) ?_); rintro _ _ ⟨rfl, rfl⟩; refine ts ?_; try clear hQQ QQ
    unfold buC
    refine tw ?_; try with_reducible intro QQ hQQ
    ((refine cO 49 rfl rfl rfl (htold) Try.func49 rfl ?_); refine tu ?_; try clear hQQ QQ); refine tw ?_; try with_reducible intro QQ hQQ
    (refine ⟨rfl, .inr ⟨rfl, callS_x rfl 76 ⟨by simp (disch := first | decide | omega) only [go_sem, ↓reduceIte]; try rfl, by simp (disch := first | decide | omega) only [go_sem, ↓reduceIte]; try rfl⟩ Try.func76 rfl (by decide) (x_must 4) ?_⟩⟩)
    exact ⟨4, 0, rfl, by simp (disch := first | decide | omega) only [go_sem, ↓reduceIte]; try rfl, by simp (disch := first | decide | omega) only [go_sem, ↓reduceIte]; try rfl, by simp (disch := first | decide | omega) only [resA, res1, ansR, ansN, hwhy, hb, go_sem, ↓reduceIte]; try rfl⟩
  have hwhy : whyN N L U T bales tests = 0 := by simp [whyN, hv, hcn, hc, h0]
  have hb := hwhy
  have hm := ok_must 4
  have hans : nextA N L U bales tests = ((((nextF N L U bales tests bales.length).1 : Nat) : Int), (((nextF N L U bales tests bales.length).2 : Nat) : Int)) := rfl
  refine fun_exp (l := [_]) (od := _) (nt := 59) (t := 12) (eb := 1) (rs := [.tmp 2, .tmp 3, .cell 4 30]) ans75 Try.func27 rfl rfl rfl (by simp) rfl rfl rfl Try.func75 rfl (by decide) fun Z w0 => ?_; simp only [initFr, avR, List.map_cons, List.map_nil]
  simp only [buR, List.map_cons, List.map_nil]
  try simp only [List.append_eq, List.cons_append, List.nil_append]
  refine tw ?_; try with_reducible intro QQ hQQ
  refine ⟨rfl, ?_⟩
  (refine ts ?_; try clear hQQ QQ)
  refine tw ?_; try with_reducible intro QQ hQQ
  refine callS_ok rfl rfl 48 (by simp (disch := first | decide | omega) only [go_sem, ↓reduceIte]; try rfl) (by simp (disch := first | decide | omega) only [go_sem, ↓reduceIte]; try rfl) Try.func48 rfl (by decide) (CallF.mono (c_open hv) ?_); rintro _ _ ⟨rfl, rfl⟩; refine ts ?_; try clear hQQ QQ
  unfold buC
  refine aw_weak (weak_give 5 4 [iP N, iP L, iP U, .sl (bales.map row2), iP T, .sl (tests.map rowB)] [12, 1, 2, 3, 4] [0, 1] 5 (by simp only [go_sem, ↓reduceIte]; rfl) (by rfl) (by rfl) (by decide) (fun _ h => h)) ?_; dsimp only [AL.set]
  refine tw ?_; try with_reducible intro QQ hQQ
  ((refine cO 49 rfl rfl rfl (htold) Try.func49 rfl ?_); refine tu ?_; try clear hQQ QQ); refine tw ?_; try with_reducible intro QQ hQQ
  ((refine cO 76 rfl rfl rfl (hm) Try.func76 rfl ?_); refine tu ?_; try clear hQQ QQ); refine tw ?_; try with_reducible intro QQ hQQ
  refine aw_weak (weak_keep [4, 5, 6, 7, 12, 24, 25] (by simp only [go_sem, ↓reduceIte]; rfl)) ?_
  refine aw_loop_ov (ι := { i : Nat // i ≤ bales.length }) (fun i => [(6, .one (.p (iP ((nextF N L U bales tests i.1).1 : Nat)))), (7, .one (.p (iP ((nextF N L U bales tests i.1).2 : Nat)))), (25, iA i.1)]) (fun _ => []) (fun i => bales.length - i.1) ⟨0, by omega⟩ (by first | rfl | (simp only [go_sem, ↓reduceIte]; first | done | rfl | (simp; try rfl))) ?_
  rintro ⟨i, hi⟩
  simp (disch := decide) only [ov, ovL, AL.get_nil, AL.get_eq, AL.get_ne, Option.getD_some, Option.getD_none]
  by_cases hil : i < bales.length
  · have h6 := hB.b6
    have htt : ∀ f, ∀ t ∈ tests ++ [((i : Int), f)], 0 ≤ t.1 ∧ t.1 < 6 := fun f t ht => by
      simp only [List.mem_append, List.mem_singleton] at ht
      rcases ht with ht | rfl
      · exact hB.te6 t ht
      · dsimp only; omega
    have hw0 := ok_with (N := N) (lo := L) (up := U) (top := T) (bales := bales) (tests := tests) (by have := hB.t6; omega) i false
    have hw1 := ok_with (N := N) (lo := L) (up := U) (top := T) (bales := bales) (tests := tests) (by have := hB.t6; omega) i true
    have hl7 : ∀ f, (tests ++ [((i : Int), f)]).length ≤ 100 := fun f => by have := hB.t6; simp; omega
    have hc0 := ok_count (N := N) (lo := L) (up := U) (top := T) (tests0 := tests) hB.n5 hU hB.b6 hB.b32 (hl7 false) (htt false)
    have hc1 := ok_count (N := N) (lo := L) (up := U) (top := T) (tests0 := tests) hB.n5 hU hB.b6 hB.b32 (hl7 true) (htt true)
    simp only [shP] at hw0 hw1 hc0 hc1
    have hb0 := cntF_2048 (L := L) (U := U) hB.n5 hB.b6 (htt false)
    have hb1 := cntF_2048 (L := L) (U := U) hB.n5 hB.b6 (htt true)
    have en : nextF N L U bales tests (i + 1) = if i = 0 ∨ max (cntF L U bales (tests ++ [((i : Int), false)]) (2 ^ N)) (cntF L U bales (tests ++ [((i : Int), true)]) (2 ^ N)) < (nextF N L U bales tests i).2 then (i, max (cntF L U bales (tests ++ [((i : Int), false)]) (2 ^ N)) (cntF L U bales (tests ++ [((i : Int), true)]) (2 ^ N))) else nextF N L U bales tests i := rfl
    generalize cntF L U bales (tests ++ [((i : Int), false)]) (2 ^ N) = c0 at *
    generalize cntF L U bales (tests ++ [((i : Int), true)]) (2 ^ N) = c1 at *
    generalize tests ++ [((i : Int), false)] = ts0 at *
    generalize tests ++ [((i : Int), true)] = ts1 at *
    have emax : (if (c1 : Int) > (c0 : Int) then (c1 : Int) else (c0 : Int)) = ((max c0 c1 : Nat) : Int) := by split <;> omega
    generalize max c0 c1 = mx at *
    obtain ⟨⟨be, le⟩, hq⟩ : ∃ q, nextF N L U bales tests i = q := ⟨_, rfl⟩
    rw [hq] at en
    simp only [hq]
    refine tw ?_; try with_reducible intro QQ hQQ
    refine ti ?_; try clear hQQ QQ
    refine tw ?_; try with_reducible intro QQ hQQ
    refine aw_weak (weak_keep [4, 5, 6, 7, 8, 9, 12, 24, 25, 28] (by simp only [go_sem, ↓reduceIte]; rfl)) ?_
    refine aw_loop_ov (ι := { k : Nat // k ≤ 2 }) (fun k => [(28, iA k.1)]) (fun k => [(5, .box [.p (iP ((if 0 < k.1 then c0 else 0 : Nat) : Int)), .p (iP ((if 1 < k.1 then c1 else 0 : Nat) : Int))])]) (fun k => 2 - k.1) ⟨0, by omega⟩ (by first | rfl | (simp only [go_sem, ↓reduceIte]; first | done | rfl | (simp; try rfl))) ?_
    rintro ⟨k, hk⟩
    simp (disch := decide) only [ov, ovL, AL.get_nil, AL.get_eq, AL.get_ne, Option.getD_some, Option.getD_none]
    rcases (show k = 0 ∨ k = 1 ∨ k = 2 by omega) with rfl | rfl | rfl
    · simp only [Nat.lt_irrefl, if_false, if_true, Nat.zero_lt_one, Nat.not_lt_zero, Nat.lt_add_one]
      refine tw ?_; try with_reducible intro QQ hQQ
      refine ti ?_; try clear hQQ QQ
      refine tw ?_; try with_reducible intro QQ hQQ
      (refine cB 77 rfl rfl rfl (hw0) Try.func77 rfl ?_); refine ts ?_; try clear hQQ QQ
      ((refine cO 65 rfl rfl rfl (hc0) Try.func65 rfl ?_); refine tu ?_; try clear hQQ QQ); refine tw ?_; try with_reducible intro QQ hQQ
      refine ⟨⟨1, by omega⟩, ?_, weak_round ?_ (by first | rfl | (simp only [go_sem, ↓reduceIte]))⟩
      rotate_left
      · simp only [Nat.lt_irrefl, if_false, if_true, Nat.zero_lt_one]
        (simp only [go_sem, ↓reduceIte]; try rfl)
      · simp only; omega
    · simp only [Nat.lt_irrefl, if_false, if_true, Nat.zero_lt_one]
      refine tw ?_; try with_reducible intro QQ hQQ
      refine ti ?_; try clear hQQ QQ
      refine tw ?_; try with_reducible intro QQ hQQ
      (refine cB 77 rfl rfl rfl (hw1) Try.func77 rfl ?_); refine ts ?_; try clear hQQ QQ
      ((refine cO 65 rfl rfl rfl (hc1) Try.func65 rfl ?_); refine tu ?_; try clear hQQ QQ); refine tw ?_; try with_reducible intro QQ hQQ
      refine ⟨⟨2, by omega⟩, ?_, weak_round ?_ (by first | rfl | (simp only [go_sem, ↓reduceIte]))⟩
      rotate_left
      · simp only [show (0 : Nat) < 2 by decide, show (1 : Nat) < 2 by decide, if_true]
        (simp only [go_sem, ↓reduceIte]; try rfl)
      · simp only; omega
    · simp only [show (0 : Nat) < 2 by decide, show (1 : Nat) < 2 by decide, if_true]
      by_cases hz : i = 0
      · subst hz
        rw [if_pos (.inl rfl)] at en
        (repeat (first | apply aw_seq | apply aw_block | apply aw_skip | apply aw_label | apply aw_exit | ((first | refine aw_region (hideO fun QQ hQQ => ?_) | refine aw_draw mixed (hideD fun QQ hQQ => ?_)); simp (maxSteps := 400000) (disch := first | decide | omega) only [emax, go_sem, ↓reduceIte]; try (first | with_reducible refine unhide hQQ ?_ | refine ⟨by kernel_rfl, unhide hQQ ?_⟩); clear hQQ QQ) | with_reducible first | apply then_n | apply block_n | apply then_x | apply then_r | apply nog_n | apply nog_r | apply block_r | apply block_e (by decide) | apply block_x (by decide)))
        refine aw_cond2 (by simp (disch := first | decide | omega) only [emax, go_sem, ↓reduceIte]; rfl) ?_; first | refine .inl ⟨by first | rfl | exact decide_eq_true (by omega) | exact decide_eq_true (by assumption) | (simp (disch := first | decide | omega) only [if_pos_d, if_neg_d, decide_eq_true_eq, Bool.not_eq_true', decide_eq_false_iff_not]; omega), ?_⟩ | refine .inr ⟨by first | rfl | exact decide_eq_false (by omega) | exact decide_eq_false (by assumption) | (simp (disch := first | decide | omega) only [if_pos_d, if_neg_d, decide_eq_true_eq, Bool.not_eq_true', decide_eq_false_iff_not]; omega), ?_⟩
        (repeat (first | apply aw_seq | apply aw_block | apply aw_skip | apply aw_label | apply aw_exit | ((first | refine aw_region (hideO fun QQ hQQ => ?_) | refine aw_draw mixed (hideD fun QQ hQQ => ?_)); simp (maxSteps := 400000) (disch := first | decide | omega) only [emax, go_sem, ↓reduceIte]; try (first | with_reducible refine unhide hQQ ?_ | refine ⟨by kernel_rfl, unhide hQQ ?_⟩); clear hQQ QQ) | with_reducible first | apply then_n | apply block_n | apply then_x | apply then_r | apply nog_n | apply nog_r | apply block_r | apply block_e (by decide) | apply block_x (by decide)))
        refine aw_cond2 (by simp (disch := first | decide | omega) only [emax, go_sem, ↓reduceIte]; rfl) ?_; first | refine .inl ⟨by first | rfl | exact decide_eq_true (by omega) | exact decide_eq_true (by assumption) | (simp (disch := first | decide | omega) only [if_pos_d, if_neg_d, decide_eq_true_eq, Bool.not_eq_true', decide_eq_false_iff_not]; omega), ?_⟩ | refine .inr ⟨by first | rfl | exact decide_eq_false (by omega) | exact decide_eq_false (by assumption) | (simp (disch := first | decide | omega) only [if_pos_d, if_neg_d, decide_eq_true_eq, Bool.not_eq_true', decide_eq_false_iff_not]; omega), ?_⟩
        (repeat (first | apply aw_seq | apply aw_block | apply aw_skip | apply aw_label | apply aw_exit | ((first | refine aw_region (hideO fun QQ hQQ => ?_) | refine aw_draw mixed (hideD fun QQ hQQ => ?_)); simp (maxSteps := 400000) (disch := first | decide | omega) only [emax, go_sem, ↓reduceIte]; try (first | with_reducible refine unhide hQQ ?_ | refine ⟨by kernel_rfl, unhide hQQ ?_⟩); clear hQQ QQ) | with_reducible first | apply then_n | apply block_n | apply then_x | apply then_r | apply nog_n | apply nog_r | apply block_r | apply block_e (by decide) | apply block_x (by decide)))
        refine ⟨⟨0 + 1, by omega⟩, ?_, weak_round ?_ (by first | rfl | (simp only [emax, go_sem, ↓reduceIte]))⟩
        rotate_left
        · simp only [en]
          (simp only [emax, go_sem, ↓reduceIte]; try rfl)
        · simp only; omega
      · by_cases hlt : mx < le
        · rw [if_pos (.inr hlt)] at en
          (repeat (first | apply aw_seq | apply aw_block | apply aw_skip | apply aw_label | apply aw_exit | ((first | refine aw_region (hideO fun QQ hQQ => ?_) | refine aw_draw mixed (hideD fun QQ hQQ => ?_)); simp (maxSteps := 400000) (disch := first | decide | omega) only [emax, go_sem, ↓reduceIte]; try (first | with_reducible refine unhide hQQ ?_ | refine ⟨by kernel_rfl, unhide hQQ ?_⟩); clear hQQ QQ) | with_reducible first | apply then_n | apply block_n | apply then_x | apply then_r | apply nog_n | apply nog_r | apply block_r | apply block_e (by decide) | apply block_x (by decide)))
          refine aw_cond2 (by simp (disch := first | decide | omega) only [emax, go_sem, ↓reduceIte]; rfl) ?_; first | refine .inl ⟨by first | rfl | exact decide_eq_true (by omega) | exact decide_eq_true (by assumption) | (simp (disch := first | decide | omega) only [if_pos_d, if_neg_d, decide_eq_true_eq, Bool.not_eq_true', decide_eq_false_iff_not]; omega), ?_⟩ | refine .inr ⟨by first | rfl | exact decide_eq_false (by omega) | exact decide_eq_false (by assumption) | (simp (disch := first | decide | omega) only [if_pos_d, if_neg_d, decide_eq_true_eq, Bool.not_eq_true', decide_eq_false_iff_not]; omega), ?_⟩
          (repeat (first | apply aw_seq | apply aw_block | apply aw_skip | apply aw_label | apply aw_exit | ((first | refine aw_region (hideO fun QQ hQQ => ?_) | refine aw_draw mixed (hideD fun QQ hQQ => ?_)); simp (maxSteps := 400000) (disch := first | decide | omega) only [emax, go_sem, ↓reduceIte]; try (first | with_reducible refine unhide hQQ ?_ | refine ⟨by kernel_rfl, unhide hQQ ?_⟩); clear hQQ QQ) | with_reducible first | apply then_n | apply block_n | apply then_x | apply then_r | apply nog_n | apply nog_r | apply block_r | apply block_e (by decide) | apply block_x (by decide)))
          refine aw_cond2 (by simp (disch := first | decide | omega) only [emax, go_sem, ↓reduceIte]; rfl) ?_; first | refine .inl ⟨by first | rfl | exact decide_eq_true (by omega) | exact decide_eq_true (by assumption) | (simp (disch := first | decide | omega) only [if_pos_d, if_neg_d, decide_eq_true_eq, Bool.not_eq_true', decide_eq_false_iff_not]; omega), ?_⟩ | refine .inr ⟨by first | rfl | exact decide_eq_false (by omega) | exact decide_eq_false (by assumption) | (simp (disch := first | decide | omega) only [if_pos_d, if_neg_d, decide_eq_true_eq, Bool.not_eq_true', decide_eq_false_iff_not]; omega), ?_⟩
          (repeat (first | apply aw_seq | apply aw_block | apply aw_skip | apply aw_label | apply aw_exit | ((first | refine aw_region (hideO fun QQ hQQ => ?_) | refine aw_draw mixed (hideD fun QQ hQQ => ?_)); simp (maxSteps := 400000) (disch := first | decide | omega) only [emax, go_sem, ↓reduceIte]; try (first | with_reducible refine unhide hQQ ?_ | refine ⟨by kernel_rfl, unhide hQQ ?_⟩); clear hQQ QQ) | with_reducible first | apply then_n | apply block_n | apply then_x | apply then_r | apply nog_n | apply nog_r | apply block_r | apply block_e (by decide) | apply block_x (by decide)))
          refine ⟨⟨i + 1, by omega⟩, ?_, weak_round ?_ (by first | rfl | (simp only [emax, go_sem, ↓reduceIte]))⟩
          rotate_left
          · simp only [en]
            (simp only [emax, go_sem, ↓reduceIte]; try rfl)
          · simp only; omega
        · rw [if_neg (by rintro (h | h); exact hz h; exact hlt h)] at en
          (repeat (first | apply aw_seq | apply aw_block | apply aw_skip | apply aw_label | apply aw_exit | ((first | refine aw_region (hideO fun QQ hQQ => ?_) | refine aw_draw mixed (hideD fun QQ hQQ => ?_)); simp (maxSteps := 400000) (disch := first | decide | omega) only [emax, go_sem, ↓reduceIte]; try (first | with_reducible refine unhide hQQ ?_ | refine ⟨by kernel_rfl, unhide hQQ ?_⟩); clear hQQ QQ) | with_reducible first | apply then_n | apply block_n | apply then_x | apply then_r | apply nog_n | apply nog_r | apply block_r | apply block_e (by decide) | apply block_x (by decide)))
          refine aw_cond2 (by simp (disch := first | decide | omega) only [emax, go_sem, ↓reduceIte]; rfl) ?_; first | refine .inl ⟨by first | rfl | exact decide_eq_true (by omega) | exact decide_eq_true (by assumption) | (simp (disch := first | decide | omega) only [if_pos_d, if_neg_d, decide_eq_true_eq, Bool.not_eq_true', decide_eq_false_iff_not]; omega), ?_⟩ | refine .inr ⟨by first | rfl | exact decide_eq_false (by omega) | exact decide_eq_false (by assumption) | (simp (disch := first | decide | omega) only [if_pos_d, if_neg_d, decide_eq_true_eq, Bool.not_eq_true', decide_eq_false_iff_not]; omega), ?_⟩
          (repeat (first | apply aw_seq | apply aw_block | apply aw_skip | apply aw_label | apply aw_exit | ((first | refine aw_region (hideO fun QQ hQQ => ?_) | refine aw_draw mixed (hideD fun QQ hQQ => ?_)); simp (maxSteps := 400000) (disch := first | decide | omega) only [emax, go_sem, ↓reduceIte]; try (first | with_reducible refine unhide hQQ ?_ | refine ⟨by kernel_rfl, unhide hQQ ?_⟩); clear hQQ QQ) | with_reducible first | apply then_n | apply block_n | apply then_x | apply then_r | apply nog_n | apply nog_r | apply block_r | apply block_e (by decide) | apply block_x (by decide)))
          refine aw_cond2 (by simp (disch := first | decide | omega) only [emax, go_sem, ↓reduceIte]; rfl) ?_; first | refine .inl ⟨by first | rfl | exact decide_eq_true (by omega) | exact decide_eq_true (by assumption) | (simp (disch := first | decide | omega) only [if_pos_d, if_neg_d, decide_eq_true_eq, Bool.not_eq_true', decide_eq_false_iff_not]; omega), ?_⟩ | refine .inr ⟨by first | rfl | exact decide_eq_false (by omega) | exact decide_eq_false (by assumption) | (simp (disch := first | decide | omega) only [if_pos_d, if_neg_d, decide_eq_true_eq, Bool.not_eq_true', decide_eq_false_iff_not]; omega), ?_⟩
          (repeat (first | apply aw_seq | apply aw_block | apply aw_skip | apply aw_label | apply aw_exit | ((first | refine aw_region (hideO fun QQ hQQ => ?_) | refine aw_draw mixed (hideD fun QQ hQQ => ?_)); simp (maxSteps := 400000) (disch := first | decide | omega) only [emax, go_sem, ↓reduceIte]; try (first | with_reducible refine unhide hQQ ?_ | refine ⟨by kernel_rfl, unhide hQQ ?_⟩); clear hQQ QQ) | with_reducible first | apply then_n | apply block_n | apply then_x | apply then_r | apply nog_n | apply nog_r | apply block_r | apply block_e (by decide) | apply block_x (by decide)))
          refine ⟨⟨i + 1, by omega⟩, ?_, weak_round ?_ (by first | rfl | (simp only [emax, go_sem, ↓reduceIte]))⟩
          rotate_left
          · simp only [en]
            (simp only [emax, go_sem, ↓reduceIte]; try rfl)
          · simp only; omega
  · have hie : i = bales.length := by omega
    subst hie
    refine tw ?_; try with_reducible intro QQ hQQ
    refine ti ?_; try clear hQQ QQ
    refine tw ?_; try with_reducible intro QQ hQQ
    (refine aw_ret ⟨.inr rfl, by simp (disch := first | decide | omega) only [go_sem, ↓reduceIte]; try rfl, by simp (disch := first | decide | omega) only [resA, res1, ansR, ansN, hb, hwhy, hans, go_sem, ↓reduceIte]; try rfl⟩)
end
end Go.Proofs.Ytknikcpeacmpmaa
