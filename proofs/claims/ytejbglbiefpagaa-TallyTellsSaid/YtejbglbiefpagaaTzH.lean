/- tally, the document's functions: what they answer (P5.1, P5.2). -/
import Derived.Test.YtejbglbiefpagaaTzG
import Derived.Test.YtejbglbiefpagaaTxF
set_option linter.all false
namespace Go.Proofs.Ytejbglbiefpagaa
open Go Go.RowKit Go.Sh Go.Pv
set_option maxHeartbeats 4000000
set_option maxRecDepth 8000
set_option pp.maxSteps 60000
section
variable {n most : Int} {strays : List (Int × Int)} {calls : List (Int × Int × Int × Int)}
attribute [local go_sem] row4 get_some4 get_someT get_someL rowT rowL rowsK_rT rowsK_rL rowsK_r2 rowsK_nil' rowsK_cons' not_isEmpty_nil Bool.false_or
/-- Numbers of all truths. -/
def numsG (g : (Nat → Int) → (Nat → Int) → Int) (L : List (List Int × List Int)) : List Int := L.map fun t => g (fX t.1) (fX t.2)
theorem nums_succ (g : (Nat → Int) → (Nat → Int) → Int) {L : List (List Int × List Int)} {i : Nat} (h : i < L.length) {X Y : List Int} (hX : L.getD i ([], []) = (X, Y)) : numsG g (L.take (i + 1)) = numsG g (L.take i) ++ [g (fX X) (fX Y)] := by
  unfold numsG
  have e1 : L.take (i + 1) = L.take i ++ [L.getD i ([], [])] := by
    rw [List.take_succ, List.getElem?_eq_getElem h, List.getD_eq_getElem?_getD, List.getElem?_eq_getElem h]; rfl
  rw [e1, hX, List.map_append]; rfl
theorem nums_len (g : (Nat → Int) → (Nat → Int) → Int) (L : List (List Int × List Int)) : (numsG g L).length = L.length := by simp [numsG]

theorem r15_err {vb : Bool} {e : Int} {rows : List (List PV)} {i : Int} (hV : FunOK Try.prog 53 [tyR n most strays calls, .one (iP i)] (.one (.one (.v (.bool vb))))) (hT : FunOK Try.prog 52 [tyR n most strays calls, .one (.v (.bool vb))] (.tup [.one (.sl rows), .one (iP e)])) (he : e ≠ 0) :
    FunOK Try.prog 15 [tyR n most strays calls, .one (iP i)] (.tup [.agg [iP 0, iP 0], .one (iP e)]) := by
  simp only [tyR] at hV hT
  refine fun_ok (nt := 41) (rs := [.cell 4 27, .tmp 5]) Try.func15 rfl rfl rfl (by simp) fun Z w0 => ?_; simp only [initFr, avR, List.map_cons, List.map_nil]
  simp only [tyR, List.map_cons, List.map_nil]
  refine tw ?_; try with_reducible intro QQ hQQ
  (refine cD 53 rfl rfl rfl (hV) Try.func53 rfl ?_); refine td ?_; try clear hQQ QQ
  ((refine cG 52 rfl rfl rfl (hT) Try.func52 rfl ?_); refine tv ?_; try clear hQQ QQ); refine tw ?_; try with_reducible intro QQ hQQ
  refine ti ?_; try clear hQQ QQ
  refine tw ?_; try with_reducible intro QQ hQQ
  refine aw_ret ?_; refine ⟨.inr rfl, ?_⟩; simp only [resA, res1, go_sem, ↓reduceIte]
theorem r15_ok {N : Nat} {L : List (List Int × List Int)} {i : Nat} (hi : i < N) (h5 : N ≤ 5) (hV : FunOK Try.prog 53 [tyR n most strays calls, .one (iP i)] (.one (.one (.v (.bool true))))) (hT : FunOK Try.prog 52 [tyR n most strays calls, .one (.v (.bool true))] (.tup [.one (.sl (L.map rowT)), .one (iP 0)])) (hL : L ≠ []) (hlen : L.length ≤ 100000) (hG : ∀ t ∈ L, GoodT N t) :
    FunOK Try.prog 15 [tyR n most strays calls, .one (iP i)] (.tup [.agg [iP (hullF ((numsG (fun x _ => x i) L).getD 0 0) (numsG (fun x _ => x i) L)).1, iP (hullF ((numsG (fun x _ => x i) L).getD 0 0) (numsG (fun x _ => x i) L)).2], .one (iP 0)]) := by
  have hh := ok_hull54 (l := numsG (fun x _ => x i) L) (by intro hn; exact hL (by simpa [numsG] using hn)) (by rw [nums_len]; exact hlen)
  simp only [tyR] at hV hT
  refine fun_ok (nt := 41) (rs := [.cell 4 27, .tmp 5]) Try.func15 rfl rfl rfl (by simp) fun Z w0 => ?_; simp only [initFr, avR, List.map_cons, List.map_nil]
  simp only [tyR, List.map_cons, List.map_nil]
  refine tw ?_; try with_reducible intro QQ hQQ
  (refine cD 53 rfl rfl rfl (hV) Try.func53 rfl ?_); refine td ?_; try clear hQQ QQ
  ((refine cG 52 rfl rfl rfl (hT) Try.func52 rfl ?_); refine tv ?_; try clear hQQ QQ); refine tw ?_; try with_reducible intro QQ hQQ
  refine ti ?_; try clear hQQ QQ
  refine tw ?_; try with_reducible intro QQ hQQ
  refine aw_weak (weak_own 8 3 1 (by simp (disch := first | decide | omega) only [go_sem, ↓reduceIte]; try rfl)) ?_
  refine aw_weak (weak_keep [1, 4, 6, 8, 9] (by simp only [go_sem, ↓reduceIte]; rfl)) ?_
  refine aw_loop_ov (ι := { k : Nat // k ≤ L.length }) (fun k => [(9, iA k.1), (8, .one (.own 2 k.1))]) (fun k => [(2, .arr 3 1 ((numsG (fun x _ => x i) (L.take k.1)).map row1) true)]) (fun k => L.length - k.1) ⟨0, by omega⟩ (by first | rfl | (simp only [go_sem, ↓reduceIte]; first | done | rfl | (simp; try rfl))) ?_
  rintro ⟨k, hk⟩
  simp (disch := decide) only [ov, ovL, AL.get_nil, AL.get_eq, AL.get_ne, Option.getD_some, Option.getD_none]
  by_cases hkl : k < L.length
  · have hGt := hG _ (mem_of_getD (d := ([], [])) hkl)
    obtain ⟨⟨X, Y⟩, hXY⟩ : ∃ t, L.getD k ([], []) = t := ⟨_, rfl⟩
    rw [hXY] at hGt
    have e1 := nums_succ (fun x _ => x i) hkl hXY
    have hnl : (numsG (fun x _ => x i) (L.take k)).length = k := by rw [nums_len, List.length_take]; omega
    generalize hQ : numsG (fun x _ => x i) (L.take k) = Q at *
    have hil : i < X.length := by have := hGt.xl; dsimp only at this; omega
    (repeat (first | apply aw_seq | apply aw_block | apply aw_skip | apply aw_label | apply aw_exit | ((first | refine aw_region (hideO fun QQ hQQ => ?_) | refine aw_draw mixed (hideD fun QQ hQQ => ?_)); simp (maxSteps := 400000) (disch := first | decide | omega) only [hXY, go_sem, ↓reduceIte]; try (first | with_reducible refine unhide hQQ ?_ | refine ⟨by kernel_rfl, unhide hQQ ?_⟩); clear hQQ QQ) | with_reducible first | apply then_n | apply block_n | apply then_x | apply then_r | apply nog_n | apply nog_r | apply block_r | apply block_e (by decide) | apply block_x (by decide)))
    refine aw_cond2 (by simp (disch := first | decide | omega) only [hXY, go_sem, ↓reduceIte]; rfl) ?_; first | refine .inl ⟨by first | rfl | exact decide_eq_true (by omega) | exact decide_eq_true (by assumption) | (simp (disch := first | decide | omega) only [if_pos_d, if_neg_d, decide_eq_true_eq, Bool.not_eq_true', decide_eq_false_iff_not]; omega), ?_⟩ | refine .inr ⟨by first | rfl | exact decide_eq_false (by omega) | exact decide_eq_false (by assumption) | (simp (disch := first | decide | omega) only [if_pos_d, if_neg_d, decide_eq_true_eq, Bool.not_eq_true', decide_eq_false_iff_not]; omega), ?_⟩
    (repeat (first | apply aw_seq | apply aw_block | apply aw_skip | apply aw_label | apply aw_exit | ((first | refine aw_region (hideO fun QQ hQQ => ?_) | refine aw_draw mixed (hideD fun QQ hQQ => ?_)); simp (maxSteps := 400000) (disch := first | decide | omega) only [hXY, go_sem, ↓reduceIte]; try (first | with_reducible refine unhide hQQ ?_ | refine ⟨by kernel_rfl, unhide hQQ ?_⟩); clear hQQ QQ) | with_reducible first | apply then_n | apply block_n | apply then_x | apply then_r | apply nog_n | apply nog_r | apply block_r | apply block_e (by decide) | apply block_x (by decide)))
    refine ⟨⟨k + 1, by omega⟩, ?_, weak_round ?_ (by first | rfl | (simp only [hXY, go_sem, ↓reduceIte]))⟩
    rotate_left
    · simp only [ov, ovL, e1]
      simp only [hXY, go_sem, ↓reduceIte]
      all_goals (try simp [row1, hnl, fX])
    · simp only; omega
  · have hke : k = L.length := by omega
    subst hke
    rw [List.take_length]
    have htk : List.take L.length (List.map row1 (numsG (fun x _ => x i) L)) = List.map row1 (numsG (fun x _ => x i) L) := List.take_of_length_le (by simp [nums_len])
    generalize numsG (fun x _ => x i) L = l at *
    (repeat (first | apply aw_seq | apply aw_block | apply aw_skip | apply aw_label | apply aw_exit | ((first | refine aw_region (hideO fun QQ hQQ => ?_) | refine aw_draw mixed (hideD fun QQ hQQ => ?_)); simp (maxSteps := 400000) (disch := first | decide | omega) only [htk, go_sem, ↓reduceIte]; try (first | with_reducible refine unhide hQQ ?_ | refine ⟨by kernel_rfl, unhide hQQ ?_⟩); clear hQQ QQ) | with_reducible first | apply then_n | apply block_n | apply then_x | apply then_r | apply nog_n | apply nog_r | apply block_r | apply block_e (by decide) | apply block_x (by decide)))
    refine aw_cond2 (by simp (disch := first | decide | omega) only [htk, go_sem, ↓reduceIte]; rfl) ?_; first | refine .inl ⟨by first | rfl | exact decide_eq_true (by omega) | exact decide_eq_true (by assumption) | (simp (disch := first | decide | omega) only [if_pos_d, if_neg_d, decide_eq_true_eq, Bool.not_eq_true', decide_eq_false_iff_not]; omega), ?_⟩ | refine .inr ⟨by first | rfl | exact decide_eq_false (by omega) | exact decide_eq_false (by assumption) | (simp (disch := first | decide | omega) only [if_pos_d, if_neg_d, decide_eq_true_eq, Bool.not_eq_true', decide_eq_false_iff_not]; omega), ?_⟩
    (repeat (first | apply aw_seq | apply aw_block | apply aw_skip | apply aw_label | apply aw_exit | ((first | refine aw_region (hideO fun QQ hQQ => ?_) | refine aw_draw mixed (hideD fun QQ hQQ => ?_)); simp (maxSteps := 400000) (disch := first | decide | omega) only [htk, go_sem, ↓reduceIte]; try (first | with_reducible refine unhide hQQ ?_ | refine ⟨by kernel_rfl, unhide hQQ ?_⟩); clear hQQ QQ) | with_reducible first | apply then_n | apply block_n | apply then_x | apply then_r | apply nog_n | apply nog_r | apply block_r | apply block_e (by decide) | apply block_x (by decide)))
    ((refine callO_ok rfl rfl 54 true rfl (by simp (disch := first | decide | omega) only [htk, go_sem, ↓reduceIte]; try rfl) (fun _ => rfl) (hh) Try.func54 rfl (by decide) ?_); simp (maxSteps := 400000) (disch := first | decide | omega) only [htk, go_sem, ↓reduceIte]; try (with_reducible refine unhide hQQ ?_; clear hQQ QQ)); (repeat (first | apply aw_seq | apply aw_block | apply aw_skip | apply aw_label | apply aw_exit | ((first | refine aw_region (hideO fun QQ hQQ => ?_) | refine aw_draw mixed (hideD fun QQ hQQ => ?_)); simp (maxSteps := 400000) (disch := first | decide | omega) only [htk, go_sem, ↓reduceIte]; try (first | with_reducible refine unhide hQQ ?_ | refine ⟨by kernel_rfl, unhide hQQ ?_⟩); clear hQQ QQ) | with_reducible first | apply then_n | apply block_n | apply then_x | apply then_r | apply nog_n | apply nog_r | apply block_r | apply block_e (by decide) | apply block_x (by decide)))
    refine aw_ret ?_; refine ⟨.inr rfl, ?_⟩; simp only [resA, res1, go_sem, ↓reduceIte]
theorem r17_err {vb : Bool} {e : Int} {rows : List (List PV)} {i : Int} (hV : FunOK Try.prog 53 [tyR n most strays calls, .one (iP i)] (.one (.one (.v (.bool vb))))) (hT : FunOK Try.prog 52 [tyR n most strays calls, .one (.v (.bool vb))] (.tup [.one (.sl rows), .one (iP e)])) (he : e ≠ 0) :
    FunOK Try.prog 17 [tyR n most strays calls, .one (iP i)] (.tup [.agg [iP 0, iP 0], .one (iP e)]) := by
  simp only [tyR] at hV hT
  refine fun_ok (nt := 39) (rs := [.cell 4 27, .tmp 5]) Try.func17 rfl rfl rfl (by simp) fun Z w0 => ?_; simp only [initFr, avR, List.map_cons, List.map_nil]
  simp only [tyR, List.map_cons, List.map_nil]
  refine tw ?_; try with_reducible intro QQ hQQ
  (refine cD 53 rfl rfl rfl (hV) Try.func53 rfl ?_); refine td ?_; try clear hQQ QQ
  ((refine cG 52 rfl rfl rfl (hT) Try.func52 rfl ?_); refine tv ?_; try clear hQQ QQ); refine tw ?_; try with_reducible intro QQ hQQ
  refine ti ?_; try clear hQQ QQ
  refine tw ?_; try with_reducible intro QQ hQQ
  refine aw_ret ?_; refine ⟨.inr rfl, ?_⟩; simp only [resA, res1, go_sem, ↓reduceIte]
theorem r17_ok {N : Nat} {L : List (List Int × List Int)} {i : Nat} (hi : i < N) (h5 : N ≤ 5) (hV : FunOK Try.prog 53 [tyR n most strays calls, .one (iP i)] (.one (.one (.v (.bool true))))) (hT : FunOK Try.prog 52 [tyR n most strays calls, .one (.v (.bool true))] (.tup [.one (.sl (L.map rowT)), .one (iP 0)])) (hL : L ≠ []) (hlen : L.length ≤ 100000) (hG : ∀ t ∈ L, GoodT N t) :
    FunOK Try.prog 17 [tyR n most strays calls, .one (iP i)] (.tup [.agg [iP (hullF ((numsG (fun x y => penT N x y i) L).getD 0 0) (numsG (fun x y => penT N x y i) L)).1, iP (hullF ((numsG (fun x y => penT N x y i) L).getD 0 0) (numsG (fun x y => penT N x y i) L)).2], .one (iP 0)]) := by
  have hh := ok_hull54 (l := numsG (fun x y => penT N x y i) L) (by intro hn; exact hL (by simpa [numsG] using hn)) (by rw [nums_len]; exact hlen)
  simp only [tyR] at hV hT
  refine fun_ok (nt := 39) (rs := [.cell 4 27, .tmp 5]) Try.func17 rfl rfl rfl (by simp) fun Z w0 => ?_; simp only [initFr, avR, List.map_cons, List.map_nil]
  simp only [tyR, List.map_cons, List.map_nil]
  refine tw ?_; try with_reducible intro QQ hQQ
  (refine cD 53 rfl rfl rfl (hV) Try.func53 rfl ?_); refine td ?_; try clear hQQ QQ
  ((refine cG 52 rfl rfl rfl (hT) Try.func52 rfl ?_); refine tv ?_; try clear hQQ QQ); refine tw ?_; try with_reducible intro QQ hQQ
  refine ti ?_; try clear hQQ QQ
  refine tw ?_; try with_reducible intro QQ hQQ
  refine aw_weak (weak_own 8 3 1 (by simp (disch := first | decide | omega) only [go_sem, ↓reduceIte]; try rfl)) ?_
  refine aw_weak (weak_keep [1, 4, 6, 8, 9] (by simp only [go_sem, ↓reduceIte]; rfl)) ?_
  refine aw_loop_ov (ι := { k : Nat // k ≤ L.length }) (fun k => [(9, iA k.1), (8, .one (.own 2 k.1))]) (fun k => [(2, .arr 3 1 ((numsG (fun x y => penT N x y i) (L.take k.1)).map row1) true)]) (fun k => L.length - k.1) ⟨0, by omega⟩ (by first | rfl | (simp only [go_sem, ↓reduceIte]; first | done | rfl | (simp; try rfl))) ?_
  rintro ⟨k, hk⟩
  simp (disch := decide) only [ov, ovL, AL.get_nil, AL.get_eq, AL.get_ne, Option.getD_some, Option.getD_none]
  by_cases hkl : k < L.length
  · have hGt := hG _ (mem_of_getD (d := ([], [])) hkl)
    obtain ⟨⟨X, Y⟩, hXY⟩ : ∃ t, L.getD k ([], []) = t := ⟨_, rfl⟩
    rw [hXY] at hGt
    have e1 := nums_succ (fun x y => penT N x y i) hkl hXY
    have hnl : (numsG (fun x y => penT N x y i) (L.take k)).length = k := by rw [nums_len, List.length_take]; omega
    generalize hQ : numsG (fun x y => penT N x y i) (L.take k) = Q at *
    have hI := ok_In57 hGt h5 hi
    simp only [rowT] at hI
    (repeat (first | apply aw_seq | apply aw_block | apply aw_skip | apply aw_label | apply aw_exit | ((first | refine aw_region (hideO fun QQ hQQ => ?_) | refine aw_draw mixed (hideD fun QQ hQQ => ?_)); simp (maxSteps := 400000) (disch := first | decide | omega) only [hXY, go_sem, ↓reduceIte]; try (first | with_reducible refine unhide hQQ ?_ | refine ⟨by kernel_rfl, unhide hQQ ?_⟩); clear hQQ QQ) | with_reducible first | apply then_n | apply block_n | apply then_x | apply then_r | apply nog_n | apply nog_r | apply block_r | apply block_e (by decide) | apply block_x (by decide)))
    refine aw_cond2 (by simp (disch := first | decide | omega) only [hXY, go_sem, ↓reduceIte]; rfl) ?_; first | refine .inl ⟨by first | rfl | exact decide_eq_true (by omega) | exact decide_eq_true (by assumption) | (simp (disch := first | decide | omega) only [if_pos_d, if_neg_d, decide_eq_true_eq, Bool.not_eq_true', decide_eq_false_iff_not]; omega), ?_⟩ | refine .inr ⟨by first | rfl | exact decide_eq_false (by omega) | exact decide_eq_false (by assumption) | (simp (disch := first | decide | omega) only [if_pos_d, if_neg_d, decide_eq_true_eq, Bool.not_eq_true', decide_eq_false_iff_not]; omega), ?_⟩
    (repeat (first | apply aw_seq | apply aw_block | apply aw_skip | apply aw_label | apply aw_exit | ((first | refine aw_region (hideO fun QQ hQQ => ?_) | refine aw_draw mixed (hideD fun QQ hQQ => ?_)); simp (maxSteps := 400000) (disch := first | decide | omega) only [hXY, go_sem, ↓reduceIte]; try (first | with_reducible refine unhide hQQ ?_ | refine ⟨by kernel_rfl, unhide hQQ ?_⟩); clear hQQ QQ) | with_reducible first | apply then_n | apply block_n | apply then_x | apply then_r | apply nog_n | apply nog_r | apply block_r | apply block_e (by decide) | apply block_x (by decide)))
    ((refine callO_ok rfl rfl 57 true rfl (by simp (disch := first | decide | omega) only [hXY, go_sem, ↓reduceIte]; try rfl) (fun _ => rfl) (hI) Try.func57 rfl (by decide) ?_); simp (maxSteps := 400000) (disch := first | decide | omega) only [hXY, go_sem, ↓reduceIte]; try (with_reducible refine unhide hQQ ?_; clear hQQ QQ)); (repeat (first | apply aw_seq | apply aw_block | apply aw_skip | apply aw_label | apply aw_exit | ((first | refine aw_region (hideO fun QQ hQQ => ?_) | refine aw_draw mixed (hideD fun QQ hQQ => ?_)); simp (maxSteps := 400000) (disch := first | decide | omega) only [hXY, go_sem, ↓reduceIte]; try (first | with_reducible refine unhide hQQ ?_ | refine ⟨by kernel_rfl, unhide hQQ ?_⟩); clear hQQ QQ) | with_reducible first | apply then_n | apply block_n | apply then_x | apply then_r | apply nog_n | apply nog_r | apply block_r | apply block_e (by decide) | apply block_x (by decide)))
    refine ⟨⟨k + 1, by omega⟩, ?_, weak_round ?_ (by first | rfl | (simp only [hXY, go_sem, ↓reduceIte]))⟩
    rotate_left
    · simp only [ov, ovL, e1]
      simp only [hXY, go_sem, ↓reduceIte]
      all_goals (try simp [row1, hnl, fX])
    · simp only; omega
  · have hke : k = L.length := by omega
    subst hke
    rw [List.take_length]
    have htk : List.take L.length (List.map row1 (numsG (fun x y => penT N x y i) L)) = List.map row1 (numsG (fun x y => penT N x y i) L) := List.take_of_length_le (by simp [nums_len])
    generalize numsG (fun x y => penT N x y i) L = l at *
    (repeat (first | apply aw_seq | apply aw_block | apply aw_skip | apply aw_label | apply aw_exit | ((first | refine aw_region (hideO fun QQ hQQ => ?_) | refine aw_draw mixed (hideD fun QQ hQQ => ?_)); simp (maxSteps := 400000) (disch := first | decide | omega) only [htk, go_sem, ↓reduceIte]; try (first | with_reducible refine unhide hQQ ?_ | refine ⟨by kernel_rfl, unhide hQQ ?_⟩); clear hQQ QQ) | with_reducible first | apply then_n | apply block_n | apply then_x | apply then_r | apply nog_n | apply nog_r | apply block_r | apply block_e (by decide) | apply block_x (by decide)))
    refine aw_cond2 (by simp (disch := first | decide | omega) only [htk, go_sem, ↓reduceIte]; rfl) ?_; first | refine .inl ⟨by first | rfl | exact decide_eq_true (by omega) | exact decide_eq_true (by assumption) | (simp (disch := first | decide | omega) only [if_pos_d, if_neg_d, decide_eq_true_eq, Bool.not_eq_true', decide_eq_false_iff_not]; omega), ?_⟩ | refine .inr ⟨by first | rfl | exact decide_eq_false (by omega) | exact decide_eq_false (by assumption) | (simp (disch := first | decide | omega) only [if_pos_d, if_neg_d, decide_eq_true_eq, Bool.not_eq_true', decide_eq_false_iff_not]; omega), ?_⟩
    (repeat (first | apply aw_seq | apply aw_block | apply aw_skip | apply aw_label | apply aw_exit | ((first | refine aw_region (hideO fun QQ hQQ => ?_) | refine aw_draw mixed (hideD fun QQ hQQ => ?_)); simp (maxSteps := 400000) (disch := first | decide | omega) only [htk, go_sem, ↓reduceIte]; try (first | with_reducible refine unhide hQQ ?_ | refine ⟨by kernel_rfl, unhide hQQ ?_⟩); clear hQQ QQ) | with_reducible first | apply then_n | apply block_n | apply then_x | apply then_r | apply nog_n | apply nog_r | apply block_r | apply block_e (by decide) | apply block_x (by decide)))
    ((refine callO_ok rfl rfl 54 true rfl (by simp (disch := first | decide | omega) only [htk, go_sem, ↓reduceIte]; try rfl) (fun _ => rfl) (hh) Try.func54 rfl (by decide) ?_); simp (maxSteps := 400000) (disch := first | decide | omega) only [htk, go_sem, ↓reduceIte]; try (with_reducible refine unhide hQQ ?_; clear hQQ QQ)); (repeat (first | apply aw_seq | apply aw_block | apply aw_skip | apply aw_label | apply aw_exit | ((first | refine aw_region (hideO fun QQ hQQ => ?_) | refine aw_draw mixed (hideD fun QQ hQQ => ?_)); simp (maxSteps := 400000) (disch := first | decide | omega) only [htk, go_sem, ↓reduceIte]; try (first | with_reducible refine unhide hQQ ?_ | refine ⟨by kernel_rfl, unhide hQQ ?_⟩); clear hQQ QQ) | with_reducible first | apply then_n | apply block_n | apply then_x | apply then_r | apply nog_n | apply nog_r | apply block_r | apply block_e (by decide) | apply block_x (by decide)))
    refine aw_ret ?_; refine ⟨.inr rfl, ?_⟩; simp only [resA, res1, go_sem, ↓reduceIte]
theorem r19_err {vb : Bool} {e : Int} {rows : List (List PV)} {i : Int} (hV : FunOK Try.prog 64 [tyR n most strays calls, .one (iP i)] (.one (.one (.v (.bool vb))))) (hT : FunOK Try.prog 52 [tyR n most strays calls, .one (.v (.bool vb))] (.tup [.one (.sl rows), .one (iP e)])) (he : e ≠ 0) :
    FunOK Try.prog 19 [tyR n most strays calls, .one (iP i)] (.tup [.agg [iP 0, iP 0], .one (iP e)]) := by
  simp only [tyR] at hV hT
  refine fun_ok (nt := 41) (rs := [.cell 4 27, .tmp 5]) Try.func19 rfl rfl rfl (by simp) fun Z w0 => ?_; simp only [initFr, avR, List.map_cons, List.map_nil]
  simp only [tyR, List.map_cons, List.map_nil]
  refine tw ?_; try with_reducible intro QQ hQQ
  (refine cD 64 rfl rfl rfl (hV) Try.func64 rfl ?_); refine td ?_; try clear hQQ QQ
  ((refine cG 52 rfl rfl rfl (hT) Try.func52 rfl ?_); refine tv ?_; try clear hQQ QQ); refine tw ?_; try with_reducible intro QQ hQQ
  refine ti ?_; try clear hQQ QQ
  refine tw ?_; try with_reducible intro QQ hQQ
  refine aw_ret ?_; refine ⟨.inr rfl, ?_⟩; simp only [resA, res1, go_sem, ↓reduceIte]
theorem r19_ok {N : Nat} {L : List (List Int × List Int)} {i : Nat} (hi : i + 1 < N) (h5 : N ≤ 5) (hV : FunOK Try.prog 64 [tyR n most strays calls, .one (iP i)] (.one (.one (.v (.bool true))))) (hT : FunOK Try.prog 52 [tyR n most strays calls, .one (.v (.bool true))] (.tup [.one (.sl (L.map rowT)), .one (iP 0)])) (hL : L ≠ []) (hlen : L.length ≤ 100000) (hG : ∀ t ∈ L, GoodT N t) :
    FunOK Try.prog 19 [tyR n most strays calls, .one (iP i)] (.tup [.agg [iP (hullF ((numsG (fun _ y => y i) L).getD 0 0) (numsG (fun _ y => y i) L)).1, iP (hullF ((numsG (fun _ y => y i) L).getD 0 0) (numsG (fun _ y => y i) L)).2], .one (iP 0)]) := by
  have hh := ok_hull54 (l := numsG (fun _ y => y i) L) (by intro hn; exact hL (by simpa [numsG] using hn)) (by rw [nums_len]; exact hlen)
  simp only [tyR] at hV hT
  refine fun_ok (nt := 41) (rs := [.cell 4 27, .tmp 5]) Try.func19 rfl rfl rfl (by simp) fun Z w0 => ?_; simp only [initFr, avR, List.map_cons, List.map_nil]
  simp only [tyR, List.map_cons, List.map_nil]
  refine tw ?_; try with_reducible intro QQ hQQ
  (refine cD 64 rfl rfl rfl (hV) Try.func64 rfl ?_); refine td ?_; try clear hQQ QQ
  ((refine cG 52 rfl rfl rfl (hT) Try.func52 rfl ?_); refine tv ?_; try clear hQQ QQ); refine tw ?_; try with_reducible intro QQ hQQ
  refine ti ?_; try clear hQQ QQ
  refine tw ?_; try with_reducible intro QQ hQQ
  refine aw_weak (weak_own 8 3 1 (by simp (disch := first | decide | omega) only [go_sem, ↓reduceIte]; try rfl)) ?_
  refine aw_weak (weak_keep [1, 4, 6, 8, 9] (by simp only [go_sem, ↓reduceIte]; rfl)) ?_
  refine aw_loop_ov (ι := { k : Nat // k ≤ L.length }) (fun k => [(9, iA k.1), (8, .one (.own 2 k.1))]) (fun k => [(2, .arr 3 1 ((numsG (fun _ y => y i) (L.take k.1)).map row1) true)]) (fun k => L.length - k.1) ⟨0, by omega⟩ (by first | rfl | (simp only [go_sem, ↓reduceIte]; first | done | rfl | (simp; try rfl))) ?_
  rintro ⟨k, hk⟩
  simp (disch := decide) only [ov, ovL, AL.get_nil, AL.get_eq, AL.get_ne, Option.getD_some, Option.getD_none]
  by_cases hkl : k < L.length
  · have hGt := hG _ (mem_of_getD (d := ([], [])) hkl)
    obtain ⟨⟨X, Y⟩, hXY⟩ : ∃ t, L.getD k ([], []) = t := ⟨_, rfl⟩
    rw [hXY] at hGt
    have e1 := nums_succ (fun _ y => y i) hkl hXY
    have hnl : (numsG (fun _ y => y i) (L.take k)).length = k := by rw [nums_len, List.length_take]; omega
    generalize hQ : numsG (fun _ y => y i) (L.take k) = Q at *
    have hil : i < Y.length := by have := hGt.yl; dsimp only at this; omega
    (repeat (first | apply aw_seq | apply aw_block | apply aw_skip | apply aw_label | apply aw_exit | ((first | refine aw_region (hideO fun QQ hQQ => ?_) | refine aw_draw mixed (hideD fun QQ hQQ => ?_)); simp (maxSteps := 400000) (disch := first | decide | omega) only [hXY, go_sem, ↓reduceIte]; try (first | with_reducible refine unhide hQQ ?_ | refine ⟨by kernel_rfl, unhide hQQ ?_⟩); clear hQQ QQ) | with_reducible first | apply then_n | apply block_n | apply then_x | apply then_r | apply nog_n | apply nog_r | apply block_r | apply block_e (by decide) | apply block_x (by decide)))
    refine aw_cond2 (by simp (disch := first | decide | omega) only [hXY, go_sem, ↓reduceIte]; rfl) ?_; first | refine .inl ⟨by first | rfl | exact decide_eq_true (by omega) | exact decide_eq_true (by assumption) | (simp (disch := first | decide | omega) only [if_pos_d, if_neg_d, decide_eq_true_eq, Bool.not_eq_true', decide_eq_false_iff_not]; omega), ?_⟩ | refine .inr ⟨by first | rfl | exact decide_eq_false (by omega) | exact decide_eq_false (by assumption) | (simp (disch := first | decide | omega) only [if_pos_d, if_neg_d, decide_eq_true_eq, Bool.not_eq_true', decide_eq_false_iff_not]; omega), ?_⟩
    (repeat (first | apply aw_seq | apply aw_block | apply aw_skip | apply aw_label | apply aw_exit | ((first | refine aw_region (hideO fun QQ hQQ => ?_) | refine aw_draw mixed (hideD fun QQ hQQ => ?_)); simp (maxSteps := 400000) (disch := first | decide | omega) only [hXY, go_sem, ↓reduceIte]; try (first | with_reducible refine unhide hQQ ?_ | refine ⟨by kernel_rfl, unhide hQQ ?_⟩); clear hQQ QQ) | with_reducible first | apply then_n | apply block_n | apply then_x | apply then_r | apply nog_n | apply nog_r | apply block_r | apply block_e (by decide) | apply block_x (by decide)))
    refine ⟨⟨k + 1, by omega⟩, ?_, weak_round ?_ (by first | rfl | (simp only [hXY, go_sem, ↓reduceIte]))⟩
    rotate_left
    · simp only [ov, ovL, e1]
      simp only [hXY, go_sem, ↓reduceIte]
      all_goals (try simp [row1, hnl, fX])
    · simp only; omega
  · have hke : k = L.length := by omega
    subst hke
    rw [List.take_length]
    have htk : List.take L.length (List.map row1 (numsG (fun _ y => y i) L)) = List.map row1 (numsG (fun _ y => y i) L) := List.take_of_length_le (by simp [nums_len])
    generalize numsG (fun _ y => y i) L = l at *
    (repeat (first | apply aw_seq | apply aw_block | apply aw_skip | apply aw_label | apply aw_exit | ((first | refine aw_region (hideO fun QQ hQQ => ?_) | refine aw_draw mixed (hideD fun QQ hQQ => ?_)); simp (maxSteps := 400000) (disch := first | decide | omega) only [htk, go_sem, ↓reduceIte]; try (first | with_reducible refine unhide hQQ ?_ | refine ⟨by kernel_rfl, unhide hQQ ?_⟩); clear hQQ QQ) | with_reducible first | apply then_n | apply block_n | apply then_x | apply then_r | apply nog_n | apply nog_r | apply block_r | apply block_e (by decide) | apply block_x (by decide)))
    refine aw_cond2 (by simp (disch := first | decide | omega) only [htk, go_sem, ↓reduceIte]; rfl) ?_; first | refine .inl ⟨by first | rfl | exact decide_eq_true (by omega) | exact decide_eq_true (by assumption) | (simp (disch := first | decide | omega) only [if_pos_d, if_neg_d, decide_eq_true_eq, Bool.not_eq_true', decide_eq_false_iff_not]; omega), ?_⟩ | refine .inr ⟨by first | rfl | exact decide_eq_false (by omega) | exact decide_eq_false (by assumption) | (simp (disch := first | decide | omega) only [if_pos_d, if_neg_d, decide_eq_true_eq, Bool.not_eq_true', decide_eq_false_iff_not]; omega), ?_⟩
    (repeat (first | apply aw_seq | apply aw_block | apply aw_skip | apply aw_label | apply aw_exit | ((first | refine aw_region (hideO fun QQ hQQ => ?_) | refine aw_draw mixed (hideD fun QQ hQQ => ?_)); simp (maxSteps := 400000) (disch := first | decide | omega) only [htk, go_sem, ↓reduceIte]; try (first | with_reducible refine unhide hQQ ?_ | refine ⟨by kernel_rfl, unhide hQQ ?_⟩); clear hQQ QQ) | with_reducible first | apply then_n | apply block_n | apply then_x | apply then_r | apply nog_n | apply nog_r | apply block_r | apply block_e (by decide) | apply block_x (by decide)))
    ((refine callO_ok rfl rfl 54 true rfl (by simp (disch := first | decide | omega) only [htk, go_sem, ↓reduceIte]; try rfl) (fun _ => rfl) (hh) Try.func54 rfl (by decide) ?_); simp (maxSteps := 400000) (disch := first | decide | omega) only [htk, go_sem, ↓reduceIte]; try (with_reducible refine unhide hQQ ?_; clear hQQ QQ)); (repeat (first | apply aw_seq | apply aw_block | apply aw_skip | apply aw_label | apply aw_exit | ((first | refine aw_region (hideO fun QQ hQQ => ?_) | refine aw_draw mixed (hideD fun QQ hQQ => ?_)); simp (maxSteps := 400000) (disch := first | decide | omega) only [htk, go_sem, ↓reduceIte]; try (first | with_reducible refine unhide hQQ ?_ | refine ⟨by kernel_rfl, unhide hQQ ?_⟩); clear hQQ QQ) | with_reducible first | apply then_n | apply block_n | apply then_x | apply then_r | apply nog_n | apply nog_r | apply block_r | apply block_e (by decide) | apply block_x (by decide)))
    refine aw_ret ?_; refine ⟨.inr rfl, ?_⟩; simp only [resA, res1, go_sem, ↓reduceIte]
end
end Go.Proofs.Ytejbglbiefpagaa
