/- tally, the document's functions: together, and whether a call fits (P5.2, P5.3). -/
import Derived.Test.YtejbglbiefpagaaTzH
set_option linter.all false
namespace Go.Proofs.Ytejbglbiefpagaa
open Go Go.RowKit Go.Sh Go.Pv
set_option maxHeartbeats 4000000
set_option maxRecDepth 8000
set_option pp.maxSteps 60000
section
variable {n most : Int} {strays : List (Int × Int)} {calls : List (Int × Int × Int × Int)}
attribute [local go_sem] row4 get_some4 get_someT get_someL rowT rowL rowsK_rT rowsK_rL rowsK_r2 rowsK_nil' rowsK_cons' not_isEmpty_nil Bool.false_or
/-- The span that is asked for: are both shearers, in order? -/
def orderB (b1 b2 : Bool) (i j : Int) : Bool := b1 && b2 && decide (i ≤ j)
theorem r21d_err {b1 b2 : Bool} {e : Int} {rows : List (List PV)} {i j : Int} (hV1 : FunOK Try.prog 53 [tyR n most strays calls, .one (iP i)] (.one (.one (.v (.bool b1))))) (hV2 : FunOK Try.prog 53 [tyR n most strays calls, .one (iP j)] (.one (.one (.v (.bool b2))))) (hT : FunOK Try.prog 52 [tyR n most strays calls, .one (.v (.bool (orderB b1 b2 i j)))] (.tup [.one (.sl rows), .one (iP e)])) (he : e ≠ 0) :
    FunOK Try.prog 21 [tyR n most strays calls, .one (iP i), .one (iP j)] (.tup [.agg [iP 0, iP 0], .one (iP e)]) := by
  simp only [tyR] at hV1 hV2 hT
  refine fun_ok (nt := 52) (rs := [.cell 6 27, .tmp 7]) Try.func21 rfl rfl rfl (by simp) fun Z w0 => ?_; simp only [initFr, avR, List.map_cons, List.map_nil]
  simp only [tyR, List.map_cons, List.map_nil]
  cases b1
  · have hT : FunOK Try.prog 52 [.agg [iP n, iP most, .sl (strays.map row2), .sl (calls.map row4)], .one (.v (.bool false))] (.tup [.one (.sl rows), .one (iP e)]) := hT
    refine tw ?_; try with_reducible intro QQ hQQ
    (refine cD 53 rfl rfl rfl (hV1) Try.func53 rfl ?_); refine td ?_; try clear hQQ QQ
    ((refine cG 52 rfl rfl rfl (hT) Try.func52 rfl ?_); refine tv ?_; try clear hQQ QQ); refine tw ?_; try with_reducible intro QQ hQQ
    refine ti ?_; try clear hQQ QQ
    refine tw ?_; try with_reducible intro QQ hQQ
    refine aw_ret ?_; refine ⟨.inr rfl, ?_⟩; simp only [resA, res1, go_sem, ↓reduceIte]
  · cases b2
    · have hT : FunOK Try.prog 52 [.agg [iP n, iP most, .sl (strays.map row2), .sl (calls.map row4)], .one (.v (.bool false))] (.tup [.one (.sl rows), .one (iP e)]) := hT
      refine tw ?_; try with_reducible intro QQ hQQ
      (refine cD 53 rfl rfl rfl (hV1) Try.func53 rfl ?_); refine td ?_; try clear hQQ QQ
      (refine cD 53 rfl rfl rfl (hV2) Try.func53 rfl ?_); refine td ?_; try clear hQQ QQ
      ((refine cG 52 rfl rfl rfl (hT) Try.func52 rfl ?_); refine tv ?_; try clear hQQ QQ); refine tw ?_; try with_reducible intro QQ hQQ
      refine ti ?_; try clear hQQ QQ
      refine tw ?_; try with_reducible intro QQ hQQ
      refine aw_ret ?_; refine ⟨.inr rfl, ?_⟩; simp only [resA, res1, go_sem, ↓reduceIte]
    · have hT : FunOK Try.prog 52 [.agg [iP n, iP most, .sl (strays.map row2), .sl (calls.map row4)], .one (.v (.bool (decide (i ≤ j))))] (.tup [.one (.sl rows), .one (iP e)]) := hT
      refine tw ?_; try with_reducible intro QQ hQQ
      (refine cD 53 rfl rfl rfl (hV1) Try.func53 rfl ?_); refine td ?_; try clear hQQ QQ
      (refine cD 53 rfl rfl rfl (hV2) Try.func53 rfl ?_); refine td ?_; try clear hQQ QQ
      ((refine cG 52 rfl rfl rfl (hT) Try.func52 rfl ?_); refine tv ?_; try clear hQQ QQ); refine tw ?_; try with_reducible intro QQ hQQ
      refine ti ?_; try clear hQQ QQ
      refine tw ?_; try with_reducible intro QQ hQQ
      refine aw_ret ?_; refine ⟨.inr rfl, ?_⟩; simp only [resA, res1, go_sem, ↓reduceIte]
theorem r21d_ok {N : Nat} {L : List (List Int × List Int)} {i j : Nat} (hij : i ≤ j) (hj : j < N) (h5 : N ≤ 5) (hV1 : FunOK Try.prog 53 [tyR n most strays calls, .one (iP i)] (.one (.one (.v (.bool true))))) (hV2 : FunOK Try.prog 53 [tyR n most strays calls, .one (iP j)] (.one (.one (.v (.bool true))))) (hT : FunOK Try.prog 52 [tyR n most strays calls, .one (.v (.bool true))] (.tup [.one (.sl (L.map rowT)), .one (iP 0)])) (hL : L ≠ []) (hlen : L.length ≤ 100000) (hG : ∀ t ∈ L, GoodT N t) :
    FunOK Try.prog 21 [tyR n most strays calls, .one (iP i), .one (iP j)] (.tup [.agg [iP (hullF ((numsG (fun x _ => sumT x (j + 1) - sumT x i) L).getD 0 0) (numsG (fun x _ => sumT x (j + 1) - sumT x i) L)).1, iP (hullF ((numsG (fun x _ => sumT x (j + 1) - sumT x i) L).getD 0 0) (numsG (fun x _ => sumT x (j + 1) - sumT x i) L)).2], .one (iP 0)]) := by
  have hh := ok_hull54 (l := numsG (fun x _ => sumT x (j + 1) - sumT x i) L) (by intro hn; exact hL (by simpa [numsG] using hn)) (by rw [nums_len]; exact hlen)
  simp only [tyR] at hV1 hV2 hT
  have hijI : (i : Int) ≤ (j : Int) := by omega
  refine fun_ok (nt := 52) (rs := [.cell 6 27, .tmp 7]) Try.func21 rfl rfl rfl (by simp) fun Z w0 => ?_; simp only [initFr, avR, List.map_cons, List.map_nil]
  simp only [tyR, List.map_cons, List.map_nil]
  refine tw ?_; try with_reducible intro QQ hQQ
  (refine cD 53 rfl rfl rfl (hV1) Try.func53 rfl ?_); refine td ?_; try clear hQQ QQ
  (refine cD 53 rfl rfl rfl (hV2) Try.func53 rfl ?_); refine td ?_; try clear hQQ QQ
  ((refine cG 52 rfl rfl rfl (hT) Try.func52 rfl ?_); refine tv ?_; try clear hQQ QQ); refine tw ?_; try with_reducible intro QQ hQQ
  refine ti ?_; try clear hQQ QQ
  refine tw ?_; try with_reducible intro QQ hQQ
  refine aw_weak (weak_own 10 3 1 (by simp (disch := first | decide | omega) only [go_sem, ↓reduceIte]; try rfl)) ?_
  refine aw_weak (weak_keep [1, 2, 6, 8, 10, 11] (by simp only [go_sem, ↓reduceIte]; rfl)) ?_
  refine aw_loop_ov (ι := { k : Nat // k ≤ L.length }) (fun k => [(11, iA k.1), (10, .one (.own 2 k.1))]) (fun k => [(2, .arr 3 1 ((numsG (fun x _ => sumT x (j + 1) - sumT x i) (L.take k.1)).map row1) true)]) (fun k => L.length - k.1) ⟨0, by omega⟩ (by first | rfl | (simp only [go_sem, ↓reduceIte]; first | done | rfl | (simp; try rfl))) ?_
  rintro ⟨k, hk⟩
  simp (disch := decide) only [ov, ovL, AL.get_nil, AL.get_eq, AL.get_ne, Option.getD_some, Option.getD_none]
  by_cases hkl : k < L.length
  · have hGt := hG _ (mem_of_getD (d := ([], [])) hkl)
    obtain ⟨⟨X, Y⟩, hXY⟩ : ∃ t, L.getD k ([], []) = t := ⟨_, rfl⟩
    rw [hXY] at hGt
    have e1 := nums_succ (fun x _ => sumT x (j + 1) - sumT x i) hkl hXY
    have hnl : (numsG (fun x _ => sumT x (j + 1) - sumT x i) (L.take k)).length = k := by rw [nums_len, List.length_take]; omega
    have hS := ok_Sum67 hGt h5 hij hj
    simp only [rowT] at hS
    generalize hQ : numsG (fun x _ => sumT x (j + 1) - sumT x i) (L.take k) = Q at *
    generalize sumT (fX X) (j + 1) - sumT (fX X) i = v at *
    (repeat (first | apply aw_seq | apply aw_block | apply aw_skip | apply aw_label | apply aw_exit | ((first | refine aw_region (hideO fun QQ hQQ => ?_) | refine aw_draw mixed (hideD fun QQ hQQ => ?_)); simp (maxSteps := 400000) (disch := first | decide | omega) only [hXY, go_sem, ↓reduceIte]; try (first | with_reducible refine unhide hQQ ?_ | refine ⟨by kernel_rfl, unhide hQQ ?_⟩); clear hQQ QQ) | with_reducible first | apply then_n | apply block_n | apply then_x | apply then_r | apply nog_n | apply nog_r | apply block_r | apply block_e (by decide) | apply block_x (by decide)))
    refine aw_cond2 (by simp (disch := first | decide | omega) only [hXY, go_sem, ↓reduceIte]; rfl) ?_; first | refine .inl ⟨by first | rfl | exact decide_eq_true (by omega) | exact decide_eq_true (by assumption) | (simp (disch := first | decide | omega) only [if_pos_d, if_neg_d, decide_eq_true_eq, Bool.not_eq_true', decide_eq_false_iff_not]; omega), ?_⟩ | refine .inr ⟨by first | rfl | exact decide_eq_false (by omega) | exact decide_eq_false (by assumption) | (simp (disch := first | decide | omega) only [if_pos_d, if_neg_d, decide_eq_true_eq, Bool.not_eq_true', decide_eq_false_iff_not]; omega), ?_⟩
    (repeat (first | apply aw_seq | apply aw_block | apply aw_skip | apply aw_label | apply aw_exit | ((first | refine aw_region (hideO fun QQ hQQ => ?_) | refine aw_draw mixed (hideD fun QQ hQQ => ?_)); simp (maxSteps := 400000) (disch := first | decide | omega) only [hXY, go_sem, ↓reduceIte]; try (first | with_reducible refine unhide hQQ ?_ | refine ⟨by kernel_rfl, unhide hQQ ?_⟩); clear hQQ QQ) | with_reducible first | apply then_n | apply block_n | apply then_x | apply then_r | apply nog_n | apply nog_r | apply block_r | apply block_e (by decide) | apply block_x (by decide)))
    ((refine callO_ok rfl rfl 67 true rfl (by simp (disch := first | decide | omega) only [hXY, go_sem, ↓reduceIte]; try rfl) (fun _ => rfl) (hS) Try.func67 rfl (by decide) ?_); simp (maxSteps := 400000) (disch := first | decide | omega) only [hXY, go_sem, ↓reduceIte]; try (with_reducible refine unhide hQQ ?_; clear hQQ QQ)); (repeat (first | apply aw_seq | apply aw_block | apply aw_skip | apply aw_label | apply aw_exit | ((first | refine aw_region (hideO fun QQ hQQ => ?_) | refine aw_draw mixed (hideD fun QQ hQQ => ?_)); simp (maxSteps := 400000) (disch := first | decide | omega) only [hXY, go_sem, ↓reduceIte]; try (first | with_reducible refine unhide hQQ ?_ | refine ⟨by kernel_rfl, unhide hQQ ?_⟩); clear hQQ QQ) | with_reducible first | apply then_n | apply block_n | apply then_x | apply then_r | apply nog_n | apply nog_r | apply block_r | apply block_e (by decide) | apply block_x (by decide)))
    refine ⟨⟨k + 1, by omega⟩, ?_, weak_round ?_ (by first | rfl | (simp only [hXY, go_sem, ↓reduceIte]))⟩
    rotate_left
    · simp only [ov, ovL, e1]
      simp only [hXY, go_sem, ↓reduceIte]
      all_goals (try simp [row1, hnl, fX])
    · simp only; omega
  · have hke : k = L.length := by omega
    subst hke
    rw [List.take_length]
    have htk : List.take L.length (List.map row1 (numsG (fun x _ => sumT x (j + 1) - sumT x i) L)) = List.map row1 (numsG (fun x _ => sumT x (j + 1) - sumT x i) L) := List.take_of_length_le (by simp [nums_len])
    generalize numsG (fun x _ => sumT x (j + 1) - sumT x i) L = l at *
    (repeat (first | apply aw_seq | apply aw_block | apply aw_skip | apply aw_label | apply aw_exit | ((first | refine aw_region (hideO fun QQ hQQ => ?_) | refine aw_draw mixed (hideD fun QQ hQQ => ?_)); simp (maxSteps := 400000) (disch := first | decide | omega) only [htk, go_sem, ↓reduceIte]; try (first | with_reducible refine unhide hQQ ?_ | refine ⟨by kernel_rfl, unhide hQQ ?_⟩); clear hQQ QQ) | with_reducible first | apply then_n | apply block_n | apply then_x | apply then_r | apply nog_n | apply nog_r | apply block_r | apply block_e (by decide) | apply block_x (by decide)))
    refine aw_cond2 (by simp (disch := first | decide | omega) only [htk, go_sem, ↓reduceIte]; rfl) ?_; first | refine .inl ⟨by first | rfl | exact decide_eq_true (by omega) | exact decide_eq_true (by assumption) | (simp (disch := first | decide | omega) only [if_pos_d, if_neg_d, decide_eq_true_eq, Bool.not_eq_true', decide_eq_false_iff_not]; omega), ?_⟩ | refine .inr ⟨by first | rfl | exact decide_eq_false (by omega) | exact decide_eq_false (by assumption) | (simp (disch := first | decide | omega) only [if_pos_d, if_neg_d, decide_eq_true_eq, Bool.not_eq_true', decide_eq_false_iff_not]; omega), ?_⟩
    (repeat (first | apply aw_seq | apply aw_block | apply aw_skip | apply aw_label | apply aw_exit | ((first | refine aw_region (hideO fun QQ hQQ => ?_) | refine aw_draw mixed (hideD fun QQ hQQ => ?_)); simp (maxSteps := 400000) (disch := first | decide | omega) only [htk, go_sem, ↓reduceIte]; try (first | with_reducible refine unhide hQQ ?_ | refine ⟨by kernel_rfl, unhide hQQ ?_⟩); clear hQQ QQ) | with_reducible first | apply then_n | apply block_n | apply then_x | apply then_r | apply nog_n | apply nog_r | apply block_r | apply block_e (by decide) | apply block_x (by decide)))
    ((refine callO_ok rfl rfl 54 true rfl (by simp (disch := first | decide | omega) only [htk, go_sem, ↓reduceIte]; try rfl) (fun _ => rfl) (hh) Try.func54 rfl (by decide) ?_); simp (maxSteps := 400000) (disch := first | decide | omega) only [htk, go_sem, ↓reduceIte]; try (with_reducible refine unhide hQQ ?_; clear hQQ QQ)); (repeat (first | apply aw_seq | apply aw_block | apply aw_skip | apply aw_label | apply aw_exit | ((first | refine aw_region (hideO fun QQ hQQ => ?_) | refine aw_draw mixed (hideD fun QQ hQQ => ?_)); simp (maxSteps := 400000) (disch := first | decide | omega) only [htk, go_sem, ↓reduceIte]; try (first | with_reducible refine unhide hQQ ?_ | refine ⟨by kernel_rfl, unhide hQQ ?_⟩); clear hQQ QQ) | with_reducible first | apply then_n | apply block_n | apply then_x | apply then_r | apply nog_n | apply nog_r | apply block_r | apply block_e (by decide) | apply block_x (by decide)))
    refine aw_ret ?_; refine ⟨.inr rfl, ?_⟩; simp only [resA, res1, go_sem, ↓reduceIte]
theorem r23d_err {vb : Bool} {e : Int} {rows : List (List PV)} {c : Int × Int × Int × Int} (hV : FunOK Try.prog 72 [tyR n most strays calls, .agg (row4 c)] (.one (.one (.v (.bool vb))))) (hT : FunOK Try.prog 52 [tyR n most strays calls, .one (.v (.bool vb))] (.tup [.one (.sl rows), .one (iP e)])) (he : e ≠ 0) :
    FunOK Try.prog 23 [tyR n most strays calls, .agg (row4 c)] (.tup [.one (iP 0), .one (iP e)]) := by
  simp only [tyR, row4] at hV hT ⊢
  refine fun_ok (nt := 48) (rs := [.tmp 4, .tmp 5]) Try.func23 rfl rfl rfl (by simp) fun Z w0 => ?_; simp only [initFr, avR, List.map_cons, List.map_nil]
  try simp only [List.map_cons, List.map_nil]
  refine tw ?_; try with_reducible intro QQ hQQ
  (refine cD 72 rfl rfl rfl (hV) Try.func72 rfl ?_); refine td ?_; try clear hQQ QQ
  ((refine cG 52 rfl rfl rfl (hT) Try.func52 rfl ?_); refine tv ?_; try clear hQQ QQ); refine tw ?_; try with_reducible intro QQ hQQ
  refine ti ?_; try clear hQQ QQ
  refine tw ?_; try with_reducible intro QQ hQQ
  refine aw_ret ?_; refine ⟨.inr rfl, ?_⟩; simp only [resA, res1, go_sem, ↓reduceIte]
/-- How many are so. -/
def cntP (p : (List Int × List Int) → Bool) (L : List (List Int × List Int)) : Nat := (L.filter p).length
theorem cntP_succ (p : (List Int × List Int) → Bool) {L : List (List Int × List Int)} {i : Nat} (h : i < L.length) {t : List Int × List Int} (ht : L.getD i ([], []) = t) : cntP p (L.take (i + 1)) = cntP p (L.take i) + (p t).toNat := by
  have e1 : L.take (i + 1) = L.take i ++ [L.getD i ([], [])] := by
    rw [List.take_succ, List.getElem?_eq_getElem h, List.getD_eq_getElem?_getD, List.getElem?_eq_getElem h]; rfl
  unfold cntP
  rw [e1, ht, List.filter_append, List.length_append, List.filter_cons, List.filter_nil]
  cases p t <;> rfl
theorem cntP_le (p : (List Int × List Int) → Bool) (L : List (List Int × List Int)) : cntP p L ≤ L.length := List.length_filter_le _ _
theorem r23d_ok {N : Nat} {L : List (List Int × List Int)} {c : Int × Int × Int × Int} (h1 : 1 ≤ N) (h5 : N ≤ 5) (hc : isCallB N c = true) (hV : FunOK Try.prog 72 [tyR n most strays calls, .agg (row4 c)] (.one (.one (.v (.bool true))))) (hT : FunOK Try.prog 52 [tyR n most strays calls, .one (.v (.bool true))] (.tup [.one (.sl (L.map rowT)), .one (iP 0)])) (hL : L ≠ []) (hlen : L.length ≤ 100000) (hG : ∀ t ∈ L, GoodT N t) :
    FunOK Try.prog 23 [tyR n most strays calls, .agg (row4 c)] (.tup [.one (iP (if cntP (fun t => inB (cntG N t c) c.2.2.1 c.2.2.2) L = L.length then 2 else if cntP (fun t => inB (cntG N t c) c.2.2.1 c.2.2.2) L = 0 then 0 else 1)), .one (iP 0)]) := by
  have hC := fun t (ht : t ∈ L) => ok_Counts74 (hG t ht) h1 h5 hc
  obtain ⟨p, hp⟩ : ∃ p : (List Int × List Int) → Bool, (fun t => inB (cntG N t c) c.2.2.1 c.2.2.2) = p := ⟨_, rfl⟩
  have hpt : ∀ t, p t = inB (cntG N t c) c.2.2.1 c.2.2.2 := fun t => by rw [← hp]
  rw [hp]
  obtain ⟨ck, cat, clo, chi⟩ := c
  simp only [tyR, row4, rowT] at hV hT hC ⊢
  dsimp only at hpt
  refine fun_ok (nt := 48) (rs := [.tmp 4, .tmp 5]) Try.func23 rfl rfl rfl (by simp) fun Z w0 => ?_; simp only [initFr, avR, List.map_cons, List.map_nil]
  try simp only [List.map_cons, List.map_nil]
  refine tw ?_; try with_reducible intro QQ hQQ
  (refine cD 72 rfl rfl rfl (hV) Try.func72 rfl ?_); refine td ?_; try clear hQQ QQ
  ((refine cG 52 rfl rfl rfl (hT) Try.func52 rfl ?_); refine tv ?_; try clear hQQ QQ); refine tw ?_; try with_reducible intro QQ hQQ
  refine ti ?_; try clear hQQ QQ
  refine tw ?_; try with_reducible intro QQ hQQ
  refine aw_weak (weak_keep [3, 6, 8, 9] (by simp only [go_sem, ↓reduceIte]; rfl)) ?_
  refine aw_loop_ov (ι := { k : Nat // k ≤ L.length }) (fun k => [(9, iA k.1), (8, iA (cntP p (L.take k.1)))]) (fun _ => []) (fun k => L.length - k.1) ⟨0, by omega⟩ (by first | rfl | (simp only [go_sem, ↓reduceIte]; first | done | rfl | (simp; try rfl))) ?_
  rintro ⟨k, hk⟩
  simp (disch := decide) only [ov, ovL, AL.get_nil, AL.get_eq, AL.get_ne, Option.getD_some, Option.getD_none]
  have hcl := cntP_le p (L.take k)
  rw [List.length_take] at hcl
  by_cases hkl : k < L.length
  · have hCt := hC _ (mem_of_getD (d := ([], [])) hkl)
    obtain ⟨⟨X, Y⟩, hXY⟩ : ∃ t, L.getD k ([], []) = t := ⟨_, rfl⟩
    have e1 := cntP_succ p hkl hXY
    rw [hXY] at hCt
    have hpx := hpt (X, Y)
    generalize cntG N (X, Y) (ck, cat, clo, chi) = v at *
    have hin := ok_in73 v clo chi
    rw [← hpx] at hin
    dsimp only at hCt
    generalize cntP p (L.take k) = q at *
    cases hb : p (X, Y)
    · rw [hb] at hin e1
      rw [show q + Bool.toNat false = q from rfl] at e1
      (repeat (first | apply aw_seq | apply aw_block | apply aw_skip | apply aw_label | apply aw_exit | ((first | refine aw_region (hideO fun QQ hQQ => ?_) | refine aw_draw mixed (hideD fun QQ hQQ => ?_)); simp (maxSteps := 400000) (disch := first | decide | omega) only [hXY, go_sem, ↓reduceIte]; try (first | with_reducible refine unhide hQQ ?_ | refine ⟨by kernel_rfl, unhide hQQ ?_⟩); clear hQQ QQ) | with_reducible first | apply then_n | apply block_n | apply then_x | apply then_r | apply nog_n | apply nog_r | apply block_r | apply block_e (by decide) | apply block_x (by decide)))
      refine aw_cond2 (by simp (disch := first | decide | omega) only [hXY, go_sem, ↓reduceIte]; rfl) ?_; first | refine .inl ⟨by first | rfl | exact decide_eq_true (by omega) | exact decide_eq_true (by assumption) | (simp (disch := first | decide | omega) only [if_pos_d, if_neg_d, decide_eq_true_eq, Bool.not_eq_true', decide_eq_false_iff_not]; omega), ?_⟩ | refine .inr ⟨by first | rfl | exact decide_eq_false (by omega) | exact decide_eq_false (by assumption) | (simp (disch := first | decide | omega) only [if_pos_d, if_neg_d, decide_eq_true_eq, Bool.not_eq_true', decide_eq_false_iff_not]; omega), ?_⟩
      (repeat (first | apply aw_seq | apply aw_block | apply aw_skip | apply aw_label | apply aw_exit | ((first | refine aw_region (hideO fun QQ hQQ => ?_) | refine aw_draw mixed (hideD fun QQ hQQ => ?_)); simp (maxSteps := 400000) (disch := first | decide | omega) only [hXY, go_sem, ↓reduceIte]; try (first | with_reducible refine unhide hQQ ?_ | refine ⟨by kernel_rfl, unhide hQQ ?_⟩); clear hQQ QQ) | with_reducible first | apply then_n | apply block_n | apply then_x | apply then_r | apply nog_n | apply nog_r | apply block_r | apply block_e (by decide) | apply block_x (by decide)))
      (refine callD_ok rfl rfl 74 true rfl (by simp (disch := first | decide | omega) only [hXY, go_sem, ↓reduceIte]; try rfl) (fun _ => rfl) (hCt) Try.func74 rfl (by decide) ?_); simp (maxSteps := 400000) (disch := first | decide | omega) only [hXY, go_sem, ↓reduceIte]; (try (refine ⟨by kernel_rfl, unhide hQQ ?_⟩; clear hQQ QQ; (repeat with_reducible first | apply then_n | apply block_n | apply then_x | apply then_r | apply nog_n | apply nog_r | apply block_r | apply block_e (by decide) | apply block_x (by decide))))
      (refine callD_ok rfl rfl 73 true rfl (by simp (disch := first | decide | omega) only [hXY, go_sem, ↓reduceIte]; try rfl) (fun _ => rfl) (hin) Try.func73 rfl (by decide) ?_); simp (maxSteps := 400000) (disch := first | decide | omega) only [hXY, go_sem, ↓reduceIte]; (try (refine ⟨by kernel_rfl, unhide hQQ ?_⟩; clear hQQ QQ; (repeat with_reducible first | apply then_n | apply block_n | apply then_x | apply then_r | apply nog_n | apply nog_r | apply block_r | apply block_e (by decide) | apply block_x (by decide))))
      (repeat (first | apply aw_seq | apply aw_block | apply aw_skip | apply aw_label | apply aw_exit | ((first | refine aw_region (hideO fun QQ hQQ => ?_) | refine aw_draw mixed (hideD fun QQ hQQ => ?_)); simp (maxSteps := 400000) (disch := first | decide | omega) only [hXY, go_sem, ↓reduceIte]; try (first | with_reducible refine unhide hQQ ?_ | refine ⟨by kernel_rfl, unhide hQQ ?_⟩); clear hQQ QQ) | with_reducible first | apply then_n | apply block_n | apply then_x | apply then_r | apply nog_n | apply nog_r | apply block_r | apply block_e (by decide) | apply block_x (by decide)))
      refine aw_cond2 (by simp (disch := first | decide | omega) only [hXY, go_sem, ↓reduceIte]; rfl) ?_; first | refine .inl ⟨by first | rfl | exact decide_eq_true (by omega) | exact decide_eq_true (by assumption) | (simp (disch := first | decide | omega) only [if_pos_d, if_neg_d, decide_eq_true_eq, Bool.not_eq_true', decide_eq_false_iff_not]; omega), ?_⟩ | refine .inr ⟨by first | rfl | exact decide_eq_false (by omega) | exact decide_eq_false (by assumption) | (simp (disch := first | decide | omega) only [if_pos_d, if_neg_d, decide_eq_true_eq, Bool.not_eq_true', decide_eq_false_iff_not]; omega), ?_⟩
      (repeat (first | apply aw_seq | apply aw_block | apply aw_skip | apply aw_label | apply aw_exit | ((first | refine aw_region (hideO fun QQ hQQ => ?_) | refine aw_draw mixed (hideD fun QQ hQQ => ?_)); simp (maxSteps := 400000) (disch := first | decide | omega) only [hXY, go_sem, ↓reduceIte]; try (first | with_reducible refine unhide hQQ ?_ | refine ⟨by kernel_rfl, unhide hQQ ?_⟩); clear hQQ QQ) | with_reducible first | apply then_n | apply block_n | apply then_x | apply then_r | apply nog_n | apply nog_r | apply block_r | apply block_e (by decide) | apply block_x (by decide)))
      refine ⟨⟨k + 1, by omega⟩, ?_, weak_round ?_ (by first | rfl | (simp only [hXY, go_sem, ↓reduceIte]))⟩
      rotate_left
      · simp only [e1]
        (simp only [hXY, go_sem, ↓reduceIte]; try rfl)
      · simp only; omega
    · rw [hb] at hin e1
      rw [show q + Bool.toNat true = q + 1 from rfl] at e1
      (repeat (first | apply aw_seq | apply aw_block | apply aw_skip | apply aw_label | apply aw_exit | ((first | refine aw_region (hideO fun QQ hQQ => ?_) | refine aw_draw mixed (hideD fun QQ hQQ => ?_)); simp (maxSteps := 400000) (disch := first | decide | omega) only [hXY, go_sem, ↓reduceIte]; try (first | with_reducible refine unhide hQQ ?_ | refine ⟨by kernel_rfl, unhide hQQ ?_⟩); clear hQQ QQ) | with_reducible first | apply then_n | apply block_n | apply then_x | apply then_r | apply nog_n | apply nog_r | apply block_r | apply block_e (by decide) | apply block_x (by decide)))
      refine aw_cond2 (by simp (disch := first | decide | omega) only [hXY, go_sem, ↓reduceIte]; rfl) ?_; first | refine .inl ⟨by first | rfl | exact decide_eq_true (by omega) | exact decide_eq_true (by assumption) | (simp (disch := first | decide | omega) only [if_pos_d, if_neg_d, decide_eq_true_eq, Bool.not_eq_true', decide_eq_false_iff_not]; omega), ?_⟩ | refine .inr ⟨by first | rfl | exact decide_eq_false (by omega) | exact decide_eq_false (by assumption) | (simp (disch := first | decide | omega) only [if_pos_d, if_neg_d, decide_eq_true_eq, Bool.not_eq_true', decide_eq_false_iff_not]; omega), ?_⟩
      (repeat (first | apply aw_seq | apply aw_block | apply aw_skip | apply aw_label | apply aw_exit | ((first | refine aw_region (hideO fun QQ hQQ => ?_) | refine aw_draw mixed (hideD fun QQ hQQ => ?_)); simp (maxSteps := 400000) (disch := first | decide | omega) only [hXY, go_sem, ↓reduceIte]; try (first | with_reducible refine unhide hQQ ?_ | refine ⟨by kernel_rfl, unhide hQQ ?_⟩); clear hQQ QQ) | with_reducible first | apply then_n | apply block_n | apply then_x | apply then_r | apply nog_n | apply nog_r | apply block_r | apply block_e (by decide) | apply block_x (by decide)))
      (refine callD_ok rfl rfl 74 true rfl (by simp (disch := first | decide | omega) only [hXY, go_sem, ↓reduceIte]; try rfl) (fun _ => rfl) (hCt) Try.func74 rfl (by decide) ?_); simp (maxSteps := 400000) (disch := first | decide | omega) only [hXY, go_sem, ↓reduceIte]; (try (refine ⟨by kernel_rfl, unhide hQQ ?_⟩; clear hQQ QQ; (repeat with_reducible first | apply then_n | apply block_n | apply then_x | apply then_r | apply nog_n | apply nog_r | apply block_r | apply block_e (by decide) | apply block_x (by decide))))
      (refine callD_ok rfl rfl 73 true rfl (by simp (disch := first | decide | omega) only [hXY, go_sem, ↓reduceIte]; try rfl) (fun _ => rfl) (hin) Try.func73 rfl (by decide) ?_); simp (maxSteps := 400000) (disch := first | decide | omega) only [hXY, go_sem, ↓reduceIte]; (try (refine ⟨by kernel_rfl, unhide hQQ ?_⟩; clear hQQ QQ; (repeat with_reducible first | apply then_n | apply block_n | apply then_x | apply then_r | apply nog_n | apply nog_r | apply block_r | apply block_e (by decide) | apply block_x (by decide))))
      (repeat (first | apply aw_seq | apply aw_block | apply aw_skip | apply aw_label | apply aw_exit | ((first | refine aw_region (hideO fun QQ hQQ => ?_) | refine aw_draw mixed (hideD fun QQ hQQ => ?_)); simp (maxSteps := 400000) (disch := first | decide | omega) only [hXY, go_sem, ↓reduceIte]; try (first | with_reducible refine unhide hQQ ?_ | refine ⟨by kernel_rfl, unhide hQQ ?_⟩); clear hQQ QQ) | with_reducible first | apply then_n | apply block_n | apply then_x | apply then_r | apply nog_n | apply nog_r | apply block_r | apply block_e (by decide) | apply block_x (by decide)))
      refine aw_cond2 (by simp (disch := first | decide | omega) only [hXY, go_sem, ↓reduceIte]; rfl) ?_; first | refine .inl ⟨by first | rfl | exact decide_eq_true (by omega) | exact decide_eq_true (by assumption) | (simp (disch := first | decide | omega) only [if_pos_d, if_neg_d, decide_eq_true_eq, Bool.not_eq_true', decide_eq_false_iff_not]; omega), ?_⟩ | refine .inr ⟨by first | rfl | exact decide_eq_false (by omega) | exact decide_eq_false (by assumption) | (simp (disch := first | decide | omega) only [if_pos_d, if_neg_d, decide_eq_true_eq, Bool.not_eq_true', decide_eq_false_iff_not]; omega), ?_⟩
      (repeat (first | apply aw_seq | apply aw_block | apply aw_skip | apply aw_label | apply aw_exit | ((first | refine aw_region (hideO fun QQ hQQ => ?_) | refine aw_draw mixed (hideD fun QQ hQQ => ?_)); simp (maxSteps := 400000) (disch := first | decide | omega) only [hXY, go_sem, ↓reduceIte]; try (first | with_reducible refine unhide hQQ ?_ | refine ⟨by kernel_rfl, unhide hQQ ?_⟩); clear hQQ QQ) | with_reducible first | apply then_n | apply block_n | apply then_x | apply then_r | apply nog_n | apply nog_r | apply block_r | apply block_e (by decide) | apply block_x (by decide)))
      refine ⟨⟨k + 1, by omega⟩, ?_, weak_round ?_ (by first | rfl | (simp only [hXY, go_sem, ↓reduceIte]))⟩
      rotate_left
      · simp only [e1]
        (simp only [hXY, go_sem, ↓reduceIte]; try rfl)
      · simp only; omega
  · have hke : k = L.length := by omega
    subst hke
    have hpos : 0 < L.length := List.length_pos_iff.2 hL
    rw [List.take_length]
    generalize cntP p L = q at *
    by_cases hq : q = L.length
    · rw [if_pos hq]
      refine tw ?_; try with_reducible intro QQ hQQ
      refine ti ?_; try clear hQQ QQ
      refine tw ?_; try with_reducible intro QQ hQQ
      refine ti ?_; try clear hQQ QQ
      refine tw ?_; try with_reducible intro QQ hQQ
      refine aw_ret ?_; refine ⟨.inr rfl, ?_⟩; simp only [resA, res1, go_sem, ↓reduceIte]
    · rw [if_neg hq]
      by_cases hq0 : q = 0
      · rw [if_pos hq0]
        refine tw ?_; try with_reducible intro QQ hQQ
        refine ti ?_; try clear hQQ QQ
        refine tw ?_; try with_reducible intro QQ hQQ
        refine ti ?_; try clear hQQ QQ
        refine tw ?_; try with_reducible intro QQ hQQ
        refine ti ?_; try clear hQQ QQ
        refine tw ?_; try with_reducible intro QQ hQQ
        refine aw_ret ?_; refine ⟨.inr rfl, ?_⟩; simp only [resA, res1, go_sem, ↓reduceIte]
      · rw [if_neg hq0]
        refine tw ?_; try with_reducible intro QQ hQQ
        refine ti ?_; try clear hQQ QQ
        refine tw ?_; try with_reducible intro QQ hQQ
        refine ti ?_; try clear hQQ QQ
        refine tw ?_; try with_reducible intro QQ hQQ
        refine ti ?_; try clear hQQ QQ
        refine tw ?_; try with_reducible intro QQ hQQ
        refine aw_ret ?_; refine ⟨.inr rfl, ?_⟩; simp only [resA, res1, go_sem, ↓reduceIte]
end
end Go.Proofs.Ytejbglbiefpagaa
