/- tally, the document's functions: all that there can be, walked. -/
import Derived.Test.YtejbglbiefpagaaTzE
import Derived.Test.YtejbglbiefpagaaKe
set_option linter.all false
namespace Go.Proofs.Ytejbglbiefpagaa
open Go Go.RowKit Go.Sh Go.Pv
set_option maxHeartbeats 4000000
set_option maxRecDepth 8000
set_option pp.maxSteps 60000
section
variable {N : Nat} {most : Int} {strays : List (Int × Int)} {calls : List (Int × Int × Int × Int)}
attribute [local go_sem] row4 get_some4 get_someT get_someL rowT rowL rowsK_rT rowsK_rL rowsK_r2 rowsK_nil' rowsK_cons' not_isEmpty_nil Bool.false_or
theorem ok_all91 (h : TOK N most strays calls) (hA : (listsA (List.replicate N (0, most))).length ≤ 100000) (hB : (listsA strays).length ≤ 100000) (hAB : (listsA (List.replicate N (0, most))).length * (listsA strays).length ≤ 100000) : FunOK Try.prog 91 [tyR N most strays calls] (.one (.one (.sl ((allG N most strays).map rowT)))) := by
  have n5 := h.n5
  have m0 := h.m0
  have m60 := h.m60
  have sl := h.sl
  have hs1 : ∀ i, i < (List.replicate N ((0 : Int), most)).length → -1000 ≤ ((List.replicate N ((0 : Int), most)).getD i (0, 0)).1 ∧ ((List.replicate N ((0 : Int), most)).getD i (0, 0)).1 ≤ ((List.replicate N ((0 : Int), most)).getD i (0, 0)).2 ∧ ((List.replicate N ((0 : Int), most)).getD i (0, 0)).2 ≤ 1000 := fun i hi => by
    rw [rep_getD (by simpa using hi)]; dsimp only; omega
  have hs2 : ∀ i, i < strays.length → -1000 ≤ (strays.getD i (0, 0)).1 ∧ (strays.getD i (0, 0)).1 ≤ (strays.getD i (0, 0)).2 ∧ (strays.getD i (0, 0)).2 ≤ 1000 := fun i hi => by
    have := span_of (h.st i hi); omega
  refine fun_ok (nt := 52) (rs := [.tmp 2]) Try.func91 rfl rfl rfl (by simp) fun Z w0 => ?_; simp only [initFr, avR, List.map_cons, List.map_nil]
  simp only [tyR, List.map_cons, List.map_nil]
  refine tw ?_; try with_reducible intro QQ hQQ
  refine aw_weak (weak_own 3 27 2 (by simp (disch := first | decide | omega) only [go_sem, ↓reduceIte]; try rfl)) ?_
  refine aw_weak (weak_keep [1, 3, 4] (by simp only [go_sem, ↓reduceIte]; rfl)) ?_
  refine aw_loop_ov (ι := { i : Nat // i ≤ N }) (fun i => [(4, iA i.1), (3, .one (.own 1 i.1))]) (fun i => [(1, .arr 27 2 ((List.replicate i.1 ((0 : Int), most)).map row2) true)]) (fun i => N - i.1) ⟨0, by omega⟩ (by first | rfl | (simp only [go_sem, ↓reduceIte]; first | done | rfl | (simp; try rfl))) ?_
  rintro ⟨i, hi⟩
  simp (disch := decide) only [ov, ovL, AL.get_nil, AL.get_eq, AL.get_ne, Option.getD_some, Option.getD_none]
  by_cases hiN : i < N
  · have e1 : List.replicate (i + 1) ((0 : Int), most) = List.replicate i (0, most) ++ [(0, most)] := List.replicate_succ'
    have e2 : (List.replicate i ((0 : Int), most)).length = i := by simp
    generalize List.replicate i ((0 : Int), most) = R at *
    refine tw ?_; try with_reducible intro QQ hQQ
    refine ti ?_; try clear hQQ QQ
    refine tw ?_; try with_reducible intro QQ hQQ
    refine ⟨⟨i + 1, by omega⟩, ?_, weak_round ?_ (by first | rfl | (simp only [go_sem, ↓reduceIte]))⟩
    rotate_left
    · simp only [ov, ovL, e1]
      simp only [go_sem, ↓reduceIte]
      all_goals (try simp [row2, e2])
    · simp only; omega
  have hie : i = N := by omega
  subst hie
  have hrl : (List.replicate i ((0 : Int), most)).length = i := by simp
  obtain ⟨R, hR⟩ : ∃ R, List.replicate i ((0 : Int), most) = R := ⟨_, rfl⟩
  unfold allG
  rw [hR] at hA hAB hs1 hrl ⊢
  refine tw ?_; try with_reducible intro QQ hQQ
  refine ti ?_; try clear hQQ QQ
  (refine aw_exit ?_); (repeat with_reducible first | apply then_n | apply block_n | apply then_x | apply then_r | apply nog_n | apply nog_r | apply block_r | apply block_e (by decide) | apply block_x (by decide))
  refine aw_weak (weak_dataS 3 rfl rfl) ?_
  rw [List.take_of_length_le (by simp [hrl])]
  simp only [AL.set]
  refine tw ?_; try with_reducible intro QQ hQQ
  refine callD_F [4] (.one (.own 4 (listsA R).length)) ((4, .arr 52 1 ((listsA R).map rowL) true) :: [(0, .box [.p (iP i), .p (iP most), .p (.sl (strays.map row2)), .p (.sl (calls.map row4))]), (1, .arr 27 2 (R.map row2) true)]) 5 rfl rfl (by simp (disch := first | decide | omega) only [go_sem, ↓reduceIte]; try rfl) (by simp (disch := first | decide | omega) only [go_sem, ↓reduceIte]; try rfl) Try.func108 rfl (by decide) ?_ (by dsimp only; omega) (by decide) ?_ ?_
  rotate_left 1
  · intro fr hk
    exact c_lists (by omega) hs1 hA
  rotate_left 1
  · intro id hid
    simp only [List.mem_cons, List.mem_nil_iff, or_false] at hid
    simp (disch := first | decide | omega) only [go_sem, ↓reduceIte]
  (refine td ?_; try clear hQQ QQ)
  refine callD_F [7] (.one (.own 7 (listsA strays).length)) ((7, .arr 52 1 ((listsA strays).map rowL) true) :: (4, .arr 52 1 ((listsA R).map rowL) true) :: [(0, .box [.p (iP i), .p (iP most), .p (.sl (strays.map row2)), .p (.sl (calls.map row4))]), (1, .arr 27 2 (R.map row2) true)]) 8 rfl rfl (by simp (disch := first | decide | omega) only [go_sem, ↓reduceIte]; try rfl) (by simp (disch := first | decide | omega) only [go_sem, ↓reduceIte]; try rfl) Try.func108 rfl (by decide) ?_ (by dsimp only; omega) (by decide) ?_ ?_
  rotate_left 1
  · intro fr hk
    exact c_lists (by omega) hs2 hB
  rotate_left 1
  · intro id hid
    simp only [List.mem_cons, List.mem_nil_iff, or_false] at hid
    simp (disch := first | decide | omega) only [go_sem, ↓reduceIte]
  (refine td ?_; try clear hQQ QQ)
  refine tw ?_; try with_reducible intro QQ hQQ
  refine aw_weak (weak_dataS 5 rfl rfl) ?_
  refine aw_weak (weak_dataS 6 rfl rfl) ?_
  rw [List.take_of_length_le (by simp), List.take_of_length_le (by simp)]
  refine aw_weak (weak_own 7 81 2 (by simp (disch := first | decide | omega) only [go_sem, ↓reduceIte]; try rfl)) ?_
  generalize listsA R = A at *
  generalize listsA strays = B at *
  refine aw_weak (weak_keep [5, 6, 7, 8] (by simp only [go_sem, ↓reduceIte]; rfl)) ?_
  refine aw_loop_ov (ι := { i : Nat // i ≤ A.length }) (fun i => [(8, iA i.1), (7, .one (.own 8 (pairs (A.take i.1) B).length))]) (fun i => [(8, .arr 81 2 ((pairs (A.take i.1) B).map rowT) true)]) (fun i => A.length - i.1) ⟨0, by omega⟩ (by first | rfl | (simp only [go_sem, ↓reduceIte]; first | done | rfl | (simp; try rfl))) ?_
  rintro ⟨j, hj⟩
  simp (disch := decide) only [ov, ovL, AL.get_nil, AL.get_eq, AL.get_ne, Option.getD_some, Option.getD_none]
  have hpl : (pairs (A.take j) B).length = j * B.length := by rw [pairs_len, List.length_take, Nat.min_eq_left hj]
  by_cases hjA : j < A.length
  · have hmul : j * B.length + B.length ≤ 100000 := by
      have : (j + 1) * B.length ≤ A.length * B.length := Nat.mul_le_mul_right _ hjA
      rw [Nat.succ_mul] at this; omega
    have e1 := pairs_take A B [] hjA
    obtain ⟨X, hX⟩ : ∃ X, A.getD j [] = X := ⟨_, rfl⟩
    rw [hX] at e1
    refine tw ?_; try with_reducible intro QQ hQQ
    refine ti ?_; try clear hQQ QQ
    refine tw ?_; try with_reducible intro QQ hQQ
    refine aw_weak (weak_keep [5, 6, 7, 8, 9] (by simp only [go_sem, ↓reduceIte]; rfl)) ?_
    refine aw_loop_ov (ι := { k : Nat // k ≤ B.length }) (fun k => [(9, iA k.1), (7, .one (.own 8 (pairs (A.take j) B ++ (B.take k.1).map fun y => (X, y)).length))]) (fun k => [(8, .arr 81 2 ((pairs (A.take j) B ++ (B.take k.1).map fun y => (X, y)).map rowT) true)]) (fun k => B.length - k.1) ⟨0, by omega⟩ (by first | rfl | (simp only [go_sem, ↓reduceIte]; first | done | rfl | (simp; try rfl))) ?_
    rintro ⟨k, hk⟩
    simp (disch := decide) only [ov, ovL, AL.get_nil, AL.get_eq, AL.get_ne, Option.getD_some, Option.getD_none]
    by_cases hkB : k < B.length
    · obtain ⟨Y, hY⟩ : ∃ Y, B.getD k [] = Y := ⟨_, rfl⟩
      have e2 : B.take (k + 1) = B.take k ++ [Y] := by
        rw [List.take_succ, List.getElem?_eq_getElem hkB, ← hY, List.getD_eq_getElem?_getD, List.getElem?_eq_getElem hkB]; rfl
      have e3 : (pairs (A.take j) B ++ (B.take (k + 1)).map fun y => (X, y)) = (pairs (A.take j) B ++ (B.take k).map fun y => (X, y)) ++ [(X, Y)] := by
        rw [e2]; simp
      have hQl : (pairs (A.take j) B ++ (B.take k).map fun y => (X, y)).length ≤ 99999 := by
        rw [List.length_append, hpl, List.length_map, List.length_take]; omega
      generalize (pairs (A.take j) B ++ (B.take k).map fun y => (X, y)) = Q at *
      clear e2 e1 hpl
      (repeat (first | apply aw_seq | apply aw_block | apply aw_skip | apply aw_label | apply aw_exit | ((first | refine aw_region (hideO fun QQ hQQ => ?_) | refine aw_draw mixed (hideD fun QQ hQQ => ?_)); simp (maxSteps := 400000) (disch := first | decide | omega) only [hX, hY, go_sem, ↓reduceIte]; try (first | with_reducible refine unhide hQQ ?_ | refine ⟨by kernel_rfl, unhide hQQ ?_⟩); clear hQQ QQ) | with_reducible first | apply then_n | apply block_n | apply then_x | apply then_r | apply nog_n | apply nog_r | apply block_r | apply block_e (by decide) | apply block_x (by decide)))
      refine aw_cond2 (by simp (disch := first | decide | omega) only [hX, hY, go_sem, ↓reduceIte]; rfl) ?_; first | refine .inl ⟨by first | rfl | exact decide_eq_true (by omega) | exact decide_eq_true (by assumption) | (simp (disch := first | decide | omega) only [if_pos_d, if_neg_d, decide_eq_true_eq, Bool.not_eq_true', decide_eq_false_iff_not]; omega), ?_⟩ | refine .inr ⟨by first | rfl | exact decide_eq_false (by omega) | exact decide_eq_false (by assumption) | (simp (disch := first | decide | omega) only [if_pos_d, if_neg_d, decide_eq_true_eq, Bool.not_eq_true', decide_eq_false_iff_not]; omega), ?_⟩
      (repeat (first | apply aw_seq | apply aw_block | apply aw_skip | apply aw_label | apply aw_exit | ((first | refine aw_region (hideO fun QQ hQQ => ?_) | refine aw_draw mixed (hideD fun QQ hQQ => ?_)); simp (maxSteps := 400000) (disch := first | decide | omega) only [hX, hY, go_sem, ↓reduceIte]; try (first | with_reducible refine unhide hQQ ?_ | refine ⟨by kernel_rfl, unhide hQQ ?_⟩); clear hQQ QQ) | with_reducible first | apply then_n | apply block_n | apply then_x | apply then_r | apply nog_n | apply nog_r | apply block_r | apply block_e (by decide) | apply block_x (by decide)))
      refine ⟨⟨k + 1, by omega⟩, ?_, weak_round ?_ (by first | rfl | (simp only [hX, hY, go_sem, ↓reduceIte]))⟩
      rotate_left
      · simp only [ov, ovL, e3]
        simp only [hX, hY, go_sem, ↓reduceIte]
        all_goals (try simp [rowT])
      · simp only; omega
    · have hkB2 : k = B.length := by omega
      subst hkB2
      rw [List.take_length, ← e1]
      refine tw ?_; try with_reducible intro QQ hQQ
      refine ti ?_; try clear hQQ QQ
      refine tw ?_; try with_reducible intro QQ hQQ
      (refine ⟨⟨j + 1, by omega⟩, ?_, weak_round (by simp only [go_sem, ↓reduceIte]; first | done | rfl) (by first | rfl | (simp only [go_sem, ↓reduceIte]))⟩; (simp only; omega))
  · have hjA2 : j = A.length := by omega
    subst hjA2
    rw [List.take_length]
    refine tw ?_; try with_reducible intro QQ hQQ
    refine ti ?_; try clear hQQ QQ
    refine tw ?_; try with_reducible intro QQ hQQ
    refine aw_ret ?_; refine ⟨.inr rfl, ?_⟩; simp only [resA, res1, go_sem, ↓reduceIte]
    try rw [List.take_of_length_le (by simp)]
    all_goals (try simp)
end
end Go.Proofs.Ytejbglbiefpagaa
