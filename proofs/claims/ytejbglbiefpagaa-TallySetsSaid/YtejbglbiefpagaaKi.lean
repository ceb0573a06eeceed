/- Ki: texts joined (TzF TzG). -/
import Derived.Test.YtejbglbiefpagaaKh
import Derived.Test.YtejbglbiefpagaaKe
set_option linter.all false
/- tally, the document's functions: all that there can be, walked. -/
namespace Go.Proofs.Ytejbglbiefpagaa
open Go Go.RowKit Go.Sh Go.Pv
set_option maxHeartbeats 4000000
set_option maxRecDepth 8000
set_option pp.maxSteps 60000
section
variable {N : Nat} {most : Int} {strays : List (Int × Int)} {calls : List (Int × Int × Int × Int)}
attribute [local go_sem] row4 get_some4 get_someT get_someL rowT rowL rowsK_rT rowsK_rL rowsK_r2 rowsK_nil' rowsK_cons' not_isEmpty_nil Bool.false_or
theorem ok_all91 (h : TOK N most strays calls) (hA : (listsA (List.replicate N (0, most))).length ≤ 100000) (hB : (listsA strays).length ≤ 100000) (hAB : (listsA (List.replicate N (0, most))).length * (listsA strays).length ≤ 100000) : FunOK Try.prog 91 [tyR N most strays calls] (.one (.one (.sl ((allG N most strays).map rowT)))) := by
  have n5 := h.n5
  have m0 := h.m0
  have m60 := h.m60
  have sl := h.sl
  have hs1 : ∀ i, i < (List.replicate N ((0 : Int), most)).length → -1000 ≤ ((List.replicate N ((0 : Int), most)).getD i (0, 0)).1 ∧ ((List.replicate N ((0 : Int), most)).getD i (0, 0)).1 ≤ ((List.replicate N ((0 : Int), most)).getD i (0, 0)).2 ∧ ((List.replicate N ((0 : Int), most)).getD i (0, 0)).2 ≤ 1000 := fun i hi => by
    rw [rep_getD (by simpa using hi)]; dsimp only; omega
  have hs2 : ∀ i, i < strays.length → -1000 ≤ (strays.getD i (0, 0)).1 ∧ (strays.getD i (0, 0)).1 ≤ (strays.getD i (0, 0)).2 ∧ (strays.getD i (0, 0)).2 ≤ 1000 := fun i hi => by
    have := span_of (h.st i hi); omega
  refine fun_ok (nt := 52) (rs := [.tmp 2]) Try.func91 rfl rfl rfl (by simp) fun Z w0 => ?_; simp only [initFr, avR, List.map_cons, List.map_nil]
  simp only [tyR, List.map_cons, List.map_nil]
  refine tw ?_; try with_reducible intro QQ hQQ
  refine aw_weak (weak_own 3 27 2 (by simp (disch := first | decide | omega) only [go_sem, ↓reduceIte]; try rfl)) ?_
  refine aw_weak (weak_keep [1, 3, 4] (by simp only [go_sem, ↓reduceIte]; rfl)) ?_
  refine aw_loop_ov (ι := { i : Nat // i ≤ N }) (fun i => [(4, iA i.1), (3, .one (.own 1 i.1))]) (fun i => [(1, .arr 27 2 ((List.replicate i.1 ((0 : Int), most)).map row2) true)]) (fun i => N - i.1) ⟨0, by omega⟩ (by first | rfl | (simp only [go_sem, ↓reduceIte]; first | done | rfl | (simp; try rfl))) ?_
  rintro ⟨i, hi⟩
  simp (disch := decide) only [ov, ovL, AL.get_nil, AL.get_eq, AL.get_ne, Option.getD_some, Option.getD_none]
  by_cases hiN : i < N
  · have e1 : List.replicate (i + 1) ((0 : Int), most) = List.replicate i (0, most) ++ [(0, most)] := List.replicate_succ'
    have e2 : (List.replicate i ((0 : Int), most)).length = i := by simp
    generalize List.replicate i ((0 : Int), most) = R at *
    refine tw ?_; try with_reducible intro QQ hQQ
    refine ti ?_; try clear hQQ QQ
    refine tw ?_; try with_reducible intro QQ hQQ
    refine ⟨⟨i + 1, by omega⟩, ?_, weak_round ?_ (by first | rfl | (simp only [go_sem, ↓reduceIte]))⟩
    rotate_left
    · simp only [ov, ovL, e1]
      simp only [go_sem, ↓reduceIte]
      all_goals (try simp [row2, e2])
    · simp only; omega
  have hie : i = N := by omega
  subst hie
  have hrl : (List.replicate i ((0 : Int), most)).length = i := by simp
  obtain ⟨R, hR⟩ : ∃ R, List.replicate i ((0 : Int), most) = R := ⟨_, rfl⟩
  unfold allG
  rw [hR] at hA hAB hs1 hrl ⊢
  refine tw ?_; try with_reducible intro QQ hQQ
  refine ti ?_; try clear hQQ QQ
  (refine aw_exit ?_); (repeat with_reducible first | apply then_n | apply block_n | apply then_x | apply then_r | apply nog_n | apply nog_r | apply block_r | apply block_e (by decide) | apply block_x (by decide))
  refine aw_weak (weak_dataS 3 rfl rfl) ?_
  rw [List.take_of_length_le (by simp [hrl])]
  simp only [AL.set]
  refine tw ?_; try with_reducible intro QQ hQQ
  refine callD_F [4] (.one (.own 4 (listsA R).length)) ((4, .arr 52 1 ((listsA R).map rowL) true) :: [(0, .box [.p (iP i), .p (iP most), .p (.sl (strays.map row2)), .p (.sl (calls.map row4))]), (1, .arr 27 2 (R.map row2) true)]) 5 rfl rfl (by simp (disch := first | decide | omega) only [go_sem, ↓reduceIte]; try rfl) (by simp (disch := first | decide | omega) only [go_sem, ↓reduceIte]; try rfl) Try.func108 rfl (by decide) ?_ (by dsimp only; omega) (by decide) ?_ ?_
  rotate_left 1
  · intro fr hk
    exact c_lists (by omega) hs1 hA
  rotate_left 1
  · intro id hid
    simp only [List.mem_cons, List.mem_nil_iff, or_false] at hid
    simp (disch := first | decide | omega) only [go_sem, ↓reduceIte]
  (refine td ?_; try clear hQQ QQ)
  refine callD_F [7] (.one (.own 7 (listsA strays).length)) ((7, .arr 52 1 ((listsA strays).map rowL) true) :: (4, .arr 52 1 ((listsA R).map rowL) true) :: [(0, .box [.p (iP i), .p (iP most), .p (.sl (strays.map row2)), .p (.sl (calls.map row4))]), (1, .arr 27 2 (R.map row2) true)]) 8 rfl rfl (by simp (disch := first | decide | omega) only [go_sem, ↓reduceIte]; try rfl) (by simp (disch := first | decide | omega) only [go_sem, ↓reduceIte]; try rfl) Try.func108 rfl (by decide) ?_ (by dsimp only; omega) (by decide) ?_ ?_
  rotate_left 1
  · intro fr hk
    exact c_lists (by omega) hs2 hB
  rotate_left 1
  · intro id hid
    simp only [List.mem_cons, List.mem_nil_iff, or_false] at hid
    simp (disch := first | decide | omega) only [go_sem, ↓reduceIte]
  (refine td ?_; try clear hQQ QQ)
  refine tw ?_; try with_reducible intro QQ hQQ
  refine aw_weak (weak_dataS 5 rfl rfl) ?_
  refine aw_weak (weak_dataS 6 rfl rfl) ?_
  rw [List.take_of_length_le (by simp), List.take_of_length_le (by simp)]
  refine aw_weak (weak_own 7 81 2 (by simp (disch := first | decide | omega) only [go_sem, ↓reduceIte]; try rfl)) ?_
  generalize listsA R = A at *
  generalize listsA strays = B at *
  refine aw_weak (weak_keep [5, 6, 7, 8] (by simp only [go_sem, ↓reduceIte]; rfl)) ?_
  refine aw_loop_ov (ι := { i : Nat // i ≤ A.length }) (fun i => [(8, iA i.1), (7, .one (.own 8 (pairs (A.take i.1) B).length))]) (fun i => [(8, .arr 81 2 ((pairs (A.take i.1) B).map rowT) true)]) (fun i => A.length - i.1) ⟨0, by omega⟩ (by first | rfl | (simp only [go_sem, ↓reduceIte]; first | done | rfl | (simp; try rfl))) ?_
  rintro ⟨j, hj⟩
  simp (disch := decide) only [ov, ovL, AL.get_nil, AL.get_eq, AL.get_ne, Option.getD_some, Option.getD_none]
  have hpl : (pairs (A.take j) B).length = j * B.length := by rw [pairs_len, List.length_take, Nat.min_eq_left hj]
  by_cases hjA : j < A.length
  · have hmul : j * B.length + B.length ≤ 100000 := by
      have : (j + 1) * B.length ≤ A.length * B.length := Nat.mul_le_mul_right _ hjA
      rw [Nat.succ_mul] at this; omega
    have e1 := pairs_take A B [] hjA
    obtain ⟨X, hX⟩ : ∃ X, A.getD j [] = X := ⟨_, rfl⟩
    rw [hX] at e1
    refine tw ?_; try with_reducible intro QQ hQQ
    refine ti ?_; try clear hQQ QQ
    refine tw ?_; try with_reducible intro QQ hQQ
    refine aw_weak (weak_keep [5, 6, 7, 8, 9] (by simp only [go_sem, ↓reduceIte]; rfl)) ?_
    refine aw_loop_ov (ι := { k : Nat // k ≤ B.length }) (fun k => [(9, iA k.1), (7, .one (.own 8 (pairs (A.take j) B ++ (B.take k.1).map fun y => (X, y)).length))]) (fun k => [(8, .arr 81 2 ((pairs (A.take j) B ++ (B.take k.1).map fun y => (X, y)).map rowT) true)]) (fun k => B.length - k.1) ⟨0, by omega⟩ (by first | rfl | (simp only [go_sem, ↓reduceIte]; first | done | rfl | (simp; try rfl))) ?_
    rintro ⟨k, hk⟩
    simp (disch := decide) only [ov, ovL, AL.get_nil, AL.get_eq, AL.get_ne, Option.getD_some, Option.getD_none]
    by_cases hkB : k < B.length
    · obtain ⟨Y, hY⟩ : ∃ Y, B.getD k [] = Y := ⟨_, rfl⟩
      have e2 : B.take (k + 1) = B.take k ++ [Y] := by
        rw [List.take_succ, List.getElem?_eq_getElem hkB, ← hY, List.getD_eq_getElem?_getD, List.getElem?_eq_getElem hkB]; rfl
      have e3 : (pairs (A.take j) B ++ (B.take (k + 1)).map fun y => (X, y)) = (pairs (A.take j) B ++ (B.take k).map fun y => (X, y)) ++ [(X, Y)] := by
        rw [e2]; simp
      have hQl : (pairs (A.take j) B ++ (B.take k).map fun y => (X, y)).length ≤ 99999 := by
        rw [List.length_append, hpl, List.length_map, List.length_take]; omega
      generalize (pairs (A.take j) B ++ (B.take k).map fun y => (X, y)) = Q at *
      clear e2 e1 hpl
      (repeat (first | apply aw_seq | apply aw_block | apply aw_skip | apply aw_label | apply aw_exit | ((first | refine aw_region (hideO fun QQ hQQ => ?_) | refine aw_draw mixed (hideD fun QQ hQQ => ?_)); simp (maxSteps := 400000) (disch := first | decide | omega) only [hX, hY, go_sem, ↓reduceIte]; try (first | with_reducible refine unhide hQQ ?_ | refine ⟨by kernel_rfl, unhide hQQ ?_⟩); clear hQQ QQ) | with_reducible first | apply then_n | apply block_n | apply then_x | apply then_r | apply nog_n | apply nog_r | apply block_r | apply block_e (by decide) | apply block_x (by decide)))
      refine aw_cond2 (by simp (disch := first | decide | omega) only [hX, hY, go_sem, ↓reduceIte]; rfl) ?_; first | refine .inl ⟨by first | rfl | exact decide_eq_true (by omega) | exact decide_eq_true (by assumption) | (simp (disch := first | decide | omega) only [if_pos_d, if_neg_d, decide_eq_true_eq, Bool.not_eq_true', decide_eq_false_iff_not]; omega), ?_⟩ | refine .inr ⟨by first | rfl | exact decide_eq_false (by omega) | exact decide_eq_false (by assumption) | (simp (disch := first | decide | omega) only [if_pos_d, if_neg_d, decide_eq_true_eq, Bool.not_eq_true', decide_eq_false_iff_not]; omega), ?_⟩
      (repeat (first | apply aw_seq | apply aw_block | apply aw_skip | apply aw_label | apply aw_exit | ((first | refine aw_region (hideO fun QQ hQQ => ?_) | refine aw_draw mixed (hideD fun QQ hQQ => ?_)); simp (maxSteps := 400000) (disch := first | decide | omega) only [hX, hY, go_sem, ↓reduceIte]; try (first | with_reducible refine unhide hQQ ?_ | refine ⟨by kernel_rfl, unhide hQQ ?_⟩); clear hQQ QQ) | with_reducible first | apply then_n | apply block_n | apply then_x | apply then_r | apply nog_n | apply nog_r | apply block_r | apply block_e (by decide) | apply block_x (by decide)))
      refine ⟨⟨k + 1, by omega⟩, ?_, weak_round ?_ (by first | rfl | (simp only [hX, hY, go_sem, ↓reduceIte]))⟩
      rotate_left
      · simp only [ov, ovL, e3]
        simp only [hX, hY, go_sem, ↓reduceIte]
        all_goals (try simp [rowT])
      · simp only; omega
    · have hkB2 : k = B.length := by omega
      subst hkB2
      rw [List.take_length, ← e1]
      refine tw ?_; try with_reducible intro QQ hQQ
      refine ti ?_; try clear hQQ QQ
      refine tw ?_; try with_reducible intro QQ hQQ
      (refine ⟨⟨j + 1, by omega⟩, ?_, weak_round (by simp only [go_sem, ↓reduceIte]; first | done | rfl) (by first | rfl | (simp only [go_sem, ↓reduceIte]))⟩; (simp only; omega))
  · have hjA2 : j = A.length := by omega
    subst hjA2
    rw [List.take_length]
    refine tw ?_; try with_reducible intro QQ hQQ
    refine ti ?_; try clear hQQ QQ
    refine tw ?_; try with_reducible intro QQ hQQ
    refine aw_ret ?_; refine ⟨.inr rfl, ?_⟩; simp only [resA, res1, go_sem, ↓reduceIte]
    try rw [List.take_of_length_le (by simp)]
    all_goals (try simp)
end
end Go.Proofs.Ytejbglbiefpagaa
/- tally, the document's functions: truths, errors, hulls. -/
namespace Go.Proofs.Ytejbglbiefpagaa
open Go Go.RowKit Go.Sh Go.Pv
set_option maxHeartbeats 4000000
set_option maxRecDepth 8000
set_option pp.maxSteps 60000
theorem ok_in79' (a b c : Int) : FunOK Try.prog 73 [.one (iP a), .one (iP b), .one (iP c)] (.one (.one (.v (.bool (inB a b c))))) := ok_in73 a b c
section
variable {n most : Int} {strays : List (Int × Int)} {calls : List (Int × Int × Int × Int)}
attribute [local go_sem] row4 get_some4 get_someT get_someL rowT rowL rowsK_rT rowsK_rL rowsK_r2 rowsK_nil' rowsK_cons' not_isEmpty_nil Bool.false_or
theorem ok_Every93 (hcl : calls.length ≤ 8) : FunOK Try.prog 93 [tyR n most strays calls] (.one (.one (iP ((2 ^ calls.length - 1 : Nat) : Int)))) := by
  have hp := ok_power87 (n := calls.length) (by omega)
  have h0 := Nat.two_pow_pos calls.length
  have h1 := pow_le40 (n := calls.length) (by omega)
  generalize 2 ^ calls.length = x at *
  refine fun_ok (nt := 8) (rs := [.tmp 2]) Try.func93 rfl rfl rfl (by simp) fun Z w0 => ?_; simp only [initFr, avR, List.map_cons, List.map_nil]
  simp only [tyR, List.map_cons, List.map_nil]
  refine tw ?_; try with_reducible intro QQ hQQ
  ((refine cO 87 rfl rfl rfl (hp) Try.func87 rfl ?_); refine tu ?_; try clear hQQ QQ); refine tw ?_; try with_reducible intro QQ hQQ
  refine aw_ret ?_; refine ⟨.inr rfl, ?_⟩; simp only [resA, res1, go_sem, ↓reduceIte]
/-- So many ways as are gone through. -/
structure Ways (N : Nat) (most : Int) (strays : List (Int × Int)) : Prop where
  a : (listsA (List.replicate N (0, most))).length ≤ 100000
  b : (listsA strays).length ≤ 100000
  ab : (listsA (List.replicate N (0, most))).length * (listsA strays).length ≤ 100000
theorem all_len {N : Nat} (w : Ways N most strays) : (allG N most strays).length ≤ 100000 := by unfold allG; rw [pairs_len]; exact w.ab
theorem ok_Truths98 {N : Nat} (h : TOK N most strays calls) (w : Ways N most strays) : FunOK Try.prog 98 [tyR N most strays calls] (.one (.one (.sl ((truthsG N most strays calls (2 ^ calls.length - 1)).map rowT)))) := by
  have h1 := ok_all91 h w.a w.b w.ab
  have h2 := ok_Every93 (n := N) (most := most) (strays := strays) (calls := calls) h.cl
  have hx := Nat.two_pow_pos calls.length
  have hx8 : 2 ^ calls.length ≤ 256 := Nat.pow_le_pow_right (n := 2) (by decide) h.cl
  have h3 := ok_of92 h (L := allG N most strays) (fun t ht => allG_good h ht) (all_len w) (set := 2 ^ calls.length - 1) (by omega)
  unfold truthsG
  simp only [tyR] at h1 h2 h3
  generalize 2 ^ calls.length - 1 = x at *
  refine fun_ok (nt := 9) (rs := [.tmp 2]) Try.func98 rfl rfl rfl (by simp) fun Z w0 => ?_; simp only [initFr, avR, List.map_cons, List.map_nil]
  simp only [tyR, List.map_cons, List.map_nil]
  refine tw ?_; try with_reducible intro QQ hQQ
  (refine cG 91 rfl rfl rfl (h1) Try.func91 rfl ?_); refine td ?_; try clear hQQ QQ
  (refine cD 93 rfl rfl rfl (h2) Try.func93 rfl ?_); refine td ?_; try clear hQQ QQ
  ((refine cG 92 rfl rfl rfl (h3) Try.func92 rfl ?_); refine tv ?_; try clear hQQ QQ); refine tw ?_; try with_reducible intro QQ hQQ
  refine aw_ret ?_; refine ⟨.inr rfl, ?_⟩; simp only [resA, res1, go_sem, ↓reduceIte]
theorem ok_check79 (b : Bool) : FunOK Try.prog 79 [tyR n most strays calls, .one (.v (.bool b))] (.one (.one (iP (if validB n most strays calls = true then (if b = true then 0 else 2) else 1)))) := by
  have ht := ok_Tally36 n most strays calls
  simp only [tyR] at ht
  refine fun_ok (nt := 10) (rs := [.tmp 4]) Try.func79 rfl rfl rfl (by simp) fun Z w0 => ?_; simp only [initFr, avR, List.map_cons, List.map_nil]
  simp only [tyR, List.map_cons, List.map_nil]
  cases hv : validB n most strays calls
  · rw [hv] at ht
    refine tw ?_; try with_reducible intro QQ hQQ
    ((refine cO 36 rfl rfl rfl (ht) Try.func36 rfl ?_); refine tu ?_; try clear hQQ QQ); refine tw ?_; try with_reducible intro QQ hQQ
    refine ti ?_; try clear hQQ QQ
    refine tw ?_; try with_reducible intro QQ hQQ
    refine aw_ret ?_; refine ⟨.inr rfl, ?_⟩; simp only [resA, res1, go_sem, ↓reduceIte]
  · rw [hv] at ht
    cases b
    · refine tw ?_; try with_reducible intro QQ hQQ
      ((refine cO 36 rfl rfl rfl (ht) Try.func36 rfl ?_); refine tu ?_; try clear hQQ QQ); refine tw ?_; try with_reducible intro QQ hQQ
      refine ti ?_; try clear hQQ QQ
      refine tw ?_; try with_reducible intro QQ hQQ
      refine ti ?_; try clear hQQ QQ
      refine tw ?_; try with_reducible intro QQ hQQ
      refine aw_ret ?_; refine ⟨.inr rfl, ?_⟩; simp only [resA, res1, go_sem, ↓reduceIte]
    · refine tw ?_; try with_reducible intro QQ hQQ
      ((refine cO 36 rfl rfl rfl (ht) Try.func36 rfl ?_); refine tu ?_; try clear hQQ QQ); refine tw ?_; try with_reducible intro QQ hQQ
      refine ti ?_; try clear hQQ QQ
      refine tw ?_; try with_reducible intro QQ hQQ
      refine ti ?_; try clear hQQ QQ
      refine tw ?_; try with_reducible intro QQ hQQ
      refine aw_ret ?_; refine ⟨.inr rfl, ?_⟩; simp only [resA, res1, go_sem, ↓reduceIte]
theorem told_arg (hv : validB n most strays calls = false) (b : Bool) : FunOK Try.prog 52 [tyR n most strays calls, .one (.v (.bool b))] (.tup [.one (.sl []), .one (iP 1)]) := by
  have hc := ok_check79 (n := n) (most := most) (strays := strays) (calls := calls) b
  rw [hv, if_neg (by decide)] at hc
  simp only [tyR] at hc
  refine fun_ok (nt := 20) (rs := [.tmp 4, .tmp 5]) Try.func52 rfl rfl rfl (by simp) fun Z w0 => ?_; simp only [initFr, avR, List.map_cons, List.map_nil]
  simp only [tyR, List.map_cons, List.map_nil]
  refine tw ?_; try with_reducible intro QQ hQQ
  ((refine cO 79 rfl rfl rfl (hc) Try.func79 rfl ?_); refine tu ?_; try clear hQQ QQ); refine tw ?_; try with_reducible intro QQ hQQ
  refine ti ?_; try clear hQQ QQ
  refine tw ?_; try with_reducible intro QQ hQQ
  refine aw_ret ?_; refine ⟨.inr rfl, ?_⟩; simp only [resA, res1, go_sem, ↓reduceIte]
theorem told_ran {N : Nat} (h : TOK N most strays calls) : FunOK Try.prog 52 [tyR N most strays calls, .one (.v (.bool false))] (.tup [.one (.sl []), .one (iP 2)]) := by
  have hc := ok_check79 (n := N) (most := most) (strays := strays) (calls := calls) false
  rw [tok_to h, if_pos rfl, if_neg (by decide)] at hc
  simp only [tyR] at hc
  refine fun_ok (nt := 20) (rs := [.tmp 4, .tmp 5]) Try.func52 rfl rfl rfl (by simp) fun Z w0 => ?_; simp only [initFr, avR, List.map_cons, List.map_nil]
  simp only [tyR, List.map_cons, List.map_nil]
  refine tw ?_; try with_reducible intro QQ hQQ
  ((refine cO 79 rfl rfl rfl (hc) Try.func79 rfl ?_); refine tu ?_; try clear hQQ QQ); refine tw ?_; try with_reducible intro QQ hQQ
  refine ti ?_; try clear hQQ QQ
  refine tw ?_; try with_reducible intro QQ hQQ
  refine aw_ret ?_; refine ⟨.inr rfl, ?_⟩; simp only [resA, res1, go_sem, ↓reduceIte]
theorem told_ok {N : Nat} (h : TOK N most strays calls) (w : Ways N most strays) : FunOK Try.prog 52 [tyR N most strays calls, .one (.v (.bool true))] (.tup [.one (.sl ((truthsG N most strays calls (2 ^ calls.length - 1)).map rowT)), .one (iP (if (truthsG N most strays calls (2 ^ calls.length - 1)) = [] then 10 else 0))]) := by
  have hc := ok_check79 (n := N) (most := most) (strays := strays) (calls := calls) true
  rw [tok_to h, if_pos rfl, if_pos rfl] at hc
  have ht := ok_Truths98 h w
  simp only [tyR] at hc ht
  generalize truthsG N most strays calls (2 ^ calls.length - 1) = L at *
  refine fun_ok (nt := 20) (rs := [.tmp 4, .tmp 5]) Try.func52 rfl rfl rfl (by simp) fun Z w0 => ?_; simp only [initFr, avR, List.map_cons, List.map_nil]
  simp only [tyR, List.map_cons, List.map_nil]
  refine tw ?_; try with_reducible intro QQ hQQ
  ((refine cO 79 rfl rfl rfl (hc) Try.func79 rfl ?_); refine tu ?_; try clear hQQ QQ); refine tw ?_; try with_reducible intro QQ hQQ
  refine ti ?_; try clear hQQ QQ
  refine tw ?_; try with_reducible intro QQ hQQ
  ((refine cB 98 rfl rfl rfl (ht) Try.func98 rfl ?_); refine tu ?_; try clear hQQ QQ); refine tw ?_; try with_reducible intro QQ hQQ
  by_cases hL : L = []
  · subst hL
    refine ti ?_; try clear hQQ QQ
    refine tw ?_; try with_reducible intro QQ hQQ
    refine aw_ret ?_; refine ⟨.inr rfl, ?_⟩; simp only [resA, res1, go_sem, ↓reduceIte]
  · have hlen : 0 < L.length := List.length_pos_iff.2 hL
    rw [if_neg hL]
    refine ti ?_; try clear hQQ QQ
    refine tw ?_; try with_reducible intro QQ hQQ
    refine aw_ret ?_; refine ⟨.inr rfl, ?_⟩; simp only [resA, res1, go_sem, ↓reduceIte]
theorem truths_len {N : Nat} (w : Ways N most strays) (S : Nat) : (truthsG N most strays calls S).length ≤ 100000 := Nat.le_trans (List.length_filter_le _ _) (all_len w)
theorem truths_good {N : Nat} (h : TOK N most strays calls) (S : Nat) : ∀ t ∈ truthsG N most strays calls S, GoodT N t := fun t ht => allG_good h (List.mem_filter.1 ht).1
/-- The least and the greatest number of a list. -/
def hullF (x0 : Int) (l : List Int) : Int × Int := l.foldl (fun r x => (min r.1 x, max r.2 x)) (x0, x0)
theorem ok_hull54 {l : List Int} (hl : l ≠ []) (hlen : l.length ≤ 100000) : FunOK Try.prog 54 [.one (.sl (l.map row1))] (.one (.agg [iP (hullF (l.getD 0 0) l).1, iP (hullF (l.getD 0 0) l).2])) := by
  have hpos : 0 < l.length := List.length_pos_iff.2 hl
  obtain ⟨x0, hx0⟩ : ∃ x, l.getD 0 0 = x := ⟨_, rfl⟩
  rw [hx0]
  refine fun_ok (nt := 34) (rs := [.cell 2 27]) Try.func54 rfl rfl rfl (by simp) fun Z w0 => ?_; simp only [initFr, avR, List.map_cons, List.map_nil]
  (repeat (first | apply aw_seq | apply aw_block | apply aw_skip | apply aw_label | apply aw_exit | ((first | refine aw_region (hideO fun QQ hQQ => ?_) | refine aw_draw mixed (hideD fun QQ hQQ => ?_)); simp (maxSteps := 400000) (disch := first | decide | omega) only [hx0, go_sem, ↓reduceIte]; try (first | with_reducible refine unhide hQQ ?_ | refine ⟨by kernel_rfl, unhide hQQ ?_⟩); clear hQQ QQ) | with_reducible first | apply then_n | apply block_n | apply then_x | apply then_r | apply nog_n | apply nog_r | apply block_r | apply block_e (by decide) | apply block_x (by decide)))
  refine aw_weak (weak_keep [0, 2, 3, 4] (by simp only [go_sem, ↓reduceIte]; rfl)) ?_
  refine aw_loop_ov (ι := { i : Nat // i ≤ l.length }) (fun i => [(4, iA i.1)]) (fun i => [(1, .box [.p (iP (hullF x0 (l.take i.1)).1), .p (iP (hullF x0 (l.take i.1)).2)])]) (fun i => l.length - i.1) ⟨0, by omega⟩ (by first | rfl | (simp only [go_sem, ↓reduceIte]; first | done | rfl | (simp; try rfl))) ?_
  rintro ⟨i, hi⟩
  simp (disch := decide) only [ov, ovL, AL.get_nil, AL.get_eq, AL.get_ne, Option.getD_some, Option.getD_none]
  by_cases hil : i < l.length
  · have e1 : l.take (i + 1) = l.take i ++ [l.getD i 0] := by
      rw [List.take_succ, List.getElem?_eq_getElem hil, List.getD_eq_getElem?_getD, List.getElem?_eq_getElem hil]; rfl
    have e2 : hullF x0 (l.take (i + 1)) = (if l.getD i 0 < (hullF x0 (l.take i)).1 then l.getD i 0 else (hullF x0 (l.take i)).1, if l.getD i 0 > (hullF x0 (l.take i)).2 then l.getD i 0 else (hullF x0 (l.take i)).2) := by
      have : hullF x0 (l.take (i + 1)) = (min (hullF x0 (l.take i)).1 (l.getD i 0), max (hullF x0 (l.take i)).2 (l.getD i 0)) := by unfold hullF; rw [e1, List.foldl_append]; rfl
      rw [this, Prod.mk.injEq]
      constructor <;> split <;> omega
    refine tw ?_; try with_reducible intro QQ hQQ
    refine ti ?_; try clear hQQ QQ
    refine tw ?_; try with_reducible intro QQ hQQ
    refine ⟨⟨i + 1, by omega⟩, ?_, weak_round ?_ (by first | rfl | (simp only [go_sem, ↓reduceIte]))⟩
    rotate_left
    · simp only [e2]
      (simp only [go_sem, ↓reduceIte]; try rfl)
    · simp only; omega
  · have hie : i = l.length := by omega
    subst hie
    rw [List.take_length]
    refine tw ?_; try with_reducible intro QQ hQQ
    refine ti ?_; try clear hQQ QQ
    refine tw ?_; try with_reducible intro QQ hQQ
    refine aw_ret ?_; refine ⟨.inr rfl, ?_⟩; simp only [resA, res1, go_sem, ↓reduceIte]
end
theorem hull_spec : ∀ (l : List Int) (r : Int × Int), (∀ x ∈ l, (l.foldl (fun r x => (min r.1 x, max r.2 x)) r).1 ≤ x ∧ x ≤ (l.foldl (fun r x => (min r.1 x, max r.2 x)) r).2) ∧ (l.foldl (fun r x => (min r.1 x, max r.2 x)) r).1 ≤ r.1 ∧ r.2 ≤ (l.foldl (fun r x => (min r.1 x, max r.2 x)) r).2 ∧ ((l.foldl (fun r x => (min r.1 x, max r.2 x)) r).1 = r.1 ∨ (l.foldl (fun r x => (min r.1 x, max r.2 x)) r).1 ∈ l) ∧ ((l.foldl (fun r x => (min r.1 x, max r.2 x)) r).2 = r.2 ∨ (l.foldl (fun r x => (min r.1 x, max r.2 x)) r).2 ∈ l)
  | [], r => by simp
  | y :: l, r => by
    obtain ⟨h1, h2, h3, h4, h5⟩ := hull_spec l (min r.1 y, max r.2 y)
    rw [List.foldl_cons]
    dsimp only at h1 h2 h3 h4 h5
    generalize l.foldl (fun r x => (min r.1 x, max r.2 x)) (min r.1 y, max r.2 y) = R at *
    refine ⟨fun x hx => ?_, by omega, by omega, ?_, ?_⟩
    · rcases List.mem_cons.1 hx with rfl | hx
      · omega
      · exact h1 x hx
    · rcases h4 with h4 | h4
      · by_cases hc : r.1 ≤ y
        · exact .inl (by omega)
        · exact .inr (by rw [h4, Int.min_eq_right (by omega)]; exact List.mem_cons_self)
      · exact .inr (List.mem_cons_of_mem _ h4)
    · rcases h5 with h5 | h5
      · by_cases hc : y ≤ r.2
        · exact .inl (by omega)
        · exact .inr (by rw [h5, Int.max_eq_right (by omega)]; exact List.mem_cons_self)
      · exact .inr (List.mem_cons_of_mem _ h5)
theorem hull_of {l : List Int} (hl : l ≠ []) : (∀ x ∈ l, (hullF (l.getD 0 0) l).1 ≤ x ∧ x ≤ (hullF (l.getD 0 0) l).2) ∧ (hullF (l.getD 0 0) l).1 ∈ l ∧ (hullF (l.getD 0 0) l).2 ∈ l := by
  have h := hull_spec l (l.getD 0 0, l.getD 0 0)
  have h0 : l.getD 0 0 ∈ l := mem_of_getD (List.length_pos_iff.2 hl)
  unfold hullF
  refine ⟨h.1, ?_, ?_⟩
  · rcases h.2.2.2.1 with e | e
    · rw [e]; exact h0
    · exact e
  · rcases h.2.2.2.2 with e | e
    · rw [e]; exact h0
    · exact e
end Go.Proofs.Ytejbglbiefpagaa
