/- StandEnds: what it looks at is so. -/
import Derived.Test.YtojbkpnkcpcioaaSvL
import Derived.Test.YtojbkpnkcpcioaaKf
set_option linter.all false
namespace Go.Proofs.Ytojbkpnkcpcioaa
open Go Go.RowKit Go.Sh Go.Sh.Stand Go.Pv
set_option maxHeartbeats 2000000
theorem hull_ends {α : Type} {T : List α} (f : α → Int) {a b : α} (ha : a ∈ T) (hb : b ∈ T) (h : ∀ t ∈ T, f a ≤ f t ∧ f t ≤ f b) : hull (T.map f) = (f a, f b) := by
  have hT : T ≠ [] := List.ne_nil_of_mem ha
  obtain ⟨⟨t1, h1, e1⟩, ⟨t2, h2, e2⟩, h3⟩ := hull_map hT f
  have := h t1 h1
  have := h t2 h2
  have := h3 a ha
  have := h3 b hb
  apply Prod.ext
  · simp only; omega
  · simp only; omega
theorem many_count (l : List (Int × Int)) (m : Int) : manyB (l.map (·.1)) m = countAt l m := by
  unfold manyB countAt
  rw [List.filter_map, List.length_map]
  rfl
section
variable (m0 m1 m2 : Int × Int) (runs : List (Int × Int)) (sheep : List Int) (looks : List (Int × Int × Int))
theorem truths_bare (set : Nat) : truthsL (stM m0 m1 m2 runs sheep []) set = allSh (stM m0 m1 m2 runs sheep []) := by
  unfold truthsL
  exact List.filter_eq_self.2 fun _ _ => rfl
theorem all_looks (l l' : List (Int × Int × Int)) : allSh (stM m0 m1 m2 runs sheep l) = allSh (stM m0 m1 m2 runs sheep l') := rfl
theorem valid_bare {looks : List (Int × Int × Int)} (h : validB (stM m0 m1 m2 runs sheep looks) = true) : validB (stM m0 m1 m2 runs sheep []) = true := by
  unfold validB lensB stM at h ⊢
  simp only [Bool.and_eq_true] at h ⊢
  exact ⟨h.1, ⟨h.2.1.1, by simp⟩, h.2.2.1, h.2.2.2.1, rfl⟩
theorem valid_known {looks : List (Int × Int × Int)} (h : validB (stM m0 m1 m2 runs sheep looks) = true) {a b c : Int} (ha : 1 ≤ a ∧ a ≤ 40) (hb : 1 ≤ b ∧ b ≤ 40) (hc : 1 ≤ c ∧ c ≤ 40) : validB (stM (a, a) (b, b) (c, c) runs sheep []) = true := by
  unfold validB lensB stM at h ⊢
  simp only [Bool.and_eq_true] at h ⊢
  refine ⟨?_, ⟨h.2.1.1, by simp⟩, h.2.2.1, h.2.2.2.1, rfl⟩
  simp [minB]; omega
theorem known_one {a b c : Int} {t : Shearer} (ht : t ∈ allSh (stM (a, a) (b, b) (c, c) runs sheep [])) : t = (a, b, c) := by
  obtain ⟨h0, h1, h2⟩ := (mem_setT (stM (a, a) (b, b) (c, c) runs sheep []) rfl t).1 ht
  obtain ⟨x, y, z⟩ := t
  simp [stM] at h0 h1 h2
  have : x = a := by omega
  have : y = b := by omega
  have : z = c := by omega
  simp [*]
theorem known_mem (a b c : Int) : (a, b, c) ∈ allSh (stM (a, a) (b, b) (c, c) runs sheep []) :=
  (mem_setT (stM (a, a) (b, b) (c, c) runs sheep []) rfl (a, b, c)).2 (by simp [stM])
variable {looks}
theorem ends_mem (h : validB (stM m0 m1 m2 runs sheep looks) = true) (l : List (Int × Int × Int)) : (m0.1, m1.1, m2.1) ∈ allSh (stM m0 m1 m2 runs sheep l) ∧ (m0.2, m1.2, m2.2) ∈ allSh (stM m0 m1 m2 runs sheep l) := by
  have hs := fit_of_valid rfl h
  have h0 := hs.minb m0 (by simp [stM])
  have h1 := hs.minb m1 (by simp [stM])
  have h2 := hs.minb m2 (by simp [stM])
  exact ⟨(mem_setT (stM m0 m1 m2 runs sheep l) rfl _).2 (by simp [stM]; omega), (mem_setT (stM m0 m1 m2 runs sheep l) rfl _).2 (by simp [stM]; omega)⟩
theorem ends_le (h : validB (stM m0 m1 m2 runs sheep looks) = true) {l : List (Int × Int × Int)} {t : Shearer} (ht : t ∈ allSh (stM m0 m1 m2 runs sheep l)) (i : Nat) :
    ((dayFrom runs (m0.1, m1.1, m2.1) sheep 0 0).getD i (0, 0)).1 ≤ ((dayFrom runs t sheep 0 0).getD i (0, 0)).1 ∧ ((dayFrom runs t sheep 0 0).getD i (0, 0)).1 ≤ ((dayFrom runs (m0.2, m1.2, m2.2) sheep 0 0).getD i (0, 0)).1 := by
  have hs := fit_of_valid (s := stM m0 m1 m2 runs sheep looks) rfl h
  have hv := h
  unfold validB at hv
  simp only [Bool.and_eq_true] at hv
  have hsort : Sorted runs := runsB_sorted runs 0 hv.2.2.1
  have hb : ∀ p ∈ runs, p.2 ≤ 600 := fun p hp => (hs.runb p hp).2.2
  obtain ⟨h0, h1, h2⟩ := (mem_setT (stM m0 m1 m2 runs sheep l) rfl t).1 ht
  simp only [stM] at h0 h1 h2
  simp at h0 h1 h2
  have b0 := hs.minb m0 (by simp [stM])
  have b1 := hs.minb m1 (by simp [stM])
  have b2 := hs.minb m2 (by simp [stM])
  constructor
  · refine dayFrom_mono runs hsort _ t hb (fun k => ?_) (fun k => ?_) sheep 0 0 0 0 i (Nat.le_refl _) (Int.le_refl _)
    · unfold tk; split
      · exact h0.1
      · split
        · exact h1.1
        · exact h2.1
    · unfold tk; split
      · omega
      · split <;> omega
  · refine dayFrom_mono runs hsort t _ hb (fun k => ?_) (fun k => ?_) sheep 0 0 0 0 i (Nat.le_refl _) (Int.le_refl _)
    · unfold tk; split
      · exact h0.2
      · split
        · exact h1.2
        · exact h2.2
    · unfold tk; split
      · simp only; omega
      · split <;> simp only <;> omega
theorem ends_count (h : validB (stM m0 m1 m2 runs sheep looks) = true) (minute : Int) : ansE (stM m0 m1 m2 runs sheep []) (inB minute 0 999) (countL (stM m0 m1 m2 runs sheep []) minute) =
    if inB minute 0 999 = true then ((manyB (doneFrom runs (m0.2, m1.2, m2.2) sheep 0 0) minute, manyB (doneFrom runs (m0.1, m1.1, m2.1) sheep 0 0) minute), 0) else ((0, 0), 2) := by
  have hv := valid_bare m0 m1 m2 runs sheep h
  by_cases hm : inB minute 0 999 = true
  · rw [if_pos hm]
    have hmem := ends_mem m0 m1 m2 runs sheep h []
    have hle : ∀ t ∈ allSh (stM m0 m1 m2 runs sheep []), countAt (day (stM m0 m1 m2 runs sheep []) (m0.2, m1.2, m2.2)) minute ≤ countAt (day (stM m0 m1 m2 runs sheep []) t) minute ∧ countAt (day (stM m0 m1 m2 runs sheep []) t) minute ≤ countAt (day (stM m0 m1 m2 runs sheep []) (m0.1, m1.1, m2.1)) minute := by
      intro t ht
      have key : ∀ x y : Int, x ≤ y → (if y ≤ minute then 1 else 0 : Int) ≤ (if x ≤ minute then 1 else 0) := by
        intro x y h; split <;> split <;> omega
      rw [countAt_sum, countAt_sum, countAt_sum, day_len, day_len, day_len]
      constructor
      · refine sumTo_mono _ fun i hi => ?_
        exact key _ _ (ends_le m0 m1 m2 runs sheep h ht i).2
      · refine sumTo_mono _ fun i hi => ?_
        exact key _ _ (ends_le m0 m1 m2 runs sheep h ht i).1
    have e : countL (stM m0 m1 m2 runs sheep []) minute = (allSh (stM m0 m1 m2 runs sheep [])).map fun t => countAt (day (stM m0 m1 m2 runs sheep []) t) minute := by
      unfold countL; rw [truths_bare]
    rw [e, ans_some hv hm (by simpa using List.ne_nil_of_mem hmem.1), hull_ends _ hmem.2 hmem.1 hle]
    unfold doneFrom
    rw [many_count, many_count]; rfl
  · rw [if_neg hm]
    unfold ansE
    rw [if_neg (by simp [hv]), if_pos (by simpa using hm)]
theorem ends_done (h : validB (stM m0 m1 m2 runs sheep looks) = true) (k : Nat) (hk : k < sheep.length) : ansE (stM m0 m1 m2 runs sheep []) (inB k 0 (sheep.length - 1)) (doneL (stM m0 m1 m2 runs sheep []) k) =
    (((doneFrom runs (m0.1, m1.1, m2.1) sheep 0 0).getD k 0, (doneFrom runs (m0.2, m1.2, m2.2) sheep 0 0).getD k 0), 0) := by
  have hv := valid_bare m0 m1 m2 runs sheep h
  have hm : inB k 0 (sheep.length - 1) = true := by unfold inB; simp; omega
  have hmem := ends_mem m0 m1 m2 runs sheep h []
  have e : doneL (stM m0 m1 m2 runs sheep []) k = (allSh (stM m0 m1 m2 runs sheep [])).map fun t => ((dayFrom runs t sheep 0 0).getD k (0, 0)).1 := by
    unfold doneL; rw [truths_bare]; rfl
  rw [e, ans_some hv hm (by simpa using List.ne_nil_of_mem hmem.1), hull_ends _ hmem.1 hmem.2 fun t ht => ends_le m0 m1 m2 runs sheep h ht k]
  have hg : ∀ t, (doneFrom runs t sheep 0 0).getD k 0 = ((dayFrom runs t sheep 0 0).getD k (0, 0)).1 := by
    intro t
    unfold doneFrom
    have hl := dayFrom_length runs t sheep 0 0
    have hk' : k < (dayFrom runs t sheep 0 0).length := by rw [hl]; exact hk
    simp [List.getD, hk']
  rw [hg, hg]
theorem known_begun (h : validB (stM m0 m1 m2 runs sheep looks) = true) {a b c : Int} (ha : 1 ≤ a ∧ a ≤ 40) (hb : 1 ≤ b ∧ b ≤ 40) (hc : 1 ≤ c ∧ c ≤ 40) (k : Nat) (hk : k < runs.length) :
    ∃ n, ansE (stM (a, a) (b, b) (c, c) runs sheep []) (inB k 0 (runs.length - 1)) (begunL (stM (a, a) (b, b) (c, c) runs sheep []) k) = ((n, n), 0) := by
  have hv := valid_known m0 m1 m2 runs sheep h ha hb hc
  have hm : inB k 0 (runs.length - 1) = true := by unfold inB; simp; omega
  have hmem := known_mem runs sheep a b c
  unfold begunL
  rw [truths_bare, ans_some hv hm (by simpa using List.ne_nil_of_mem hmem), hull_ends _ hmem hmem fun t ht => by rw [known_one runs sheep ht]; exact ⟨Int.le_refl _, Int.le_refl _⟩]
  exact ⟨_, rfl⟩
theorem known_over (h : validB (stM m0 m1 m2 runs sheep looks) = true) {a b c : Int} (ha : 1 ≤ a ∧ a ≤ 40) (hb : 1 ≤ b ∧ b ≤ 40) (hc : 1 ≤ c ∧ c ≤ 40) (k : Nat) (hk : k < runs.length) :
    ∃ n, ansE (stM (a, a) (b, b) (c, c) runs sheep []) (inB k 0 (runs.length - 1)) (overL (stM (a, a) (b, b) (c, c) runs sheep []) k) = ((n, n), 0) := by
  have hv := valid_known m0 m1 m2 runs sheep h ha hb hc
  have hm : inB k 0 (runs.length - 1) = true := by unfold inB; simp; omega
  have hmem := known_mem runs sheep a b c
  unfold overL
  rw [truths_bare, ans_some hv hm (by simpa using List.ne_nil_of_mem hmem), hull_ends _ hmem hmem fun t ht => by rw [known_one runs sheep ht]; exact ⟨Int.le_refl _, Int.le_refl _⟩]
  exact ⟨_, rfl⟩
theorem ans_range {s : Stand} {L : List Int} (h : validB s = true) {ok : Bool} (ho : ok = false) : ansE s ok L = ((0, 0), 2) := by
  unfold ansE; rw [if_neg (by simp [h]), if_pos ho]
theorem ans_arg {s : Stand} {L : List Int} {ok : Bool} (h : validB s = false) : ansE s ok L = ((0, 0), 1) := by
  unfold ansE; rw [if_pos h]
theorem ansN_range {s : Stand} {L : List Int} (h : validB s = true) {ok : Bool} (ho : ok = false) : ansN s ok L = (0, 2) := by
  unfold ansN; rw [ans_range h ho]; rfl
theorem doneFrom_length (t : Shearer) : (doneFrom runs t sheep 0 0).length = sheep.length := by
  unfold doneFrom; rw [List.length_map, dayFrom_length]
end
end Go.Proofs.Ytojbkpnkcpcioaa
