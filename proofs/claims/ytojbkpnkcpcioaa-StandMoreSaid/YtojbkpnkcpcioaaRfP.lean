/- Plain laws: days, late runs, truths. -/
import Derived.Test.YtojbkpnkcpcioaaKf
set_option linter.all false
namespace Go.Proofs.Ytojbkpnkcpcioaa
open Go Go.RowKit Go.Sh Go.Sh.Stand Go.Pv
set_option maxHeartbeats 2000000
theorem gmin_min (a b : Int) : gmin a b = min a b := by unfold gmin; split <;> omega
theorem gmax_max' (a b : Int) : gmax a b = max a b := by unfold gmax; split <;> omega
def dayZ (runs : List (Int × Int)) (t : Shearer) : List Int → Int → List (Int × Int)
  | [], _ => []
  | k :: ks, d =>
    match begins runs 0 d with
    | none => List.replicate (ks.length + 1) (1000, -1)
    | some (i, at_) => (at_ + tk t k, (i : Int)) :: dayZ runs t ks (at_ + tk t k)
theorem sorted_get : ∀ (l : List (Int × Int)), Sorted l → ∀ (i j : Nat) (p q : Int × Int), j < i → l[j]? = some p → l[i]? = some q → p.2 ≤ q.1
  | [], _, i, j, p, q, _, h, _ => by simp at h
  | x :: l, hs, i, j, p, q, hji, hp, hq => by
    obtain ⟨i, rfl⟩ : ∃ i', i = i' + 1 := ⟨i - 1, by omega⟩
    rw [List.getElem?_cons_succ] at hq
    cases j with
    | zero => simp at hp; subst hp; exact hs.1.2 q (List.mem_of_getElem? hq)
    | succ j => exact sorted_get l hs.2 i j p q (by omega) (by simpa using hp) hq
theorem begins_skipZ {runs : List (Int × Int)} {d : Int} : ∀ (r : Nat), (∀ j p, j < r → runs[j]? = some p → p.2 ≤ d) → begins (runs.drop r) r d = begins runs 0 d
  | 0, _ => rfl
  | r + 1, h => by
    rw [← begins_skipZ r fun j p hj => h j p (by omega)]
    by_cases hr : r < runs.length
    · have hp : runs[r]? = some runs[r] := by simp [hr]
      have := h r _ (by omega) hp
      have hg := gmax_ge d runs[r].1
      exact (begins_next hp (by omega)).symm
    · rw [List.drop_eq_nil_of_le (by omega), List.drop_eq_nil_of_le (by omega)]; rfl
theorem dayZ_eq {runs : List (Int × Int)} (hs : Sorted runs) {t : Shearer} (ht : ∀ k, 1 ≤ tk t k) : ∀ (ks : List Int) (r : Nat) (d : Int), (∀ j p, j < r → runs[j]? = some p → p.2 ≤ d) → dayFrom runs t ks r d = dayZ runs t ks d
  | [], _, _, _ => rfl
  | k :: ks, r, d, h => by
    have hb := begins_skipZ r h
    unfold dayFrom dayZ
    rw [hb]
    cases hx : begins runs 0 d with
    | none => rfl
    | some ia =>
      obtain ⟨i, a⟩ := ia
      simp only
      rw [dayZ_eq hs ht ks i (a + tk t k)]
      intro j p hj hp
      rw [← hb] at hx
      obtain ⟨q, h1, h2, h3, h4⟩ := begins_of_drop hx
      have h5 := sorted_get runs hs i j p q hj hp h2
      have h6 := gmax_ge d q.1
      have := ht k
      omega
theorem day_dayZ {s : Stand} (hs : Sorted s.runs) {t : Shearer} (ht : ∀ k, 1 ≤ tk t k) : day s t = dayZ s.runs t s.sheep 0 := dayZ_eq hs ht s.sheep 0 0 fun j p hj => by omega
theorem lastOf_none {l : List (Int × Int)} {m : Int} (h : begunIn l m = 0) : lastOf l m = 0 := by
  rcases lastOf_mem l m with h1 | ⟨x, hx, h2, _⟩
  · exact h1
  · unfold begunIn at h
    have : (l.filter fun x => decide (x.2 = m)) = [] := List.length_eq_zero_iff.1 (by omega)
    have := (List.filter_eq_nil_iff.1 this) x hx
    simp [h2] at this
theorem dayZ_rise {runs : List (Int × Int)} (hb : ∀ p ∈ runs, p.2 ≤ 600) {t : Shearer} (ht : ∀ k, 1 ≤ tk t k ∧ tk t k ≤ 40) : ∀ (ks : List Int) (d : Int), d ≤ 1000 → (∀ x ∈ dayZ runs t ks d, d ≤ x.1) ∧ (dayZ runs t ks d).Pairwise (fun a b => a.1 ≤ b.1)
  | [], _, _ => ⟨fun x hx => by simp [dayZ] at hx, List.Pairwise.nil⟩
  | k :: ks, d, hd => by
    cases hx : begins runs 0 d with
    | none =>
      have e : dayZ runs t (k :: ks) d = List.replicate (ks.length + 1) (1000, -1) := by rw [dayZ, hx]
      rw [e]
      refine ⟨fun x hx => ?_, ?_⟩
      · have := List.eq_of_mem_replicate hx
        subst this; exact hd
      · exact List.pairwise_replicate.2 (.inr (Int.le_refl _))
    | some ia =>
      obtain ⟨i, a⟩ := ia
      have e : dayZ runs t (k :: ks) d = (a + tk t k, (i : Int)) :: dayZ runs t ks (a + tk t k) := by rw [dayZ, hx]
      obtain ⟨p, h1, h2, h3, h4⟩ := begins_some _ _ _ _ _ hx
      have hp := hb p (List.mem_of_getElem? h2)
      have hg := gmax_ge d p.1
      have hk := ht k
      obtain ⟨i1, i2⟩ := dayZ_rise hb ht ks (a + tk t k) (by omega)
      rw [e]
      refine ⟨fun x hx => ?_, List.pairwise_cons.2 ⟨fun x hx => i1 x hx, i2⟩⟩
      rcases List.mem_cons.1 hx with rfl | hx
      · simp only; omega
      · have := i1 x hx; omega
theorem lastOf_ge {m : Int} : ∀ (l : List (Int × Int)) (a : Int), l.Pairwise (fun a b => a.1 ≤ b.1) → ∀ x ∈ l, x.2 = m → x.1 ≤ l.foldl (fun a x => if x.2 = m then x.1 else a) a
  | [], _, _, x, hx, _ => by cases hx
  | y :: l, a, hp, x, hx, hm => by
    obtain ⟨h1, h2⟩ := List.pairwise_cons.1 hp
    rw [List.foldl_cons]
    rcases List.mem_cons.1 hx with rfl | hx
    · rw [if_pos hm]
      have key : ∀ (l : List (Int × Int)) (a : Int), l.foldl (fun a x => if x.2 = m then x.1 else a) a = a ∨ ∃ x ∈ l, l.foldl (fun a x => if x.2 = m then x.1 else a) a = x.1 := by
        intro l
        induction l with
        | nil => intro a; exact .inl rfl
        | cons z r ih =>
          intro a
          rw [List.foldl_cons]
          rcases ih (if z.2 = m then z.1 else a) with h | ⟨w, hw, h⟩
          · by_cases hz : z.2 = m
            · exact .inr ⟨z, List.mem_cons_self, by rw [h, if_pos hz]⟩
            · exact .inl (by rw [h, if_neg hz])
          · exact .inr ⟨w, List.mem_cons_of_mem _ hw, h⟩
      rcases key l x.1 with h | ⟨z, hz, h⟩
      · rw [h]; exact Int.le_refl _
      · rw [h]; exact h1 z hz
    · exact lastOf_ge l _ h2 x hx hm
theorem lateOf_eq (s : Stand) (hs : Fit s) (hsort : Sorted s.runs) {t : Shearer} (ht : t ∈ allSh s) (r : Nat) (hr : r < s.runs.length) : lateOf s (day s t) r = (List.range r).any fun i => decide ((s.runs.getD r (0, 0)).1 < lastOf (day s t) i) := by
  have htok := tok_all hs t ht
  have hpw : (day s t).Pairwise (fun a b => a.1 ≤ b.1) := by
    rw [day_dayZ hsort fun k => (tok_tk htok k).1]
    exact (dayZ_rise (fun p hp => (hs.runb p hp).2.2) (fun k => tok_tk htok k) s.sheep 0 (by omega)).2
  have hst : 0 ≤ (s.runs.getD r (0, 0)).1 := by
    have : s.runs.getD r (0, 0) = s.runs[r] := by simp [List.getD, hr]
    rw [this]; exact (hs.runb _ (List.getElem_mem _)).1
  unfold lateOf
  rw [Bool.eq_iff_iff, List.any_eq_true, List.any_eq_true]
  constructor
  · rintro ⟨x, hx, h⟩
    simp only [Bool.and_eq_true, decide_eq_true_eq] at h
    refine ⟨x.2.toNat, List.mem_range.2 (by omega), decide_eq_true ?_⟩
    have := lastOf_ge (m := (x.2.toNat : Int)) (day s t) 0 hpw x hx (by omega)
    unfold lastOf
    omega
  · rintro ⟨i, hi, h⟩
    have hi' := List.mem_range.1 hi
    have h := of_decide_eq_true h
    rcases lastOf_mem (day s t) i with h1 | ⟨x, hx, h1, h2⟩
    · omega
    · refine ⟨x, hx, ?_⟩
      simp only [Bool.and_eq_true, decide_eq_true_eq]
      omega
section
variable (m0 m1 m2 : Int × Int) (runs : List (Int × Int)) (sheep : List Int) (looks : List (Int × Int × Int))
theorem late_hull (T : List Shearer) (hT : T ≠ []) (b : Shearer → Bool) : lateN (hull (T.map fun t => if b t = true then (1 : Int) else 0)) = if (T.filter b).length = T.length then 2 else if (T.filter b).length = 0 then 0 else 1 := by
  obtain ⟨⟨t1, h1, e1⟩, ⟨t2, h2, e2⟩, h3⟩ := hull_map hT fun t => if b t = true then (1 : Int) else 0
  by_cases ha : ∀ t ∈ T, b t = true
  · rw [if_pos (by rw [List.filter_eq_self.2 ha])]
    rw [if_pos (ha t1 h1)] at e1
    rw [if_pos (ha t2 h2)] at e2
    unfold lateN
    rw [if_pos (Prod.ext e1 e2)]
  · have hne : (T.filter b).length ≠ T.length := fun h => ha fun t ht => by
      have := List.filter_eq_self.1 (List.length_filter_eq_length_iff.1 h |> fun h => List.filter_eq_self.2 h) t ht
      exact this
    rw [if_neg hne]
    by_cases hn : ∀ t ∈ T, ¬ b t = true
    · rw [if_pos (by rw [List.filter_eq_nil_iff.2 hn]; rfl)]
      rw [if_neg (hn t1 h1)] at e1
      rw [if_neg (hn t2 h2)] at e2
      unfold lateN
      rw [if_neg (by rintro h; rw [h] at e1; simp at e1), if_pos (Prod.ext e1 e2)]
    · have hz : (T.filter b).length ≠ 0 := fun h => hn fun t ht hb => by
        have := List.filter_eq_nil_iff.1 (List.length_eq_zero_iff.1 h) t ht
        exact this hb
      rw [if_neg hz]
      have x1 : ∃ t ∈ T, b t = false := by
        apply Classical.byContradiction
        intro hc
        exact ha fun t ht => by
          cases hb : b t
          · exact absurd ⟨t, ht, hb⟩ hc
          · rfl
      have x2 : ∃ t ∈ T, b t = true := by
        apply Classical.byContradiction
        intro hc
        exact hn fun t ht hb => hc ⟨t, ht, hb⟩
      obtain ⟨u, hu, bu⟩ := x1
      obtain ⟨v, hv, bv⟩ := x2
      have hu3 := h3 u hu
      have hv3 := h3 v hv
      simp only [bu, bv, if_true, Bool.false_eq_true, if_false] at hu3 hv3
      unfold lateN
      rw [if_neg (by rintro h; rw [h] at hu3; simp at hu3), if_neg (by rintro h; rw [h] at hv3; simp at hv3)]
theorem mem_all (t : Shearer) : t ∈ allSh (stM m0 m1 m2 runs sheep looks) ↔ (m0.1 ≤ t.1 ∧ t.1 ≤ m0.2) ∧ (m1.1 ≤ t.2.1 ∧ t.2.1 ≤ m1.2) ∧ (m2.1 ≤ t.2.2 ∧ t.2.2 ≤ m2.2) := mem_setT (stM m0 m1 m2 runs sheep looks) rfl t
theorem mem_truths (t : Shearer) (set : Nat) : t ∈ truthsL (stM m0 m1 m2 runs sheep looks) set ↔ t ∈ allSh (stM m0 m1 m2 runs sheep looks) ∧ rightB (stM (0, 0) (0, 0) (0, 0) runs sheep looks) t set = true := by
  unfold truthsL; rw [List.mem_filter]; exact Iff.rfl
end
end Go.Proofs.Ytojbkpnkcpcioaa
