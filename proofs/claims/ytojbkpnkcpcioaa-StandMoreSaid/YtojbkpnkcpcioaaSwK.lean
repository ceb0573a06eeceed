/- StandMore: plain laws. -/
import Derived.Test.YtojbkpnkcpcioaaSwF
import Derived.Test.YtojbkpnkcpcioaaSwI
import Derived.Test.YtojbkpnkcpcioaaKe
import Derived.Test.YtojbkpnkcpcioaaKf
import Derived.Test.YtojbkpnkcpcioaaSvP
set_option linter.all false
namespace Go.Proofs.Ytojbkpnkcpcioaa
open Go Go.RowKit Go.Sh Go.Sh.Stand Go.Pv
set_option maxHeartbeats 1000000
theorem ansN_code {s : Stand} {v : Bool} {L : List Int} {c : Int} (h : ansE s v L = ((0, 0), c)) (hc : c ≠ 0) : ansN s v L = (0, c) := by
  unfold ansN; rw [h]; rw [if_neg hc]
theorem hull_sub {L L' : List Int} (hL : L' ≠ []) (hs : ∀ x ∈ L', x ∈ L) : (hull L).1 ≤ (hull L').1 ∧ (hull L').2 ≤ (hull L).2 := by
  have h1 := hull_spec hL
  have hL2 : L ≠ [] := by
    obtain ⟨x, hx⟩ := List.exists_mem_of_ne_nil _ hL
    exact List.ne_nil_of_mem (hs x hx)
  have h2 := hull_spec hL2
  exact ⟨(h2.2.2 _ (hs _ h1.1)).1, (h2.2.2 _ (hs _ h1.2.1)).2⟩
theorem late_sub {L L' : List Int} (hL : L' ≠ []) (hs : ∀ x ∈ L', x ∈ L) (h : lateN (hull L) ≠ 1) : lateN (hull L') = lateN (hull L) := by
  have h1 := hull_spec hL
  have h2 := hull_sub hL hs
  have h3 := h1.2.2 _ h1.1
  have hc : hull L = (1, 1) ∨ hull L = (0, 0) := by
    by_cases e1 : hull L = (1, 1)
    · exact .inl e1
    · by_cases e2 : hull L = (0, 0)
      · exact .inr e2
      · exfalso; apply h; unfold lateN; rw [if_neg e1, if_neg e2]
  have : hull L' = hull L := by
    apply Prod.ext
    · rcases hc with e | e <;> rw [e] at h2 ⊢ <;> simp only at h2 ⊢ <;> omega
    · rcases hc with e | e <;> rw [e] at h2 ⊢ <;> simp only at h2 ⊢ <;> omega
  rw [this]
theorem dayFrom_prefix (runs : List (Int × Int)) (t : Shearer) (k : Int) : ∀ (ks : List Int) (r : Nat) (d : Int) (i : Nat), i < ks.length → (dayFrom runs t (ks ++ [k]) r d).getD i (0, 0) = (dayFrom runs t ks r d).getD i (0, 0)
  | [], _, _, _, h => by simp at h
  | q :: ks, r, d, i, h => by
    simp only [List.cons_append, dayFrom]
    cases hb : begins (runs.drop r) r d with
    | none =>
      simp only [List.length_append, List.length_cons, List.length_nil]
      rw [List.getD, List.getD, List.getElem?_replicate, List.getElem?_replicate]
      simp only [List.length_cons] at h
      rw [if_pos (by omega), if_pos (by omega)]
    | some x =>
      obtain ⟨j, at_⟩ := x
      simp only
      cases i with
      | zero => rfl
      | succ i =>
        have := dayFrom_prefix runs t k ks j (at_ + tk t q) i (by simpa using h)
        simpa [List.getD] using this
section
variable (m0 m1 m2 : Int × Int) (runs : List (Int × Int)) (sheep : List Int) (looks : List (Int × Int × Int))
theorem mem_T (t : Shearer) : t ∈ truthsL (stM m0 m1 m2 runs sheep looks) (everyB (stM m0 m1 m2 runs sheep looks)) ↔ ((m0.1 ≤ t.1 ∧ t.1 ≤ m0.2) ∧ (m1.1 ≤ t.2.1 ∧ t.2.1 ≤ m1.2) ∧ (m2.1 ≤ t.2.2 ∧ t.2.2 ≤ m2.2)) ∧ ∀ x ∈ looks, x.2.1 ≤ countAt (dayFrom runs t sheep 0 0) x.1 ∧ countAt (dayFrom runs t sheep 0 0) x.1 ≤ x.2.2 := by
  unfold truthsL
  rw [List.mem_filter, mem_all, right_all, List.all_eq_true]
  refine and_congr_right fun _ => ?_
  refine forall_congr' fun x => forall_congr' fun _ => ?_
  unfold lookIn
  rw [Bool.and_eq_true, decide_eq_true_eq, decide_eq_true_eq]
  exact Iff.rfl
theorem vok {M0 M1 M2 : Int × Int} {L : List (Int × Int × Int)} {i : Nat} {minute kind : Int} (hv : validB (stM m0 m1 m2 runs sheep looks) = true) (hmin : inB minute 0 999 = true) (hk : inB kind 0 2 = true) (hr : 1 ≤ runs.length ∧ runs.length ≤ 4) (hsl : sheep.length ≤ 16) (hL : L.length ≤ 40)
    (hsub : validB (stM M0 M1 M2 runs sheep L) = true → ∀ t, t ∈ truthsL (stM M0 M1 M2 runs sheep L) (everyB (stM M0 M1 M2 runs sheep L)) → t ∈ truthsL (stM m0 m1 m2 runs sheep looks) (everyB (stM m0 m1 m2 runs sheep looks)))
    (heq : i = 3 → truthsL (stM M0 M1 M2 runs sheep L) (everyB (stM M0 M1 M2 runs sheep L)) = truthsL (stM m0 m1 m2 runs sheep looks) (everyB (stM m0 m1 m2 runs sheep looks))) :
    VOK minute kind runs sheep (ansE (stM m0 m1 m2 runs sheep looks) true (countL (stM m0 m1 m2 runs sheep looks) minute)).1 (ansE (stM m0 m1 m2 runs sheep looks) true (takesL (stM m0 m1 m2 runs sheep looks) kind)).1 (ansE (stM m0 m1 m2 runs sheep looks) true (countL (stM m0 m1 m2 runs sheep looks) minute)).2
      (ansN (stM m0 m1 m2 runs sheep looks) (inB ((runs.length : Int) - 1) 0 ((runs.length : Int) - 1) && decide (0 < (runs.length : Int) - 1)) (lateL (stM m0 m1 m2 runs sheep looks) ((runs.length : Int) - 1))).1 i M0 M1 M2 L := by
  refine ⟨_, ok_standR M0 M1 M2 runs sheep L (by omega) (by omega) hL, fun hvv => ?_⟩
  have c1 := ok_count M0 M1 M2 runs sheep L minute
  have c2 := ok_takes M0 M1 M2 runs sheep L kind
  have c3 := ok_late M0 M1 M2 runs sheep L ((runs.length : Int) - 1)
  rw [hmin] at c1
  rw [hk] at c2
  have hrb : inB ((runs.length : Int) - 1) 0 ((runs.length : Int) - 1) = true := by unfold inB; simp; omega
  have hsub := hsub hvv
  have eC : ∀ (M0 M1 M2 : Int × Int) (L : List (Int × Int × Int)), countL (stM M0 M1 M2 runs sheep L) minute = (truthsL (stM M0 M1 M2 runs sheep L) (everyB (stM M0 M1 M2 runs sheep L))).map (fun t => countAt (dayFrom runs t sheep 0 0) minute) := fun _ _ _ _ => rfl
  have eT : ∀ (M0 M1 M2 : Int × Int) (L : List (Int × Int × Int)), takesL (stM M0 M1 M2 runs sheep L) kind = (truthsL (stM M0 M1 M2 runs sheep L) (everyB (stM M0 M1 M2 runs sheep L))).map (fun t => tk t kind) := fun _ _ _ _ => rfl
  have eL : ∀ (M0 M1 M2 : Int × Int) (L : List (Int × Int × Int)), lateL (stM M0 M1 M2 runs sheep L) ((runs.length : Int) - 1) = (truthsL (stM M0 M1 M2 runs sheep L) (everyB (stM M0 M1 M2 runs sheep L))).map (fun t => if lateOf (stM (0, 0) (0, 0) (0, 0) runs [] []) (dayFrom runs t sheep 0 0) ((runs.length : Int) - 1).toNat then 1 else 0) := fun _ _ _ _ => rfl
  rw [eC] at c1
  rw [eT] at c2
  rw [eL] at c3
  rw [eC, eT, eL]
  rw [hrb] at c3 ⊢
  have hne : truthsL (stM M0 M1 M2 runs sheep L) (everyB (stM M0 M1 M2 runs sheep L)) ≠ [] → truthsL (stM m0 m1 m2 runs sheep looks) (everyB (stM m0 m1 m2 runs sheep looks)) ≠ [] := by
    intro h
    obtain ⟨x, hx⟩ := List.exists_mem_of_ne_nil _ h
    exact List.ne_nil_of_mem (hsub x hx)
  generalize (fun t : Shearer => countAt (dayFrom runs t sheep 0 0) minute) = fC at c1 ⊢
  generalize (fun t : Shearer => tk t kind) = fT at c2 ⊢
  generalize (fun t : Shearer => if lateOf (stM (0, 0) (0, 0) (0, 0) runs [] []) (dayFrom runs t sheep 0 0) ((runs.length : Int) - 1).toNat = true then (1 : Int) else 0) = fL at c3 ⊢
  generalize truthsL (stM M0 M1 M2 runs sheep L) (everyB (stM M0 M1 M2 runs sheep L)) = T' at *
  generalize truthsL (stM m0 m1 m2 runs sheep looks) (everyB (stM m0 m1 m2 runs sheep looks)) = T at *
  have hmap : ∀ (f : Shearer → Int), ∀ x ∈ T'.map f, x ∈ T.map f := by
    intro f x hx
    obtain ⟨t, ht, rfl⟩ := List.mem_map.1 hx
    exact List.mem_map.2 ⟨t, hsub t ht, rfl⟩
  have hN : ∀ (s : Stand) (X : List Int), validB s = true → ¬ 1 < runs.length → ansN s (true && decide (0 < (runs.length : Int) - 1)) X = (0, 2) := by
    intro s X hs hn
    exact ansN_range hs (by simp; omega)
  have hN0 : ∀ (s : Stand) (X : List Int), validB s = true → X = [] → 1 < runs.length → ansN s (true && decide (0 < (runs.length : Int) - 1)) X = (0, 10) := by
    intro s X hs hX hn
    exact ansN_code (ans_none hs (by simp; omega) hX) (by decide)
  have hN1 : ∀ (s : Stand) (X : List Int), validB s = true → X ≠ [] → 1 < runs.length → ansN s (true && decide (0 < (runs.length : Int) - 1)) X = (lateN (hull X), 0) := by
    intro s X hs hX hn
    unfold ansN
    rw [ans_some hs (by simp; omega) hX]
    rfl
  by_cases hT' : T' = []
  · subst hT'
    rw [ans_none (L := List.map fC []) hvv rfl rfl] at c1
    rw [ans_none (L := List.map fT []) hvv rfl rfl] at c2
    refine ⟨(0, 0), (0, 0), _, _, 10, c1, c2, c3, .inr rfl, fun hn => ?_, fun h => by omega, fun h3 => ?_⟩
    · rw [hN0 _ (List.map fL []) hvv rfl hn]
    · have hT := heq h3
      subst hT
      rw [ans_none (L := List.map fC []) hv rfl rfl, ans_none (L := List.map fT []) hv rfl rfl]
      refine ⟨rfl, rfl, rfl, ?_⟩
      by_cases hn : 1 < runs.length
      · rw [hN0 _ (List.map fL []) hvv rfl hn, hN0 _ (List.map fL []) hv rfl hn]
      · rw [hN _ _ hvv hn, hN _ _ hv hn]
  · have hT := hne hT'
    have m1' : ∀ f : Shearer → Int, T'.map f ≠ [] := fun f => by simpa using hT'
    have m2' : ∀ f : Shearer → Int, T.map f ≠ [] := fun f => by simpa using hT
    rw [ans_some hvv rfl (m1' fC)] at c1
    rw [ans_some hvv rfl (m1' fT)] at c2
    rw [ans_some hv rfl (m2' fC), ans_some hv rfl (m2' fT)]
    refine ⟨_, _, _, _, 0, c1, c2, c3, .inl rfl, fun hn => ?_, fun _ => ⟨rfl, hull_sub (m1' _) (hmap _), hull_sub (m1' _) (hmap _), fun hn hl => ?_⟩, fun h3 => ?_⟩
    · rw [hN1 _ _ hvv (m1' fL) hn]
    · rw [hN1 _ _ hv (m2' fL) hn] at hl ⊢
      rw [hN1 _ _ hvv (m1' fL) hn]
      exact late_sub (m1' _) (hmap _) hl
    · have hT2 := heq h3
      subst hT2
      refine ⟨rfl, rfl, rfl, ?_⟩
      by_cases hn : 1 < runs.length
      · rw [hN1 _ _ hvv (m1' fL) hn, hN1 _ _ hv (m1' fL) hn]
      · rw [hN _ _ hvv hn, hN _ _ hv hn]
end
end Go.Proofs.Ytojbkpnkcpcioaa
