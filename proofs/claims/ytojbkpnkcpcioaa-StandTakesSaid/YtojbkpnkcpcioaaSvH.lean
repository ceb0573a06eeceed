/- StandRises: what it looks at is so. -/
import Derived.Test.YtojbkpnkcpcioaaSvG
set_option linter.all false
namespace Go.Proofs.Ytojbkpnkcpcioaa
open Go Go.RowKit Go.Sh Go.Sh.Stand Go.Pv
set_option maxHeartbeats 2000000
section
variable (m0 m1 m2 : Int × Int) (runs : List (Int × Int)) (sheep : List Int) (looks : List (Int × Int × Int))
/-- What the law looks at, as plain facts. -/
structure RisesF (minute nlo nhi ylo yhi : Int) (dlo dhi : Nat → Int) (lst mst : Nat → Int) (blo bhi olo ohi : Nat → Int) (low : Nat → Int) : Prop where
  n1 : nlo ≤ nhi
  n2 : nlo ≤ ylo
  n3 : nhi ≤ yhi
  n4 : 0 ≤ nlo
  n5 : nhi ≤ sheep.length
  len : sheep.length ≤ 16
  rlen : runs.length ≤ 4
  mins : ∀ m ∈ [m0, m1, m2], 1 ≤ m.1 ∧ m.1 ≤ 40
  kinds : ∀ k, k < sheep.length → 0 ≤ sheep.getD k 0 ∧ sheep.getD k 0 ≤ 2
  d1 : ∀ k, k < sheep.length → dlo k ≤ dhi k
  d2 : ∀ k, k < sheep.length → min 1000 ((if k = 0 then -1 else dlo (k - 1)) + ([m0, m1, m2].getD (sheep.getD k 0).toNat (0, 0)).1) ≤ dlo k
  d3 : ∀ k, k < sheep.length → (if k = 0 then -1 else dhi (k - 1)) ≤ dhi k
  d4 : ∀ k, k < sheep.length → 0 ≤ dlo k ∧ dhi k ≤ 1000
  l0 : lst 0 = 0
  l1 : ∀ k, k < sheep.length → lst (k + 1) = lst k + if dhi k ≤ minute then 1 else 0
  l2 : lst sheep.length ≤ nlo
  k0 : mst 0 = 0
  k1 : ∀ k, k < sheep.length → mst (k + 1) = mst k + if dlo k ≤ minute then 1 else 0
  k2 : nhi ≤ mst sheep.length
  run : ∀ r, r < runs.length → 0 ≤ (runs.getD r (0, 0)).1 ∧ (runs.getD r (0, 0)).1 < (runs.getD r (0, 0)).2 ∧ (runs.getD r (0, 0)).2 ≤ 600
  b1 : ∀ r, r < runs.length → 0 ≤ blo r ∧ blo r ≤ bhi r ∧ bhi r ≤ (runs.getD r (0, 0)).2 - (runs.getD r (0, 0)).1
  o1 : ∀ r, r < runs.length → 0 ≤ olo r ∧ olo r ≤ ohi r ∧ ohi r < 40
  w0 : low 0 = 0
  w1 : ∀ r, r < runs.length → low (r + 1) = low r + blo r
  w2 : low runs.length ≤ sheep.length
variable {m0 m1 m2 runs sheep}
theorem RisesF.lst_le {minute nlo nhi ylo yhi : Int} {dlo dhi lst mst blo bhi olo ohi low : Nat → Int} (h : RisesF m0 m1 m2 runs sheep minute nlo nhi ylo yhi dlo dhi lst mst blo bhi olo ohi low) : ∀ k, k ≤ sheep.length → 0 ≤ lst k ∧ lst k ≤ k ∧ 0 ≤ mst k ∧ mst k ≤ k
  | 0, _ => by rw [h.l0, h.k0]; simp
  | k + 1, hk => by
    have := h.lst_le k (by omega)
    rw [h.l1 k (by omega), h.k1 k (by omega)]
    split <;> split <;> omega
theorem RisesF.low_le {minute nlo nhi ylo yhi : Int} {dlo dhi lst mst blo bhi olo ohi low : Nat → Int} (h : RisesF m0 m1 m2 runs sheep minute nlo nhi ylo yhi dlo dhi lst mst blo bhi olo ohi low) : ∀ k, k ≤ runs.length → 0 ≤ low k ∧ low k ≤ 600 * k
  | 0, _ => by rw [h.w0]; simp
  | k + 1, hk => by
    have h1 := h.low_le k (by omega)
    have h2 := h.b1 k (by omega)
    have h3 := h.run k (by omega)
    rw [h.w1 k (by omega)]
    omega
variable (m0 m1 m2 runs sheep)
theorem ans_some {s : Stand} {ok : Bool} {L : List Int} (h : validB s = true) (ho : ok = true) (hL : L ≠ []) : ansE s ok L = (hull L, 0) := by
  unfold ansE; rw [if_neg (by simp [h]), if_neg (by simp [ho]), if_neg hL]; rfl
theorem ans_none {s : Stand} {ok : Bool} {L : List Int} (h : validB s = true) (ho : ok = true) (hL : L = []) : ansE s ok L = ((0, 0), 10) := by
  unfold ansE; rw [if_neg (by simp [h]), if_neg (by simp [ho]), if_pos hL]
theorem tmod_eq {a : Int} (h : 0 ≤ a) : 0 ≤ a.tmod 999 ∧ a.tmod 999 ≤ 998 := by
  rw [Int.tmod_eq_emod_of_nonneg h]; omega
theorem hull_map {α : Type} {T : List α} (hT : T ≠ []) (f : α → Int) : (∃ t ∈ T, (hull (T.map f)).1 = f t) ∧ (∃ t ∈ T, (hull (T.map f)).2 = f t) ∧ ∀ t ∈ T, (hull (T.map f)).1 ≤ f t ∧ f t ≤ (hull (T.map f)).2 := by
  obtain ⟨h1, h2, h3⟩ := hull_spec (L := T.map f) (by simpa using hT)
  simp only [List.mem_map] at h1 h2
  obtain ⟨t1, ht1, e1⟩ := h1
  obtain ⟨t2, ht2, e2⟩ := h2
  exact ⟨⟨t1, ht1, e1.symm⟩, ⟨t2, ht2, e2.symm⟩, fun t ht => h3 _ (List.mem_map.2 ⟨t, ht, rfl⟩)⟩
theorem tk_mins {s : Stand} (hs : Fit s) {t : Shearer} (ht : t ∈ allSh s) {k : Int} (hk : 0 ≤ k ∧ k ≤ 2) : (s.mins.getD k.toNat (0, 0)).1 ≤ tk t k ∧ tk t k ≤ (s.mins.getD k.toNat (0, 0)).2 := by
  obtain ⟨h0, h1, h2⟩ := (mem_setT s hs.mins t).1 ht
  rcases (show k = 0 ∨ k = 1 ∨ k = 2 by omega) with rfl | rfl | rfl
  · exact h0
  · exact h1
  · exact h2
theorem tok_tk {t : Shearer} (ht : Tok t) (k : Int) : 1 ≤ tk t k ∧ tk t k ≤ 40 := by
  unfold tk
  split
  · exact ht.1
  · split
    · exact ht.2.1
    · exact ht.2.2
theorem rises_facts (s : Stand) (hm : s.mins = [m0, m1, m2]) (hr : s.runs = runs) (hsh : s.sheep = sheep) (hs : Fit s) (T : List Shearer) (hT : T ≠ []) (hsub : ∀ t ∈ T, t ∈ allSh s) (minute : Int) :
    RisesF m0 m1 m2 runs sheep minute (hull (T.map fun t => countAt (day s t) minute)).1 (hull (T.map fun t => countAt (day s t) minute)).2 (hull (T.map fun t => countAt (day s t) (minute + 1))).1 (hull (T.map fun t => countAt (day s t) (minute + 1))).2
      (fun k => (hull (T.map fun t => ((day s t).getD k (0, 0)).1)).1) (fun k => (hull (T.map fun t => ((day s t).getD k (0, 0)).1)).2)
      (sumTo fun k => if (hull (T.map fun t => ((day s t).getD k (0, 0)).1)).2 ≤ minute then 1 else 0) (sumTo fun k => if (hull (T.map fun t => ((day s t).getD k (0, 0)).1)).1 ≤ minute then 1 else 0)
      (fun r => (hull (T.map fun t => begunIn (day s t) r)).1) (fun r => (hull (T.map fun t => begunIn (day s t) r)).2)
      (fun r => (hull (T.map fun t => overOf (day s t) r (s.runs.getD r (0, 0)).2)).1) (fun r => (hull (T.map fun t => overOf (day s t) r (s.runs.getD r (0, 0)).2)).2)
      (sumTo fun r => (hull (T.map fun t => begunIn (day s t) r)).1) := by
  subst hr hsh
  have hlen : ∀ t, (day s t).length = s.sheep.length := day_len s
  have htok : ∀ t ∈ T, Tok t := fun t ht => tok_all hs t (hsub t ht)
  have hrange : ∀ t ∈ T, ∀ k, k < s.sheep.length → 0 ≤ ((day s t).getD k (0, 0)).1 ∧ ((day s t).getD k (0, 0)).1 ≤ 1000 := by
    intro t ht k hk
    have h := day_range hs (hsub t ht)
    have hk' : k < (day s t).length := by rw [hlen]; exact hk
    have : (day s t).getD k (0, 0) = (day s t)[k] := by simp [List.getD, hk']
    rw [this]
    exact h _ (List.getElem_mem _)
  have hkind : ∀ k, k < s.sheep.length → 0 ≤ s.sheep.getD k 0 ∧ s.sheep.getD k 0 ≤ 2 := by
    intro k hk
    have : s.sheep.getD k 0 = s.sheep[k] := by simp [List.getD, hk]
    rw [this]
    exact hs.kinds _ (List.getElem_mem _)
  have hrun : ∀ r, r < s.runs.length → s.runs[r]? = some (s.runs.getD r (0, 0)) := fun r h => by simp [List.getD, h]
  have hrunb : ∀ r, r < s.runs.length → 0 ≤ (s.runs.getD r (0, 0)).1 ∧ (s.runs.getD r (0, 0)).1 < (s.runs.getD r (0, 0)).2 ∧ (s.runs.getD r (0, 0)).2 ≤ 600 := by
    intro r h
    exact hs.runb _ (List.mem_of_getElem? (hrun r h))
  have hstep : ∀ t, ∀ k, k < s.sheep.length → min 1000 ((if k = 0 then 0 else ((day s t).getD (k - 1) (0, 0)).1) + tk t (s.sheep.getD k 0)) ≤ ((day s t).getD k (0, 0)).1 := fun t k hk => dayFrom_step s.runs t s.sheep 0 0 k hk
  have hc := hull_map hT fun t => countAt (day s t) minute
  have hc' := hull_map hT fun t => countAt (day s t) (minute + 1)
  have hd := fun k : Nat => hull_map hT fun t => ((day s t).getD k (0, 0)).1
  have hb := fun r : Nat => hull_map hT fun t => begunIn (day s t) r
  have ho := fun r : Nat => hull_map hT fun t => overOf (day s t) r (s.runs.getD r (0, 0)).2
  obtain ⟨t0, ht0⟩ := List.exists_mem_of_ne_nil T hT
  have hcm : ∀ t, countAt (day s t) minute ≤ countAt (day s t) (minute + 1) := fun t => countAt_mono _ (by omega)
  constructor
  · have := hc.2.2 t0 ht0; omega
  · obtain ⟨t, ht, e⟩ := hc'.1
    rw [e]
    have := hc.2.2 t ht
    have := hcm t
    omega
  · obtain ⟨t, ht, e⟩ := hc.2.1
    rw [e]
    have := hc'.2.2 t ht
    have := hcm t
    omega
  · obtain ⟨t, ht, e⟩ := hc.1
    rw [e]; exact (countAt_le _ _).1
  · obtain ⟨t, ht, e⟩ := hc.2.1
    rw [e, ← hlen t]; exact (countAt_le _ _).2
  · exact hs.sheep
  · exact hs.runs.2
  · intro m hmm
    have := hs.minb m (by rw [hm]; exact hmm)
    omega
  · exact hkind
  · intro k hk
    have := (hd k).2.2 t0 ht0
    omega
  · intro k hk
    obtain ⟨t, ht, e⟩ := (hd k).1
    rw [e]
    have h1 := hstep t k hk
    have h2 := (tk_mins hs (hsub t ht) (hkind k hk)).1
    rw [hm] at h2
    have h3 := (hd (k - 1)).2.2 t ht
    by_cases hk0 : k = 0
    · rw [if_pos hk0] at h1 ⊢; omega
    · rw [if_neg hk0] at h1 ⊢; omega
  · intro k hk
    by_cases hk0 : k = 0
    · rw [if_pos hk0]
      have := (hd k).2.2 t0 ht0
      have := hrange t0 ht0 k hk
      omega
    · rw [if_neg hk0]
      obtain ⟨t, ht, e⟩ := (hd (k - 1)).2.1
      rw [e]
      have h1 := hstep t k hk
      rw [if_neg hk0] at h1
      have h2 := (tok_tk (htok t ht) (s.sheep.getD k 0)).1
      have h3 := (hd k).2.2 t ht
      have h4 := hrange t ht (k - 1) (by omega)
      omega
  · intro k hk
    obtain ⟨t, ht, e⟩ := (hd k).1
    obtain ⟨t', ht', e'⟩ := (hd k).2.1
    have h1 := hrange t ht k hk
    have h2 := hrange t' ht' k hk
    omega
  · rfl
  · intro k _; rfl
  · obtain ⟨t, ht, e⟩ := hc.1
    rw [e, countAt_sum, hlen t]
    refine sumTo_mono _ fun i hi => ?_
    have := (hd i).2.2 t ht
    split <;> split <;> omega
  · rfl
  · intro k _; rfl
  · obtain ⟨t, ht, e⟩ := hc.2.1
    rw [e, countAt_sum, hlen t]
    refine sumTo_mono _ fun i hi => ?_
    have := (hd i).2.2 t ht
    split <;> split <;> omega
  · exact hrunb
  · intro r hr
    obtain ⟨t, ht, e⟩ := (hb r).1
    obtain ⟨t', ht', e'⟩ := (hb r).2.1
    have h1 := (begunIn_le (day s t) r).1
    have h2 := begun_le s.runs t' (fun k => (tok_tk (htok t' ht') k).1) s.sheep 0 0 r _ (hrun r hr)
    have h3 := (hb r).2.2 t0 ht0
    have h4 := hrunb r hr
    have h5 : begunIn (day s t') r ≤ max 0 ((s.runs.getD r (0, 0)).2 - gmax 0 (s.runs.getD r (0, 0)).1) := h2
    have h6 := gmax_ge 0 (s.runs.getD r (0, 0)).1
    omega
  · intro r hr
    have hov : ∀ t ∈ T, 0 ≤ overOf (day s t) r (s.runs.getD r (0, 0)).2 ∧ overOf (day s t) r (s.runs.getD r (0, 0)).2 < 40 := by
      intro t ht
      have h4 := hrunb r hr
      have hlast : lastOf (day s t) r - (s.runs.getD r (0, 0)).2 < 40 := by
        rcases lastOf_mem (day s t) r with h | ⟨x, hx, h1, h2⟩
        · rw [h]; omega
        · rw [h2]
          rcases dayFrom_mem s.runs t s.sheep 0 0 x hx with h | ⟨r', p, k, a, b, c, d⟩
          · rw [h] at h1; simp only at h1; omega
          · have : r' = r := by omega
            subst this
            rw [hrun r' hr] at a
            cases a
            have := (tok_tk (htok t ht) k).2
            omega
      unfold overOf gmax
      split
      · omega
      · split <;> omega
    obtain ⟨t, ht, e⟩ := (ho r).1
    obtain ⟨t', ht', e'⟩ := (ho r).2.1
    have h1 := hov t ht
    have h2 := hov t' ht'
    have h3 := (ho r).2.2 t0 ht0
    omega
  · rfl
  · intro r _; rfl
  · refine Int.le_trans (sumTo_mono _ fun r hr => ((hb r).2.2 t0 ht0).1) ?_
    rw [← hlen t0]
    exact sum_begun_le _ _
end
end Go.Proofs.Ytojbkpnkcpcioaa
