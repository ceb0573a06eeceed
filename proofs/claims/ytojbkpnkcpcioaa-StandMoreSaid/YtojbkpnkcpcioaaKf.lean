/- Kf: texts joined (SvG SvH SvM SvN SvJ). -/
import Derived.Test.YtojbkpnkcpcioaaKe
import Derived.Test.YtojbkpnkcpcioaaKa
import Derived.Test.YtojbkpnkcpcioaaPvY
import Derived.Test.YtojbkpnkcpcioaaRows
set_option linter.all false
/- Plain laws of a day, for StandRises. -/
namespace Go.Proofs.Ytojbkpnkcpcioaa
open Go.RowKit Go.Sh Go.Sh.Stand

theorem mem_setT (s : Stand) (hm : s.mins.length = 3) (t : Shearer) : t ∈ allSh s ↔ ((s.mins.getD 0 (0, 0)).1 ≤ t.1 ∧ t.1 ≤ (s.mins.getD 0 (0, 0)).2) ∧ ((s.mins.getD 1 (0, 0)).1 ≤ t.2.1 ∧ t.2.1 ≤ (s.mins.getD 1 (0, 0)).2) ∧ ((s.mins.getD 2 (0, 0)).1 ≤ t.2.2 ∧ t.2.2 ≤ (s.mins.getD 2 (0, 0)).2) := by
  obtain ⟨a, b, c⟩ := t
  simp only [allSh, subs, List.mem_flatMap, List.mem_range, List.mem_singleton, setT, setK, Nat.zero_add, Nat.reduceAdd]
  generalize s.mins.getD 0 (0, 0) = q0
  generalize s.mins.getD 1 (0, 0) = q1
  generalize s.mins.getD 2 (0, 0) = q2
  constructor
  · rintro ⟨i, hi, j, hj, l, hl, h⟩
    simp at h
    obtain ⟨rfl, rfl, rfl⟩ := h
    omega
  · rintro ⟨h0, h1, h2⟩
    refine ⟨(a - q0.1).toNat, by omega, (b - q1.1).toNat, by omega, (c - q2.1).toNat, by omega, ?_⟩
    simp
    omega

/-- Each sheep is done as long after the one before it as it takes, at least. -/
theorem dayFrom_step (runs : List (Int × Int)) (t : Shearer) : ∀ (ks : List Int) (run : Nat) (done : Int) (i : Nat), i < ks.length → min 1000 ((if i = 0 then done else ((dayFrom runs t ks run done).getD (i - 1) (0, 0)).1) + tk t (ks.getD i 0)) ≤ ((dayFrom runs t ks run done).getD i (0, 0)).1
  | [], _, _, i, h => by simp at h
  | k :: ks, run, done, i, h => by
    cases hb : begins (runs.drop run) run done with
    | none =>
      rw [dayFrom, hb]
      show min 1000 ((if i = 0 then done else ((List.replicate (ks.length + 1) ((1000 : Int), (-1 : Int))).getD (i - 1) (0, 0)).1) + tk t ((k :: ks).getD i 0)) ≤ ((List.replicate (ks.length + 1) ((1000 : Int), (-1 : Int))).getD i (0, 0)).1
      have h' : i < ks.length + 1 := by simpa using h
      have : ((List.replicate (ks.length + 1) ((1000 : Int), (-1 : Int))).getD i (0, 0)).1 = 1000 := by
        simp [List.getD, List.getElem?_replicate, h']
      rw [this]; omega
    | some ja =>
      obtain ⟨j, at_⟩ := ja
      rw [dayFrom, hb]
      show min 1000 ((if i = 0 then done else (((at_ + tk t k, (j : Int)) :: dayFrom runs t ks j (at_ + tk t k)).getD (i - 1) (0, 0)).1) + tk t ((k :: ks).getD i 0)) ≤ (((at_ + tk t k, (j : Int)) :: dayFrom runs t ks j (at_ + tk t k)).getD i (0, 0)).1
      obtain ⟨p, h1, h2, h3, h4⟩ := begins_of_drop hb
      have hg := gmax_ge done p.1
      cases i with
      | zero => simp; omega
      | succ i =>
        have := dayFrom_step runs t ks j (at_ + tk t k) i (by simpa using h)
        simp only [List.getD_cons_succ, Nat.add_sub_cancel, Nat.succ_ne_zero, if_false]
        cases i with
        | zero => simpa using this
        | succ i => simpa using this

theorem dayFrom_mem (runs : List (Int × Int)) (t : Shearer) : ∀ (ks : List Int) (run : Nat) (done : Int) (x : Int × Int), x ∈ dayFrom runs t ks run done → x = (1000, -1) ∨ ∃ r p k, runs[r]? = some p ∧ x.2 = (r : Nat) ∧ k ∈ ks ∧ x.1 < p.2 + tk t k
  | [], _, _, x, hx => by simp [dayFrom] at hx
  | k :: ks, run, done, x, hx => by
    unfold dayFrom at hx
    split at hx
    · exact .inl (List.eq_of_mem_replicate hx)
    · rename_i i at_ hb
      obtain ⟨p, h1, h2, h3, h4⟩ := begins_of_drop hb
      rcases List.mem_cons.1 hx with rfl | hx
      · exact .inr ⟨i, p, k, h2, rfl, List.mem_cons_self .., by simp only; omega⟩
      · rcases dayFrom_mem runs t ks i _ x hx with h | ⟨r, p, k', a, b, c, d⟩
        · exact .inl h
        · exact .inr ⟨r, p, k', a, b, List.mem_cons_of_mem _ c, d⟩

theorem begunIn_cons (x : Int × Int) (l : List (Int × Int)) (m : Int) : begunIn (x :: l) m = begunIn l m + if x.2 = m then 1 else 0 := by
  unfold begunIn; by_cases h : x.2 = m <;> simp [List.filter_cons, h]
theorem begunIn_none (n : Nat) (r : Nat) : begunIn (List.replicate n ((1000 : Int), (-1 : Int))) r = 0 := by
  unfold begunIn
  have : ∀ x ∈ List.replicate n ((1000 : Int), (-1 : Int)), ¬ (decide (x.2 = (r : Int))) = true := by
    intro x hx
    have := List.eq_of_mem_replicate hx
    subst this
    simp
  rw [List.filter_eq_nil_iff.2 this]; rfl
theorem begun_before (runs : List (Int × Int)) (t : Shearer) : ∀ (ks : List Int) (run : Nat) (done : Int) (r : Nat), r < run → begunIn (dayFrom runs t ks run done) r = 0
  | [], _, _, _, _ => rfl
  | k :: ks, run, done, r, h => by
    unfold dayFrom
    split
    · exact begunIn_none _ r
    · rename_i i at_ hb
      obtain ⟨p, h1, h2, h3, h4⟩ := begins_of_drop hb
      rw [begunIn_cons, begun_before runs t ks i _ r (by omega), if_neg (by simp only; omega)]; rfl
theorem begun_le (runs : List (Int × Int)) (t : Shearer) (ht : ∀ k, 1 ≤ tk t k) : ∀ (ks : List Int) (run : Nat) (done : Int) (r : Nat) (p : Int × Int), runs[r]? = some p → begunIn (dayFrom runs t ks run done) r ≤ max 0 (p.2 - gmax done p.1)
  | [], _, _, _, _, _ => by simp [dayFrom, begunIn]; omega
  | k :: ks, run, done, r, p, hp => by
    unfold dayFrom
    split
    · rw [begunIn_none]; omega
    · rename_i i at_ hb
      obtain ⟨q, h1, h2, h3, h4⟩ := begins_of_drop hb
      have ih := begun_le runs t ht ks i (at_ + tk t k) r p hp
      have hk := ht k
      rw [begunIn_cons]
      simp only
      have hg := gmax_ge done q.1
      by_cases hri : (i : Int) = r
      · have : i = r := by omega
        subst this
        rw [hp] at h2
        cases h2
        have hg2 := gmax_ge (at_ + tk t k) p.1
        rw [if_pos hri]
        omega
      · rw [if_neg hri]
        have : gmax done p.1 ≤ gmax (at_ + tk t k) p.1 := by
          unfold gmax; split <;> split <;> omega
        omega
theorem lastOf_mem (l : List (Int × Int)) (m : Int) : lastOf l m = 0 ∨ ∃ x ∈ l, x.2 = m ∧ lastOf l m = x.1 := by
  have key : ∀ (l : List (Int × Int)) (a : Int), l.foldl (fun a x => if x.2 = m then x.1 else a) a = a ∨ ∃ x ∈ l, x.2 = m ∧ l.foldl (fun a x => if x.2 = m then x.1 else a) a = x.1 := by
    intro l
    induction l with
    | nil => intro a; exact .inl rfl
    | cons x r ih =>
      intro a
      rcases ih (if x.2 = m then x.1 else a) with h | ⟨y, hy, h1, h2⟩
      · by_cases hx : x.2 = m
        · refine .inr ⟨x, List.mem_cons_self .., hx, ?_⟩
          show r.foldl _ (if x.2 = m then x.1 else a) = _
          rw [h, if_pos hx]
        · refine .inl ?_
          show r.foldl _ (if x.2 = m then x.1 else a) = _
          rw [h, if_neg hx]
      · exact .inr ⟨y, List.mem_cons_of_mem _ hy, h1, h2⟩
  exact key l 0
theorem filt_add (l : List (Int × Int)) (n : Nat) : (l.filter fun x => decide (0 ≤ x.2 ∧ x.2 < ((n + 1 : Nat) : Int))).length = (l.filter fun x => decide (0 ≤ x.2 ∧ x.2 < (n : Int))).length + (l.filter fun x => decide (x.2 = (n : Int))).length := by
  induction l with
  | nil => rfl
  | cons x l ih =>
    have key : ∀ (p : Int × Int → Bool), ((x :: l).filter p).length = (l.filter p).length + if p x = true then 1 else 0 := by
      intro p
      rw [List.filter_cons]; split <;> simp
    rw [key, key, key, ih]
    simp only [decide_eq_true_eq]
    split <;> split <;> split <;> omega
def sumTo (f : Nat → Int) : Nat → Int
  | 0 => 0
  | n + 1 => sumTo f n + f n
theorem sum_begun (l : List (Int × Int)) (n : Nat) : sumTo (fun r => begunIn l r) n = (l.filter fun x => decide (0 ≤ x.2 ∧ x.2 < (n : Int))).length := by
  induction n with
  | zero =>
    have : (l.filter fun x => decide (0 ≤ x.2 ∧ x.2 < ((0 : Nat) : Int))) = [] := List.filter_eq_nil_iff.2 fun x _ => by simp only [decide_eq_true_eq]; omega
    rw [this]; rfl
  | succ n ih => rw [filt_add]; rw [sumTo, ih]; show _ + ((_ : Nat) : Int) = _; omega
theorem sum_begun_le (l : List (Int × Int)) (n : Nat) : sumTo (fun r => begunIn l r) n ≤ l.length := by
  rw [sum_begun]
  have := List.length_filter_le (fun x : Int × Int => decide (0 ≤ x.2 ∧ x.2 < (n : Int))) l
  omega
theorem sumTo_mono {f g : Nat → Int} (n : Nat) (h : ∀ i, i < n → f i ≤ g i) : sumTo f n ≤ sumTo g n := by
  induction n with
  | zero => exact Int.le_refl _
  | succ n ih =>
    have := ih fun i hi => h i (by omega)
    have := h n (by omega)
    simp only [sumTo]; omega
theorem countAt_take (l : List (Int × Int)) (m : Int) (n : Nat) (h : n ≤ l.length) : countAt (l.take n) m = sumTo (fun i => if (l.getD i (0, 0)).1 ≤ m then 1 else 0) n := by
  induction n with
  | zero => rfl
  | succ n ih => rw [take_snoc l (0, 0) (by omega), countAt_snoc, ih (by omega)]; rfl
theorem countAt_sum (l : List (Int × Int)) (m : Int) : countAt l m = sumTo (fun i => if (l.getD i (0, 0)).1 ≤ m then 1 else 0) l.length := by
  have := countAt_take l m l.length (Nat.le_refl _)
  rwa [List.take_length] at this
theorem countAt_mono (l : List (Int × Int)) {m m' : Int} (h : m ≤ m') : countAt l m ≤ countAt l m' := by
  rw [countAt_sum, countAt_sum]
  refine sumTo_mono _ fun i _ => ?_
  split <;> split <;> omega
end Go.Proofs.Ytojbkpnkcpcioaa
/- StandRises: what it looks at is so. -/
namespace Go.Proofs.Ytojbkpnkcpcioaa
open Go Go.RowKit Go.Sh Go.Sh.Stand Go.Pv
set_option maxHeartbeats 2000000
section
variable (m0 m1 m2 : Int × Int) (runs : List (Int × Int)) (sheep : List Int) (looks : List (Int × Int × Int))
/-- What the law looks at, as plain facts. -/
structure RisesF (minute nlo nhi ylo yhi : Int) (dlo dhi : Nat → Int) (lst mst : Nat → Int) (blo bhi olo ohi : Nat → Int) (low : Nat → Int) : Prop where
  n1 : nlo ≤ nhi
  n2 : nlo ≤ ylo
  n3 : nhi ≤ yhi
  n4 : 0 ≤ nlo
  n5 : nhi ≤ sheep.length
  len : sheep.length ≤ 16
  rlen : runs.length ≤ 4
  mins : ∀ m ∈ [m0, m1, m2], 1 ≤ m.1 ∧ m.1 ≤ 40
  kinds : ∀ k, k < sheep.length → 0 ≤ sheep.getD k 0 ∧ sheep.getD k 0 ≤ 2
  d1 : ∀ k, k < sheep.length → dlo k ≤ dhi k
  d2 : ∀ k, k < sheep.length → min 1000 ((if k = 0 then -1 else dlo (k - 1)) + ([m0, m1, m2].getD (sheep.getD k 0).toNat (0, 0)).1) ≤ dlo k
  d3 : ∀ k, k < sheep.length → (if k = 0 then -1 else dhi (k - 1)) ≤ dhi k
  d4 : ∀ k, k < sheep.length → 0 ≤ dlo k ∧ dhi k ≤ 1000
  l0 : lst 0 = 0
  l1 : ∀ k, k < sheep.length → lst (k + 1) = lst k + if dhi k ≤ minute then 1 else 0
  l2 : lst sheep.length ≤ nlo
  k0 : mst 0 = 0
  k1 : ∀ k, k < sheep.length → mst (k + 1) = mst k + if dlo k ≤ minute then 1 else 0
  k2 : nhi ≤ mst sheep.length
  run : ∀ r, r < runs.length → 0 ≤ (runs.getD r (0, 0)).1 ∧ (runs.getD r (0, 0)).1 < (runs.getD r (0, 0)).2 ∧ (runs.getD r (0, 0)).2 ≤ 600
  b1 : ∀ r, r < runs.length → 0 ≤ blo r ∧ blo r ≤ bhi r ∧ bhi r ≤ (runs.getD r (0, 0)).2 - (runs.getD r (0, 0)).1
  o1 : ∀ r, r < runs.length → 0 ≤ olo r ∧ olo r ≤ ohi r ∧ ohi r < 40
  w0 : low 0 = 0
  w1 : ∀ r, r < runs.length → low (r + 1) = low r + blo r
  w2 : low runs.length ≤ sheep.length
variable {m0 m1 m2 runs sheep}
theorem RisesF.lst_le {minute nlo nhi ylo yhi : Int} {dlo dhi lst mst blo bhi olo ohi low : Nat → Int} (h : RisesF m0 m1 m2 runs sheep minute nlo nhi ylo yhi dlo dhi lst mst blo bhi olo ohi low) : ∀ k, k ≤ sheep.length → 0 ≤ lst k ∧ lst k ≤ k ∧ 0 ≤ mst k ∧ mst k ≤ k
  | 0, _ => by rw [h.l0, h.k0]; simp
  | k + 1, hk => by
    have := h.lst_le k (by omega)
    rw [h.l1 k (by omega), h.k1 k (by omega)]
    split <;> split <;> omega
theorem RisesF.low_le {minute nlo nhi ylo yhi : Int} {dlo dhi lst mst blo bhi olo ohi low : Nat → Int} (h : RisesF m0 m1 m2 runs sheep minute nlo nhi ylo yhi dlo dhi lst mst blo bhi olo ohi low) : ∀ k, k ≤ runs.length → 0 ≤ low k ∧ low k ≤ 600 * k
  | 0, _ => by rw [h.w0]; simp
  | k + 1, hk => by
    have h1 := h.low_le k (by omega)
    have h2 := h.b1 k (by omega)
    have h3 := h.run k (by omega)
    rw [h.w1 k (by omega)]
    omega
variable (m0 m1 m2 runs sheep)
theorem ans_some {s : Stand} {ok : Bool} {L : List Int} (h : validB s = true) (ho : ok = true) (hL : L ≠ []) : ansE s ok L = (hull L, 0) := by
  unfold ansE; rw [if_neg (by simp [h]), if_neg (by simp [ho]), if_neg hL]; rfl
theorem ans_none {s : Stand} {ok : Bool} {L : List Int} (h : validB s = true) (ho : ok = true) (hL : L = []) : ansE s ok L = ((0, 0), 10) := by
  unfold ansE; rw [if_neg (by simp [h]), if_neg (by simp [ho]), if_pos hL]
theorem tmod_eq {a : Int} (h : 0 ≤ a) : 0 ≤ a.tmod 999 ∧ a.tmod 999 ≤ 998 := by
  rw [Int.tmod_eq_emod_of_nonneg h]; omega
theorem hull_map {α : Type} {T : List α} (hT : T ≠ []) (f : α → Int) : (∃ t ∈ T, (hull (T.map f)).1 = f t) ∧ (∃ t ∈ T, (hull (T.map f)).2 = f t) ∧ ∀ t ∈ T, (hull (T.map f)).1 ≤ f t ∧ f t ≤ (hull (T.map f)).2 := by
  obtain ⟨h1, h2, h3⟩ := hull_spec (L := T.map f) (by simpa using hT)
  simp only [List.mem_map] at h1 h2
  obtain ⟨t1, ht1, e1⟩ := h1
  obtain ⟨t2, ht2, e2⟩ := h2
  exact ⟨⟨t1, ht1, e1.symm⟩, ⟨t2, ht2, e2.symm⟩, fun t ht => h3 _ (List.mem_map.2 ⟨t, ht, rfl⟩)⟩
theorem tk_mins {s : Stand} (hs : Fit s) {t : Shearer} (ht : t ∈ allSh s) {k : Int} (hk : 0 ≤ k ∧ k ≤ 2) : (s.mins.getD k.toNat (0, 0)).1 ≤ tk t k ∧ tk t k ≤ (s.mins.getD k.toNat (0, 0)).2 := by
  obtain ⟨h0, h1, h2⟩ := (mem_setT s hs.mins t).1 ht
  rcases (show k = 0 ∨ k = 1 ∨ k = 2 by omega) with rfl | rfl | rfl
  · exact h0
  · exact h1
  · exact h2
theorem tok_tk {t : Shearer} (ht : Tok t) (k : Int) : 1 ≤ tk t k ∧ tk t k ≤ 40 := by
  unfold tk
  split
  · exact ht.1
  · split
    · exact ht.2.1
    · exact ht.2.2
theorem rises_facts (s : Stand) (hm : s.mins = [m0, m1, m2]) (hr : s.runs = runs) (hsh : s.sheep = sheep) (hs : Fit s) (T : List Shearer) (hT : T ≠ []) (hsub : ∀ t ∈ T, t ∈ allSh s) (minute : Int) :
    RisesF m0 m1 m2 runs sheep minute (hull (T.map fun t => countAt (day s t) minute)).1 (hull (T.map fun t => countAt (day s t) minute)).2 (hull (T.map fun t => countAt (day s t) (minute + 1))).1 (hull (T.map fun t => countAt (day s t) (minute + 1))).2
      (fun k => (hull (T.map fun t => ((day s t).getD k (0, 0)).1)).1) (fun k => (hull (T.map fun t => ((day s t).getD k (0, 0)).1)).2)
      (sumTo fun k => if (hull (T.map fun t => ((day s t).getD k (0, 0)).1)).2 ≤ minute then 1 else 0) (sumTo fun k => if (hull (T.map fun t => ((day s t).getD k (0, 0)).1)).1 ≤ minute then 1 else 0)
      (fun r => (hull (T.map fun t => begunIn (day s t) r)).1) (fun r => (hull (T.map fun t => begunIn (day s t) r)).2)
      (fun r => (hull (T.map fun t => overOf (day s t) r (s.runs.getD r (0, 0)).2)).1) (fun r => (hull (T.map fun t => overOf (day s t) r (s.runs.getD r (0, 0)).2)).2)
      (sumTo fun r => (hull (T.map fun t => begunIn (day s t) r)).1) := by
  subst hr hsh
  have hlen : ∀ t, (day s t).length = s.sheep.length := day_len s
  have htok : ∀ t ∈ T, Tok t := fun t ht => tok_all hs t (hsub t ht)
  have hrange : ∀ t ∈ T, ∀ k, k < s.sheep.length → 0 ≤ ((day s t).getD k (0, 0)).1 ∧ ((day s t).getD k (0, 0)).1 ≤ 1000 := by
    intro t ht k hk
    have h := day_range hs (hsub t ht)
    have hk' : k < (day s t).length := by rw [hlen]; exact hk
    have : (day s t).getD k (0, 0) = (day s t)[k] := by simp [List.getD, hk']
    rw [this]
    exact h _ (List.getElem_mem _)
  have hkind : ∀ k, k < s.sheep.length → 0 ≤ s.sheep.getD k 0 ∧ s.sheep.getD k 0 ≤ 2 := by
    intro k hk
    have : s.sheep.getD k 0 = s.sheep[k] := by simp [List.getD, hk]
    rw [this]
    exact hs.kinds _ (List.getElem_mem _)
  have hrun : ∀ r, r < s.runs.length → s.runs[r]? = some (s.runs.getD r (0, 0)) := fun r h => by simp [List.getD, h]
  have hrunb : ∀ r, r < s.runs.length → 0 ≤ (s.runs.getD r (0, 0)).1 ∧ (s.runs.getD r (0, 0)).1 < (s.runs.getD r (0, 0)).2 ∧ (s.runs.getD r (0, 0)).2 ≤ 600 := by
    intro r h
    exact hs.runb _ (List.mem_of_getElem? (hrun r h))
  have hstep : ∀ t, ∀ k, k < s.sheep.length → min 1000 ((if k = 0 then 0 else ((day s t).getD (k - 1) (0, 0)).1) + tk t (s.sheep.getD k 0)) ≤ ((day s t).getD k (0, 0)).1 := fun t k hk => dayFrom_step s.runs t s.sheep 0 0 k hk
  have hc := hull_map hT fun t => countAt (day s t) minute
  have hc' := hull_map hT fun t => countAt (day s t) (minute + 1)
  have hd := fun k : Nat => hull_map hT fun t => ((day s t).getD k (0, 0)).1
  have hb := fun r : Nat => hull_map hT fun t => begunIn (day s t) r
  have ho := fun r : Nat => hull_map hT fun t => overOf (day s t) r (s.runs.getD r (0, 0)).2
  obtain ⟨t0, ht0⟩ := List.exists_mem_of_ne_nil T hT
  have hcm : ∀ t, countAt (day s t) minute ≤ countAt (day s t) (minute + 1) := fun t => countAt_mono _ (by omega)
  constructor
  · have := hc.2.2 t0 ht0; omega
  · obtain ⟨t, ht, e⟩ := hc'.1
    rw [e]
    have := hc.2.2 t ht
    have := hcm t
    omega
  · obtain ⟨t, ht, e⟩ := hc.2.1
    rw [e]
    have := hc'.2.2 t ht
    have := hcm t
    omega
  · obtain ⟨t, ht, e⟩ := hc.1
    rw [e]; exact (countAt_le _ _).1
  · obtain ⟨t, ht, e⟩ := hc.2.1
    rw [e, ← hlen t]; exact (countAt_le _ _).2
  · exact hs.sheep
  · exact hs.runs.2
  · intro m hmm
    have := hs.minb m (by rw [hm]; exact hmm)
    omega
  · exact hkind
  · intro k hk
    have := (hd k).2.2 t0 ht0
    omega
  · intro k hk
    obtain ⟨t, ht, e⟩ := (hd k).1
    rw [e]
    have h1 := hstep t k hk
    have h2 := (tk_mins hs (hsub t ht) (hkind k hk)).1
    rw [hm] at h2
    have h3 := (hd (k - 1)).2.2 t ht
    by_cases hk0 : k = 0
    · rw [if_pos hk0] at h1 ⊢; omega
    · rw [if_neg hk0] at h1 ⊢; omega
  · intro k hk
    by_cases hk0 : k = 0
    · rw [if_pos hk0]
      have := (hd k).2.2 t0 ht0
      have := hrange t0 ht0 k hk
      omega
    · rw [if_neg hk0]
      obtain ⟨t, ht, e⟩ := (hd (k - 1)).2.1
      rw [e]
      have h1 := hstep t k hk
      rw [if_neg hk0] at h1
      have h2 := (tok_tk (htok t ht) (s.sheep.getD k 0)).1
      have h3 := (hd k).2.2 t ht
      have h4 := hrange t ht (k - 1) (by omega)
      omega
  · intro k hk
    obtain ⟨t, ht, e⟩ := (hd k).1
    obtain ⟨t', ht', e'⟩ := (hd k).2.1
    have h1 := hrange t ht k hk
    have h2 := hrange t' ht' k hk
    omega
  · rfl
  · intro k _; rfl
  · obtain ⟨t, ht, e⟩ := hc.1
    rw [e, countAt_sum, hlen t]
    refine sumTo_mono _ fun i hi => ?_
    have := (hd i).2.2 t ht
    split <;> split <;> omega
  · rfl
  · intro k _; rfl
  · obtain ⟨t, ht, e⟩ := hc.2.1
    rw [e, countAt_sum, hlen t]
    refine sumTo_mono _ fun i hi => ?_
    have := (hd i).2.2 t ht
    split <;> split <;> omega
  · exact hrunb
  · intro r hr
    obtain ⟨t, ht, e⟩ := (hb r).1
    obtain ⟨t', ht', e'⟩ := (hb r).2.1
    have h1 := (begunIn_le (day s t) r).1
    have h2 := begun_le s.runs t' (fun k => (tok_tk (htok t' ht') k).1) s.sheep 0 0 r _ (hrun r hr)
    have h3 := (hb r).2.2 t0 ht0
    have h4 := hrunb r hr
    have h5 : begunIn (day s t') r ≤ max 0 ((s.runs.getD r (0, 0)).2 - gmax 0 (s.runs.getD r (0, 0)).1) := h2
    have h6 := gmax_ge 0 (s.runs.getD r (0, 0)).1
    omega
  · intro r hr
    have hov : ∀ t ∈ T, 0 ≤ overOf (day s t) r (s.runs.getD r (0, 0)).2 ∧ overOf (day s t) r (s.runs.getD r (0, 0)).2 < 40 := by
      intro t ht
      have h4 := hrunb r hr
      have hlast : lastOf (day s t) r - (s.runs.getD r (0, 0)).2 < 40 := by
        rcases lastOf_mem (day s t) r with h | ⟨x, hx, h1, h2⟩
        · rw [h]; omega
        · rw [h2]
          rcases dayFrom_mem s.runs t s.sheep 0 0 x hx with h | ⟨r', p, k, a, b, c, d⟩
          · rw [h] at h1; simp only at h1; omega
          · have : r' = r := by omega
            subst this
            rw [hrun r' hr] at a
            cases a
            have := (tok_tk (htok t ht) k).2
            omega
      unfold overOf gmax
      split
      · omega
      · split <;> omega
    obtain ⟨t, ht, e⟩ := (ho r).1
    obtain ⟨t', ht', e'⟩ := (ho r).2.1
    have h1 := hov t ht
    have h2 := hov t' ht'
    have h3 := (ho r).2.2 t0 ht0
    omega
  · rfl
  · intro r _; rfl
  · refine Int.le_trans (sumTo_mono _ fun r hr => ((hb r).2.2 t0 ht0).1) ?_
    rw [← hlen t0]
    exact sum_begun_le _ _
end
end Go.Proofs.Ytojbkpnkcpcioaa
/- Plain laws: a slower shearer is done no earlier; the law's own day. -/
namespace Go.Sh.Stand
/-- Runs one after the other. -/
def Sorted : List (Int × Int) → Prop
  | [] => True
  | p :: r => (p.1 < p.2 ∧ ∀ q ∈ r, p.2 ≤ q.1) ∧ Sorted r
theorem runsB_ge : ∀ (l : List (Int × Int)) (b : Int), runsB l b = true → ∀ q ∈ l, b ≤ q.1
  | [], _, _, q, hq => by cases hq
  | (st, be) :: r, b, h, q, hq => by
    simp only [runsB, inR, Bool.and_eq_true, decide_eq_true_eq] at h
    rcases List.mem_cons.1 hq with rfl | hq
    · exact h.1.1.1
    · have := runsB_ge r be h.2 q hq
      omega
theorem runsB_sorted : ∀ (l : List (Int × Int)) (b : Int), runsB l b = true → Sorted l
  | [], _, _ => trivial
  | (st, be) :: r, b, h => by
    have h' := h
    simp only [runsB, inR, Bool.and_eq_true, decide_eq_true_eq] at h
    exact ⟨⟨by simp only; omega, runsB_ge r be h.2⟩, runsB_sorted r be h.2⟩
theorem begins_mono : ∀ (rs : List (Int × Int)) (i : Nat) (d d' : Int) (j' : Nat) (a' : Int), Sorted rs → d ≤ d' → begins rs i d' = some (j', a') → ∃ j a, begins rs i d = some (j, a) ∧ j ≤ j' ∧ a ≤ a'
  | [], _, _, _, _, _, _, _, h => by simp [begins] at h
  | (st, be) :: r, i, d, d', j', a', hs, hd, h => by
    have hg : gmax d st ≤ gmax d' st := by unfold gmax; split <;> split <;> omega
    by_cases hc : gmax d st < be
    · refine ⟨i, gmax d st, by rw [begins, if_pos hc], ?_⟩
      unfold begins at h
      split at h
      · cases h; exact ⟨Nat.le_refl _, hg⟩
      · obtain ⟨p, h1, h2, h3, h4⟩ := begins_some _ _ _ _ _ h
        have := hs.1.2 p (List.mem_of_getElem? h2)
        have hq := gmax_ge d' p.1
        simp only at this
        exact ⟨by omega, by omega⟩
    · have hc' : ¬ gmax d' st < be := by omega
      rw [begins, if_neg hc'] at h
      obtain ⟨j, a, h1, h2, h3⟩ := begins_mono r (i + 1) d d' j' a' hs.2 hd h
      exact ⟨j, a, by rw [begins, if_neg hc]; exact h1, h2, h3⟩
theorem Sorted.drop {l : List (Int × Int)} (h : Sorted l) (n : Nat) : Sorted (l.drop n) := by
  induction n generalizing l with
  | zero => exact h
  | succ n ih =>
    cases l with
    | nil => exact h
    | cons p r => exact ih h.2
/-- From an earlier run on. -/
theorem begins_from : ∀ (n : Nat) (rs : List (Int × Int)) (i : Nat) (d : Int) (j' : Nat) (a' : Int), Sorted rs → begins (rs.drop n) (i + n) d = some (j', a') → ∃ j a, begins rs i d = some (j, a) ∧ j ≤ j' ∧ a ≤ a'
  | 0, _, _, _, j', a', _, h => ⟨j', a', h, Nat.le_refl _, Int.le_refl _⟩
  | n + 1, [], i, d, j', a', _, h => by simp [begins] at h
  | n + 1, (st, be) :: r, i, d, j', a', hs, h => by
    have h' : begins (r.drop n) (i + 1 + n) d = some (j', a') := by rw [← show i + (n + 1) = i + 1 + n by omega]; exact h
    obtain ⟨j, a, h1, h2, h3⟩ := begins_from n r (i + 1) d j' a' hs.2 h'
    by_cases hc : gmax d st < be
    · obtain ⟨p, g1, g2, g3, g4⟩ := begins_some _ _ _ _ _ h1
      have := hs.1.2 p (List.mem_of_getElem? g2)
      have hq := gmax_ge d p.1
      simp only at this
      exact ⟨i, gmax d st, by rw [begins, if_pos hc], by omega, by omega⟩
    · exact ⟨j, a, by rw [begins, if_neg hc]; exact h1, h2, h3⟩
theorem dayFrom_mono (runs : List (Int × Int)) (hs : Sorted runs) (t t' : Shearer) (hb : ∀ p ∈ runs, p.2 ≤ 600) (ht : ∀ k, tk t k ≤ tk t' k) (h40 : ∀ k, tk t' k ≤ 40) : ∀ (ks : List Int) (run run' : Nat) (d d' : Int) (i : Nat), run ≤ run' → d ≤ d' →
    ((dayFrom runs t ks run d).getD i (0, 0)).1 ≤ ((dayFrom runs t' ks run' d').getD i (0, 0)).1
  | [], _, _, _, _, i, _, _ => by simp [dayFrom]
  | k :: ks, run, run', d, d', i, hr, hd => by
    cases hb' : begins (runs.drop run') run' d' with
    | none =>
      have e : dayFrom runs t' (k :: ks) run' d' = List.replicate (ks.length + 1) (1000, -1) := by rw [dayFrom, hb']
      rw [e]
      by_cases hi : i < ks.length + 1
      · have : ((List.replicate (ks.length + 1) ((1000 : Int), (-1 : Int))).getD i (0, 0)).1 = 1000 := by simp [List.getD, List.getElem?_replicate, hi]
        rw [this]
        have hlen := dayFrom_length runs t (k :: ks) run d
        have hi' : i < (dayFrom runs t (k :: ks) run d).length := by rw [hlen]; exact hi
        have hx : (dayFrom runs t (k :: ks) run d).getD i (0, 0) = (dayFrom runs t (k :: ks) run d)[i] := by simp [List.getD, hi']
        rw [hx]
        have key : ∀ (ks : List Int) (run : Nat) (d : Int), ∀ x ∈ dayFrom runs t ks run d, x.1 ≤ 1000 := by
          intro ks
          induction ks with
          | nil => intro run d x hx; simp [dayFrom] at hx
          | cons k ks ih =>
            intro run d x hx
            unfold dayFrom at hx
            split at hx
            · have := List.eq_of_mem_replicate hx
              subst this; decide
            · rename_i j a hj
              obtain ⟨p, h1, h2, h3, h4⟩ := begins_of_drop hj
              have h5 := hb p (List.mem_of_getElem? h2)
              have h6 := ht k
              have h7 := h40 k
              rcases List.mem_cons.1 hx with rfl | hx
              · simp only; omega
              · exact ih _ _ x hx
        exact key _ _ _ _ (List.getElem_mem _)
      · have hlen := dayFrom_length runs t (k :: ks) run d
        have : (dayFrom runs t (k :: ks) run d).getD i (0, 0) = (0, 0) := by
          simp only [List.getD]
          rw [List.getElem?_eq_none (by rw [hlen]; simp; omega)]; rfl
        rw [this]
        simp [List.getD, List.getElem?_replicate, hi]
    | some ja' =>
      obtain ⟨j', a'⟩ := ja'
      have h1 : begins ((runs.drop run).drop (run' - run)) (run + (run' - run)) d' = some (j', a') := by
        rw [List.drop_drop, show run + (run' - run) = run' by omega]; exact hb'
      obtain ⟨j1, a1, h2, h3, h4⟩ := begins_from (run' - run) (runs.drop run) run d' j' a' (hs.drop run) h1
      obtain ⟨j, a, h5, h6, h7⟩ := begins_mono (runs.drop run) run d d' j1 a1 (hs.drop run) hd h2
      have e : dayFrom runs t (k :: ks) run d = (a + tk t k, (j : Int)) :: dayFrom runs t ks j (a + tk t k) := by rw [dayFrom, h5]
      have e' : dayFrom runs t' (k :: ks) run' d' = (a' + tk t' k, (j' : Int)) :: dayFrom runs t' ks j' (a' + tk t' k) := by rw [dayFrom, hb']
      rw [e, e']
      have hk := ht k
      cases i with
      | zero => simp; omega
      | succ i =>
        rw [List.getD_cons_succ, List.getD_cons_succ]
        exact dayFrom_mono runs hs t t' hb ht h40 ks j j' _ _ i (by omega) (by omega)
end Go.Sh.Stand
/- Plain laws: the law's own day, run by run. -/
namespace Go.Sh.Stand
/-- When each sheep is begun; 1000: not at all. -/
def begFrom (runs : List (Int × Int)) (t : Shearer) : List Int → Nat → Int → List Int
  | [], _, _ => []
  | k :: ks, run, done =>
    match begins (runs.drop run) run done with
    | none => List.replicate (ks.length + 1) 1000
    | some (i, at_) => at_ :: begFrom runs t ks i (at_ + tk t k)
def doneFrom (runs : List (Int × Int)) (t : Shearer) (ks : List Int) (run : Nat) (done : Int) : List Int := (dayFrom runs t ks run done).map (·.1)
theorem drop_run {runs : List (Int × Int)} {r : Nat} {p : Int × Int} (h : runs[r]? = some p) : runs.drop r = p :: runs.drop (r + 1) := by
  obtain ⟨hl, rfl⟩ := List.getElem?_eq_some_iff.1 h
  exact List.drop_eq_getElem_cons hl
theorem begins_here {runs : List (Int × Int)} {r : Nat} {p : Int × Int} {d : Int} (h : runs[r]? = some p) (hd : gmax d p.1 < p.2) : begins (runs.drop r) r d = some (r, gmax d p.1) := by
  rw [drop_run h]; obtain ⟨st, be⟩ := p; rw [begins, if_pos hd]
theorem begins_next {runs : List (Int × Int)} {r : Nat} {p : Int × Int} {d : Int} (h : runs[r]? = some p) (hd : ¬ gmax d p.1 < p.2) : begins (runs.drop r) r d = begins (runs.drop (r + 1)) (r + 1) d := by
  rw [drop_run h]; obtain ⟨st, be⟩ := p; rw [begins, if_neg hd]
theorem doneFrom_here {runs : List (Int × Int)} {t : Shearer} {k : Int} {ks : List Int} {r : Nat} {p : Int × Int} {d : Int} (h : runs[r]? = some p) (hd : gmax d p.1 < p.2) :
    doneFrom runs t (k :: ks) r d = (gmax d p.1 + tk t k) :: doneFrom runs t ks r (gmax d p.1 + tk t k) := by
  unfold doneFrom; rw [dayFrom, begins_here h hd]; rfl
theorem begFrom_here {runs : List (Int × Int)} {t : Shearer} {k : Int} {ks : List Int} {r : Nat} {p : Int × Int} {d : Int} (h : runs[r]? = some p) (hd : gmax d p.1 < p.2) :
    begFrom runs t (k :: ks) r d = gmax d p.1 :: begFrom runs t ks r (gmax d p.1 + tk t k) := by
  rw [begFrom, begins_here h hd]
theorem doneFrom_next {runs : List (Int × Int)} {t : Shearer} {ks : List Int} {r : Nat} {p : Int × Int} {d : Int} (h : runs[r]? = some p) (hd : ¬ gmax d p.1 < p.2) : doneFrom runs t ks r d = doneFrom runs t ks (r + 1) d := by
  unfold doneFrom
  cases ks with
  | nil => rfl
  | cons k ks => rw [dayFrom, dayFrom, begins_next h hd]
theorem begFrom_next {runs : List (Int × Int)} {t : Shearer} {ks : List Int} {r : Nat} {p : Int × Int} {d : Int} (h : runs[r]? = some p) (hd : ¬ gmax d p.1 < p.2) : begFrom runs t ks r d = begFrom runs t ks (r + 1) d := by
  cases ks with
  | nil => rfl
  | cons k ks => rw [begFrom, begFrom, begins_next h hd]
theorem doneFrom_end {runs : List (Int × Int)} {t : Shearer} {ks : List Int} {r : Nat} {d : Int} (h : runs.length ≤ r) : doneFrom runs t ks r d = List.replicate ks.length 1000 := by
  unfold doneFrom
  cases ks with
  | nil => rfl
  | cons k ks =>
    rw [dayFrom, List.drop_eq_nil_of_le h, begins]
    simp
theorem begFrom_end {runs : List (Int × Int)} {t : Shearer} {ks : List Int} {r : Nat} {d : Int} (h : runs.length ≤ r) : begFrom runs t ks r d = List.replicate ks.length 1000 := by
  cases ks with
  | nil => rfl
  | cons k ks =>
    rw [begFrom, List.drop_eq_nil_of_le h, begins]
    simp
theorem begFrom_length (runs : List (Int × Int)) (t : Shearer) : ∀ (ks : List Int) (run : Nat) (d : Int), (begFrom runs t ks run d).length = ks.length
  | [], _, _ => rfl
  | k :: ks, run, d => by
    unfold begFrom
    split
    · simp
    · simp [begFrom_length runs t ks]
end Go.Sh.Stand
/- A stand among a law's arguments, as data. -/
namespace Go.Proofs.Ytojbkpnkcpcioaa
open Go Go.RowKit Go.Sh Go.Sh.Stand Go.Pv Go.ChangeShapes Go.WideShapes
set_option linter.constructorNameAsVariable false
theorem tyI {k : IntKind} {x : PV} (h : Ty (.int k) x) : ∃ n, x = .v (.int k n) ∧ (Lit.int k n).wf = true := by
  cases h with
  | int _ n h => exact ⟨n, rfl, h⟩
theorem tyS {ks : List CK} {x : PV} (h : Ty (.sl ks) x) : ∃ rows, x = .sl rows ∧ (∀ r ∈ rows, r.length = ks.length) ∧ ∀ r ∈ rows, ∀ (j : Nat) (c : CK) (x : PV), ks[j]? = some c → r[j]? = some x → Ty c x := by
  cases h with
  | sl _ rows h1 h2 => exact ⟨rows, rfl, h1, h2⟩
abbrev ckI : CK := .int .i64
theorem map_of {α : Type} {row : α → List PV} : ∀ (rows : List (List PV)), (∀ r ∈ rows, ∃ x, r = row x) → ∃ l : List α, rows = l.map row
  | [], _ => ⟨[], rfl⟩
  | r :: rs, h => by
    obtain ⟨x, hx⟩ := h r (List.mem_cons_self ..)
    obtain ⟨l, hl⟩ := map_of rs fun r hr => h r (List.mem_cons_of_mem _ hr)
    exact ⟨x :: l, by rw [hx, hl]; rfl⟩
theorem tyS1 {x : PV} (h : Ty (.sl [ckI]) x) : ∃ l : List Int, x = .sl (l.map row1) := by
  obtain ⟨rows, rfl, h1, h2⟩ := tyS h
  obtain ⟨l, hl⟩ := map_of (row := row1) rows fun r hr => by
    have hl := h1 r hr
    match r, hl with
    | [a], _ =>
      obtain ⟨n, rfl, _⟩ := tyI (h2 _ hr 0 _ _ rfl rfl)
      exact ⟨n, rfl⟩
  exact ⟨l, by rw [hl]⟩
theorem tyS2 {x : PV} (h : Ty (.sl [ckI, ckI]) x) : ∃ l : List (Int × Int), x = .sl (l.map row2) := by
  obtain ⟨rows, rfl, h1, h2⟩ := tyS h
  obtain ⟨l, hl⟩ := map_of (row := row2) rows fun r hr => by
    have hl := h1 r hr
    match r, hl with
    | [a, b], _ =>
      obtain ⟨n, rfl, _⟩ := tyI (h2 _ hr 0 _ _ rfl rfl)
      obtain ⟨m, rfl, _⟩ := tyI (h2 _ hr 1 _ _ rfl rfl)
      exact ⟨(n, m), rfl⟩
  exact ⟨l, by rw [hl]⟩
theorem tyS3 {x : PV} (h : Ty (.sl [ckI, ckI, ckI]) x) : ∃ l : List (Int × Int × Int), x = .sl (l.map row3) := by
  obtain ⟨rows, rfl, h1, h2⟩ := tyS h
  obtain ⟨l, hl⟩ := map_of (row := row3) rows fun r hr => by
    have hl := h1 r hr
    match r, hl with
    | [a, b, c], _ =>
      obtain ⟨n, rfl, _⟩ := tyI (h2 _ hr 0 _ _ rfl rfl)
      obtain ⟨m, rfl, _⟩ := tyI (h2 _ hr 1 _ _ rfl rfl)
      obtain ⟨k, rfl, _⟩ := tyI (h2 _ hr 2 _ _ rfl rfl)
      exact ⟨(n, m, k), rfl⟩
  exact ⟨l, by rw [hl]⟩
def standK : List CK := [ckI, ckI, ckI, ckI, ckI, ckI, .sl [ckI, ckI], .sl [ckI], .sl [ckI, ckI, ckI]]
theorem kinds29 : kindsOf Try.prog 8 29 = some standK := by kernel_rfl
theorem cells_agg {H : Type} {enc : TypeId × Value → H} {W : World} {sp : Nat → Bool} {t : TypeId} {ks : List CK} {cs : Array Value} {d : DataW H} {p : List MemPlace} (hk : kindsOf Try.prog 8 t = some ks) (h : DataW.Trod enc Try.prog W 0 sp true t (.agg cs) d p) : ∃ ps, ps.length = ks.length ∧ RelR (fun _ _ => True) W (.agg ps) (.agg cs) ∧ ∀ (j : Nat) (k : CK), ks[j]? = some k → ∃ x, ps[j]? = some x ∧ Ty k x := by
  obtain ⟨fuel, h⟩ := h
  obtain ⟨ps, h1, h2, h3⟩ := trod_open 8 t ks fuel _ _ hk h
  have h1' : cs.size = ks.length := by simpa [Value.cells] using h1
  refine ⟨ps, h2, ⟨cs, rfl, by omega, fun j c hj => ?_⟩, fun j k hj => ?_⟩
  · have hjl : j < ks.length := by
      have := (List.getElem?_eq_some_iff.1 hj).1
      omega
    obtain ⟨c', x, hc, hx, _, hr⟩ := h3 j _ (List.getElem?_eq_getElem hjl)
    rw [hx] at hj; cases hj
    exact ⟨c', by simpa [Value.cells] using hc, hr⟩
  · obtain ⟨c', x, hc, hx, ht, _⟩ := h3 j k hj
    exact ⟨x, hx, ht⟩
theorem stand_open {H : Type} {enc : TypeId × Value → H} {W : World} {sp : Nat → Bool} {cs : Array Value} {d : DataW H} {p : List MemPlace} (h : DataW.Trod enc Try.prog W 0 sp true 29 (.agg cs) d p) :
    ∃ m0 m1 m2 runs sheep looks, RelR (fun _ _ => True) W (stR m0 m1 m2 runs sheep looks) (.agg cs) := by
  obtain ⟨ps, hl, hr, ht⟩ := cells_agg kinds29 h
  obtain ⟨x0, e0, t0⟩ := ht 0 _ rfl
  obtain ⟨x1, e1, t1⟩ := ht 1 _ rfl
  obtain ⟨x2, e2, t2⟩ := ht 2 _ rfl
  obtain ⟨x3, e3, t3⟩ := ht 3 _ rfl
  obtain ⟨x4, e4, t4⟩ := ht 4 _ rfl
  obtain ⟨x5, e5, t5⟩ := ht 5 _ rfl
  obtain ⟨x6, e6, t6⟩ := ht 6 _ rfl
  obtain ⟨x7, e7, t7⟩ := ht 7 _ rfl
  obtain ⟨x8, e8, t8⟩ := ht 8 _ rfl
  obtain ⟨a0, rfl, _⟩ := tyI t0
  obtain ⟨a1, rfl, _⟩ := tyI t1
  obtain ⟨a2, rfl, _⟩ := tyI t2
  obtain ⟨a3, rfl, _⟩ := tyI t3
  obtain ⟨a4, rfl, _⟩ := tyI t4
  obtain ⟨a5, rfl, _⟩ := tyI t5
  obtain ⟨l6, rfl⟩ := tyS2 t6
  obtain ⟨l7, rfl⟩ := tyS1 t7
  obtain ⟨l8, rfl⟩ := tyS3 t8
  refine ⟨(a0, a1), (a2, a3), (a4, a5), l6, l7, l8, ?_⟩
  have : ps = [iP a0, iP a1, iP a2, iP a3, iP a4, iP a5, .sl (l6.map row2), .sl (l7.map row1), .sl (l8.map row3)] := by
    apply List.ext_getElem?
    intro j
    rcases j with _ | _ | _ | _ | _ | _ | _ | _ | _ | j
    · exact e0
    · exact e1
    · exact e2
    · exact e3
    · exact e4
    · exact e5
    · exact e6
    · exact e7
    · exact e8
    · rw [List.getElem?_eq_none (by rw [hl]; simp [standK]), List.getElem?_eq_none (by simp)]
  rw [this] at hr
  exact hr
theorem agg_of {W : World} {b : Nat} {t : TypeId} {fs : Array Field} {v : Value} (hu : Try.prog.underlying t = some (.struct fs)) (h : Value.okWide Try.prog W .any b t v) : ∃ cs, v = .agg cs := by
  unfold Value.okWide at h
  rw [hu] at h
  obtain ⟨cs, e, _⟩ := h
  exact ⟨cs, e⟩
theorem own : ownKnob Try.prog.godebug = none := by kernel_rfl
theorem laidOut : laidOutB Try.prog = true := by kernel_rfl
end Go.Proofs.Ytojbkpnkcpcioaa
