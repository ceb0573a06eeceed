/- Plain laws of a day, for StandRises. -/
import Derived.Test.YtojbkpnkcpcioaaSvA
set_option linter.all false
namespace Go.Proofs.Ytojbkpnkcpcioaa
open Go.RowKit Go.Sh Go.Sh.Stand

theorem mem_setT (s : Stand) (hm : s.mins.length = 3) (t : Shearer) : t ∈ allSh s ↔ ((s.mins.getD 0 (0, 0)).1 ≤ t.1 ∧ t.1 ≤ (s.mins.getD 0 (0, 0)).2) ∧ ((s.mins.getD 1 (0, 0)).1 ≤ t.2.1 ∧ t.2.1 ≤ (s.mins.getD 1 (0, 0)).2) ∧ ((s.mins.getD 2 (0, 0)).1 ≤ t.2.2 ∧ t.2.2 ≤ (s.mins.getD 2 (0, 0)).2) := by
  obtain ⟨a, b, c⟩ := t
  simp only [allSh, subs, List.mem_flatMap, List.mem_range, List.mem_singleton, setT, setK, Nat.zero_add, Nat.reduceAdd]
  generalize s.mins.getD 0 (0, 0) = q0
  generalize s.mins.getD 1 (0, 0) = q1
  generalize s.mins.getD 2 (0, 0) = q2
  constructor
  · rintro ⟨i, hi, j, hj, l, hl, h⟩
    simp at h
    obtain ⟨rfl, rfl, rfl⟩ := h
    omega
  · rintro ⟨h0, h1, h2⟩
    refine ⟨(a - q0.1).toNat, by omega, (b - q1.1).toNat, by omega, (c - q2.1).toNat, by omega, ?_⟩
    simp
    omega

/-- Each sheep is done as long after the one before it as it takes, at least. -/
theorem dayFrom_step (runs : List (Int × Int)) (t : Shearer) : ∀ (ks : List Int) (run : Nat) (done : Int) (i : Nat), i < ks.length → min 1000 ((if i = 0 then done else ((dayFrom runs t ks run done).getD (i - 1) (0, 0)).1) + tk t (ks.getD i 0)) ≤ ((dayFrom runs t ks run done).getD i (0, 0)).1
  | [], _, _, i, h => by simp at h
  | k :: ks, run, done, i, h => by
    cases hb : begins (runs.drop run) run done with
    | none =>
      rw [dayFrom, hb]
      show min 1000 ((if i = 0 then done else ((List.replicate (ks.length + 1) ((1000 : Int), (-1 : Int))).getD (i - 1) (0, 0)).1) + tk t ((k :: ks).getD i 0)) ≤ ((List.replicate (ks.length + 1) ((1000 : Int), (-1 : Int))).getD i (0, 0)).1
      have h' : i < ks.length + 1 := by simpa using h
      have : ((List.replicate (ks.length + 1) ((1000 : Int), (-1 : Int))).getD i (0, 0)).1 = 1000 := by
        simp [List.getD, List.getElem?_replicate, h']
      rw [this]; omega
    | some ja =>
      obtain ⟨j, at_⟩ := ja
      rw [dayFrom, hb]
      show min 1000 ((if i = 0 then done else (((at_ + tk t k, (j : Int)) :: dayFrom runs t ks j (at_ + tk t k)).getD (i - 1) (0, 0)).1) + tk t ((k :: ks).getD i 0)) ≤ (((at_ + tk t k, (j : Int)) :: dayFrom runs t ks j (at_ + tk t k)).getD i (0, 0)).1
      obtain ⟨p, h1, h2, h3, h4⟩ := begins_of_drop hb
      have hg := gmax_ge done p.1
      cases i with
      | zero => simp; omega
      | succ i =>
        have := dayFrom_step runs t ks j (at_ + tk t k) i (by simpa using h)
        simp only [List.getD_cons_succ, Nat.add_sub_cancel, Nat.succ_ne_zero, if_false]
        cases i with
        | zero => simpa using this
        | succ i => simpa using this

theorem dayFrom_mem (runs : List (Int × Int)) (t : Shearer) : ∀ (ks : List Int) (run : Nat) (done : Int) (x : Int × Int), x ∈ dayFrom runs t ks run done → x = (1000, -1) ∨ ∃ r p k, runs[r]? = some p ∧ x.2 = (r : Nat) ∧ k ∈ ks ∧ x.1 < p.2 + tk t k
  | [], _, _, x, hx => by simp [dayFrom] at hx
  | k :: ks, run, done, x, hx => by
    unfold dayFrom at hx
    split at hx
    · exact .inl (List.eq_of_mem_replicate hx)
    · rename_i i at_ hb
      obtain ⟨p, h1, h2, h3, h4⟩ := begins_of_drop hb
      rcases List.mem_cons.1 hx with rfl | hx
      · exact .inr ⟨i, p, k, h2, rfl, List.mem_cons_self .., by simp only; omega⟩
      · rcases dayFrom_mem runs t ks i _ x hx with h | ⟨r, p, k', a, b, c, d⟩
        · exact .inl h
        · exact .inr ⟨r, p, k', a, b, List.mem_cons_of_mem _ c, d⟩

theorem begunIn_cons (x : Int × Int) (l : List (Int × Int)) (m : Int) : begunIn (x :: l) m = begunIn l m + if x.2 = m then 1 else 0 := by
  unfold begunIn; by_cases h : x.2 = m <;> simp [List.filter_cons, h]
theorem begunIn_none (n : Nat) (r : Nat) : begunIn (List.replicate n ((1000 : Int), (-1 : Int))) r = 0 := by
  unfold begunIn
  have : ∀ x ∈ List.replicate n ((1000 : Int), (-1 : Int)), ¬ (decide (x.2 = (r : Int))) = true := by
    intro x hx
    have := List.eq_of_mem_replicate hx
    subst this
    simp
  rw [List.filter_eq_nil_iff.2 this]; rfl
theorem begun_before (runs : List (Int × Int)) (t : Shearer) : ∀ (ks : List Int) (run : Nat) (done : Int) (r : Nat), r < run → begunIn (dayFrom runs t ks run done) r = 0
  | [], _, _, _, _ => rfl
  | k :: ks, run, done, r, h => by
    unfold dayFrom
    split
    · exact begunIn_none _ r
    · rename_i i at_ hb
      obtain ⟨p, h1, h2, h3, h4⟩ := begins_of_drop hb
      rw [begunIn_cons, begun_before runs t ks i _ r (by omega), if_neg (by simp only; omega)]; rfl
theorem begun_le (runs : List (Int × Int)) (t : Shearer) (ht : ∀ k, 1 ≤ tk t k) : ∀ (ks : List Int) (run : Nat) (done : Int) (r : Nat) (p : Int × Int), runs[r]? = some p → begunIn (dayFrom runs t ks run done) r ≤ max 0 (p.2 - gmax done p.1)
  | [], _, _, _, _, _ => by simp [dayFrom, begunIn]; omega
  | k :: ks, run, done, r, p, hp => by
    unfold dayFrom
    split
    · rw [begunIn_none]; omega
    · rename_i i at_ hb
      obtain ⟨q, h1, h2, h3, h4⟩ := begins_of_drop hb
      have ih := begun_le runs t ht ks i (at_ + tk t k) r p hp
      have hk := ht k
      rw [begunIn_cons]
      simp only
      have hg := gmax_ge done q.1
      by_cases hri : (i : Int) = r
      · have : i = r := by omega
        subst this
        rw [hp] at h2
        cases h2
        have hg2 := gmax_ge (at_ + tk t k) p.1
        rw [if_pos hri]
        omega
      · rw [if_neg hri]
        have : gmax done p.1 ≤ gmax (at_ + tk t k) p.1 := by
          unfold gmax; split <;> split <;> omega
        omega
theorem lastOf_mem (l : List (Int × Int)) (m : Int) : lastOf l m = 0 ∨ ∃ x ∈ l, x.2 = m ∧ lastOf l m = x.1 := by
  have key : ∀ (l : List (Int × Int)) (a : Int), l.foldl (fun a x => if x.2 = m then x.1 else a) a = a ∨ ∃ x ∈ l, x.2 = m ∧ l.foldl (fun a x => if x.2 = m then x.1 else a) a = x.1 := by
    intro l
    induction l with
    | nil => intro a; exact .inl rfl
    | cons x r ih =>
      intro a
      rcases ih (if x.2 = m then x.1 else a) with h | ⟨y, hy, h1, h2⟩
      · by_cases hx : x.2 = m
        · refine .inr ⟨x, List.mem_cons_self .., hx, ?_⟩
          show r.foldl _ (if x.2 = m then x.1 else a) = _
          rw [h, if_pos hx]
        · refine .inl ?_
          show r.foldl _ (if x.2 = m then x.1 else a) = _
          rw [h, if_neg hx]
      · exact .inr ⟨y, List.mem_cons_of_mem _ hy, h1, h2⟩
  exact key l 0
theorem filt_add (l : List (Int × Int)) (n : Nat) : (l.filter fun x => decide (0 ≤ x.2 ∧ x.2 < ((n + 1 : Nat) : Int))).length = (l.filter fun x => decide (0 ≤ x.2 ∧ x.2 < (n : Int))).length + (l.filter fun x => decide (x.2 = (n : Int))).length := by
  induction l with
  | nil => rfl
  | cons x l ih =>
    have key : ∀ (p : Int × Int → Bool), ((x :: l).filter p).length = (l.filter p).length + if p x = true then 1 else 0 := by
      intro p
      rw [List.filter_cons]; split <;> simp
    rw [key, key, key, ih]
    simp only [decide_eq_true_eq]
    split <;> split <;> split <;> omega
def sumTo (f : Nat → Int) : Nat → Int
  | 0 => 0
  | n + 1 => sumTo f n + f n
theorem sum_begun (l : List (Int × Int)) (n : Nat) : sumTo (fun r => begunIn l r) n = (l.filter fun x => decide (0 ≤ x.2 ∧ x.2 < (n : Int))).length := by
  induction n with
  | zero =>
    have : (l.filter fun x => decide (0 ≤ x.2 ∧ x.2 < ((0 : Nat) : Int))) = [] := List.filter_eq_nil_iff.2 fun x _ => by simp only [decide_eq_true_eq]; omega
    rw [this]; rfl
  | succ n ih => rw [filt_add]; rw [sumTo, ih]; show _ + ((_ : Nat) : Int) = _; omega
theorem sum_begun_le (l : List (Int × Int)) (n : Nat) : sumTo (fun r => begunIn l r) n ≤ l.length := by
  rw [sum_begun]
  have := List.length_filter_le (fun x : Int × Int => decide (0 ≤ x.2 ∧ x.2 < (n : Int))) l
  omega
theorem sumTo_mono {f g : Nat → Int} (n : Nat) (h : ∀ i, i < n → f i ≤ g i) : sumTo f n ≤ sumTo g n := by
  induction n with
  | zero => exact Int.le_refl _
  | succ n ih =>
    have := ih fun i hi => h i (by omega)
    have := h n (by omega)
    simp only [sumTo]; omega
theorem countAt_take (l : List (Int × Int)) (m : Int) (n : Nat) (h : n ≤ l.length) : countAt (l.take n) m = sumTo (fun i => if (l.getD i (0, 0)).1 ≤ m then 1 else 0) n := by
  induction n with
  | zero => rfl
  | succ n ih => rw [take_snoc l (0, 0) (by omega), countAt_snoc, ih (by omega)]; rfl
theorem countAt_sum (l : List (Int × Int)) (m : Int) : countAt l m = sumTo (fun i => if (l.getD i (0, 0)).1 ≤ m then 1 else 0) l.length := by
  have := countAt_take l m l.length (Nat.le_refl _)
  rwa [List.take_length] at this
theorem countAt_mono (l : List (Int × Int)) {m m' : Int} (h : m ≤ m') : countAt l m ≤ countAt l m' := by
  rw [countAt_sum, countAt_sum]
  refine sumTo_mono _ fun i _ => ?_
  split <;> split <;> omega
end Go.Proofs.Ytojbkpnkcpcioaa
