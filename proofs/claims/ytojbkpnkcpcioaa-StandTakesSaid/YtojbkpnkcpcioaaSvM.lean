/- Plain laws: a slower shearer is done no earlier; the law's own day. -/
import Derived.Test.YtojbkpnkcpcioaaStM5
import Derived.Test.YtojbkpnkcpcioaaStM4
set_option linter.all false
namespace Go.Sh.Stand
/-- Runs one after the other. -/
def Sorted : List (Int × Int) → Prop
  | [] => True
  | p :: r => (p.1 < p.2 ∧ ∀ q ∈ r, p.2 ≤ q.1) ∧ Sorted r
theorem runsB_ge : ∀ (l : List (Int × Int)) (b : Int), runsB l b = true → ∀ q ∈ l, b ≤ q.1
  | [], _, _, q, hq => by cases hq
  | (st, be) :: r, b, h, q, hq => by
    simp only [runsB, inR, Bool.and_eq_true, decide_eq_true_eq] at h
    rcases List.mem_cons.1 hq with rfl | hq
    · exact h.1.1.1
    · have := runsB_ge r be h.2 q hq
      omega
theorem runsB_sorted : ∀ (l : List (Int × Int)) (b : Int), runsB l b = true → Sorted l
  | [], _, _ => trivial
  | (st, be) :: r, b, h => by
    have h' := h
    simp only [runsB, inR, Bool.and_eq_true, decide_eq_true_eq] at h
    exact ⟨⟨by simp only; omega, runsB_ge r be h.2⟩, runsB_sorted r be h.2⟩
theorem begins_mono : ∀ (rs : List (Int × Int)) (i : Nat) (d d' : Int) (j' : Nat) (a' : Int), Sorted rs → d ≤ d' → begins rs i d' = some (j', a') → ∃ j a, begins rs i d = some (j, a) ∧ j ≤ j' ∧ a ≤ a'
  | [], _, _, _, _, _, _, _, h => by simp [begins] at h
  | (st, be) :: r, i, d, d', j', a', hs, hd, h => by
    have hg : gmax d st ≤ gmax d' st := by unfold gmax; split <;> split <;> omega
    by_cases hc : gmax d st < be
    · refine ⟨i, gmax d st, by rw [begins, if_pos hc], ?_⟩
      unfold begins at h
      split at h
      · cases h; exact ⟨Nat.le_refl _, hg⟩
      · obtain ⟨p, h1, h2, h3, h4⟩ := begins_some _ _ _ _ _ h
        have := hs.1.2 p (List.mem_of_getElem? h2)
        have hq := gmax_ge d' p.1
        simp only at this
        exact ⟨by omega, by omega⟩
    · have hc' : ¬ gmax d' st < be := by omega
      rw [begins, if_neg hc'] at h
      obtain ⟨j, a, h1, h2, h3⟩ := begins_mono r (i + 1) d d' j' a' hs.2 hd h
      exact ⟨j, a, by rw [begins, if_neg hc]; exact h1, h2, h3⟩
theorem Sorted.drop {l : List (Int × Int)} (h : Sorted l) (n : Nat) : Sorted (l.drop n) := by
  induction n generalizing l with
  | zero => exact h
  | succ n ih =>
    cases l with
    | nil => exact h
    | cons p r => exact ih h.2
/-- From an earlier run on. -/
theorem begins_from : ∀ (n : Nat) (rs : List (Int × Int)) (i : Nat) (d : Int) (j' : Nat) (a' : Int), Sorted rs → begins (rs.drop n) (i + n) d = some (j', a') → ∃ j a, begins rs i d = some (j, a) ∧ j ≤ j' ∧ a ≤ a'
  | 0, _, _, _, j', a', _, h => ⟨j', a', h, Nat.le_refl _, Int.le_refl _⟩
  | n + 1, [], i, d, j', a', _, h => by simp [begins] at h
  | n + 1, (st, be) :: r, i, d, j', a', hs, h => by
    have h' : begins (r.drop n) (i + 1 + n) d = some (j', a') := by rw [← show i + (n + 1) = i + 1 + n by omega]; exact h
    obtain ⟨j, a, h1, h2, h3⟩ := begins_from n r (i + 1) d j' a' hs.2 h'
    by_cases hc : gmax d st < be
    · obtain ⟨p, g1, g2, g3, g4⟩ := begins_some _ _ _ _ _ h1
      have := hs.1.2 p (List.mem_of_getElem? g2)
      have hq := gmax_ge d p.1
      simp only at this
      exact ⟨i, gmax d st, by rw [begins, if_pos hc], by omega, by omega⟩
    · exact ⟨j, a, by rw [begins, if_neg hc]; exact h1, h2, h3⟩
theorem dayFrom_mono (runs : List (Int × Int)) (hs : Sorted runs) (t t' : Shearer) (hb : ∀ p ∈ runs, p.2 ≤ 600) (ht : ∀ k, tk t k ≤ tk t' k) (h40 : ∀ k, tk t' k ≤ 40) : ∀ (ks : List Int) (run run' : Nat) (d d' : Int) (i : Nat), run ≤ run' → d ≤ d' →
    ((dayFrom runs t ks run d).getD i (0, 0)).1 ≤ ((dayFrom runs t' ks run' d').getD i (0, 0)).1
  | [], _, _, _, _, i, _, _ => by simp [dayFrom]
  | k :: ks, run, run', d, d', i, hr, hd => by
    cases hb' : begins (runs.drop run') run' d' with
    | none =>
      have e : dayFrom runs t' (k :: ks) run' d' = List.replicate (ks.length + 1) (1000, -1) := by rw [dayFrom, hb']
      rw [e]
      by_cases hi : i < ks.length + 1
      · have : ((List.replicate (ks.length + 1) ((1000 : Int), (-1 : Int))).getD i (0, 0)).1 = 1000 := by simp [List.getD, List.getElem?_replicate, hi]
        rw [this]
        have hlen := dayFrom_length runs t (k :: ks) run d
        have hi' : i < (dayFrom runs t (k :: ks) run d).length := by rw [hlen]; exact hi
        have hx : (dayFrom runs t (k :: ks) run d).getD i (0, 0) = (dayFrom runs t (k :: ks) run d)[i] := by simp [List.getD, hi']
        rw [hx]
        have key : ∀ (ks : List Int) (run : Nat) (d : Int), ∀ x ∈ dayFrom runs t ks run d, x.1 ≤ 1000 := by
          intro ks
          induction ks with
          | nil => intro run d x hx; simp [dayFrom] at hx
          | cons k ks ih =>
            intro run d x hx
            unfold dayFrom at hx
            split at hx
            · have := List.eq_of_mem_replicate hx
              subst this; decide
            · rename_i j a hj
              obtain ⟨p, h1, h2, h3, h4⟩ := begins_of_drop hj
              have h5 := hb p (List.mem_of_getElem? h2)
              have h6 := ht k
              have h7 := h40 k
              rcases List.mem_cons.1 hx with rfl | hx
              · simp only; omega
              · exact ih _ _ x hx
        exact key _ _ _ _ (List.getElem_mem _)
      · have hlen := dayFrom_length runs t (k :: ks) run d
        have : (dayFrom runs t (k :: ks) run d).getD i (0, 0) = (0, 0) := by
          simp only [List.getD]
          rw [List.getElem?_eq_none (by rw [hlen]; simp; omega)]; rfl
        rw [this]
        simp [List.getD, List.getElem?_replicate, hi]
    | some ja' =>
      obtain ⟨j', a'⟩ := ja'
      have h1 : begins ((runs.drop run).drop (run' - run)) (run + (run' - run)) d' = some (j', a') := by
        rw [List.drop_drop, show run + (run' - run) = run' by omega]; exact hb'
      obtain ⟨j1, a1, h2, h3, h4⟩ := begins_from (run' - run) (runs.drop run) run d' j' a' (hs.drop run) h1
      obtain ⟨j, a, h5, h6, h7⟩ := begins_mono (runs.drop run) run d d' j1 a1 (hs.drop run) hd h2
      have e : dayFrom runs t (k :: ks) run d = (a + tk t k, (j : Int)) :: dayFrom runs t ks j (a + tk t k) := by rw [dayFrom, h5]
      have e' : dayFrom runs t' (k :: ks) run' d' = (a' + tk t' k, (j' : Int)) :: dayFrom runs t' ks j' (a' + tk t' k) := by rw [dayFrom, hb']
      rw [e, e']
      have hk := ht k
      cases i with
      | zero => simp; omega
      | succ i =>
        rw [List.getD_cons_succ, List.getD_cons_succ]
        exact dayFrom_mono runs hs t t' hb ht h40 ks j j' _ _ i (by omega) (by omega)
end Go.Sh.Stand
