/- Plain laws: the specification's day, minute by minute, is the program's. -/
import Derived.Test.YtojbkpnkcpcioaaKf
import Derived.Test.YtojbkpnkcpcioaaRfA
set_option linter.all false
namespace Go.Proofs.Ytojbkpnkcpcioaa
open Go Go.RowKit Go.Sh Go.Sh.Stand Go.Pv
def dayZ (runs : List (Int × Int)) (t : Shearer) : List Int → Int → List (Int × Int)
  | [], _ => []
  | k :: ks, d =>
    match begins runs 0 d with
    | none => List.replicate (ks.length + 1) (1000, -1)
    | some (i, at_) => (at_ + tk t k, (i : Int)) :: dayZ runs t ks (at_ + tk t k)
theorem sorted_get : ∀ (l : List (Int × Int)), Sorted l → ∀ (i j : Nat) (p q : Int × Int), j < i → l[j]? = some p → l[i]? = some q → p.2 ≤ q.1
  | [], _, i, j, p, q, _, h, _ => by simp at h
  | x :: l, hs, i, j, p, q, hji, hp, hq => by
    obtain ⟨i, rfl⟩ : ∃ i', i = i' + 1 := ⟨i - 1, by omega⟩
    rw [List.getElem?_cons_succ] at hq
    cases j with
    | zero => simp at hp; subst hp; exact hs.1.2 q (List.mem_of_getElem? hq)
    | succ j => exact sorted_get l hs.2 i j p q (by omega) (by simpa using hp) hq
theorem begins_skipZ {runs : List (Int × Int)} {d : Int} : ∀ (r : Nat), (∀ j p, j < r → runs[j]? = some p → p.2 ≤ d) → begins (runs.drop r) r d = begins runs 0 d
  | 0, _ => rfl
  | r + 1, h => by
    rw [← begins_skipZ r fun j p hj => h j p (by omega)]
    by_cases hr : r < runs.length
    · have hp : runs[r]? = some runs[r] := by simp [hr]
      have := h r _ (by omega) hp
      have hg := gmax_ge d runs[r].1
      exact (begins_next hp (by omega)).symm
    · rw [List.drop_eq_nil_of_le (by omega), List.drop_eq_nil_of_le (by omega)]; rfl
theorem dayZ_eq {runs : List (Int × Int)} (hs : Sorted runs) {t : Shearer} (ht : ∀ k, 1 ≤ tk t k) : ∀ (ks : List Int) (r : Nat) (d : Int), (∀ j p, j < r → runs[j]? = some p → p.2 ≤ d) → dayFrom runs t ks r d = dayZ runs t ks d
  | [], _, _, _ => rfl
  | k :: ks, r, d, h => by
    have hb := begins_skipZ r h
    unfold dayFrom dayZ
    rw [hb]
    cases hx : begins runs 0 d with
    | none => rfl
    | some ia =>
      obtain ⟨i, a⟩ := ia
      simp only
      rw [dayZ_eq hs ht ks i (a + tk t k)]
      intro j p hj hp
      rw [← hb] at hx
      obtain ⟨q, h1, h2, h3, h4⟩ := begins_of_drop hx
      have h5 := sorted_get runs hs i j p q hj hp h2
      have h6 := gmax_ge d q.1
      have := ht k
      omega
theorem day_dayZ {s : Stand} (hs : Sorted s.runs) {t : Shearer} (ht : ∀ k, 1 ≤ tk t k) : day s t = dayZ s.runs t s.sheep 0 := dayZ_eq hs ht s.sheep 0 0 fun j p hj => by omega
theorem runAt_mem : ∀ (l : List (Int × Int)) (i : Nat) (m : Int), runAt l i m ≠ -1 → ∃ q ∈ l, q.1 ≤ m ∧ m < q.2
  | [], _, _, h => absurd rfl h
  | (st, be) :: r, i, m, h => by
    rw [runAt] at h
    split at h
    · rename_i hin
      have := inB_spec hin
      exact ⟨(st, be), List.mem_cons_self, by simp only; omega⟩
    · obtain ⟨q, hq, h2⟩ := runAt_mem r (i + 1) m h
      exact ⟨q, List.mem_cons_of_mem _ hq, h2⟩
theorem begins_run : ∀ (l : List (Int × Int)) (i : Nat) (m j : Int), Sorted l → runAt l i m = j → j ≠ -1 → ∃ n : Nat, j = n ∧ begins l i m = some (n, m)
  | [], _, _, _, _, h, hj => by rw [runAt] at h; omega
  | (st, be) :: r, i, m, j, hs, h, hj => by
    have h' := h
    rw [runAt] at h
    by_cases hin : inB m st (be - 1) = true
    · rw [if_pos hin] at h
      have := inB_spec hin
      have hg : gmax m st = m := by unfold gmax; split <;> omega
      exact ⟨i, h.symm, by rw [begins, hg, if_pos (by omega)]⟩
    · rw [if_neg hin] at h
      obtain ⟨q, hq, h1, h2⟩ := runAt_mem r (i + 1) m (by rw [h]; exact hj)
      have h3 := hs.1.2 q hq
      have hg := gmax_ge m st
      simp only at h3
      obtain ⟨n, h4, h5⟩ := begins_run r (i + 1) m j hs.2 h hj
      exact ⟨n, h4, by rw [begins, if_neg (by omega)]; exact h5⟩
theorem begins_idle : ∀ (l : List (Int × Int)) (i : Nat) (m : Int), runAt l i m = -1 → begins l i m = begins l i (m + 1)
  | [], _, _, _ => rfl
  | (st, be) :: r, i, m, h => by
    rw [runAt] at h
    by_cases hin : inB m st (be - 1) = true
    · rw [if_pos hin] at h; omega
    · rw [if_neg hin] at h
      have ih := begins_idle r (i + 1) m h
      have hn : m < st ∨ be ≤ m := by
        unfold inB at hin
        simp at hin
        omega
      rcases hn with hn | hn
      · have e1 : gmax m st = st := by unfold gmax; split <;> omega
        have e2 : gmax (m + 1) st = st := by unfold gmax; split <;> omega
        rw [begins, begins, e1, e2, ih]
      · have g1 := gmax_ge m st
        have g2 := gmax_ge (m + 1) st
        rw [begins, begins, if_neg (by omega), if_neg (by omega), ih]
theorem begins_late : ∀ (l : List (Int × Int)) (i : Nat) (m : Int), (∀ p ∈ l, p.2 ≤ m) → begins l i m = none
  | [], _, _, _ => rfl
  | (st, be) :: r, i, m, h => by
    have h1 := h (st, be) List.mem_cons_self
    have g1 := gmax_ge m st
    simp only at h1
    rw [begins, if_neg (by omega)]
    exact begins_late r (i + 1) m fun p hp => h p (List.mem_cons_of_mem _ hp)
theorem dayZ_idle {runs : List (Int × Int)} {t : Shearer} {ks : List Int} {m : Int} (h : runAt runs 0 m = -1) : dayZ runs t ks m = dayZ runs t ks (m + 1) := by
  cases ks with
  | nil => rfl
  | cons k ks => rw [dayZ, dayZ, begins_idle runs 0 m h]
theorem dayZ_step {runs : List (Int × Int)} (hs : Sorted runs) {t : Shearer} {k : Int} {ks : List Int} {m j : Int} (h : runAt runs 0 m = j) (hj : j ≠ -1) : dayZ runs t (k :: ks) m = (m + tk t k, j) :: dayZ runs t ks (m + tk t k) := by
  obtain ⟨n, rfl, h2⟩ := begins_run runs 0 m j hs h hj
  rw [dayZ, h2]
theorem dayZ_late {runs : List (Int × Int)} {t : Shearer} {ks : List Int} {m : Int} (h : ∀ p ∈ runs, p.2 ≤ m) : dayZ runs t ks m = List.replicate ks.length (1000, -1) := by
  cases ks with
  | nil => rfl
  | cons k ks => rw [dayZ, begins_late runs 0 m h]; rfl
theorem runAt_le : ∀ (l : List (Int × Int)) (i : Nat) (m : Int), -1 ≤ runAt l i m ∧ runAt l i m ≤ i + l.length
  | [], i, m => by rw [runAt]; simp
  | (st, be) :: r, i, m => by
    rw [runAt]
    have := runAt_le r (i + 1) m
    split
    · simp; omega
    · simp; omega
end Go.Proofs.Ytojbkpnkcpcioaa
