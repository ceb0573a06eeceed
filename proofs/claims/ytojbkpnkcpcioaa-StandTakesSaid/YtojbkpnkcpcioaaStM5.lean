/- The hull of numbers. -/
import Derived.Test.YtojbkpnkcpcioaaStM4
set_option linter.all false
namespace Go.Sh.Stand
def hull (L : List Int) : Int × Int := joinedL (L.map fun n => (n, n))

theorem foldl_jn : ∀ (L : List Int) (s : Int × Int), s.1 ≤ s.2 →
    (((L.map fun n => (n, n)).foldl jn s).1 = s.1 ∨ ((L.map fun n => (n, n)).foldl jn s).1 ∈ L) ∧ (((L.map fun n => (n, n)).foldl jn s).2 = s.2 ∨ ((L.map fun n => (n, n)).foldl jn s).2 ∈ L) ∧
    ((L.map fun n => (n, n)).foldl jn s).1 ≤ s.1 ∧ s.2 ≤ ((L.map fun n => (n, n)).foldl jn s).2 ∧ (∀ a ∈ L, ((L.map fun n => (n, n)).foldl jn s).1 ≤ a ∧ a ≤ ((L.map fun n => (n, n)).foldl jn s).2)
  | [], s, _ => by simp
  | n :: L, s, h => by
    have h2 : (jn s (n, n)).1 ≤ (jn s (n, n)).2 := by unfold jn gmin gmax; simp only; split <;> split <;> omega
    obtain ⟨i1, i2, i3, i4, i5⟩ := foldl_jn L (jn s (n, n)) h2
    rw [List.map_cons, List.foldl_cons]
    have e1 : (jn s (n, n)).1 = s.1 ∨ (jn s (n, n)).1 = n := by unfold jn gmin; simp only; split <;> simp
    have e2 : (jn s (n, n)).2 = s.2 ∨ (jn s (n, n)).2 = n := by unfold jn gmax; simp only; split <;> simp
    have e3 : (jn s (n, n)).1 ≤ s.1 ∧ (jn s (n, n)).1 ≤ n := by unfold jn gmin; simp only; split <;> omega
    have e4 : s.2 ≤ (jn s (n, n)).2 ∧ n ≤ (jn s (n, n)).2 := by unfold jn gmax; simp only; split <;> omega
    refine ⟨?_, ?_, by omega, by omega, ?_⟩
    · rcases i1 with h | h
      · rcases e1 with e | e
        · exact .inl (h.trans e)
        · exact .inr (by rw [h, e]; exact List.mem_cons_self ..)
      · exact .inr (List.mem_cons_of_mem _ h)
    · rcases i2 with h | h
      · rcases e2 with e | e
        · exact .inl (h.trans e)
        · exact .inr (by rw [h, e]; exact List.mem_cons_self ..)
      · exact .inr (List.mem_cons_of_mem _ h)
    · intro a ha
      rcases List.mem_cons.1 ha with rfl | ha
      · omega
      · exact i5 a ha

theorem hull_spec {L : List Int} (h : L ≠ []) : (hull L).1 ∈ L ∧ (hull L).2 ∈ L ∧ ∀ a ∈ L, (hull L).1 ≤ a ∧ a ≤ (hull L).2 := by
  cases L with
  | nil => exact absurd rfl h
  | cons n L =>
    have := foldl_jn (n :: L) (n, n) (Int.le_refl _)
    unfold hull joinedL
    simp only [List.map_cons, List.headD_cons]
    rw [List.map_cons] at this
    obtain ⟨i1, i2, i3, i4, i5⟩ := this
    refine ⟨?_, ?_, i5⟩
    · rcases i1 with h | h
      · rw [h]; exact List.mem_cons_self ..
      · exact h
    · rcases i2 with h | h
      · rw [h]; exact List.mem_cons_self ..
      · exact h
/-- The hull is just this. -/
theorem hull_eq {L : List Int} {lo hi : Int} (h1 : lo ∈ L) (h2 : hi ∈ L) (h3 : ∀ a ∈ L, lo ≤ a ∧ a ≤ hi) : hull L = (lo, hi) := by
  have hne : L ≠ [] := by intro e; rw [e] at h1; cases h1
  obtain ⟨i1, i2, i3⟩ := hull_spec hne
  have a1 := h3 _ i1
  have a2 := h3 _ i2
  have a3 := i3 _ h1
  have a4 := i3 _ h2
  exact Prod.ext (by simp only; omega) (by simp only; omega)
end Go.Sh.Stand
