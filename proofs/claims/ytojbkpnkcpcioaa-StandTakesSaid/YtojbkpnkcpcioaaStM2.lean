/- More of the plain model of a stand. -/
import Derived.Test.YtojbkpnkcpcioaaStM
set_option linter.all false
namespace Go.Sh.Stand

theorem gmax_ge (a b : Int) : a ≤ gmax a b ∧ b ≤ gmax a b := by unfold gmax; split <;> omega

theorem begins_some : ∀ (rs : List (Int × Int)) (i : Nat) (done : Int) (j : Nat) (at_ : Int), begins rs i done = some (j, at_) →
    ∃ p, i ≤ j ∧ rs[j - i]? = some p ∧ at_ = gmax done p.1 ∧ at_ < p.2
  | [], _, _, _, _, h => by simp [begins] at h
  | (st, be) :: r, i, done, j, at_, h => by
    unfold begins at h
    split at h
    · cases h; exact ⟨(st, be), Nat.le_refl _, by simp, rfl, by assumption⟩
    · obtain ⟨p, h1, h2, h3, h4⟩ := begins_some r (i + 1) done j at_ h
      refine ⟨p, by omega, ?_, h3, h4⟩
      rw [show j - i = (j - (i + 1)) + 1 by omega]; simpa using h2

theorem dayFrom_length (runs : List (Int × Int)) (t : Shearer) : ∀ (ks : List Int) (run : Nat) (done : Int), (dayFrom runs t ks run done).length = ks.length
  | [], _, _ => rfl
  | k :: ks, run, done => by
    unfold dayFrom
    split
    · simp
    · simp [dayFrom_length runs t ks]

theorem dayFrom_none {runs : List (Int × Int)} {t : Shearer} {ks : List Int} {n run : Nat} {done : Int} (h : begins (runs.drop run) run done = none) :
    dayFrom runs t (ks.drop n) run done = List.replicate (ks.length - n) (1000, -1) := by
  by_cases hn : n < ks.length
  · rw [List.drop_eq_getElem_cons hn, dayFrom, h]
    show List.replicate ((ks.drop (n + 1)).length + 1) _ = _
    rw [List.length_drop, show ks.length - (n + 1) + 1 = ks.length - n by omega]
  · rw [List.drop_eq_nil_of_le (by omega), show ks.length - n = 0 by omega]; rfl
theorem dayFrom_some {runs : List (Int × Int)} {t : Shearer} {ks : List Int} {n run : Nat} {done : Int} {i : Nat} {at_ : Int} (hn : n < ks.length) (h : begins (runs.drop run) run done = some (i, at_)) :
    dayFrom runs t (ks.drop n) run done = (at_ + tk t ks[n], (i : Int)) :: dayFrom runs t (ks.drop (n + 1)) i (at_ + tk t ks[n]) := by
  rw [List.drop_eq_getElem_cons hn, dayFrom, h]
theorem begins_of_drop {rs : List (Int × Int)} {run : Nat} {done : Int} {i : Nat} {at_ : Int} (h : begins (rs.drop run) run done = some (i, at_)) :
    ∃ p, run ≤ i ∧ rs[i]? = some p ∧ at_ = gmax done p.1 ∧ at_ < p.2 := by
  obtain ⟨p, h1, h2, h3, h4⟩ := begins_some _ _ _ _ _ h
  exact ⟨p, h1, by rw [List.getElem?_drop] at h2; rwa [show run + (i - run) = i by omega] at h2, h3, h4⟩
end Go.Sh.Stand
