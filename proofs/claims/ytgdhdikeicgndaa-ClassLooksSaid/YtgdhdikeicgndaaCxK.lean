/- classer, plain: the document's cost of a bale. -/
import Derived.Test.YtgdhdikeicgndaaKcx18
set_option linter.all false
namespace Go.Cl
def farN (a b : Nat) : Nat := (a - b) + (b - a)
/-- The best of the first so many looks. -/
def cstL (b : Nat × Nat × Nat) (w : Nat) : Nat → Nat
  | 0 => b.2.1 + 1
  | s + 1 => if s ≤ w ∧ b.2.1 - s ≤ b.1 - w then min (cstL b w s) (farN s b.2.2) else cstL b w s
theorem cstL_le (b : Nat × Nat × Nat) (w : Nat) : ∀ k s, s < k → s ≤ w → b.2.1 - s ≤ b.1 - w → cstL b w k ≤ farN s b.2.2
  | 0, s, h, _, _ => by omega
  | k + 1, s, h, h1, h2 => by
    unfold cstL
    by_cases e : s = k
    · subst e
      rw [if_pos ⟨h1, h2⟩]
      exact Nat.min_le_right _ _
    · have ih := cstL_le b w k s (by omega) h1 h2
      split
      · exact Nat.le_trans (Nat.min_le_left _ _) ih
      · exact ih
theorem cstL_ge (b : Nat × Nat × Nat) (w m : Nat) (h0 : m ≤ b.2.1 + 1) : ∀ k, (∀ s, s < k → s ≤ w → b.2.1 - s ≤ b.1 - w → m ≤ farN s b.2.2) → m ≤ cstL b w k
  | 0, _ => h0
  | k + 1, h => by
    have ih := cstL_ge b w m h0 k fun s hs => h s (by omega)
    unfold cstL
    split
    · rename_i hc
      exact Nat.le_min.2 ⟨ih, h k (by omega) hc.1 hc.2⟩
    · exact ih
theorem cst_cost {b : Nat × Nat × Nat} {w : Nat} (h1 : b.2.1 ≤ b.1) (h2 : b.2.2 ≤ b.2.1) (hw : w ≤ b.1) : cstL b w (b.2.1 + 1) = costB b w := by
  obtain ⟨F, K, W⟩ := b
  dsimp only at h1 h2 hw
  refine Nat.le_antisymm ?_ (cstL_ge _ _ _ (by unfold costB; dsimp only; omega) _ fun s hs h3 h4 => ?_)
  · have h3 := cstL_le (F, K, W) w (K + 1) (min (max W (w - (F - K))) (min K w)) (by omega) (by omega) (by dsimp only; omega)
    refine Nat.le_trans h3 ?_
    unfold costB farN
    dsimp only
    omega
  · unfold costB farN
    dsimp only at hs h3 h4 ⊢
    omega
theorem cstL_bd (b : Nat × Nat × Nat) (w : Nat) : ∀ k, cstL b w k ≤ b.2.1 + 1
  | 0 => Nat.le_refl _
  | k + 1 => by
    have ih := cstL_bd b w k
    unfold cstL
    split
    · exact Nat.le_trans (Nat.min_le_left _ _) ih
    · exact ih
end Go.Cl
