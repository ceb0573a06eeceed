/- burr: the least set that is so, found in both ways; the best bale, in both ways. -/
import Derived.Test.YtknikcpeacmpmaaBxG
set_option linter.all false
namespace Go.Proofs.Ytknikcpeacmpmaa
open Go Go.RowKit Go.Sh Go.Pv
/-- The best of the first sets, as the document looks for it. -/
def minF (p : Nat → Bool) (k : Nat) : Nat → Nat
  | 0 => 2 ^ k - 1
  | s + 1 => if popc s < popc (minF p k s) ∧ p s = true then s else minF p k s
theorem popc_top_all : (List.range 7).all (fun k => (List.range (2 ^ k)).all fun x => Nat.blt (popc x) (popc (2 ^ k - 1)) || Nat.beq x (2 ^ k - 1)) = true := by decide +kernel
theorem popc_top {k x : Nat} (hk : k ≤ 6) (hx : x < 2 ^ k) : popc x < popc (2 ^ k - 1) ∨ x = 2 ^ k - 1 := by
  have h1 := List.all_eq_true.1 popc_top_all k (List.mem_range.2 (by omega))
  have h2 := List.all_eq_true.1 h1 x (List.mem_range.2 hx)
  rw [Bool.or_eq_true, Nat.blt_eq, Nat.beq_eq] at h2
  exact h2
theorem minF_inv {p : Nat → Bool} {k : Nat} (hk : k ≤ 6) (hf : p (2 ^ k - 1) = true) : ∀ s, s ≤ 2 ^ k → minF p k s < 2 ^ k ∧ p (minF p k s) = true ∧ (minF p k s < s ∨ minF p k s = 2 ^ k - 1) ∧ ∀ y, y < s → p y = true → popc (minF p k s) < popc y ∨ (popc (minF p k s) = popc y ∧ minF p k s ≤ y)
  | 0, _ => by
    have := Nat.two_pow_pos k
    exact ⟨by unfold minF; omega, hf, .inr rfl, fun y hy => by omega⟩
  | s + 1, hs => by
    obtain ⟨h1, h2, h3, h4⟩ := minF_inv hk hf s (by omega)
    have e : minF p k (s + 1) = if popc s < popc (minF p k s) ∧ p s = true then s else minF p k s := rfl
    rw [e]
    by_cases hc : popc s < popc (minF p k s) ∧ p s = true
    · rw [if_pos hc]
      refine ⟨by omega, hc.2, .inl (by omega), fun y hy hp => ?_⟩
      by_cases hys : y < s
      · left
        rcases h4 y hys hp with h | ⟨h, _⟩ <;> omega
      · have : y = s := by omega
        subst this
        exact .inr ⟨rfl, Nat.le_refl _⟩
    · rw [if_neg hc]
      refine ⟨h1, h2, h3.imp (by omega) id, fun y hy hp => ?_⟩
      by_cases hys : y < s
      · exact h4 y hys hp
      · have : y = s := by omega
        subst this
        have hge : popc (minF p k y) ≤ popc y := Nat.le_of_not_lt fun h => hc ⟨h, hp⟩
        rcases Nat.lt_or_ge (popc (minF p k y)) (popc y) with h | h
        · exact .inl h
        · refine .inr ⟨by omega, ?_⟩
          rcases h3 with h3 | h3
          · omega
          · rw [h3] at hge ⊢
            rcases popc_top hk (show y < 2 ^ k by omega) with h5 | h5 <;> omega
theorem min_first {p : Nat → Bool} {k : Nat} (hk : k ≤ 6) (hf : p (2 ^ k - 1) = true) : minF p k (2 ^ k) = firstF p (setsL k) := by
  have hp := Nat.two_pow_pos k
  obtain ⟨h1, h2, _, h4⟩ := minF_inv hk hf (2 ^ k) (Nat.le_refl _)
  obtain ⟨g1, g2, g3⟩ := first_least (p := p) hk ((any_sets hk).2 ⟨_, by omega, hf⟩)
  have a := h4 _ g1 g2
  have b := g3 _ h1 h2
  omega
section
variable {N L U T : Nat} {bales : List (Int × Int)} {tests : List (Int × Bool)}
theorem minF_congr {p q : Nat → Bool} {k : Nat} (h : ∀ x, p x = q x) : ∀ s, minF p k s = minF q k s
  | 0 => rfl
  | s + 1 => by unfold minF; rw [minF_congr h s, h s]
theorem tells_TR (hB : BOK N L U T bales tests) (S : Nat) : decide (Tells S T ((TR N L U bales tests).map (·.2))) = tellsP N L U T bales tests S := by
  have hm : ∀ h, h ∈ (TR N L U bales tests).map (·.2) ↔ h ∈ walkL L U bales tests (2 ^ N) := fun h => by
    rw [mem_walkL hB.b6 hB.te6, List.mem_map]
    constructor
    · rintro ⟨⟨m, x⟩, hx, rfl⟩; exact ⟨m, hx⟩
    · rintro ⟨m, hx⟩; exact ⟨_, hx, rfl⟩
  unfold tellsP
  congr 1
  apply propext
  unfold Tells
  constructor
  · intro h a ha b hb; exact h a ((hm a).2 ha) b ((hm b).2 hb)
  · intro h a ha b hb; exact h a ((hm a).1 ha) b ((hm b).1 hb)
theorem open_min (hB : BOK N L U T bales tests) : openS N L U T bales tests = minF (fun S => decide (Tells S T ((TR N L U bales tests).map (·.2)))) bales.length (2 ^ bales.length) := by
  rw [minF_congr (tells_TR hB), min_first hB.b6 (tells_full hB.b6 hB.te6)]
  rfl
theorem clash_min (hB : BOK N L U T bales tests) (h : clashP N L U bales tests (2 ^ tests.length - 1) = true) : clashS N L U bales tests = minF (clashP N L U bales tests) tests.length (2 ^ tests.length) := by
  rw [min_first hB.t6 h]
  rfl
/-- The best of the first bales, as the document looks for it. -/
def refN (l : List (Nat × Nat)) : Nat → Nat × Nat
  | 0 => (0, l.length + 1)
  | i + 1 => if max (l.countP fun x => x.2.testBit i) (l.length - l.countP fun x => x.2.testBit i) < (refN l i).2 then (i, max (l.countP fun x => x.2.testBit i) (l.length - l.countP fun x => x.2.testBit i)) else refN l i
theorem worst_eq (hB : BOK N L U T bales tests) {i : Nat} (hi : i < bales.length) : worstF N L U bales tests i = max ((TR N L U bales tests).countP fun x => x.2.testBit i) ((TR N L U bales tests).length - (TR N L U bales tests).countP fun x => x.2.testBit i) := by
  have h6 := hB.b6
  have ht2 : ∀ f, ∀ t ∈ tests ++ [((i : Int), f)], 0 ≤ t.1 ∧ t.1 < 6 := fun f t h => by
    simp only [List.mem_append, List.mem_singleton] at h
    rcases h with h | rfl
    · exact hB.te6 t h
    · dsimp only; omega
  have hs := cnt_split (N := N) (lo := L) (up := U) (tests := tests) (c := (i : Int)) hB.b6 hB.te6 (by omega)
  unfold worstF cntT
  have h1 : cntF L U bales (tests ++ [((i : Int), true)]) (2 ^ N) = (TR N L U bales tests).countP fun x => x.2.testBit i := by
    rw [count_TR hB.b6 (ht2 true), TR_append, ← List.countP_eq_length_filter]
    congr 1
    funext x
    simp
  rw [count_TR hB.b6 hB.te6 (tests := tests), h1] at hs
  rw [h1]
  omega
theorem ref_next (hB : BOK N L U T bales tests) : ∀ i, 0 < i → i ≤ bales.length → refN (TR N L U bales tests) i = nextF N L U bales tests i
  | 0, h, _ => by omega
  | i + 1, _, hi => by
    have hcl : (TR N L U bales tests).countP (fun x => x.2.testBit i) ≤ (TR N L U bales tests).length := List.countP_le_length
    have e1 : nextF N L U bales tests (i + 1) = if i = 0 ∨ worstF N L U bales tests i < (nextF N L U bales tests i).2 then (i, worstF N L U bales tests i) else nextF N L U bales tests i := rfl
    rw [e1, worst_eq hB (by omega)]
    unfold refN
    by_cases h0 : i = 0
    · subst h0
      rw [show (refN (TR N L U bales tests) 0).2 = (TR N L U bales tests).length + 1 from rfl, if_pos (by omega), if_pos (.inl rfl)]
    · rw [ref_next hB i (by omega) (by omega)]
      by_cases hw : max ((TR N L U bales tests).countP fun x => x.2.testBit i) ((TR N L U bales tests).length - (TR N L U bales tests).countP fun x => x.2.testBit i) < (nextF N L U bales tests i).2
      · rw [if_pos hw, if_pos (.inr hw)]
      · rw [if_neg hw, if_neg (by rintro (h | h); exact h0 h; exact hw h)]
end
end Go.Proofs.Ytknikcpeacmpmaa
