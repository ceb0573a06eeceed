/- burr: one test more; which bale is best opened next, without the program. -/
import Derived.Test.YtknikcpeacmpmaaKm
import Derived.Test.YtknikcpeacmpmaaBwA
set_option linter.all false
namespace Go.Proofs.Ytknikcpeacmpmaa
open Go Go.RowKit Go.Sh Go.Pv
section
variable {N lo up : Nat} {bales : List (Int × Int)} {tests : List (Int × Bool)}
theorem rtB_append {ts us : List (Int × Bool)} {m h : Nat} : rtB lo up bales (ts ++ us) m h = (rtB lo up bales ts m h && us.all fun t => h.testBit t.1.toNat == t.2) := by
  rw [Bool.eq_iff_iff, Bool.and_eq_true, rtB_iff, rtB_iff, List.all_eq_true]
  simp only [List.mem_append, beq_iff_eq]
  constructor
  · rintro ⟨g1, g2, g3⟩; exact ⟨⟨g1, g2, fun t ht => g3 t (.inl ht)⟩, fun t ht => g3 t (.inr ht)⟩
  · rintro ⟨⟨g1, g2, g3⟩, g4⟩; exact ⟨g1, g2, fun t ht => ht.elim (g3 t) (g4 t)⟩
theorem TR_append {ts us : List (Int × Bool)} : TR N lo up bales (ts ++ us) = (TR N lo up bales ts).filter fun x => us.all fun t => x.2.testBit t.1.toNat == t.2 := by
  unfold TR
  rw [List.filter_flatMap]
  congr 1
  funext m
  unfold TRm
  rw [List.filter_map, List.filter_filter]
  congr 1
  apply List.filter_congr
  intro h _
  rw [rtB_append, Bool.and_comm]
  rfl
theorem cnt_split {c : Int} (hb6 : bales.length ≤ 6) (ht : ∀ t ∈ tests, 0 ≤ t.1 ∧ t.1 < 6) (hc : 0 ≤ c ∧ c < 6) : cntF lo up bales (tests ++ [(c, true)]) (2 ^ N) + cntF lo up bales (tests ++ [(c, false)]) (2 ^ N) = cntF lo up bales tests (2 ^ N) := by
  have ht2 : ∀ f, ∀ t ∈ tests ++ [(c, f)], 0 ≤ t.1 ∧ t.1 < 6 := fun f t h => by
    simp only [List.mem_append, List.mem_singleton] at h
    rcases h with h | rfl
    · exact ht t h
    · exact hc
  rw [count_TR hb6 (ht2 true), count_TR hb6 (ht2 false), count_TR hb6 ht, TR_append, TR_append]
  generalize TR N lo up bales tests = L
  simp only [List.all_cons, List.all_nil, Bool.and_true]
  induction L with
  | nil => rfl
  | cons x r ih =>
    rw [List.filter_cons, List.filter_cons]
    cases x.2.testBit c.toNat
    · rw [if_neg (by decide), if_pos (by decide), List.length_cons, List.length_cons]; omega
    · rw [if_pos (by decide), if_neg (by decide), List.length_cons, List.length_cons]; omega
/-- The best of the first ones. -/
theorem next_best : ∀ i, 0 < i → (nextF N lo up bales tests i).1 < i ∧ (nextF N lo up bales tests i).2 = worstF N lo up bales tests (nextF N lo up bales tests i).1 ∧ ∀ k, k < i → (nextF N lo up bales tests i).2 < worstF N lo up bales tests k ∨ ((nextF N lo up bales tests i).2 = worstF N lo up bales tests k ∧ (nextF N lo up bales tests i).1 ≤ k)
  | 0, h => by omega
  | i + 1, _ => by
    have e : nextF N lo up bales tests (i + 1) = if i = 0 ∨ worstF N lo up bales tests i < (nextF N lo up bales tests i).2 then (i, worstF N lo up bales tests i) else nextF N lo up bales tests i := rfl
    rw [e]
    by_cases hi : i = 0
    · subst hi
      rw [if_pos (.inl rfl)]
      refine ⟨by dsimp only; omega, rfl, fun k hk => ?_⟩
      have : k = 0 := by omega
      subst this
      exact .inr ⟨rfl, Nat.le_refl _⟩
    · obtain ⟨h1, h2, h3⟩ := next_best i (by omega)
      by_cases hw : worstF N lo up bales tests i < (nextF N lo up bales tests i).2
      · rw [if_pos (.inr hw)]
        refine ⟨by dsimp only; omega, rfl, fun k hk => ?_⟩
        dsimp only
        by_cases hk2 : k < i
        · left
          rcases h3 k hk2 with h | ⟨h, _⟩ <;> omega
        · have : k = i := by omega
          subst this
          exact .inr ⟨rfl, Nat.le_refl _⟩
      · rw [if_neg (by rintro (h | h); exact hi h; exact hw h)]
        refine ⟨by omega, h2, fun k hk => ?_⟩
        by_cases hk2 : k < i
        · exact h3 k hk2
        · have : k = i := by omega
          subst this
          rcases Nat.lt_or_ge (nextF N lo up bales tests k).2 (worstF N lo up bales tests k) with h | h
          · exact .inl h
          · exact .inr ⟨by omega, by omega⟩
end
/-- Bales with one test more are valid. -/
theorem burr_snoc {n lo hi top : Int} {bales : List (Int × Int)} {tests us : List (Int × Bool)} (h : burrB n lo hi top bales tests = true) (hl : tests.length + us.length ≤ 6) (hu : ∀ t ∈ us, 0 ≤ t.1 ∧ t.1 < bales.length) : burrB n lo hi top bales (tests ++ us) = true := by
  unfold burrB headB at h ⊢
  simp only [Bool.and_eq_true, decide_eq_true_eq, List.all_append, List.length_append] at h ⊢
  obtain ⟨⟨h1, h2⟩, h3, h4⟩ := h
  refine ⟨⟨h1, hl⟩, h3, h4, ?_⟩
  rw [List.all_eq_true]
  intro t ht
  have := hu t ht
  simp only [inB, Bool.and_eq_true, decide_eq_true_eq]
  omega
end Go.Proofs.Ytknikcpeacmpmaa
