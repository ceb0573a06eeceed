/- tally, plain: which calls must be false, and which clash. -/
import Derived.Test.YtejbglbiefpagaaTxD
set_option linter.all false
namespace Go.Proofs.Ytejbglbiefpagaa
open Go Go.RowKit Go.Sh Go.Pv
theorem diff_zero {a b : Nat} (h : ∀ i, a.testBit i = true → b.testBit i = true) : diffN a b = 0 := by
  apply Nat.eq_of_testBit_eq
  intro i
  rw [diffN_bit, Nat.zero_testBit]
  cases ha : a.testBit i
  · rfl
  · rw [h i ha]; rfl
theorem bit_lt {x k i : Nat} (hx : x < 2 ^ k) (h : x.testBit i = true) : i < k := by
  apply Decidable.byContradiction
  intro hi
  rw [Nat.testBit_lt_two_pow (Nat.lt_of_lt_of_le hx (Nat.pow_le_pow_right (by decide) (by omega)))] at h
  cases h
theorem diff_lt {a b k : Nat} (h : a < 2 ^ k) : diffN a b < 2 ^ k := Nat.lt_of_le_of_lt (diffN_le a b) h
theorem popc_drop {x i : Nat} (hx : x < 256) (h : x.testBit i = true) : popc (diffN x (2 ^ i)) < popc x := by
  refine popc_less (Nat.lt_of_le_of_lt (diffN_le _ _) hx) hx (fun j hj => ?_) (j := i) ?_ h
  · rw [diffN_bit] at hj
    cases hxj : x.testBit j
    · rw [hxj] at hj; cases hj
    · rfl
  · rw [diffN_bit, Nat.testBit_two_pow, h]; simp
section
variable {N : Nat} {most : Int} {strays : List (Int × Int)} {calls : List (Int × Int × Int × Int)}
theorem two_le (h : TOK N most strays calls) : 1 ≤ 2 ^ calls.length ∧ 2 ^ calls.length ≤ 256 :=
  ⟨Nat.two_pow_pos _, Nat.pow_le_pow_right (n := 2) (by decide) h.cl⟩
structure FalseP (E w s len : Nat) (p : Nat → Bool) : Prop where
  we : w ≤ E
  se : diffN s E = 0
  ws : diffN w s = 0
  pe : p E = true
  pw : p w = true
  zero : popc w = 0 → w = 0 ∧ s = 0 ∧ p 0 = true
  pos : popc w ≠ 0 → 0 < popc w ∧ 0 < s ∧ p 0 = false
  own : ∀ x, x ≤ E → p x = true → popc w < popc x ∨ (popc x = popc w ∧ w ≤ x ∧ diffN x s = 0)
  drop : ∀ i, w.testBit i = true → p (diffN w (2 ^ i)) = false
  one : ∀ i, i < len → s.testBit i = true → popc w = 1 → p (2 ^ i) = true
theorem falseP (h : TOK N most strays calls) {w s : Nat} (ho : Outs N most strays calls w s) : FalseP (2 ^ calls.length - 1) w s calls.length (pW N most strays calls) := by
  have h2 := two_le h
  have hW := fun x => pW_F h x
  have h8 : ∀ x, x < 2 ^ calls.length → x < 256 := fun x hx => lt_pow8 h.cl hx
  have hws : ∀ i, w.testBit i = true → s.testBit i = true := fun i hi => (ho.sus i).2 ⟨w, ho.lt, rfl, ho.ok, hi⟩
  have hpw : pW N most strays calls w = true := (hW w).2 ho.ok
  refine ⟨by have := ho.lt; omega, diff_zero fun i hi => ?_, diff_zero hws, ?_, hpw, fun hz => ?_, fun hz => ?_, fun x hx hp => ?_, fun i hi => ?_, fun i hi hs h1 => ?_⟩
  · obtain ⟨x, hx, _, _, hb⟩ := (ho.sus i).1 hi
    rw [every_bit]; simpa using bit_lt hx hb
  · refine (hW _).2 (feas_mono (S := diffN (2 ^ calls.length - 1) w) (fun i hi hb => ?_) ho.ok)
    rw [diffN_bit, every_bit] at hb
    simp [hi] at hb
  · have hw := popc_pos (h8 _ ho.lt) hz
    subst hw
    have hf : Whole N most strays calls := by
      have := ho.ok
      rwa [show diffN (2 ^ calls.length - 1) 0 = 2 ^ calls.length - 1 by unfold diffN; simp] at this
    exact ⟨rfl, (whole_out h hf ho).2, hpw⟩
  · refine ⟨by omega, ?_, ?_⟩
    · apply Nat.pos_of_ne_zero
      intro hs0
      subst hs0
      have : w = 0 := by
        apply Nat.eq_of_testBit_eq
        intro i
        rw [Nat.zero_testBit]
        cases hwi : w.testBit i
        · rfl
        · have := hws i hwi
          rw [Nat.zero_testBit] at this; cases this
      rw [this, popc_zero] at hz
      exact hz rfl
    · rw [← Bool.not_eq_true, hW]
      intro hf
      rcases ho.least 0 (by omega) hf with h0 | h0
      · rw [← h0, popc_zero] at hz; exact hz rfl
      · unfold ahead at h0; rw [popc_zero] at h0; omega
  · have hf := (hW x).1 hp
    rcases ho.least x (by omega) hf with rfl | ha
    · exact .inr ⟨rfl, Nat.le_refl _, diff_zero hws⟩
    · unfold ahead at ha
      rcases ha with ha | ⟨h1, h3⟩
      · exact .inl ha
      · exact .inr ⟨h1.symm, by omega, diff_zero fun i hi => (ho.sus i).2 ⟨x, by omega, h1.symm, hf, hi⟩⟩
  · rw [← Bool.not_eq_true, hW]
    intro hf
    have hp := popc_drop (h8 _ ho.lt) hi
    rcases ho.least _ (diff_lt ho.lt) hf with h0 | h0
    · rw [h0] at hp; omega
    · unfold ahead at h0; omega
  · rw [hW]
    obtain ⟨x, hx, hpx, hf, hb⟩ := (ho.sus i).1 hs
    have hp := popc_drop (h8 _ hx) hb
    have hz := popc_pos (Nat.lt_of_le_of_lt (diffN_le x (2 ^ i)) (h8 _ hx)) (by omega)
    refine feas_mono (S := diffN (2 ^ calls.length - 1) x) (fun j hj hbj => ?_) hf
    rw [diffN_bit] at hbj ⊢
    rw [every_bit] at hbj ⊢
    have hz' : (diffN x (2 ^ i)).testBit j = false := by rw [hz, Nat.zero_testBit]
    rw [diffN_bit] at hz'
    cases hxj : x.testBit j
    · simpa using hj
    · rw [hxj] at hz'
      simp at hz'
      rw [hz'] at hbj
      simp at hbj
structure ClashP (E w len : Nat) (p : Nat → Bool) : Prop where
  we : w ≤ E
  pe : p E = true
  pw : p w = true
  own : ∀ x, x ≤ E → p x = true → popc w < popc x ∨ (popc x = popc w ∧ w ≤ x)
  drop : ∀ i, w.testBit i = true → p (diffN w (2 ^ i)) = false
theorem clashP (h : TOK N most strays calls) {w : Nat} (hlt : w < 2 ^ calls.length) (hw : ¬ Feas N most strays calls w) (hl : ∀ x, x < 2 ^ calls.length → ¬ Feas N most strays calls x → x = w ∨ ahead w x) (hn : ¬ Whole N most strays calls) : ClashP (2 ^ calls.length - 1) w calls.length (pC N most strays calls) := by
  have h2 := two_le h
  have hC := fun x => pC_F h x
  refine ⟨by omega, (hC _).2 hn, (hC _).2 hw, fun x hx hp => ?_, fun i hi => ?_⟩
  · rcases hl x (by omega) ((hC x).1 hp) with rfl | ha
    · exact .inr ⟨rfl, Nat.le_refl _⟩
    · unfold ahead at ha; omega
  · rw [← Bool.not_eq_true, hC]
    intro hf
    have hp := popc_drop (lt_pow8 h.cl hlt) hi
    rcases hl _ (diff_lt hlt) hf with h0 | h0
    · rw [h0] at hp; omega
    · unfold ahead at h0; omega
end
end Go.Proofs.Ytejbglbiefpagaa
