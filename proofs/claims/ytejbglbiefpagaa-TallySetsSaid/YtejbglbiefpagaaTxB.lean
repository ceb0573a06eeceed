/- tally, plain: sets of calls in their order. -/
import Derived.Test.YtejbglbiefpagaaTvX
import Derived.Test.YtejbglbiefpagaaTxA
set_option linter.all false
namespace Go.Proofs.Ytejbglbiefpagaa
open Go Go.RowKit Go.Sh Go.Pv
theorem diffN_bit (a b i : Nat) : (diffN a b).testBit i = (a.testBit i && !b.testBit i) := by
  unfold diffN
  rw [Nat.testBit_xor, Nat.testBit_and]
  cases a.testBit i <;> cases b.testBit i <;> rfl
/-- How many bits a set has. -/
def bitsN (x : Nat) : Nat → Nat
  | 0 => 0
  | n + 1 => bitsN x n + (x.testBit n).toNat
theorem popc_all : (List.range 256).all (fun x => Nat.beq (popc x) (bitsN x 8)) = true := by decide +kernel
theorem popc_bits {x : Nat} (h : x < 256) : popc x = bitsN x 8 := by
  have := List.all_eq_true.1 popc_all x (List.mem_range.2 h)
  exact Nat.eq_of_beq_eq_true this
theorem bitsN_zero : ∀ n, bitsN 0 n = 0
  | 0 => rfl
  | n + 1 => by unfold bitsN; rw [bitsN_zero n, Nat.zero_testBit]; rfl
theorem bitsN_le {x y : Nat} : ∀ {n}, (∀ i, i < n → x.testBit i = true → y.testBit i = true) → bitsN x n ≤ bitsN y n
  | 0, _ => Nat.le_refl _
  | n + 1, h => by
    have ih := bitsN_le (n := n) fun i hi => h i (by omega)
    have hn := h n (by omega)
    unfold bitsN
    cases hx : x.testBit n
    · simp only [Bool.toNat_false]; omega
    · rw [hn hx]; omega
theorem bitsN_lt {x y : Nat} : ∀ {n}, (∀ i, i < n → x.testBit i = true → y.testBit i = true) → ∀ {j}, j < n → x.testBit j = false → y.testBit j = true → bitsN x n < bitsN y n
  | 0, _, j, hj, _, _ => absurd hj (by omega)
  | n + 1, h, j, hj, hx, hy => by
    unfold bitsN
    by_cases hjn : j = n
    · subst hjn
      have ih := bitsN_le (n := j) (x := x) (y := y) fun i hi => h i (by omega)
      rw [hx, hy]; simp only [Bool.toNat_false, Bool.toNat_true]; omega
    · have ih := bitsN_lt (n := n) (fun i hi => h i (by omega)) (j := j) (by omega) hx hy
      have hn := h n (by omega)
      cases hx : x.testBit n
      · simp only [Bool.toNat_false]; omega
      · rw [hn hx]; omega
theorem bitsN_eq {x y : Nat} : ∀ {n}, (∀ i, i < n → x.testBit i = y.testBit i) → bitsN x n = bitsN y n
  | 0, _ => rfl
  | n + 1, h => by unfold bitsN; rw [bitsN_eq fun i hi => h i (by omega), h n (by omega)]
theorem bitsN_high {x k : Nat} (hx : x < 2 ^ k) : ∀ n, k ≤ n → bitsN x n = bitsN x k
  | n, h => by
    by_cases hk : n = k
    · rw [hk]
    · obtain ⟨m, rfl⟩ : ∃ m, n = m + 1 := ⟨n - 1, by omega⟩
      show bitsN x m + (x.testBit m).toNat = _
      rw [bitsN_high hx m (by omega), Nat.testBit_lt_two_pow (Nat.lt_of_lt_of_le hx (Nat.pow_le_pow_right (by decide) (by omega)))]
      simp
theorem bitsN_up (x : Nat) : ∀ n, bitsN x n ≤ n
  | 0 => Nat.le_refl _
  | n + 1 => by
    have := bitsN_up x n
    have := Bool.toNat_le (x.testBit n)
    unfold bitsN; omega
theorem lt_pow8 {x k : Nat} (hk : k ≤ 8) (h : x < 2 ^ k) : x < 256 := Nat.lt_of_lt_of_le h (Nat.pow_le_pow_right (n := 2) (by decide) hk)
theorem popc_le {x k : Nat} (hk : k ≤ 8) (h : x < 2 ^ k) : popc x ≤ k := by
  rw [popc_bits (lt_pow8 hk h), bitsN_high h 8 hk]
  exact bitsN_up _ _
theorem mem_sets {x k : Nat} (hk : k ≤ 8) (h : x < 2 ^ k) : x ∈ setsL k := by
  unfold setsL
  refine List.mem_flatMap.2 ⟨popc x, List.mem_range.2 (by have := popc_le hk h; omega), List.mem_filter.2 ⟨List.mem_range.2 h, ?_⟩⟩
  exact Nat.beq_refl _
/-- A set comes ahead of another one. -/
def ahead (a b : Nat) : Prop := popc a < popc b ∨ (popc a = popc b ∧ a < b)
theorem ahead_trans {a b c : Nat} (h : ahead a b) (h' : ahead b c) : ahead a c := by unfold ahead at *; omega
def aheadB (a b : Nat) : Bool := Nat.blt (popc a) (popc b) || (Nat.beq (popc a) (popc b) && Nat.blt a b)
def chainB : List Nat → Bool
  | a :: b :: r => aheadB a b && chainB (b :: r)
  | _ => true
theorem chain_pw : ∀ {l : List Nat}, chainB l = true → l.Pairwise ahead
  | [], _ => .nil
  | [a], _ => List.pairwise_singleton _ _
  | a :: b :: r, h => by
    unfold chainB at h
    rw [Bool.and_eq_true] at h
    have ih := chain_pw h.2
    have hab : ahead a b := by
      have := h.1
      unfold aheadB at this
      simp only [Bool.or_eq_true, Bool.and_eq_true, Nat.blt_eq, Nat.beq_eq] at this
      exact this
    refine List.pairwise_cons.2 ⟨fun x hx => ?_, ih⟩
    rcases List.mem_cons.1 hx with rfl | hx
    · exact hab
    · exact ahead_trans hab ((List.pairwise_cons.1 ih).1 x hx)
theorem sets_pw (k : Nat) (h : k ≤ 8) : (setsL k).Pairwise ahead := by
  refine chain_pw ?_
  rcases (show k = 0 ∨ k = 1 ∨ k = 2 ∨ k = 3 ∨ k = 4 ∨ k = 5 ∨ k = 6 ∨ k = 7 ∨ k = 8 by omega) with rfl | rfl | rfl | rfl | rfl | rfl | rfl | rfl | rfl <;> decide +kernel
theorem idxB_some {p : Nat → Bool} : ∀ {L : List Nat} {i : Nat}, idxB p L = i → i < L.length ∧ p (L.getD i 0) = true ∧ ∀ j, j < i → p (L.getD j 0) = false
  | [], i, h => by unfold idxB at h; omega
  | x :: r, i, h => by
    unfold idxB at h
    by_cases hx : p x = true
    · rw [if_pos hx] at h
      obtain rfl : i = 0 := by omega
      exact ⟨by simp, hx, fun j hj => absurd hj (by omega)⟩
    · rw [if_neg hx] at h
      split at h
      · omega
      · obtain ⟨m, rfl⟩ : ∃ m, i = m + 1 := ⟨i - 1, by omega⟩
        have ih := idxB_some (p := p) (L := r) (i := m) (by omega)
        refine ⟨by simp only [List.length_cons]; omega, by simpa using ih.2.1, fun j hj => ?_⟩
        rcases j with _ | j
        · simpa using hx
        · simpa using ih.2.2 j (by omega)
theorem idxB_no {p : Nat → Bool} : ∀ {L : List Nat}, idxB p L = -1 ↔ ∀ x, x ∈ L → p x = false
  | [] => by simp [idxB]
  | x :: r => by
    unfold idxB
    have ih := idxB_no (p := p) (L := r)
    by_cases hx : p x = true
    · rw [if_pos hx]
      simp [hx]
    · have hx' : p x = false := by simpa using hx
      rw [if_neg hx]
      constructor
      · intro h y hy
        rcases List.mem_cons.1 hy with rfl | hy
        · exact hx'
        · refine ih.1 ?_ y hy
          split at h
          · rename_i h2
            have := idxB_ge p r
            omega
          · omega
      · intro h
        have := ih.2 fun y hy => h y (List.mem_cons_of_mem _ hy)
        rw [this, if_pos (by decide)]
where
  idxB_ge (p : Nat → Bool) : ∀ L : List Nat, -1 ≤ idxB p L
  | [] => by unfold idxB; decide
  | x :: r => by
    have := idxB_ge p r
    unfold idxB
    split
    · decide
    · split <;> omega
theorem idxB_geq (p : Nat → Bool) (L : List Nat) : -1 ≤ idxB p L := idxB_no.idxB_ge p L
/-- What is first of all sets of so many calls is least. -/
theorem idx_least {p : Nat → Bool} {k i : Nat} (hk : k ≤ 8) (h : idxB p (setsL k) = i) {w : Nat} (hw : w = (setsL k).getD i 0) :
    w < 2 ^ k ∧ p w = true ∧ ∀ x, x < 2 ^ k → p x = true → x = w ∨ ahead w x := by
  subst hw
  have h1 := idxB_some h
  have hm : (setsL k).getD i 0 ∈ setsL k := by
    rw [List.getD_eq_getElem?_getD, List.getElem?_eq_getElem h1.1]
    exact List.getElem_mem h1.1
  refine ⟨?_, h1.2.1, fun x hx hp => ?_⟩
  · unfold setsL at hm
    obtain ⟨c, _, hx⟩ := List.mem_flatMap.1 hm
    exact List.mem_range.1 (List.mem_filter.1 hx).1
  · obtain ⟨j, hj, rfl⟩ := List.getElem_of_mem (mem_sets hk hx)
    have hjd : (setsL k)[j] = (setsL k).getD j 0 := by rw [List.getD_eq_getElem?_getD, List.getElem?_eq_getElem hj]; rfl
    have hlt := h1.1
    have hid : (setsL k)[i]'hlt = (setsL k).getD i 0 := by rw [List.getD_eq_getElem?_getD, List.getElem?_eq_getElem hlt]; rfl
    by_cases hji : j < i
    · have := h1.2.2 j hji
      rw [← hjd, hp] at this; cases this
    · by_cases hij : j = i
      · subst hij; exact .inl hjd
      · have := List.pairwise_iff_getElem.1 (sets_pw k hk) i j hlt hj (by omega)
        rw [hid] at this
        exact .inr this
theorem popc_zero : popc 0 = 0 := by decide +kernel
theorem popc_pos {x : Nat} (h : x < 256) (h0 : popc x = 0) : x = 0 := by
  rw [popc_bits h] at h0
  have key : ∀ n, bitsN x n = 0 → ∀ i, i < n → x.testBit i = false := by
    intro n
    induction n with
    | zero => intro _ i hi; omega
    | succ n ih =>
      intro hn i hi
      unfold bitsN at hn
      by_cases hin : i = n
      · subst hin
        cases hx : x.testBit i
        · rfl
        · rw [hx] at hn; simp only [Bool.toNat_true] at hn; omega
      · exact ih (by omega) i (by omega)
  apply Nat.eq_of_testBit_eq
  intro i
  rw [Nat.zero_testBit]
  by_cases hi : i < 8
  · exact key 8 h0 i hi
  · exact Nat.testBit_lt_two_pow (Nat.lt_of_lt_of_le h (Nat.pow_le_pow_right (n := 2) (by decide) (show 8 ≤ i by omega)))
theorem popc_mono {x y : Nat} (hx : x < 256) (hy : y < 256) (h : ∀ i, x.testBit i = true → y.testBit i = true) : popc x ≤ popc y := by
  rw [popc_bits hx, popc_bits hy]; exact bitsN_le fun i _ => h i
theorem popc_less {x y : Nat} (hx : x < 256) (hy : y < 256) (h : ∀ i, x.testBit i = true → y.testBit i = true) {j : Nat} (h1 : x.testBit j = false) (h2 : y.testBit j = true) : popc x < popc y := by
  rw [popc_bits hx, popc_bits hy]
  refine bitsN_lt (fun i _ => h i) (j := j) ?_ h1 h2
  apply Decidable.byContradiction
  intro hj
  rw [Nat.testBit_lt_two_pow (Nat.lt_of_lt_of_le hy (Nat.pow_le_pow_right (n := 2) (by decide) (show 8 ≤ j by omega)))] at h2
  cases h2
theorem every_bit (k i : Nat) : (2 ^ k - 1).testBit i = decide (i < k) := Nat.testBit_two_pow_sub_one k i
end Go.Proofs.Ytejbglbiefpagaa
