/- burr: the document's sets, without the program. -/
import Derived.Test.YtknikcpeacmpmaaBxF
set_option linter.all false
namespace Go.Proofs.Ytknikcpeacmpmaa
open Go Go.RowKit Go.Sh Go.Pv
/-- The set of the first numbers that are so. -/
def sF (p : Nat → Bool) : Nat → Nat
  | 0 => 0
  | i + 1 => sF p i + if p i = true then 2 ^ i else 0
theorem sF_lt (p : Nat → Bool) : ∀ i, sF p i < 2 ^ i
  | 0 => by simp [sF]
  | i + 1 => by
    have := sF_lt p i
    have hp : 2 ^ (i + 1) = 2 * 2 ^ i := by rw [Nat.pow_succ]; omega
    unfold sF
    split <;> omega
theorem sF_bit (p : Nat → Bool) (j : Nat) : ∀ i, (sF p i).testBit j = (decide (j < i) && p j)
  | 0 => by simp [sF]
  | i + 1 => by
    have ih := sF_bit p j i
    have hlt := sF_lt p i
    unfold sF
    by_cases hp : p i = true
    · rw [if_pos hp, show sF p i + 2 ^ i = 2 ^ i * 1 + sF p i by omega, Nat.two_pow_add_eq_or_of_lt hlt, Nat.mul_one, Nat.testBit_or, ih, Nat.testBit_two_pow]
      by_cases e : i = j
      · subst e; simp [hp]
      · have : decide (j < i + 1) = decide (j < i) := by
          by_cases h : j < i
          · rw [decide_eq_true h, decide_eq_true (by omega)]
          · rw [decide_eq_false h, decide_eq_false (by omega)]
        rw [this, decide_eq_false e, Bool.false_or]
    · rw [if_neg hp, Nat.add_zero, ih]
      by_cases e : i = j
      · subst e; simp [hp]
      · have : decide (j < i + 1) = decide (j < i) := by
          by_cases h : j < i
          · rw [decide_eq_true h, decide_eq_true (by omega)]
          · rw [decide_eq_false h, decide_eq_false (by omega)]
        rw [this]
def inAll (l : List Nat) (i : Nat) : Bool := decide (l.countP (fun x => x.testBit i) = l.length)
def inSome (l : List Nat) (i : Nat) : Bool := decide (0 < l.countP (fun x => x.testBit i))
theorem inAll_iff {l : List Nat} {i : Nat} : inAll l i = true ↔ ∀ x ∈ l, x.testBit i = true := by
  unfold inAll
  rw [decide_eq_true_iff, List.countP_eq_length]
theorem inSome_iff {l : List Nat} {i : Nat} : inSome l i = true ↔ ∃ x ∈ l, x.testBit i = true := by
  unfold inSome
  rw [decide_eq_true_iff, List.countP_pos_iff]
/-- What is in all, as it is reckoned in both ways. -/
theorem all_eq {l : List Nat} {a k : Nat} (hl : l ≠ []) (hk : ∀ x ∈ l, x < 2 ^ k) (h : ∀ j, a.testBit j = true ↔ ∀ x ∈ l, x.testBit j = true) : sF (inAll l) k = a := by
  apply Nat.eq_of_testBit_eq
  intro j
  rw [sF_bit, Bool.eq_iff_iff, Bool.and_eq_true, decide_eq_true_iff, inAll_iff, h]
  refine ⟨fun h => h.2, fun h => ⟨?_, h⟩⟩
  obtain ⟨x, hx⟩ := List.exists_mem_of_ne_nil l hl
  refine Nat.lt_of_not_le fun hj => ?_
  have := h x hx
  rw [bit_out (hk x hx) hj] at this
  cases this
theorem some_eq {l : List Nat} {a k : Nat} (hk : ∀ x ∈ l, x < 2 ^ k) (h : ∀ j, a.testBit j = true ↔ ∃ x ∈ l, x.testBit j = true) : sF (inSome l) k = a := by
  apply Nat.eq_of_testBit_eq
  intro j
  rw [sF_bit, Bool.eq_iff_iff, Bool.and_eq_true, decide_eq_true_iff, inSome_iff, h]
  refine ⟨fun h => h.2, fun h => ⟨?_, h⟩⟩
  obtain ⟨x, hx, hb⟩ := h
  refine Nat.lt_of_not_le fun hj => ?_
  rw [bit_out (hk x hx) hj] at hb
  cases hb
section
variable {N L U T : Nat} {bales : List (Int × Int)} {tests : List (Int × Bool)}
/-- The answers, by the truths. -/
theorem mobA_eq (hB : BOK N L U T bales tests) (hne : TR N L U bales tests ≠ []) : mobA N L U bales tests = (((sF (inAll ((TR N L U bales tests).map (·.1))) N : Nat) : Int), ((sF (inSome ((TR N L U bales tests).map (·.1))) N : Nat) : Int)) := by
  have hk : ∀ x ∈ (TR N L U bales tests).map (·.1), x < 2 ^ N := fun x hx => by
    obtain ⟨y, hy, rfl⟩ := List.mem_map.1 hx
    exact (mem_TR.1 hy).1
  have hm : mobL L U bales tests (2 ^ N) ≠ [] := fun h => hne (TR_nil.2 h)
  obtain ⟨a, ha⟩ := see_some hm
  have e1 := all_eq (l := (TR N L U bales tests).map (·.1)) (a := a) (by simpa using hne) hk (fun j => by rw [mobs_all ha]; simp [List.mem_map])
  have e2 := some_eq (l := (TR N L U bales tests).map (·.1)) (a := (seeL (mobL L U bales tests (2 ^ N))).1) hk (fun j => by rw [mobs_some]; simp [List.mem_map])
  rw [e1, e2]
  unfold mobA
  simp only [Int.toNat_natCast]
  rw [ha]
  rfl
theorem balA_eq (hB : BOK N L U T bales tests) (hne : TR N L U bales tests ≠ []) : balA N L U bales tests = (((sF (inAll ((TR N L U bales tests).map (·.2))) bales.length : Nat) : Int), ((sF (inSome ((TR N L U bales tests).map (·.2))) bales.length : Nat) : Int)) := by
  have hk : ∀ x ∈ (TR N L U bales tests).map (·.2), x < 2 ^ bales.length := fun x hx => by
    obtain ⟨y, hy, rfl⟩ := List.mem_map.1 hx
    exact (mem_TR.1 hy).2.1
  have hm : balL L U bales tests (2 ^ N) ≠ [] := fun h => hne (balL_nil.1 h)
  obtain ⟨a, ha⟩ := see_some hm
  have e1 := all_eq (l := (TR N L U bales tests).map (·.2)) (a := a) (by simpa using hne) hk (fun j => by rw [bales_all ha]; exact ⟨fun h y hy => by obtain ⟨x, hx, rfl⟩ := List.mem_map.1 hy; exact h x hx, fun h x hx => h _ (List.mem_map.2 ⟨x, hx, rfl⟩)⟩)
  have e2 := some_eq (l := (TR N L U bales tests).map (·.2)) (a := (seeL (balL L U bales tests (2 ^ N))).1) hk (fun j => by rw [bales_some]; exact ⟨fun ⟨x, hx, hb⟩ => ⟨_, List.mem_map.2 ⟨x, hx, rfl⟩, hb⟩, fun ⟨y, hy, hb⟩ => by obtain ⟨x, hx, rfl⟩ := List.mem_map.1 hy; exact ⟨x, hx, hb⟩⟩)
  rw [e1, e2]
  unfold balA
  simp only [Int.toNat_natCast]
  rw [ha]
  rfl
/-- How many truths leave the top line clean. -/
def tidyN (L U T N : Nat) (bales : List (Int × Int)) (tests : List (Int × Bool)) : Nat := (TR N L U bales tests).countP fun x => decide (x.2 &&& T = 0)
theorem cleanA_eq (hB : BOK N L U T bales tests) : cleanA N L U T bales tests = if tidyN L U T N bales tests = (TR N L U bales tests).length then 2 else if tidyN L U T N bales tests = 0 then 0 else 1 := by
  have hmem : ∀ y, y ∈ topL L U T bales tests N ↔ ∃ x ∈ TR N L U bales tests, x.2 &&& T = y := fun y => by
    unfold topL
    rw [List.mem_map]
    constructor
    · rintro ⟨h, hh, rfl⟩
      obtain ⟨m, hm⟩ := (mem_walkL hB.b6 hB.te6).1 hh
      exact ⟨_, hm, rfl⟩
    · rintro ⟨⟨m, h⟩, hx, rfl⟩
      exact ⟨h, (mem_walkL hB.b6 hB.te6).2 ⟨m, hx⟩, rfl⟩
  have hd : ((topL L U T bales tests N).any fun x => decide (x ≠ 0)) = false ↔ tidyN L U T N bales tests = (TR N L U bales tests).length := by
    unfold tidyN
    rw [List.countP_eq_length, ← Bool.not_eq_true, List.any_eq_true]
    constructor
    · intro h x hx
      refine decide_eq_true (Classical.byContradiction fun hn => h ⟨_, (hmem _).2 ⟨x, hx, rfl⟩, decide_eq_true hn⟩)
    · rintro h ⟨y, hy, hn⟩
      obtain ⟨x, hx, rfl⟩ := (hmem y).1 hy
      have := h x hx
      rw [decide_eq_true_iff] at this hn
      exact hn this
  have hc : ((topL L U T bales tests N).any fun x => decide ((0 : Int) = (x : Int))) = true ↔ tidyN L U T N bales tests ≠ 0 := by
    unfold tidyN
    rw [← Nat.pos_iff_ne_zero, List.countP_pos_iff, List.any_eq_true]
    constructor
    · rintro ⟨y, hy, hn⟩
      obtain ⟨x, hx, rfl⟩ := (hmem y).1 hy
      rw [decide_eq_true_iff] at hn
      exact ⟨x, hx, decide_eq_true (by omega)⟩
    · rintro ⟨x, hx, hn⟩
      rw [decide_eq_true_iff] at hn
      exact ⟨_, (hmem _).2 ⟨x, hx, rfl⟩, decide_eq_true (by omega)⟩
  unfold cleanA
  simp only [Int.toNat_natCast]
  unfold cleanL
  by_cases h1 : tidyN L U T N bales tests = (TR N L U bales tests).length
  · rw [if_pos (hd.2 h1), if_pos h1]
  · rw [if_neg (fun h => h1 (hd.1 h)), if_neg h1]
    by_cases h2 : tidyN L U T N bales tests = 0
    · rw [if_neg (fun h => (hc.1 h) h2), if_pos h2]
    · rw [if_pos (hc.2 h2), if_neg h2]
theorem and_sub_all : (List.range 64).all (fun a => (List.range 64).all fun b => Nat.beq (a - (a &&& b)) (diffN a b)) = true := by decide +kernel
theorem and_sub {a b : Nat} (ha : a < 64) (hb : b < 64) : a - (a &&& b) = diffN a b :=
  Nat.eq_of_beq_eq_true (List.all_eq_true.1 (List.all_eq_true.1 and_sub_all a (List.mem_range.2 ha)) b (List.mem_range.2 hb))
end
end Go.Proofs.Ytknikcpeacmpmaa
