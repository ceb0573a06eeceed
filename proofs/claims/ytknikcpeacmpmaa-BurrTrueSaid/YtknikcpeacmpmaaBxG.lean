/- burr: the document's sets, without the program. -/
import Derived.Test.YtknikcpeacmpmaaBxF
set_option linter.all false
namespace Go.Proofs.Ytknikcpeacmpmaa
open Go Go.RowKit Go.Sh Go.Pv
/-- The set of the first numbers that are so. -/
def sF (p : Nat → Bool) : Nat → Nat
  | 0 => 0
  | i + 1 => sF p i + if p i = true then 2 ^ i else 0
theorem sF_lt (p : Nat → Bool) : ∀ i, sF p i < 2 ^ i
  | 0 => by simp [sF]
  | i + 1 => by
    have := sF_lt p i
    have hp : 2 ^ (i + 1) = 2 * 2 ^ i := by rw [Nat.pow_succ]; omega
    unfold sF
    split <;> omega
theorem sF_bit (p : Nat → Bool) (j : Nat) : ∀ i, (sF p i).testBit j = (decide (j < i) && p j)
  | 0 => by simp [sF]
  | i + 1 => by
    have ih := sF_bit p j i
    have hlt := sF_lt p i
    unfold sF
    by_cases hp : p i = true
    · rw [if_pos hp, show sF p i + 2 ^ i = 2 ^ i * 1 + sF p i by omega, Nat.two_pow_add_eq_or_of_lt hlt, Nat.mul_one, Nat.testBit_or, ih, Nat.testBit_two_pow]
      by_cases e : i = j
      · subst e; simp [hp]
      · have : decide (j < i + 1) = decide (j < i) := by
          by_cases h : j < i
          · rw [decide_eq_true h, decide_eq_true (by omega)]
          · rw [decide_eq_false h, decide_eq_false (by omega)]
        rw [this, decide_eq_false e, Bool.false_or]
    · rw [if_neg hp, Nat.add_zero, ih]
      by_cases e : i = j
      · subst e; simp [hp]
      · have : decide (j < i + 1) = decide (j < i) := by
          by_cases h : j < i
          · rw [decide_eq_true h, decide_eq_true (by omega)]
          · rw [decide_eq_false h, decide_eq_false (by omega)]
        rw [this]
def inAll (l : List Nat) (i : Nat) : Bool := decide (l.countP (fun x => x.testBit i) = l.length)
def inSome (l : List Nat) (i : Nat) : Bool := decide (0 < l.countP (fun x => x.testBit i))
section
variable {N L U T : Nat} {bales : List (Int × Int)} {tests : List (Int × Bool)}
/-- How many truths leave the top line clean. -/
def tidyN (L U T N : Nat) (bales : List (Int × Int)) (tests : List (Int × Bool)) : Nat := (TR N L U bales tests).countP fun x => decide (x.2 &&& T = 0)
theorem cleanA_eq (hB : BOK N L U T bales tests) : cleanA N L U T bales tests = if tidyN L U T N bales tests = (TR N L U bales tests).length then 2 else if tidyN L U T N bales tests = 0 then 0 else 1 := by
  have hmem : ∀ y, y ∈ topL L U T bales tests N ↔ ∃ x ∈ TR N L U bales tests, x.2 &&& T = y := fun y => by
    unfold topL
    rw [List.mem_map]
    constructor
    · rintro ⟨h, hh, rfl⟩
      obtain ⟨m, hm⟩ := (mem_walkL hB.b6 hB.te6).1 hh
      exact ⟨_, hm, rfl⟩
    · rintro ⟨⟨m, h⟩, hx, rfl⟩
      exact ⟨h, (mem_walkL hB.b6 hB.te6).2 ⟨m, hx⟩, rfl⟩
  have hd : ((topL L U T bales tests N).any fun x => decide (x ≠ 0)) = false ↔ tidyN L U T N bales tests = (TR N L U bales tests).length := by
    unfold tidyN
    rw [List.countP_eq_length, ← Bool.not_eq_true, List.any_eq_true]
    constructor
    · intro h x hx
      refine decide_eq_true (Classical.byContradiction fun hn => h ⟨_, (hmem _).2 ⟨x, hx, rfl⟩, decide_eq_true hn⟩)
    · rintro h ⟨y, hy, hn⟩
      obtain ⟨x, hx, rfl⟩ := (hmem y).1 hy
      have := h x hx
      rw [decide_eq_true_iff] at this hn
      exact hn this
  have hc : ((topL L U T bales tests N).any fun x => decide ((0 : Int) = (x : Int))) = true ↔ tidyN L U T N bales tests ≠ 0 := by
    unfold tidyN
    rw [← Nat.pos_iff_ne_zero, List.countP_pos_iff, List.any_eq_true]
    constructor
    · rintro ⟨y, hy, hn⟩
      obtain ⟨x, hx, rfl⟩ := (hmem y).1 hy
      rw [decide_eq_true_iff] at hn
      exact ⟨x, hx, decide_eq_true (by omega)⟩
    · rintro ⟨x, hx, hn⟩
      rw [decide_eq_true_iff] at hn
      exact ⟨_, (hmem _).2 ⟨x, hx, rfl⟩, decide_eq_true (by omega)⟩
  unfold cleanA
  simp only [Int.toNat_natCast]
  unfold cleanL
  by_cases h1 : tidyN L U T N bales tests = (TR N L U bales tests).length
  · rw [if_pos (hd.2 h1), if_pos h1]
  · rw [if_neg (fun h => h1 (hd.1 h)), if_neg h1]
    by_cases h2 : tidyN L U T N bales tests = 0
    · rw [if_neg (fun h => (hc.1 h) h2), if_pos h2]
    · rw [if_pos (hc.2 h2), if_neg h2]
end
end Go.Proofs.Ytknikcpeacmpmaa
