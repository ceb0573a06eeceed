/- burr: the document's sets, without the program. -/
import Derived.Test.YtknikcpeacmpmaaBxF
set_option linter.all false
namespace Go.Proofs.Ytknikcpeacmpmaa
open Go Go.RowKit Go.Sh Go.Pv
/-- The set of the first numbers that are so. -/
def sF (p : Nat → Bool) : Nat → Nat
  | 0 => 0
  | i + 1 => sF p i + if p i = true then 2 ^ i else 0
theorem sF_lt (p : Nat → Bool) : ∀ i, sF p i < 2 ^ i
  | 0 => by simp [sF]
  | i + 1 => by
    have := sF_lt p i
    have hp : 2 ^ (i + 1) = 2 * 2 ^ i := by rw [Nat.pow_succ]; omega
    unfold sF
    split <;> omega
theorem sF_bit (p : Nat → Bool) (j : Nat) : ∀ i, (sF p i).testBit j = (decide (j < i) && p j)
  | 0 => by simp [sF]
  | i + 1 => by
    have ih := sF_bit p j i
    have hlt := sF_lt p i
    unfold sF
    by_cases hp : p i = true
    · rw [if_pos hp, show sF p i + 2 ^ i = 2 ^ i * 1 + sF p i by omega, Nat.two_pow_add_eq_or_of_lt hlt, Nat.mul_one, Nat.testBit_or, ih, Nat.testBit_two_pow]
      by_cases e : i = j
      · subst e; simp [hp]
      · have : decide (j < i + 1) = decide (j < i) := by
          by_cases h : j < i
          · rw [decide_eq_true h, decide_eq_true (by omega)]
          · rw [decide_eq_false h, decide_eq_false (by omega)]
        rw [this, decide_eq_false e, Bool.false_or]
    · rw [if_neg hp, Nat.add_zero, ih]
      by_cases e : i = j
      · subst e; simp [hp]
      · have : decide (j < i + 1) = decide (j < i) := by
          by_cases h : j < i
          · rw [decide_eq_true h, decide_eq_true (by omega)]
          · rw [decide_eq_false h, decide_eq_false (by omega)]
        rw [this]
def inAll (l : List Nat) (i : Nat) : Bool := decide (l.countP (fun x => x.testBit i) = l.length)
def inSome (l : List Nat) (i : Nat) : Bool := decide (0 < l.countP (fun x => x.testBit i))
section
variable {N L U T : Nat} {bales : List (Int × Int)} {tests : List (Int × Bool)}
/-- How many truths leave the top line clean. -/
def tidyN (L U T N : Nat) (bales : List (Int × Int)) (tests : List (Int × Bool)) : Nat := (TR N L U bales tests).countP fun x => decide (x.2 &&& T = 0)
end
end Go.Proofs.Ytknikcpeacmpmaa
