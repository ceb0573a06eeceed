/- burr: the document's sets, without the program. -/
import Derived.Test.YtknikcpeacmpmaaBxF
set_option linter.all false
namespace Go.Proofs.Ytknikcpeacmpmaa
open Go Go.RowKit Go.Sh Go.Pv
/-- The set of the first numbers that are so. -/
def sF (p : Nat → Bool) : Nat → Nat
  | 0 => 0
  | i + 1 => sF p i + if p i = true then 2 ^ i else 0
theorem sF_lt (p : Nat → Bool) : ∀ i, sF p i < 2 ^ i
  | 0 => by simp [sF]
  | i + 1 => by
    have := sF_lt p i
    have hp : 2 ^ (i + 1) = 2 * 2 ^ i := by rw [Nat.pow_succ]; omega
    unfold sF
    split <;> omega
def inAll (l : List Nat) (i : Nat) : Bool := decide (l.countP (fun x => x.testBit i) = l.length)
def inSome (l : List Nat) (i : Nat) : Bool := decide (0 < l.countP (fun x => x.testBit i))
theorem inAll_iff {l : List Nat} {i : Nat} : inAll l i = true ↔ ∀ x ∈ l, x.testBit i = true := by
  unfold inAll
  rw [decide_eq_true_iff, List.countP_eq_length]
theorem inSome_iff {l : List Nat} {i : Nat} : inSome l i = true ↔ ∃ x ∈ l, x.testBit i = true := by
  unfold inSome
  rw [decide_eq_true_iff, List.countP_pos_iff]
section
variable {N L U T : Nat} {bales : List (Int × Int)} {tests : List (Int × Bool)}
/-- How many truths leave the top line clean. -/
def tidyN (L U T N : Nat) (bales : List (Int × Int)) (tests : List (Int × Bool)) : Nat := (TR N L U bales tests).countP fun x => decide (x.2 &&& T = 0)
theorem and_sub_all : (List.range 64).all (fun a => (List.range 64).all fun b => Nat.beq (a - (a &&& b)) (diffN a b)) = true := by decide +kernel
theorem and_sub {a b : Nat} (ha : a < 64) (hb : b < 64) : a - (a &&& b) = diffN a b :=
  Nat.eq_of_beq_eq_true (List.all_eq_true.1 (List.all_eq_true.1 and_sub_all a (List.mem_range.2 ha)) b (List.mem_range.2 hb))
end
end Go.Proofs.Ytknikcpeacmpmaa
