/- burr, plain: the bales that are opened tell, others do no sooner. -/
import Derived.Test.YtknikcpeacmpmaaBxH
import Derived.Test.YtknikcpeacmpmaaBxI
set_option linter.all false
namespace Go.Proofs.Ytknikcpeacmpmaa
open Go Go.RowKit Go.Sh Go.Pv
section
variable {N L U T : Nat} {bales : List (Int × Int)} {tests : List (Int × Bool)}
/-- Does a set tell, by all truths? -/
def tlB (N L U T : Nat) (bales : List (Int × Int)) (tests : List (Int × Bool)) (S : Nat) : Bool := decide (Tells S T ((TR N L U bales tests).map (·.2)))
theorem open_first (hB : BOK N L U T bales tests) : openS N L U T bales tests < 2 ^ bales.length ∧ tlB N L U T bales tests (openS N L U T bales tests) = true ∧
    (∀ y, y < 2 ^ bales.length → tlB N L U T bales tests y = true → popc (openS N L U T bales tests) < popc y ∨ (popc (openS N L U T bales tests) = popc y ∧ openS N L U T bales tests ≤ y)) := by
  have hf := tells_full (N := N) (L := L) (U := U) (T := T) (bales := bales) (tests := tests) hB.b6 hB.te6
  have hp := Nat.two_pow_pos bales.length
  have h := first_least (p := tellsP N L U T bales tests) hB.b6 ((any_sets hB.b6).2 ⟨2 ^ bales.length - 1, by omega, hf⟩)
  unfold tlB
  refine ⟨h.1, by rw [tells_TR hB]; exact h.2.1, fun y hy ht => h.2.2 y hy (by rw [tells_TR hB] at ht; exact ht)⟩
theorem open_less (hB : BOK N L U T bales tests) (i : Nat) (hi : (openS N L U T bales tests).testBit i = true) : tlB N L U T bales tests (diffN (openS N L U T bales tests) (2 ^ i)) = false := by
  obtain ⟨h1, h2, h3⟩ := open_first hB
  have h6 := pow64 hB.b6
  have hle := diffN_le (openS N L U T bales tests) (2 ^ i)
  have hd := popc_del (x := openS N L U T bales tests) (by omega) hi
  cases h : tlB N L U T bales tests (diffN (openS N L U T bales tests) (2 ^ i)) with
  | false => rfl
  | true =>
    have := h3 _ (by omega) h
    omega
theorem and_same {a c T : Nat} (h : ∀ j, T.testBit j = true → (a.testBit j = true ↔ c.testBit j = true)) : a &&& T = c &&& T := by
  apply Nat.eq_of_testBit_eq
  intro j
  rw [Nat.testBit_and, Nat.testBit_and]
  cases hT : T.testBit j with
  | false => simp
  | true => rw [Bool.and_true, Bool.and_true]; exact Bool.eq_iff_iff.2 (h j hT)
theorem same_and {a c T j : Nat} (h : a &&& T = c &&& T) (hT : T.testBit j = true) : a.testBit j = true ↔ c.testBit j = true := by
  have := congrArg (fun x => x.testBit j) h
  simp only [Nat.testBit_and, hT, Bool.and_true] at this
  rw [this]
/-- Just if all of the top line is known none are opened. -/
theorem open_none (hB : BOK N L U T bales tests) (hne : TR N L U bales tests ≠ []) {a : Nat} (ha : (seeL ((TR N L U bales tests).map (·.2))).2 = some a) : openS N L U T bales tests = 0 ↔ a &&& T = (seeL ((TR N L U bales tests).map (·.2))).1 &&& T := by
  obtain ⟨h1, h2, h3⟩ := open_first hB
  have h6 := pow64 hB.b6
  have hp := Nat.two_pow_pos bales.length
  constructor
  · intro h0
    rw [h0] at h2
    have ht : Tells 0 T ((TR N L U bales tests).map (·.2)) := of_decide_eq_true h2
    refine and_same fun j hj => ?_
    rw [see_bit2 ha, see_bit1]
    constructor
    · intro h
      obtain ⟨x, hx⟩ := List.exists_mem_of_ne_nil _ (show (TR N L U bales tests).map (·.2) ≠ [] by simpa using hne)
      exact ⟨x, hx, h x hx⟩
    · rintro ⟨x, hx, hxj⟩ y hy
      exact (same_and (ht x hx y hy (by rw [Nat.and_zero, Nat.and_zero])) hj).1 hxj
  · intro h
    have ht : Tells 0 T ((TR N L U bales tests).map (·.2)) := by
      intro x hx y hy _
      refine and_same fun j hj => ?_
      have e := same_and h hj
      rw [see_bit2 ha, see_bit1] at e
      exact ⟨fun hx1 => e.2 ⟨x, hx, hx1⟩ y hy, fun hy1 => e.2 ⟨y, hy, hy1⟩ x hx⟩
    have := h3 0 hp (decide_eq_true ht)
    have e0 : popc 0 = 0 := by decide +kernel
    rw [e0] at this
    omega
end
end Go.Proofs.Ytknikcpeacmpmaa
