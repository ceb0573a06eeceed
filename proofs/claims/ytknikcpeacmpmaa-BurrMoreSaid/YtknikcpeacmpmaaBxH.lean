/- burr: the least set that is so, found in both ways; the best bale, in both ways. -/
import Derived.Test.YtknikcpeacmpmaaBxG
set_option linter.all false
namespace Go.Proofs.Ytknikcpeacmpmaa
open Go Go.RowKit Go.Sh Go.Pv
/-- The best of the first sets, as the document looks for it. -/
def minF (p : Nat → Bool) (k : Nat) : Nat → Nat
  | 0 => 2 ^ k - 1
  | s + 1 => if popc s < popc (minF p k s) ∧ p s = true then s else minF p k s
section
variable {N L U T : Nat} {bales : List (Int × Int)} {tests : List (Int × Bool)}
theorem tells_TR (hB : BOK N L U T bales tests) (S : Nat) : decide (Tells S T ((TR N L U bales tests).map (·.2))) = tellsP N L U T bales tests S := by
  have hm : ∀ h, h ∈ (TR N L U bales tests).map (·.2) ↔ h ∈ walkL L U bales tests (2 ^ N) := fun h => by
    rw [mem_walkL hB.b6 hB.te6, List.mem_map]
    constructor
    · rintro ⟨⟨m, x⟩, hx, rfl⟩; exact ⟨m, hx⟩
    · rintro ⟨m, hx⟩; exact ⟨_, hx, rfl⟩
  unfold tellsP
  congr 1
  apply propext
  unfold Tells
  constructor
  · intro h a ha b hb; exact h a ((hm a).2 ha) b ((hm b).2 hb)
  · intro h a ha b hb; exact h a ((hm a).1 ha) b ((hm b).1 hb)
/-- The best of the first bales, as the document looks for it. -/
def refN (l : List (Nat × Nat)) : Nat → Nat × Nat
  | 0 => (0, l.length + 1)
  | i + 1 => if max (l.countP fun x => x.2.testBit i) (l.length - l.countP fun x => x.2.testBit i) < (refN l i).2 then (i, max (l.countP fun x => x.2.testBit i) (l.length - l.countP fun x => x.2.testBit i)) else refN l i
end
end Go.Proofs.Ytknikcpeacmpmaa
