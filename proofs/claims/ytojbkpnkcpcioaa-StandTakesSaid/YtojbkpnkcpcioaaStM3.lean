/- The plain model of a stand: what is right of a shearer. -/
import Derived.Test.YtojbkpnkcpcioaaStM2
set_option linter.all false
namespace Go.Sh.Stand
def lookOk (s : Stand) (t : Shearer) (set : Nat) (i : Nat) : Bool :=
  !(set.testBit i) || (decide ((s.looks.getD i (0, 0, 0)).2.1 ≤ countAt (day s t) (s.looks.getD i (0, 0, 0)).1) && decide (countAt (day s t) (s.looks.getD i (0, 0, 0)).1 ≤ (s.looks.getD i (0, 0, 0)).2.2))
def rightB (s : Stand) (t : Shearer) (set : Nat) : Bool := (List.range s.looks.length).all (lookOk s t set)
theorem all_range_succ (f : Nat → Bool) (k : Nat) : (List.range (k + 1)).all f = ((List.range k).all f && f k) := by
  rw [List.range_succ, List.all_append]; simp
theorem all_range_false (f : Nat → Bool) {k n : Nat} (h : k < n) (hf : f k = false) : (List.range n).all f = false := by
  rw [List.all_eq_false]; exact ⟨k, by simpa using h, by simp [hf]⟩
end Go.Sh.Stand
