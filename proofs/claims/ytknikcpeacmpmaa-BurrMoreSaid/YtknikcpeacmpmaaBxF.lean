/- burr: which tests clash, without the program. -/
import Derived.Test.YtknikcpeacmpmaaBxE
import Derived.Test.YtknikcpeacmpmaaBwB
set_option linter.all false
namespace Go.Proofs.Ytknikcpeacmpmaa
open Go Go.RowKit Go.Sh Go.Pv
theorem popc_del_all : (List.range 64).all (fun x => (List.range 6).all fun i => !x.testBit i || (Nat.blt (popc (diffN x (2 ^ i))) (popc x))) = true := by decide +kernel
theorem popc_del {x i : Nat} (hx : x < 64) (h : x.testBit i = true) : popc (diffN x (2 ^ i)) < popc x := by
  have hi : i < 6 := Nat.lt_of_not_le fun hi => by rw [bit_out (n := 6) hx hi] at h; cases h
  have h1 := List.all_eq_true.1 popc_del_all x (List.mem_range.2 hx)
  have h2 := List.all_eq_true.1 h1 i (List.mem_range.2 hi)
  rw [h, Bool.not_true, Bool.false_or, Nat.blt_eq] at h2
  exact h2
section
variable {N L U T : Nat} {bales : List (Int × Int)} {tests : List (Int × Bool)}
end
end Go.Proofs.Ytknikcpeacmpmaa
