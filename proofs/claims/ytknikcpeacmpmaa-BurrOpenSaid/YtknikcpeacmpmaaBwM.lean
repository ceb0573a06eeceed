/- burr: all truths of the document, walked. -/
import Derived.Test.YtknikcpeacmpmaaBwL
set_option linter.all false
namespace Go.Proofs.Ytknikcpeacmpmaa
open Go Go.RowKit Go.Sh Go.Pv
set_option maxHeartbeats 8000000
set_option maxRecDepth 8000
set_option pp.maxSteps 60000
/-- The first truths. -/
def TRp (L U : Nat) (bales : List (Int × Int)) (us : List (Int × Bool)) (m h : Nat) : List (Nat × Nat) := ((List.range m).flatMap (TRm L U bales us)) ++ ((List.range h).filter (rtB L U bales us m)).map fun h => (m, h)
section
variable {N L U T : Nat} {bales : List (Int × Int)} {tests us : List (Int × Bool)}
theorem TRp_h (m h : Nat) : TRp L U bales us m (h + 1) = TRp L U bales us m h ++ if rtB L U bales us m h = true then [(m, h)] else [] := by
  unfold TRp
  rw [List.range_succ, List.filter_append, List.map_append, List.append_assoc]
  congr 2
  cases hr : rtB L U bales us m h <;> simp [hr]
theorem TRp_m (m : Nat) : TRp L U bales us (m + 1) 0 = TRp L U bales us m (2 ^ bales.length) := by
  unfold TRp
  rw [List.range_succ, List.flatMap_append]
  simp [TRm]
theorem TRp_end : TRp L U bales us (2 ^ N) 0 = TR N L U bales us := by unfold TRp TR; simp
end
end Go.Proofs.Ytknikcpeacmpmaa
