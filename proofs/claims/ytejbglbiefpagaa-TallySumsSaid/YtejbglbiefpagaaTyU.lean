/- THE LAW TallySums, whole. -/
import Derived.Test.YtejbglbiefpagaaTyP
set_option linter.all false
namespace Go.Proofs.Ytejbglbiefpagaa
open Go Go.RowKit Go.Sh Go.Pv
theorem main_sums (n most : Int) (strays : List (Int × Int)) (calls : List (Int × Int × Int × Int)) (w a : Int) (hw : 0 ≤ w ∧ w ≤ 255) (ha : 0 ≤ a ∧ a ≤ 255) : FunOK Try.prog 8 [tyR n most strays calls, .one (.v (.int .u8 w)), .one (.v (.int .u8 a))] (.one (.one (.v (.bool true)))) := by
  cases hl : longB strays calls
  · cases hv : validB n most strays calls
    · exact main_sums_arg w a (.inr hv)
    · obtain ⟨hn, hT⟩ := tok_of hv
      obtain ⟨k, rfl⟩ : ∃ k : Nat, w = k := ⟨w.toNat, by omega⟩
      obtain ⟨m, rfl⟩ : ∃ k : Nat, a = k := ⟨a.toNat, by omega⟩
      rw [hn]
      by_cases hf : Whole n.toNat most strays calls
      · exact main_sums_ok k m (by omega) (by omega) hT hf
      · exact main_sums_x k m (by omega) (by omega) hT hf
  · exact main_sums_arg w a (.inl hl)
end Go.Proofs.Ytejbglbiefpagaa
