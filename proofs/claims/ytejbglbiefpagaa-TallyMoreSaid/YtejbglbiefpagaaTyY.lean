/- THE LAW TallyMore, whole. -/
import Derived.Test.YtejbglbiefpagaaTyX
set_option linter.all false
namespace Go.Proofs.Ytejbglbiefpagaa
open Go Go.RowKit Go.Sh Go.Pv
theorem main_more (n most : Int) (strays : List (Int × Int)) (calls : List (Int × Int × Int × Int)) (c : Int × Int × Int × Int) (w : Int) (hw : 0 ≤ w ∧ w ≤ 255) : FunOK Try.prog 11 [tyR n most strays calls, .agg (row4 c), .one (.v (.int .u8 w))] (.one (.one (.v (.bool true)))) := by
  cases hl : longB strays calls
  · cases hv : validB n most strays calls
    · exact main_more_arg c w (.inr hv)
    · obtain ⟨hn, hT⟩ := tok_of hv
      obtain ⟨k, rfl⟩ : ∃ k : Nat, w = k := ⟨w.toNat, by omega⟩
      rw [hn]
      exact main_more_ok c k (by omega) hT
  · exact main_more_arg c w (.inl hl)
end Go.Proofs.Ytejbglbiefpagaa
