/- THE LAW TallyFalse, whole. -/
import Derived.Test.YtejbglbiefpagaaTyH
set_option linter.all false
namespace Go.Proofs.Ytejbglbiefpagaa
open Go Go.RowKit Go.Sh Go.Pv
theorem main_false (n most : Int) (strays : List (Int × Int)) (calls : List (Int × Int × Int × Int)) (b : Int) (hb : 0 ≤ b ∧ b ≤ 255) : FunOK Try.prog 9 [tyR n most strays calls, .one (.v (.int .u8 b))] (.one (.one (.v (.bool true)))) := by
  cases hl : longB strays calls
  · cases hv : validB n most strays calls
    · exact main_false_arg b (.inr hv)
    · obtain ⟨hn, hT⟩ := tok_of hv
      obtain ⟨k, rfl⟩ : ∃ k : Nat, b = k := ⟨b.toNat, by omega⟩
      rw [hn]
      by_cases hf : Feas n.toNat most strays calls 0
      · exact main_false_ok k (by omega) hT hf
      · exact main_false_x k (by omega) hT hf
  · exact main_false_arg b (.inl hl)
end Go.Proofs.Ytejbglbiefpagaa
