/- THE LAW TallyClash, whole. -/
import Derived.Test.YtejbglbiefpagaaTyI
set_option linter.all false
namespace Go.Proofs.Ytejbglbiefpagaa
open Go Go.RowKit Go.Sh Go.Pv
theorem main_clash (n most : Int) (strays : List (Int × Int)) (calls : List (Int × Int × Int × Int)) (b : Int) (hb : 0 ≤ b ∧ b ≤ 255) : FunOK Try.prog 10 [tyR n most strays calls, .one (.v (.int .u8 b))] (.one (.one (.v (.bool true)))) := by
  cases hl : longB strays calls
  · cases hv : validB n most strays calls
    · exact main_clash_arg b (.inr hv)
    · obtain ⟨hn, hT⟩ := tok_of hv
      obtain ⟨k, rfl⟩ : ∃ k : Nat, b = k := ⟨b.toNat, by omega⟩
      rw [hn]
      by_cases hf : Whole n.toNat most strays calls
      · exact main_clash_none k (by omega) hT hf
      · exact main_clash_ok k (by omega) hT hf
  · exact main_clash_arg b (.inl hl)
end Go.Proofs.Ytejbglbiefpagaa
