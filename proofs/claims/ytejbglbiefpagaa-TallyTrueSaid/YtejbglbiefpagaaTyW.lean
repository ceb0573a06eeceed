/- THE LAW TallyTrue, whole. -/
import Derived.Test.YtejbglbiefpagaaTyV
import Derived.Test.YtejbglbiefpagaaTyR
set_option linter.all false
namespace Go.Proofs.Ytejbglbiefpagaa
open Go Go.RowKit Go.Sh Go.Pv
theorem main_true (n most : Int) (strays : List (Int × Int)) (calls : List (Int × Int × Int × Int)) (by_ : List Int) (hby : ∀ x ∈ by_, 0 ≤ x ∧ x ≤ 65535) (w a : Int) (hw : 0 ≤ w ∧ w ≤ 255) (ha : 0 ≤ a ∧ a ≤ 255) : FunOK Try.prog 6 [tyR n most strays calls, .one (.sl (by_.map rowK16)), .one (.v (.int .u8 w)), .one (.v (.int .u8 a))] (.one (.one (.v (.bool true)))) := by
  cases hl : longB strays calls
  · cases hv : validB n most strays calls
    · exact main_true_arg by_ w a (.inr hv)
    · obtain ⟨hn, hT⟩ := tok_of hv
      obtain ⟨k, rfl⟩ : ∃ k : Nat, w = k := ⟨w.toNat, by omega⟩
      obtain ⟨m, rfl⟩ : ∃ k : Nat, a = k := ⟨a.toNat, by omega⟩
      rw [hn]
      exact main_true_ok hby k m (by omega) (by omega) hT
  · exact main_true_arg by_ w a (.inl hl)
end Go.Proofs.Ytejbglbiefpagaa
