/- THE STATEMENT BurrNames. -/
import Derived.Test.YtknikcpeacmpmaaBwD
import Derived.Test.YtknikcpeacmpmaaBwR
import Derived.Test.YtknikcpeacmpmaaRows
set_option linter.all false
namespace Go.Proofs.Ytknikcpeacmpmaa.BurrNames
open Go Go.RowKit Go.Sh Go.Pv Go.ChangeShapes Go.WideShapes Go.ChangeAt
set_option linter.unusedVariables false
set_option linter.constructorNameAsVariable false
theorem und4 : Try.prog.underlying 4 = some .bool := by kernel_rfl
theorem paramsF : Try.f5.params = #[] := rfl
set_option maxRecDepth 100000 in
theorem lifted (os : Os) (started : os.Started) (H : Type) (enc : TypeId × Value → H) :
    ReturnsInHanded {} Try.checked os 5 .any (Rows.burrNamesSpec.pre6 enc Try.prog Try.f5 Rows.burrNamesRow.domain false) (Rows.burrNamesSpec.post enc Try.prog Try.f5 false true false false) := by
  refine returnsInHanded_of_change (C := Try.checked) own started (by kernel_rfl) Try.func5
    (ChangeSpec.witness6 (enc := enc) (C := Try.checked) false ⟨#[], #[], []⟩ 8 (by kernel_rfl) (by kernel_rfl) (by kernel_rfl) (by kernel_rfl)) ?_
  intro W base args ds gs before hval0 hW hcnd _
  have hval : ∀ (j : Nat) t v, Try.f5.params[j]? = some t → args[j]? = some v → Value.okWide Try.prog W .any base t v := hval0
  have hW' := hW
  obtain ⟨p, q, hA0, hV, rfl, hfz, hnd⟩ := hW
  have hA : DataW.TrodAll enc Try.prog W 0 (fun _ => true) true Try.f5.params.toList args.toList ds p := hA0
  rw [paramsF] at hA hval
  obtain ⟨hargs, rfl, rfl⟩ := trodAll_nil hA
  obtain rfl : args = #[] := by cases args; simp_all
  obtain ⟨rfl, rfl⟩ := trodVars_none hV
  have hrel : RelRs (fun _ _ => True) W [] #[] := by
    refine ⟨rfl, fun j r hj => ?_⟩
    · simp at hj
  refine (main_names _ W _ hrel).mono fun e W' ⟨u, he, hu2, hb⟩ => ?_
  subst he
  have hu3 : u = .bool true := by
    cases hu2; rfl
  subst hu3
  exact ⟨_, rfl, post_law laidOut (by rw [paramsF]; intro t ht; simp at ht) rfl rfl und4 rfl hW' hb⟩
theorem over : Rows.burrNamesRow.holds Try.pinned (OpenSpec.ofChange Rows.burrNamesSpec) :=
  OpenClaim.holds_of_wide 5 Try.f5 rfl rfl rfl rfl rfl rfl rfl ⟨rfl, rfl, rfl, rfl, rfl⟩ rfl rfl rfl rfl rfl (by kernel_rfl) Try.func5 (by kernel_rfl)
    (of_decide_eq_true (by kernel_rfl)) (by unfold Func.isWrapper; first | (rw [if_pos (by decide +kernel)]; kernel_rfl) | (rw [if_neg (by decide +kernel)]; exact ⟨rfl, rfl⟩))
    (fun os started H enc _ => lifted os started H enc)
theorem proved : Rows.BurrNamesSaid := over
#print axioms proved
end Go.Proofs.Ytknikcpeacmpmaa.BurrNames
