/- THE STATEMENT ClassLooks. -/
import Derived.Test.YtgdhdikeicgndaaKwc8
import Derived.Test.YtgdhdikeicgndaaKwe1
import Derived.Test.YtgdhdikeicgndaaRows
set_option linter.all false
namespace Go.Proofs.Ytgdhdikeicgndaa.ClassLooks
open Go Go.RowKit Go.Sh Go.Pv Go.ChangeShapes Go.WideShapes Go.ChangeAt
set_option linter.unusedVariables false
set_option linter.constructorNameAsVariable false
theorem und24 : ∃ fs, Try.prog.underlying 24 = some (.struct fs) := ⟨(match Try.prog.underlying 24 with | some (.struct fs) => fs | _ => #[]), by kernel_rfl⟩
theorem und3 : Try.prog.underlying 3 = some (.int .i64) := by kernel_rfl
theorem und4 : Try.prog.underlying 4 = some .bool := by kernel_rfl
theorem paramsF : Try.f4.params = #[24, 3] := rfl
set_option maxRecDepth 100000 in
theorem lifted (os : Os) (started : os.Started) (H : Type) (enc : TypeId × Value → H) :
    ReturnsInHanded {} Try.checked os 4 .any (Rows.classLooksSpec.pre6 enc Try.prog Try.f4 Rows.classLooksRow.domain false) (Rows.classLooksSpec.post enc Try.prog Try.f4 false true false false) := by
  refine returnsInHanded_of_change (C := Try.checked) own started (by kernel_rfl) Try.func4
    (ChangeSpec.witness6 (enc := enc) (C := Try.checked) false ⟨#[], #[.agg #[.slice none 0 0, .int .i64 0, .int .i64 0, .int .i64 0], .int .i64 0], []⟩ 8 (by kernel_rfl) (by kernel_rfl) (by kernel_rfl) (by kernel_rfl)) ?_
  intro W base args ds gs before hval0 hW hcnd _
  have hval : ∀ (j : Nat) t v, Try.f4.params[j]? = some t → args[j]? = some v → Value.okWide Try.prog W .any base t v := hval0
  have hW' := hW
  obtain ⟨p, q, hA0, hV, rfl, hfz, hnd⟩ := hW
  have hA : DataW.TrodAll enc Try.prog W 0 (fun _ => true) true Try.f4.params.toList args.toList ds p := hA0
  rw [paramsF] at hA hval
  obtain ⟨v0, vs0, d0, ds0, p0, q0, hargs, rfl, rfl, h0, r0⟩ := trodAll_cons hA
  obtain ⟨v1, vs1, d1, ds1, p1, q1, rfl, rfl, rfl, h1, r1⟩ := trodAll_cons r0
  obtain ⟨rfl, rfl, rfl⟩ := trodAll_nil r1
  obtain rfl : args = #[v0, v1] := by cases args; simp_all
  obtain ⟨rfl, rfl⟩ := trodVars_none hV
  obtain ⟨fs, hu⟩ := und24
  obtain ⟨cs0, rfl⟩ := agg_of hu (hval 0 24 v0 rfl rfl)
  obtain ⟨bales, may, drift, mist, hr0⟩ := class_open h0
  obtain ⟨a1, rfl, rfl, rfl, w1⟩ := open_int und3 (hval 1 3 v1 rfl rfl) h1
  have hat1 : -9223372036854775808 ≤ a1 ∧ a1 ≤ 9223372036854775807 := by
    simp only [Lit.wf, Bool.and_eq_true, decide_eq_true_eq] at w1
    have : IntKind.min .i64 = -9223372036854775808 ∧ IntKind.max .i64 = 9223372036854775807 := by decide
    omega
  have hrel : RelRs (fun _ _ => True) W [lineR bales may drift mist, .one (.v (.int .i64 a1))] #[.agg cs0, .int .i64 a1] := by
    refine ⟨rfl, fun j r hj => ?_⟩
    rcases j with _ | _ | j
    · simp at hj; subst hj; exact ⟨_, rfl, hr0⟩
    · simp at hj; subst hj; exact ⟨_, rfl, .v _ rfl⟩
    · simp at hj
  refine (ok_ClassLooks a1 _ W _ hrel).mono fun e W' ⟨u, he, hu2, hb⟩ => ?_
  subst he
  have hu3 : u = .bool true := by
    cases hu2; rfl
  subst hu3
  exact ⟨_, rfl, post_law laidOut (by rw [paramsF]; intro t ht; simp at ht; rcases ht with rfl | rfl <;> exact ⟨by kernel_rfl, of_decide_eq_true (by kernel_rfl)⟩) rfl rfl und4 rfl hW' hb⟩
theorem over : Rows.classLooksRow.holds Try.pinned (OpenSpec.ofChange Rows.classLooksSpec) :=
  OpenClaim.holds_of_wide 4 Try.f4 rfl rfl rfl rfl rfl rfl rfl ⟨rfl, rfl, rfl, rfl, rfl⟩ rfl rfl rfl rfl rfl (by kernel_rfl) Try.func4 (by kernel_rfl)
    (of_decide_eq_true (by kernel_rfl)) (by unfold Func.isWrapper; first | (rw [if_pos (by decide +kernel)]; kernel_rfl) | (rw [if_neg (by decide +kernel)]; exact ⟨rfl, rfl⟩))
    (fun os started H enc _ => lifted os started H enc)
theorem proved : Rows.ClassLooksSaid := over
#print axioms proved
end Go.Proofs.Ytgdhdikeicgndaa.ClassLooks
