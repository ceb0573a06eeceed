/- THE STATEMENT ClassWide. -/
import Derived.Test.YtgdhdikeicgndaaKwc8
import Derived.Test.YtgdhdikeicgndaaWdN
import Derived.Test.YtgdhdikeicgndaaRows
set_option linter.all false
namespace Go.Proofs.Ytgdhdikeicgndaa.ClassWide
open Go Go.RowKit Go.Sh Go.Pv Go.ChangeShapes Go.WideShapes Go.ChangeAt
set_option linter.unusedVariables false
set_option linter.constructorNameAsVariable false
theorem und24 : ∃ fs, Try.prog.underlying 24 = some (.struct fs) := ⟨(match Try.prog.underlying 24 with | some (.struct fs) => fs | _ => #[]), by kernel_rfl⟩
theorem und5 : Try.prog.underlying 5 = some (.int .u8) := by kernel_rfl
theorem und4 : Try.prog.underlying 4 = some .bool := by kernel_rfl
theorem paramsF : Try.f11.params = #[24, 5, 5] := rfl
set_option maxRecDepth 100000 in
theorem lifted (os : Os) (started : os.Started) (H : Type) (enc : TypeId × Value → H) :
    ReturnsInHanded {} Try.checked os 11 .any (Rows.classWideSpec.pre6 enc Try.prog Try.f11 Rows.classWideRow.domain false) (Rows.classWideSpec.post enc Try.prog Try.f11 false true false false) := by
  refine returnsInHanded_of_change (C := Try.checked) own started (by kernel_rfl) Try.func11
    (ChangeSpec.witness6 (enc := enc) (C := Try.checked) false ⟨#[], #[.agg #[.slice none 0 0, .int .i64 0, .int .i64 0, .int .i64 0], .int .u8 0, .int .u8 0], []⟩ 8 (by kernel_rfl) (by kernel_rfl) (by kernel_rfl) (by kernel_rfl)) ?_
  intro W base args ds gs before hval0 hW hcnd _
  have hval : ∀ (j : Nat) t v, Try.f11.params[j]? = some t → args[j]? = some v → Value.okWide Try.prog W .any base t v := hval0
  have hW' := hW
  obtain ⟨p, q, hA0, hV, rfl, hfz, hnd⟩ := hW
  have hA : DataW.TrodAll enc Try.prog W 0 (fun _ => true) true Try.f11.params.toList args.toList ds p := hA0
  rw [paramsF] at hA hval
  obtain ⟨v0, vs0, d0, ds0, p0, q0, hargs, rfl, rfl, h0, r0⟩ := trodAll_cons hA
  obtain ⟨v1, vs1, d1, ds1, p1, q1, rfl, rfl, rfl, h1, r1⟩ := trodAll_cons r0
  obtain ⟨v2, vs2, d2, ds2, p2, q2, rfl, rfl, rfl, h2, r2⟩ := trodAll_cons r1
  obtain ⟨rfl, rfl, rfl⟩ := trodAll_nil r2
  obtain rfl : args = #[v0, v1, v2] := by cases args; simp_all
  obtain ⟨rfl, rfl⟩ := trodVars_none hV
  obtain ⟨fs, hu⟩ := und24
  obtain ⟨cs0, rfl⟩ := agg_of hu (hval 0 24 v0 rfl rfl)
  obtain ⟨bales, may, drift, mist, hr0⟩ := class_open h0
  obtain ⟨a1, rfl, rfl, rfl, w1⟩ := open_int und5 (hval 1 5 v1 rfl rfl) h1
  have hat1 : 0 ≤ a1 ∧ a1 ≤ 255 := by
    simp only [Lit.wf, Bool.and_eq_true, decide_eq_true_eq] at w1
    have : IntKind.min .u8 = 0 ∧ IntKind.max .u8 = 255 := by decide
    omega
  obtain ⟨a2, rfl, rfl, rfl, w2⟩ := open_int und5 (hval 2 5 v2 rfl rfl) h2
  have hat2 : 0 ≤ a2 ∧ a2 ≤ 255 := by
    simp only [Lit.wf, Bool.and_eq_true, decide_eq_true_eq] at w2
    have : IntKind.min .u8 = 0 ∧ IntKind.max .u8 = 255 := by decide
    omega
  have hrel : RelRs (fun _ _ => True) W [lineR bales may drift mist, .one (.v (.int .u8 a1)), .one (.v (.int .u8 a2))] #[.agg cs0, .int .u8 a1, .int .u8 a2] := by
    refine ⟨rfl, fun j r hj => ?_⟩
    rcases j with _ | _ | _ | j
    · simp at hj; subst hj; exact ⟨_, rfl, hr0⟩
    · simp at hj; subst hj; exact ⟨_, rfl, .v _ rfl⟩
    · simp at hj; subst hj; exact ⟨_, rfl, .v _ rfl⟩
    · simp at hj
  refine (ok_ClassWide a1 a2 hat1 hat2 _ W _ hrel).mono fun e W' ⟨u, he, hu2, hb⟩ => ?_
  subst he
  have hu3 : u = .bool true := by
    cases hu2; rfl
  subst hu3
  exact ⟨_, rfl, post_law laidOut (by rw [paramsF]; intro t ht; simp at ht; rcases ht with rfl | rfl <;> exact ⟨by kernel_rfl, of_decide_eq_true (by kernel_rfl)⟩) rfl rfl und4 rfl hW' hb⟩
theorem over : Rows.classWideRow.holds Try.pinned (OpenSpec.ofChange Rows.classWideSpec) :=
  OpenClaim.holds_of_wide 11 Try.f11 rfl rfl rfl rfl rfl rfl rfl ⟨rfl, rfl, rfl, rfl, rfl⟩ rfl rfl rfl rfl rfl (by kernel_rfl) Try.func11 (by kernel_rfl)
    (of_decide_eq_true (by kernel_rfl)) (by unfold Func.isWrapper; first | (rw [if_pos (by decide +kernel)]; kernel_rfl) | (rw [if_neg (by decide +kernel)]; exact ⟨rfl, rfl⟩))
    (fun os started H enc _ => lifted os started H enc)
theorem proved : Rows.ClassWideSaid := over
#print axioms proved
end Go.Proofs.Ytgdhdikeicgndaa.ClassWide
