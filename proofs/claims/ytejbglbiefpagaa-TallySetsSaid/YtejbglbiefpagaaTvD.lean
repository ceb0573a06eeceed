/- tally: the bounds, by the calls of a set. -/
import Derived.Test.YtejbglbiefpagaaTvC
import Derived.Test.YtejbglbiefpagaaKe
set_option linter.all false
namespace Go.Proofs.Ytejbglbiefpagaa
open Go Go.RowKit Go.Sh Go.Pv
set_option maxHeartbeats 4000000
set_option maxRecDepth 8000
attribute [go_sem] keepA nub
theorem relR_two {a b : Int} : ∀ (Z : Nat → Nat → Prop) (w : World), RelR Z w (.agg [iP a, iP b]) (.agg #[.int .i64 a, .int .i64 b]) := by
  intro Z w
  refine ⟨_, rfl, rfl, fun j c hj => ?_⟩
  rcases j with _ | _ | j
  · simp at hj; subst hj; exact ⟨_, rfl, .v _ rfl⟩
  · simp at hj; subst hj; exact ⟨_, rfl, .v _ rfl⟩
  · simp at hj
section
variable (n most : Int) (strays : List (Int × Int)) (calls : List (Int × Int × Int × Int)) (I : Value → Value → Prop)
/-- A yard's cells. -/
def ydC (m : Nat) : List AC := [.p (iP n), .p (iP most), .p (.sl (strays.map row2)), .p (.sl (calls.map row4)), .memo m]
/-- The small state of a yard; with the box that a closure captures. -/
def ydH (P : Program) : List (Nat × Obj') := [(1, .memo P 135 I), (0, .box (ydC n most strays calls 1))]
def ydH2 (P : Program) : List (Nat × Obj') := [(2, .box [.box 0 0]), (1, .memo P 135 I), (0, .box (ydC n most strays calls 1))]
theorem s_by0 (a b lo hi : Int) : FunS Try.prog 112 [.one (.p (.v (cntV 0 a b))), .agg [.p (iP lo), .p (iP hi)], .one (.box 2 0)] (ydH2 n most strays calls I Try.prog) 3 (.one (.agg [iP b, iP a, iP lo, iP hi])) := by
  have h := ok_endsS (.ptr [iP n, iP most, .sl (strays.map row2), .sl (calls.map row4), .any]) a b
  unfold ydH2 ydC cntV
  simp only [one_ne_zero2, show ((0 : Int) = 1) = False by simp, ↓reduceIte]
  refine funS_ok (nt := 13) (rs := [.cell 5 96]) Try.func112 rfl rfl rfl (by simp) fun Z w0 cap pan dk tm => ?_; simp only [initV, pins, pinOf, List.map_cons, List.map_nil]
  refine tw ?_; try with_reducible intro QQ hQQ
  (refine ⟨rfl, .inr ⟨rfl, callS_invoke (any := true) rfl rfl (by simp (disch := first | decide | omega) only [go_sem, ↓reduceIte]; try rfl) 132 (fun _ => by kernel_rfl) relR_two (by simp (disch := first | decide | omega) only [go_sem, ↓reduceIte]; try rfl) Try.func132 rfl (by decide) (fun _ => rfl) (h) ?_⟩⟩); refine ts ?_; try clear hQQ QQ
  refine tw ?_; try with_reducible intro QQ hQQ
  (refine aw_ret ⟨.inr rfl, (by simp (maxSteps := 400000) (disch := first | decide | omega) only [go_sem, ↓reduceIte]; try rfl), (by simp (maxSteps := 400000) (disch := first | decide | omega) only [go_sem, ↓reduceIte]; try rfl), (by simp only [List.mem_cons, List.mem_nil_iff, forall_eq_or_imp, forall_eq, false_imp_iff, implies_true, or_false, and_true]; simp (maxSteps := 400000) (disch := first | decide | omega) only [go_sem, ↓reduceIte]; try exact ⟨rfl, rfl⟩)⟩)
theorem s_by1 (a b lo hi : Int) (ha : -1000 ≤ a ∧ a ≤ 1000) (hb : -1000 ≤ b ∧ b ≤ 1000) : FunS Try.prog 112 [.one (.p (.v (cntV 1 a b))), .agg [.p (iP lo), .p (iP hi)], .one (.box 2 0)] (ydH2 n most strays calls I Try.prog) 3 (.one (.agg [iP (posN n b), iP (posN n a), iP lo, iP hi])) := by
  have h := ok_endsI n most strays calls a b ha hb
  simp only [ydP] at h
  unfold ydH2 ydC cntV
  simp only [↓reduceIte]
  refine funS_ok (nt := 13) (rs := [.cell 5 96]) Try.func112 rfl rfl rfl (by simp) fun Z w0 cap pan dk tm => ?_; simp only [initV, pins, pinOf, List.map_cons, List.map_nil]
  refine tw ?_; try with_reducible intro QQ hQQ
  (refine ⟨rfl, .inr ⟨rfl, callS_invoke (any := true) rfl rfl (by simp (disch := first | decide | omega) only [go_sem, ↓reduceIte]; try rfl) 133 (fun _ => by kernel_rfl) relR_two (by simp (disch := first | decide | omega) only [go_sem, ↓reduceIte]; try rfl) Try.func133 rfl (by decide) (fun _ => rfl) (h) ?_⟩⟩); refine ts ?_; try clear hQQ QQ
  refine tw ?_; try with_reducible intro QQ hQQ
  (refine aw_ret ⟨.inr rfl, (by simp (maxSteps := 400000) (disch := first | decide | omega) only [go_sem, ↓reduceIte]; try rfl), (by simp (maxSteps := 400000) (disch := first | decide | omega) only [go_sem, ↓reduceIte]; try rfl), (by simp only [List.mem_cons, List.mem_nil_iff, forall_eq_or_imp, forall_eq, false_imp_iff, implies_true, or_false, and_true]; simp (maxSteps := 400000) (disch := first | decide | omega) only [go_sem, ↓reduceIte]; try exact ⟨rfl, rfl⟩)⟩)
end
end Go.Proofs.Ytejbglbiefpagaa
