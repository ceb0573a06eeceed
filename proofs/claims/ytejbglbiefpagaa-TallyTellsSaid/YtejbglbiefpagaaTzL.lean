/- THE LAW TallyTells, whole. -/
import Derived.Test.YtejbglbiefpagaaTzK
import Derived.Test.YtejbglbiefpagaaTyC
set_option linter.all false
namespace Go.Proofs.Ytejbglbiefpagaa
open Go Go.RowKit Go.Sh Go.Pv
set_option maxHeartbeats 8000000
set_option maxRecDepth 8000
section
variable {n most : Int} {strays : List (Int × Int)} {calls : List (Int × Int × Int × Int)}
theorem v_Pen (hv : validB n most strays calls = false) (i : Int) : FunOK Try.prog 16 [tyR n most strays calls, .one (iP i)] (.tup [.agg [iP 0, iP 0], .one (iP 1)]) := by
  have hk := ok_Pen (n := n) (most := most) (strays := strays) (calls := calls) (i := i)
  rw [why1 hv, ansR_ne (by decide)] at hk
  exact hk
theorem v_Stray (hv : validB n most strays calls = false) (i : Int) : FunOK Try.prog 18 [tyR n most strays calls, .one (iP i)] (.tup [.agg [iP 0, iP 0], .one (iP 1)]) := by
  have hk := ok_Stray (n := n) (most := most) (strays := strays) (calls := calls) (i := i)
  rw [why1 hv, ansR_ne (by decide)] at hk
  exact hk
theorem v_Together (hv : validB n most strays calls = false) (i j : Int) : FunOK Try.prog 20 [tyR n most strays calls, .one (iP i), .one (iP j)] (.tup [.agg [iP 0, iP 0], .one (iP 1)]) := by
  have hk := ok_Together (n := n) (most := most) (strays := strays) (calls := calls) i j
  rw [why1 hv, ansR_ne (by decide)] at hk
  exact hk
theorem v_Fits (hv : validB n most strays calls = false) (c : Int × Int × Int × Int) : FunOK Try.prog 22 [tyR n most strays calls, .agg (row4 c)] (.tup [.one (iP 0), .one (iP 1)]) := by
  have hk := ok_Fits (n := n) (most := most) (strays := strays) (calls := calls) (c := c)
  rw [why1 hv, ansN_ne (by decide)] at hk
  exact hk
/-- Both answer the same. -/
structure Same5 (n most : Int) (strays : List (Int × Int)) (calls : List (Int × Int × Int × Int)) (one two : Int) (c : Int × Int × Int × Int) : Prop where
  shorn : ∃ r1 r2 e, FunOK Try.prog 14 [tyR n most strays calls, .one (iP one)] (.tup [.agg [iP r1, iP r2], .one (iP e)]) ∧ FunOK Try.prog 15 [tyR n most strays calls, .one (iP one)] (.tup [.agg [iP r1, iP r2], .one (iP e)])
  pen : ∃ r1 r2 e, FunOK Try.prog 16 [tyR n most strays calls, .one (iP one)] (.tup [.agg [iP r1, iP r2], .one (iP e)]) ∧ FunOK Try.prog 17 [tyR n most strays calls, .one (iP one)] (.tup [.agg [iP r1, iP r2], .one (iP e)])
  stray : ∃ r1 r2 e, FunOK Try.prog 18 [tyR n most strays calls, .one (iP one)] (.tup [.agg [iP r1, iP r2], .one (iP e)]) ∧ FunOK Try.prog 19 [tyR n most strays calls, .one (iP one)] (.tup [.agg [iP r1, iP r2], .one (iP e)])
  tog : ∃ r1 r2 e, FunOK Try.prog 20 [tyR n most strays calls, .one (iP one), .one (iP two)] (.tup [.agg [iP r1, iP r2], .one (iP e)]) ∧ FunOK Try.prog 21 [tyR n most strays calls, .one (iP one), .one (iP two)] (.tup [.agg [iP r1, iP r2], .one (iP e)])
  fits : ∃ r e, FunOK Try.prog 22 [tyR n most strays calls, .agg (row4 c)] (.tup [.one (iP r), .one (iP e)]) ∧ FunOK Try.prog 23 [tyR n most strays calls, .agg (row4 c)] (.tup [.one (iP r), .one (iP e)])
theorem same_ok {N : Nat} (h : TOK N most strays calls) (w : Ways N most strays) (one two : Int) (c : Int × Int × Int × Int) : Same5 N most strays calls one two c :=
  ⟨same_Shorn h w one, same_Pen h w one, same_Stray h w one, same_Together h w one two, same_Fits h w c⟩
theorem same_arg (hv : validB n most strays calls = false) (one two : Int) (c : Int × Int × Int × Int) : Same5 n most strays calls one two c := by
  obtain ⟨b1, h1⟩ := ex_Shearer53 n most strays calls one
  obtain ⟨b2, h2⟩ := ex_Shearer53 n most strays calls two
  obtain ⟨b3, h3⟩ := ex_Strays64 n most strays calls one
  obtain ⟨b4, h4⟩ := ex_Call72 n most strays calls c
  exact ⟨⟨0, 0, 1, v_Shorn hv one, r15_err h1 (told_arg hv b1) (by decide)⟩, ⟨0, 0, 1, v_Pen hv one, r17_err h1 (told_arg hv b1) (by decide)⟩, ⟨0, 0, 1, v_Stray hv one, r19_err h3 (told_arg hv b3) (by decide)⟩, ⟨0, 0, 1, v_Together hv one two, r21d_err h1 h2 (told_arg hv _) (by decide)⟩, ⟨0, 1, v_Fits hv c, r23d_err h4 (told_arg hv b4) (by decide)⟩⟩
attribute [local go_sem] span_eql span_neq eql4 neq4 bne_tf bne_ft beq_tf beq_ft row4
theorem tells_heavy (one two : Int) (c : Int × Int × Int × Int) (hh : FunOK Try.prog 12 [tyR n most strays calls, .one (iP 3000)] (.one (.one (.v (.bool true))))) : FunOK Try.prog 3 [tyR n most strays calls, .one (iP one), .one (iP two), .agg (row4 c)] (.one (.one (.v (.bool true)))) := by
  have hal := ok_alive
  obtain ⟨ck, cat, clo, chi⟩ := c
  simp only [tyR] at hh
  refine fun_ok (nt := 145) (rs := [.tmp 8]) Try.func3 rfl rfl rfl (by simp) fun Z w0 => ?_; simp only [initFr, avR, List.map_cons, List.map_nil]
  simp only [tyR, row4, List.map_cons, List.map_nil]
  refine tw ?_; try with_reducible intro QQ hQQ
  ((refine cO 12 rfl rfl rfl (hh) Try.func12 rfl ?_); refine tu ?_; try clear hQQ QQ); refine tw ?_; try with_reducible intro QQ hQQ
  refine ti ?_; try clear hQQ QQ
  refine tw ?_; try with_reducible intro QQ hQQ
  ((refine cO 13 rfl rfl rfl (hal) Try.func13 rfl ?_); refine tu ?_; try clear hQQ QQ); refine tw ?_; try with_reducible intro QQ hQQ
  refine aw_ret ?_; refine ⟨.inr rfl, ?_⟩; simp only [resA, res1, go_sem, ↓reduceIte]
theorem tells_same (one two : Int) (c : Int × Int × Int × Int) (hh : FunOK Try.prog 12 [tyR n most strays calls, .one (iP 3000)] (.one (.one (.v (.bool false))))) (S : Same5 n most strays calls one two c) : FunOK Try.prog 3 [tyR n most strays calls, .one (iP one), .one (iP two), .agg (row4 c)] (.one (.one (.v (.bool true)))) := by
  have hal := ok_alive
  obtain ⟨⟨a1, a2, ae, q14, q15⟩, ⟨b1, b2, be, q16, q17⟩, ⟨d1, d2, de, q18, q19⟩, ⟨f1, f2, fe, q20, q21⟩, ⟨g1, ge, q22, q23⟩⟩ := S
  obtain ⟨ck, cat, clo, chi⟩ := c
  simp only [tyR, row4] at hh q14 q15 q16 q17 q18 q19 q20 q21 q22 q23
  refine fun_ok (nt := 145) (rs := [.tmp 8]) Try.func3 rfl rfl rfl (by simp) fun Z w0 => ?_; simp only [initFr, avR, List.map_cons, List.map_nil]
  simp only [tyR, row4, List.map_cons, List.map_nil]
  try simp only [List.append_eq, List.cons_append, List.nil_append]
  refine tw ?_; try with_reducible intro QQ hQQ
  ((refine cO 12 rfl rfl rfl (hh) Try.func12 rfl ?_); refine tu ?_; try clear hQQ QQ); refine tw ?_; try with_reducible intro QQ hQQ
  refine ti ?_; try clear hQQ QQ
  refine tw ?_; try with_reducible intro QQ hQQ
  ((refine cO 14 rfl rfl rfl (q14) Try.func14 rfl ?_); refine tu ?_; try clear hQQ QQ); refine tw ?_; try with_reducible intro QQ hQQ
  ((refine cO 15 rfl rfl rfl (q15) Try.func15 rfl ?_); refine tu ?_; try clear hQQ QQ); refine tw ?_; try with_reducible intro QQ hQQ
  ((refine cO 16 rfl rfl rfl (q16) Try.func16 rfl ?_); refine tu ?_; try clear hQQ QQ); refine tw ?_; try with_reducible intro QQ hQQ
  ((refine cO 17 rfl rfl rfl (q17) Try.func17 rfl ?_); refine tu ?_; try clear hQQ QQ); refine tw ?_; try with_reducible intro QQ hQQ
  ((refine cO 18 rfl rfl rfl (q18) Try.func18 rfl ?_); refine tu ?_; try clear hQQ QQ); refine tw ?_; try with_reducible intro QQ hQQ
  ((refine cO 19 rfl rfl rfl (q19) Try.func19 rfl ?_); refine tu ?_; try clear hQQ QQ); refine tw ?_; try with_reducible intro QQ hQQ
  ((refine cO 20 rfl rfl rfl (q20) Try.func20 rfl ?_); refine tu ?_; try clear hQQ QQ); refine tw ?_; try with_reducible intro QQ hQQ
  ((refine cO 21 rfl rfl rfl (q21) Try.func21 rfl ?_); refine tu ?_; try clear hQQ QQ); refine tw ?_; try with_reducible intro QQ hQQ
  ((refine cO 22 rfl rfl rfl (q22) Try.func22 rfl ?_); refine tu ?_; try clear hQQ QQ); refine tw ?_; try with_reducible intro QQ hQQ
  ((refine cO 23 rfl rfl rfl (q23) Try.func23 rfl ?_); refine tu ?_; try clear hQQ QQ); refine tw ?_; try with_reducible intro QQ hQQ
  ((refine cO 13 rfl rfl rfl (hal) Try.func13 rfl ?_); refine tu ?_; try clear hQQ QQ); refine tw ?_; try with_reducible intro QQ hQQ
  refine aw_ret ?_; refine ⟨.inr rfl, ?_⟩; simp only [resA, res1, go_sem, ↓reduceIte]
theorem main_tells (n most : Int) (strays : List (Int × Int)) (calls : List (Int × Int × Int × Int)) (one two : Int) (c : Int × Int × Int × Int) : FunOK Try.prog 3 [tyR n most strays calls, .one (iP one), .one (iP two), .agg (row4 c)] (.one (.one (.v (.bool true)))) := by
  cases hl : longB strays calls
  · cases hv : validB n most strays calls
    · exact tells_same one two c (heavy_arg 3000 hl hv) (same_arg hv one two c)
    · obtain ⟨hn, hT⟩ := tok_of hv
      rw [hn]
      have hh := heavy_ok 3000 hT
      by_cases hw : 3000 < waysN n.toNat most strays
      · rw [decide_eq_true hw] at hh
        exact tells_heavy one two c hh
      · rw [decide_eq_false hw] at hh
        exact tells_same one two c hh (same_ok hT (ways_ok hT (by omega)) one two c)
  · exact tells_heavy one two c (heavy_long 3000 hl)
end
end Go.Proofs.Ytejbglbiefpagaa
