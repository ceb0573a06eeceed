/- tally, the document: what is valid. -/
import Derived.Test.YtejbglbiefpagaaTvH
set_option linter.all false
namespace Go.Proofs.Ytejbglbiefpagaa
open Go Go.RowKit Go.Sh Go.Pv
set_option maxHeartbeats 4000000
set_option maxRecDepth 8000
attribute [local go_sem] row4 get_some4
theorem ok_in73 (a b c : Int) : FunOK Try.prog 73 [.one (iP a), .one (iP b), .one (iP c)] (.one (.one (.v (.bool (inB a b c))))) := by
  refine fun_ok (nt := 15) (rs := [.tmp 6]) Try.func73 rfl rfl rfl (by simp) fun Z w0 => ?_; simp only [initFr, avR, List.map_cons, List.map_nil]
  by_cases h : b ≤ a
  · refine tw ?_; try with_reducible intro QQ hQQ
    refine aw_ret ?_; refine ⟨.inr rfl, ?_⟩; simp only [resA, res1, go_sem, ↓reduceIte]
    simp [inB, h]
  · refine tw ?_; try with_reducible intro QQ hQQ
    refine aw_ret ?_; refine ⟨.inr rfl, ?_⟩; simp only [resA, res1, go_sem, ↓reduceIte]
    simp [inB, h]
theorem ok_span94 (lo hi low high : Int) : FunOK Try.prog 94 [.agg [iP lo, iP hi], .one (iP low), .one (iP high)] (.one (.one (.v (.bool (spanB lo hi low high))))) := by
  refine fun_ok (nt := 24) (rs := [.tmp 6]) Try.func94 rfl rfl rfl (by simp) fun Z w0 => ?_; simp only [initFr, avR, List.map_cons, List.map_nil]
  by_cases h1 : low ≤ lo
  · by_cases h2 : lo ≤ hi
    · refine tw ?_; try with_reducible intro QQ hQQ
      refine aw_ret ?_; refine ⟨.inr rfl, ?_⟩; simp only [resA, res1, go_sem, ↓reduceIte]
      simp [spanB, h1, h2]
    · refine tw ?_; try with_reducible intro QQ hQQ
      refine aw_ret ?_; refine ⟨.inr rfl, ?_⟩; simp only [resA, res1, go_sem, ↓reduceIte]
      simp [spanB, h1, h2]
  · refine tw ?_; try with_reducible intro QQ hQQ
    refine aw_ret ?_; refine ⟨.inr rfl, ?_⟩; simp only [resA, res1, go_sem, ↓reduceIte]
    simp [spanB, h1]
section
variable (n most : Int) (strays : List (Int × Int)) (calls : List (Int × Int × Int × Int))
theorem ok_Shearer53 (i : Int) (h : -1000 ≤ n ∧ n ≤ 1000) : FunOK Try.prog 53 [tyR n most strays calls, .one (iP i)] (.one (.one (.v (.bool (inB i 0 (n - 1)))))) := by
  refine fun_ok (nt := 10) (rs := [.tmp 4]) Try.func53 rfl rfl rfl (by simp) fun Z w0 => ?_; simp only [initFr, avR, List.map_cons, List.map_nil]
  simp only [tyR, List.map_cons, List.map_nil]
  have h := ok_in73 i 0 (n - 1)
  refine tw ?_; try with_reducible intro QQ hQQ
  ((refine cO 73 rfl rfl rfl (h) Try.func73 rfl ?_); refine tu ?_; try clear hQQ QQ); refine tw ?_; try with_reducible intro QQ hQQ
  refine aw_ret ?_; refine ⟨.inr rfl, ?_⟩; simp only [resA, res1, go_sem, ↓reduceIte]
theorem ok_Strays64 (i : Int) (h : -1000 ≤ n ∧ n ≤ 1000) : FunOK Try.prog 64 [tyR n most strays calls, .one (iP i)] (.one (.one (.v (.bool (inB i 0 (n - 2)))))) := by
  refine fun_ok (nt := 10) (rs := [.tmp 4]) Try.func64 rfl rfl rfl (by simp) fun Z w0 => ?_; simp only [initFr, avR, List.map_cons, List.map_nil]
  simp only [tyR, List.map_cons, List.map_nil]
  have h := ok_in73 i 0 (n - 2)
  refine tw ?_; try with_reducible intro QQ hQQ
  ((refine cO 73 rfl rfl rfl (h) Try.func73 rfl ?_); refine tu ?_; try clear hQQ QQ); refine tw ?_; try with_reducible intro QQ hQQ
  refine aw_ret ?_; refine ⟨.inr rfl, ?_⟩; simp only [resA, res1, go_sem, ↓reduceIte]
theorem ok_Call72 (c : Int × Int × Int × Int) (h : -1000 ≤ n ∧ n ≤ 1000) : FunOK Try.prog 72 [tyR n most strays calls, .agg (row4 c)] (.one (.one (.v (.bool (isCallB n c))))) := by
  have hs := ok_span94 c.2.2.1 c.2.2.2 0 300
  have hsh := ok_Shearer53 n most strays calls c.2.1 h
  refine fun_ok (nt := 20) (rs := [.tmp 4]) Try.func72 rfl rfl rfl (by simp) fun Z w0 => ?_; simp only [initFr, avR, List.map_cons, List.map_nil]
  simp only [tyR, row4, List.map_cons, List.map_nil]
  simp only [tyR, List.map_cons, List.map_nil] at hsh
  cases hb : spanB c.2.2.1 c.2.2.2 0 300
  · rw [hb] at hs
    refine tw ?_; try with_reducible intro QQ hQQ
    ((refine cO 94 rfl rfl rfl (hs) Try.func94 rfl ?_); refine tu ?_; try clear hQQ QQ); refine tw ?_; try with_reducible intro QQ hQQ
    refine ti ?_; try clear hQQ QQ
    refine tw ?_; try with_reducible intro QQ hQQ
    refine aw_ret ?_; refine ⟨.inr rfl, ?_⟩; simp only [resA, res1, go_sem, ↓reduceIte]
    simp [isCallB, hb]
  · rw [hb] at hs
    by_cases h0 : c.1 = 0
    · refine tw ?_; try with_reducible intro QQ hQQ
      ((refine cO 94 rfl rfl rfl (hs) Try.func94 rfl ?_); refine tu ?_; try clear hQQ QQ); refine tw ?_; try with_reducible intro QQ hQQ
      refine ti ?_; try clear hQQ QQ
      refine tw ?_; try with_reducible intro QQ hQQ
      refine ti ?_; try clear hQQ QQ
      refine tw ?_; try with_reducible intro QQ hQQ
      refine ti ?_; try clear hQQ QQ
      refine tw ?_; try with_reducible intro QQ hQQ
      ((refine cO 53 rfl rfl rfl (hsh) Try.func53 rfl ?_); refine tu ?_; try clear hQQ QQ); refine tw ?_; try with_reducible intro QQ hQQ
      refine aw_ret ?_; refine ⟨.inr rfl, ?_⟩; simp only [resA, res1, go_sem, ↓reduceIte]
      simp [isCallB, hb, h0, inB]
    · by_cases h1 : c.1 = 1
      · refine tw ?_; try with_reducible intro QQ hQQ
        ((refine cO 94 rfl rfl rfl (hs) Try.func94 rfl ?_); refine tu ?_; try clear hQQ QQ); refine tw ?_; try with_reducible intro QQ hQQ
        refine ti ?_; try clear hQQ QQ
        refine tw ?_; try with_reducible intro QQ hQQ
        refine ti ?_; try clear hQQ QQ
        refine tw ?_; try with_reducible intro QQ hQQ
        refine ti ?_; try clear hQQ QQ
        refine tw ?_; try with_reducible intro QQ hQQ
        ((refine cO 53 rfl rfl rfl (hsh) Try.func53 rfl ?_); refine tu ?_; try clear hQQ QQ); refine tw ?_; try with_reducible intro QQ hQQ
        refine aw_ret ?_; refine ⟨.inr rfl, ?_⟩; simp only [resA, res1, go_sem, ↓reduceIte]
        simp [isCallB, hb, h1, inB]
      · by_cases h2 : c.1 = 2
        · refine tw ?_; try with_reducible intro QQ hQQ
          ((refine cO 94 rfl rfl rfl (hs) Try.func94 rfl ?_); refine tu ?_; try clear hQQ QQ); refine tw ?_; try with_reducible intro QQ hQQ
          refine ti ?_; try clear hQQ QQ
          refine tw ?_; try with_reducible intro QQ hQQ
          refine ti ?_; try clear hQQ QQ
          refine tw ?_; try with_reducible intro QQ hQQ
          refine ti ?_; try clear hQQ QQ
          refine tw ?_; try with_reducible intro QQ hQQ
          refine ti ?_; try clear hQQ QQ
          refine tw ?_; try with_reducible intro QQ hQQ
          refine aw_ret ?_; refine ⟨.inr rfl, ?_⟩; simp only [resA, res1, go_sem, ↓reduceIte]
          simp [isCallB, hb, h2, inB]
        · refine tw ?_; try with_reducible intro QQ hQQ
          ((refine cO 94 rfl rfl rfl (hs) Try.func94 rfl ?_); refine tu ?_; try clear hQQ QQ); refine tw ?_; try with_reducible intro QQ hQQ
          refine ti ?_; try clear hQQ QQ
          refine tw ?_; try with_reducible intro QQ hQQ
          refine ti ?_; try clear hQQ QQ
          refine tw ?_; try with_reducible intro QQ hQQ
          refine ti ?_; try clear hQQ QQ
          refine tw ?_; try with_reducible intro QQ hQQ
          refine ti ?_; try clear hQQ QQ
          refine tw ?_; try with_reducible intro QQ hQQ
          refine aw_ret ?_; refine ⟨.inr rfl, ?_⟩; simp only [resA, res1, go_sem, ↓reduceIte]
          have : ¬ (0 ≤ c.1 ∧ c.1 ≤ 1) := by omega
          simp [isCallB, hb, h2, inB, this]
end
end Go.Proofs.Ytejbglbiefpagaa
