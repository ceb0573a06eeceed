/- tally, the law: what the document fixes. -/
import Derived.Test.YtejbglbiefpagaaTyA
import Derived.Test.YtejbglbiefpagaaTyS
set_option linter.all false
namespace Go.Proofs.Ytejbglbiefpagaa
open Go Go.RowKit Go.Sh Go.Pv
set_option maxHeartbeats 4000000
set_option maxRecDepth 8000
attribute [local go_sem] span_eql span_neq
theorem ok_alive : FunOK Try.prog 13 [] (.one (.one (.v (.bool true)))) := by
  have hs := ok_sample [] (by decide)
  simp only [List.append_nil, List.map_nil] at hs
  have h2 := ok_second
  have h3 := ok_clash34
  have hc := ok_call33 1 1 5 6
  have a1 := ok_span31 4 6
  have a2 := ok_span31 5 8
  have a3 := ok_span31 (-1) (-1)
  have a4 := ok_span31 9 10
  have r1 := Shorn_A_1
  have r2 := Pen_A_1
  have r3 := Stray_B_1
  have r4 := Together_A_1_2
  have r5 := Fits_A_1_1_5_6
  have r6 := False_D
  have r7 := Sus_D
  have r8 := Clash_D
  simp only [tyR] at hs h2 h3 r1 r2 r3 r4 r5 r6 r7 r8
  generalize strS.map row2 = S at *
  generalize clA.map row4 = A at *
  generalize clB.map row4 = B at *
  generalize clD.map row4 = D at *
  refine fun_ok (nt := 130) (rs := [.tmp 0]) Try.func13 rfl rfl rfl (by simp) fun Z w0 => ?_; simp only [initFr, avR, List.map_cons, List.map_nil]
  refine tw ?_; try with_reducible intro QQ hQQ
  (refine cB 30 rfl rfl rfl (hs) Try.func30 rfl ?_); refine ts ?_; try clear hQQ QQ
  ((refine cO 14 rfl rfl rfl (r1) Try.func14 rfl ?_); refine tu ?_; try clear hQQ QQ); refine tw ?_; try with_reducible intro QQ hQQ
  (refine cB 30 rfl rfl rfl (hs) Try.func30 rfl ?_); refine ts ?_; try clear hQQ QQ
  ((refine cO 16 rfl rfl rfl (r2) Try.func16 rfl ?_); refine tu ?_; try clear hQQ QQ); refine tw ?_; try with_reducible intro QQ hQQ
  (refine cB 32 rfl rfl rfl (h2) Try.func32 rfl ?_); refine ts ?_; try clear hQQ QQ
  ((refine cO 18 rfl rfl rfl (r3) Try.func18 rfl ?_); refine tu ?_; try clear hQQ QQ); refine tw ?_; try with_reducible intro QQ hQQ
  (refine cB 30 rfl rfl rfl (hs) Try.func30 rfl ?_); refine ts ?_; try clear hQQ QQ
  ((refine cO 20 rfl rfl rfl (r4) Try.func20 rfl ?_); refine tu ?_; try clear hQQ QQ); refine tw ?_; try with_reducible intro QQ hQQ
  (refine cB 30 rfl rfl rfl (hs) Try.func30 rfl ?_); refine ts ?_; try clear hQQ QQ
  (refine cO 33 rfl rfl rfl (hc) Try.func33 rfl ?_); refine ts ?_; try clear hQQ QQ
  ((refine cO 22 rfl rfl rfl (r5) Try.func22 rfl ?_); refine tu ?_; try clear hQQ QQ); refine tw ?_; try with_reducible intro QQ hQQ
  (refine cB 34 rfl rfl rfl (h3) Try.func34 rfl ?_); refine ts ?_; try clear hQQ QQ
  ((refine cO 24 rfl rfl rfl (r6) Try.func24 rfl ?_); refine tu ?_; try clear hQQ QQ); refine tw ?_; try with_reducible intro QQ hQQ
  (refine cB 34 rfl rfl rfl (h3) Try.func34 rfl ?_); refine ts ?_; try clear hQQ QQ
  ((refine cO 26 rfl rfl rfl (r7) Try.func26 rfl ?_); refine tu ?_; try clear hQQ QQ); refine tw ?_; try with_reducible intro QQ hQQ
  (refine cB 34 rfl rfl rfl (h3) Try.func34 rfl ?_); refine ts ?_; try clear hQQ QQ
  ((refine cO 28 rfl rfl rfl (r8) Try.func28 rfl ?_); refine tu ?_; try clear hQQ QQ); refine tw ?_; try with_reducible intro QQ hQQ
  simp only [List.append_eq, List.cons_append, List.nil_append]
  refine tw ?_; try with_reducible intro QQ hQQ
  (refine cD 31 rfl rfl rfl (a1) Try.func31 rfl ?_); refine td ?_; try clear hQQ QQ
  (refine cD 31 rfl rfl rfl (a2) Try.func31 rfl ?_); refine td ?_; try clear hQQ QQ
  (refine cD 31 rfl rfl rfl (a3) Try.func31 rfl ?_); refine td ?_; try clear hQQ QQ
  (refine cD 31 rfl rfl rfl (a4) Try.func31 rfl ?_); refine td ?_; try clear hQQ QQ
  refine tw ?_; try with_reducible intro QQ hQQ
  refine aw_ret ?_; refine ⟨.inr rfl, ?_⟩; simp only [resA, res1, go_sem, ↓reduceIte]
end Go.Proofs.Ytejbglbiefpagaa
