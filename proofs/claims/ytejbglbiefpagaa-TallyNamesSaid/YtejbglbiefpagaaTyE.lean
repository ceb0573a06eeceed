/- THE LAW TallyNames, walked. -/
import Derived.Test.YtejbglbiefpagaaTyC
set_option linter.all false
namespace Go.Proofs.Ytejbglbiefpagaa
open Go Go.RowKit Go.Sh Go.Pv
set_option maxHeartbeats 8000000
set_option maxRecDepth 8000
attribute [local go_sem] span_eql span_neq
theorem main_names : FunOK Try.prog 5 [] (.one (.one (.v (.bool true)))) := by
  have hal := ok_alive
  have hs := ok_sample [] (by decide)
  simp only [List.append_nil, List.map_nil] at hs
  have h2 := ok_second
  have h3 := ok_clash34
  have s1 := ok_span31 6 6
  have s2 := ok_span31 4 5
  have s3 := ok_span31 5 6
  have s4 := ok_span31 4 4
  have s5 := ok_span31 3 5
  have s6 := ok_span31 1 1
  have s7 := ok_span31 (-1) 0
  have s8 := ok_span31 15 16
  have c1 := ok_call33 1 1 5 8
  have c2 := ok_call33 1 1 9 9
  have q1 := Shorn_A_0
  have q2 := Shorn_A_2
  have q3 := Shorn_B_1
  have q4 := Shorn_B_2
  have r1 := Pen_A_2
  have r2 := Stray_A_0
  have r3 := Stray_A_1
  have r4 := Together_A_0_2
  have r5 := Fits_A_1_1_5_8
  have r6 := Fits_A_1_1_9_9
  have r7 := False_B
  have r8 := Clash_B
  have r9 := Shorn_D_0
  simp only [tyR] at hs h2 h3 q1 q2 q3 q4 r1 r2 r3 r4 r5 r6 r7 r8 r9
  generalize strS.map row2 = S at *
  generalize clA.map row4 = A at *
  generalize clB.map row4 = B at *
  generalize clD.map row4 = D at *
  refine fun_ok (nt := 182) (rs := [.tmp 0]) Try.func5 rfl rfl rfl (by simp) fun Z w0 => ?_; simp only [initFr, avR, List.map_cons, List.map_nil]
  refine tw ?_; try with_reducible intro QQ hQQ
  (refine cB 30 rfl rfl rfl (hs) Try.func30 rfl ?_); refine ts ?_; try clear hQQ QQ
  (refine cO 31 rfl rfl rfl (s1) Try.func31 rfl ?_); refine ts ?_; try clear hQQ QQ
  (refine cB 30 rfl rfl rfl (hs) Try.func30 rfl ?_); refine ts ?_; try clear hQQ QQ
  (refine cO 31 rfl rfl rfl (s2) Try.func31 rfl ?_); refine ts ?_; try clear hQQ QQ
  (refine cB 32 rfl rfl rfl (h2) Try.func32 rfl ?_); refine ts ?_; try clear hQQ QQ
  (refine cO 31 rfl rfl rfl (s3) Try.func31 rfl ?_); refine ts ?_; try clear hQQ QQ
  (refine cB 32 rfl rfl rfl (h2) Try.func32 rfl ?_); refine ts ?_; try clear hQQ QQ
  ((refine cO 31 rfl rfl rfl (s4) Try.func31 rfl ?_); refine tu ?_; try clear hQQ QQ); refine tw ?_; try with_reducible intro QQ hQQ
  refine aw_loop_ov (ι := { i : Nat // i ≤ 4 }) (fun i => [(38, iA i.1)]) (fun _ => []) (fun i => 4 - i.1) ⟨0, by omega⟩ (by first | rfl | (simp only [go_sem, ↓reduceIte]; first | done | rfl | (simp; try rfl))) ?_
  rintro ⟨i, hi⟩
  simp (disch := decide) only [ov, ovL, AL.get_nil, AL.get_eq, AL.get_ne, Option.getD_some, Option.getD_none]
  rcases (show i = 0 ∨ i = 1 ∨ i = 2 ∨ i = 3 ∨ i = 4 by omega) with rfl | rfl | rfl | rfl | rfl
  · refine tw ?_; try with_reducible intro QQ hQQ
    refine ti ?_; try clear hQQ QQ
    refine tw ?_; try with_reducible intro QQ hQQ
    ((refine cO 14 rfl rfl rfl (q1) Try.func14 rfl ?_); refine tu ?_; try clear hQQ QQ); refine tw ?_; try with_reducible intro QQ hQQ
    refine ti ?_; try clear hQQ QQ
    refine tw ?_; try with_reducible intro QQ hQQ
    (refine ⟨⟨1, by omega⟩, ?_, weak_round (by simp only [go_sem, ↓reduceIte]; first | done | rfl) (by first | rfl | (simp only [go_sem, ↓reduceIte]))⟩; (simp only; omega))
  · refine tw ?_; try with_reducible intro QQ hQQ
    refine ti ?_; try clear hQQ QQ
    refine tw ?_; try with_reducible intro QQ hQQ
    ((refine cO 14 rfl rfl rfl (q2) Try.func14 rfl ?_); refine tu ?_; try clear hQQ QQ); refine tw ?_; try with_reducible intro QQ hQQ
    refine ti ?_; try clear hQQ QQ
    refine tw ?_; try with_reducible intro QQ hQQ
    (refine ⟨⟨2, by omega⟩, ?_, weak_round (by simp only [go_sem, ↓reduceIte]; first | done | rfl) (by first | rfl | (simp only [go_sem, ↓reduceIte]))⟩; (simp only; omega))
  · refine tw ?_; try with_reducible intro QQ hQQ
    refine ti ?_; try clear hQQ QQ
    refine tw ?_; try with_reducible intro QQ hQQ
    ((refine cO 14 rfl rfl rfl (q3) Try.func14 rfl ?_); refine tu ?_; try clear hQQ QQ); refine tw ?_; try with_reducible intro QQ hQQ
    refine ti ?_; try clear hQQ QQ
    refine tw ?_; try with_reducible intro QQ hQQ
    (refine ⟨⟨3, by omega⟩, ?_, weak_round (by simp only [go_sem, ↓reduceIte]; first | done | rfl) (by first | rfl | (simp only [go_sem, ↓reduceIte]))⟩; (simp only; omega))
  · refine tw ?_; try with_reducible intro QQ hQQ
    refine ti ?_; try clear hQQ QQ
    refine tw ?_; try with_reducible intro QQ hQQ
    ((refine cO 14 rfl rfl rfl (q4) Try.func14 rfl ?_); refine tu ?_; try clear hQQ QQ); refine tw ?_; try with_reducible intro QQ hQQ
    refine ti ?_; try clear hQQ QQ
    refine tw ?_; try with_reducible intro QQ hQQ
    (refine ⟨⟨4, by omega⟩, ?_, weak_round (by simp only [go_sem, ↓reduceIte]; first | done | rfl) (by first | rfl | (simp only [go_sem, ↓reduceIte]))⟩; (simp only; omega))
  · refine tw ?_; try with_reducible intro QQ hQQ
    refine ti ?_; try clear hQQ QQ
    refine tw ?_; try with_reducible intro QQ hQQ
    (refine cB 30 rfl rfl rfl (hs) Try.func30 rfl ?_); refine ts ?_; try clear hQQ QQ
    ((refine cO 16 rfl rfl rfl (r1) Try.func16 rfl ?_); refine tu ?_; try clear hQQ QQ); refine tw ?_; try with_reducible intro QQ hQQ
    (refine cB 30 rfl rfl rfl (hs) Try.func30 rfl ?_); refine ts ?_; try clear hQQ QQ
    ((refine cO 18 rfl rfl rfl (r2) Try.func18 rfl ?_); refine tu ?_; try clear hQQ QQ); refine tw ?_; try with_reducible intro QQ hQQ
    (refine cB 30 rfl rfl rfl (hs) Try.func30 rfl ?_); refine ts ?_; try clear hQQ QQ
    ((refine cO 18 rfl rfl rfl (r3) Try.func18 rfl ?_); refine tu ?_; try clear hQQ QQ); refine tw ?_; try with_reducible intro QQ hQQ
    (refine cB 30 rfl rfl rfl (hs) Try.func30 rfl ?_); refine ts ?_; try clear hQQ QQ
    ((refine cO 20 rfl rfl rfl (r4) Try.func20 rfl ?_); refine tu ?_; try clear hQQ QQ); refine tw ?_; try with_reducible intro QQ hQQ
    (refine cB 30 rfl rfl rfl (hs) Try.func30 rfl ?_); refine ts ?_; try clear hQQ QQ
    (refine cO 33 rfl rfl rfl (c1) Try.func33 rfl ?_); refine ts ?_; try clear hQQ QQ
    ((refine cO 22 rfl rfl rfl (r5) Try.func22 rfl ?_); refine tu ?_; try clear hQQ QQ); refine tw ?_; try with_reducible intro QQ hQQ
    (refine cB 30 rfl rfl rfl (hs) Try.func30 rfl ?_); refine ts ?_; try clear hQQ QQ
    (refine cO 33 rfl rfl rfl (c2) Try.func33 rfl ?_); refine ts ?_; try clear hQQ QQ
    ((refine cO 22 rfl rfl rfl (r6) Try.func22 rfl ?_); refine tu ?_; try clear hQQ QQ); refine tw ?_; try with_reducible intro QQ hQQ
    (refine cB 32 rfl rfl rfl (h2) Try.func32 rfl ?_); refine ts ?_; try clear hQQ QQ
    ((refine cO 24 rfl rfl rfl (r7) Try.func24 rfl ?_); refine tu ?_; try clear hQQ QQ); refine tw ?_; try with_reducible intro QQ hQQ
    (refine cB 32 rfl rfl rfl (h2) Try.func32 rfl ?_); refine ts ?_; try clear hQQ QQ
    ((refine cO 28 rfl rfl rfl (r8) Try.func28 rfl ?_); refine tu ?_; try clear hQQ QQ); refine tw ?_; try with_reducible intro QQ hQQ
    (refine cB 34 rfl rfl rfl (h3) Try.func34 rfl ?_); refine ts ?_; try clear hQQ QQ
    ((refine cO 14 rfl rfl rfl (r9) Try.func14 rfl ?_); refine tu ?_; try clear hQQ QQ); refine tw ?_; try with_reducible intro QQ hQQ
    simp only [List.append_eq, List.cons_append, List.nil_append]
    refine tw ?_; try with_reducible intro QQ hQQ
    (refine cD 13 rfl rfl rfl (hal) Try.func13 rfl ?_); refine td ?_; try clear hQQ QQ
    (refine cD 31 rfl rfl rfl (s5) Try.func31 rfl ?_); refine td ?_; try clear hQQ QQ
    (refine cD 31 rfl rfl rfl (s6) Try.func31 rfl ?_); refine td ?_; try clear hQQ QQ
    (refine cD 31 rfl rfl rfl (s7) Try.func31 rfl ?_); refine td ?_; try clear hQQ QQ
    (refine cD 31 rfl rfl rfl (s8) Try.func31 rfl ?_); refine td ?_; try clear hQQ QQ
    refine tw ?_; try with_reducible intro QQ hQQ
    refine aw_ret ?_; refine ⟨.inr rfl, ?_⟩; simp only [resA, res1, go_sem, ↓reduceIte]
end Go.Proofs.Ytejbglbiefpagaa
