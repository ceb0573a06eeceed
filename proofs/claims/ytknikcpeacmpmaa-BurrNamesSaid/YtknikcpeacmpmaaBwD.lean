/- THE LAW BurrNames, walked. -/
import Derived.Test.YtknikcpeacmpmaaBwC
set_option linter.all false
namespace Go.Proofs.Ytknikcpeacmpmaa
open Go Go.RowKit Go.Sh Go.Pv
set_option maxHeartbeats 8000000
set_option maxRecDepth 8000
theorem main_names : FunOK Try.prog 5 [] (.one (.one (.v (.bool true)))) := by
  have hal := ok_alive
  have hs := ok_sample []
  have h1 := ok_second
  have h2 := ok_third
  have h3 := ok_clash34
  have r1 := Mobs_0
  have r2 := Bales_0
  have r3 := Bales_2
  have r4 := Clean_0
  have r5 := Pure_0
  have r6 := Count_1
  have r7 := Count_2
  have r8 := Count_3
  have r9 := Open_1
  have q1 := Open_2
  have q2 := Next_0
  have q3 := Clash_2
  have q4 := Clean_3
  simp only [buR, List.map_nil] at hs h1 h2 h3 r1 r2 r3 r4 r5 r6 r7 r8 r9 q1 q2 q3 q4
  generalize baS.map row2 = S at *
  generalize te1.map rowB = A at *
  generalize te2.map rowB = B at *
  generalize te3.map rowB = D at *
  refine fun_ok (nt := 225) (rs := [.tmp 0]) Try.func5 rfl rfl rfl (by simp) fun Z w0 => ?_; simp only [initFr, avR, List.map_cons, List.map_nil]
  refine tw ?_; try with_reducible intro QQ hQQ
  (refine cB 31 rfl rfl rfl (hs) Try.func31 rfl ?_); refine ts ?_; try clear hQQ QQ
  ((refine cO 14 rfl rfl rfl (r1) Try.func14 rfl ?_); refine tu ?_; try clear hQQ QQ); refine tw ?_; try with_reducible intro QQ hQQ
  (refine cB 31 rfl rfl rfl (hs) Try.func31 rfl ?_); refine ts ?_; try clear hQQ QQ
  ((refine cO 16 rfl rfl rfl (r2) Try.func16 rfl ?_); refine tu ?_; try clear hQQ QQ); refine tw ?_; try with_reducible intro QQ hQQ
  (refine cB 32 rfl rfl rfl (h2) Try.func32 rfl ?_); refine ts ?_; try clear hQQ QQ
  ((refine cO 16 rfl rfl rfl (r3) Try.func16 rfl ?_); refine tu ?_; try clear hQQ QQ); refine tw ?_; try with_reducible intro QQ hQQ
  (refine cB 31 rfl rfl rfl (hs) Try.func31 rfl ?_); refine ts ?_; try clear hQQ QQ
  ((refine cO 18 rfl rfl rfl (r4) Try.func18 rfl ?_); refine tu ?_; try clear hQQ QQ); refine tw ?_; try with_reducible intro QQ hQQ
  (refine cB 31 rfl rfl rfl (hs) Try.func31 rfl ?_); refine ts ?_; try clear hQQ QQ
  ((refine cO 20 rfl rfl rfl (r5) Try.func20 rfl ?_); refine tu ?_; try clear hQQ QQ); refine tw ?_; try with_reducible intro QQ hQQ
  try simp only [List.append_eq, List.cons_append, List.nil_append]
  refine tw ?_; try with_reducible intro QQ hQQ
  refine ti ?_; try clear hQQ QQ
  refine tw ?_; try with_reducible intro QQ hQQ
  (refine cB 33 rfl rfl rfl (h1) Try.func33 rfl ?_); refine ts ?_; try clear hQQ QQ
  ((refine cO 22 rfl rfl rfl (r6) Try.func22 rfl ?_); refine tu ?_; try clear hQQ QQ); refine tw ?_; try with_reducible intro QQ hQQ
  (refine cB 32 rfl rfl rfl (h2) Try.func32 rfl ?_); refine ts ?_; try clear hQQ QQ
  ((refine cO 22 rfl rfl rfl (r7) Try.func22 rfl ?_); refine tu ?_; try clear hQQ QQ); refine tw ?_; try with_reducible intro QQ hQQ
  (refine cB 34 rfl rfl rfl (h3) Try.func34 rfl ?_); refine ts ?_; try clear hQQ QQ
  ((refine cO 22 rfl rfl rfl (r8) Try.func22 rfl ?_); refine tu ?_; try clear hQQ QQ); refine tw ?_; try with_reducible intro QQ hQQ
  (refine cB 33 rfl rfl rfl (h1) Try.func33 rfl ?_); refine ts ?_; try clear hQQ QQ
  ((refine cO 25 rfl rfl rfl (r9) Try.func25 rfl ?_); refine tu ?_; try clear hQQ QQ); refine tw ?_; try with_reducible intro QQ hQQ
  (refine cB 32 rfl rfl rfl (h2) Try.func32 rfl ?_); refine ts ?_; try clear hQQ QQ
  ((refine cO 25 rfl rfl rfl (q1) Try.func25 rfl ?_); refine tu ?_; try clear hQQ QQ); refine tw ?_; try with_reducible intro QQ hQQ
  (refine cB 31 rfl rfl rfl (hs) Try.func31 rfl ?_); refine ts ?_; try clear hQQ QQ
  ((refine cO 27 rfl rfl rfl (q2) Try.func27 rfl ?_); refine tu ?_; try clear hQQ QQ); refine tw ?_; try with_reducible intro QQ hQQ
  (refine cB 32 rfl rfl rfl (h2) Try.func32 rfl ?_); refine ts ?_; try clear hQQ QQ
  ((refine cO 29 rfl rfl rfl (q3) Try.func29 rfl ?_); refine tu ?_; try clear hQQ QQ); refine tw ?_; try with_reducible intro QQ hQQ
  (refine cB 34 rfl rfl rfl (h3) Try.func34 rfl ?_); refine ts ?_; try clear hQQ QQ
  ((refine cO 18 rfl rfl rfl (q4) Try.func18 rfl ?_); refine tu ?_; try clear hQQ QQ); refine tw ?_; try with_reducible intro QQ hQQ
  try simp only [List.append_eq, List.cons_append, List.nil_append]
  refine tw ?_; try with_reducible intro QQ hQQ
  ((refine cO 13 rfl rfl rfl (hal) Try.func13 rfl ?_); refine tu ?_; try clear hQQ QQ); refine tw ?_; try with_reducible intro QQ hQQ
  refine aw_ret ?_; refine ⟨.inr rfl, ?_⟩; simp only [resA, res1, go_sem, ↓reduceIte]
end Go.Proofs.Ytknikcpeacmpmaa
