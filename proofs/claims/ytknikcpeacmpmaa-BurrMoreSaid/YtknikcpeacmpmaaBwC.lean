/- burr, the law: the document's examples, reckoned. -/
import Derived.Test.YtknikcpeacmpmaaBwB
set_option linter.all false
namespace Go.Proofs.Ytknikcpeacmpmaa
open Go Go.RowKit Go.Sh Go.Pv
set_option maxHeartbeats 4000000
set_option maxRecDepth 20000
def baS : List (Int × Int) := [(1, 3), (2, 2), (0, 4)]
def te1 : List (Int × Bool) := [(2, false)]
def te2 : List (Int × Bool) := [(2, false), (1, true)]
def te3 : List (Int × Bool) := [(2, false), (1, true), (2, true)]
theorem Mobs_2 : FunOK Try.prog 14 [buR 3 1 1 6 baS te2] (.tup [.one (iP 2), .one (iP 2), .one (iP 0)]) := by
  have h := @ok_Mobs 3 1 1 6 baS te2
  have e1 : whyT 3 1 1 6 baS te2 = 0 := by kernel_rfl
  have e2 : mobA 3 1 1 baS te2 = (2, 2) := by kernel_rfl
  rw [e1, e2] at h
  exact h
theorem Bales_1 : FunOK Try.prog 16 [buR 3 1 1 6 baS te1] (.tup [.one (iP 0), .one (iP 3), .one (iP 0)]) := by
  have h := @ok_Bales 3 1 1 6 baS te1
  have e1 : whyT 3 1 1 6 baS te1 = 0 := by kernel_rfl
  have e2 : balA 3 1 1 baS te1 = (0, 3) := by kernel_rfl
  rw [e1, e2] at h
  exact h
theorem Clean_2 : FunOK Try.prog 18 [buR 3 1 1 6 baS te2] (.tup [.one (iP 0), .one (iP 0)]) := by
  have h := @ok_Clean 3 1 1 6 baS te2
  have e1 : whyT 3 1 1 6 baS te2 = 0 := by kernel_rfl
  have e2 : cleanA 3 1 1 6 baS te2 = 0 := by kernel_rfl
  rw [e1, e2] at h
  exact h
theorem Pure_1 : FunOK Try.prog 20 [buR 3 1 1 6 baS te1] (.tup [.one (iP 4), .one (iP 0)]) := by
  have h := @ok_Pure 3 1 1 6 baS te1
  have e1 : whyT 3 1 1 6 baS te1 = 0 := by kernel_rfl
  have e2 : pureA 3 1 1 6 baS te1 = 4 := by kernel_rfl
  rw [e1, e2] at h
  exact h
theorem Count_0 : FunOK Try.prog 22 [buR 3 1 1 6 baS []] (.tup [.one (iP 5), .one (iP 0)]) := by
  have h := @ok_Count 3 1 1 6 baS []
  have e1 : whyV 3 1 1 6 baS [] = 0 := by kernel_rfl
  have e2 : ((cntB 3 1 1 baS [] : Nat) : Int) = 5 := by kernel_rfl
  rw [e1, e2] at h
  exact h
theorem Open_0 : FunOK Try.prog 25 [buR 3 1 1 6 baS []] (.tup [.one (iP 2), .one (iP 6), .one (iP 0)]) := by
  have h := @ok_Open 3 1 1 6 baS []
  have e1 : whyT 3 1 1 6 baS [] = 0 := by kernel_rfl
  have e2 : openA 3 1 1 6 baS [] = (2, 6) := by kernel_rfl
  rw [e1, e2] at h
  exact h
theorem Next_1 : FunOK Try.prog 27 [buR 3 1 1 6 baS te1] (.tup [.one (iP 0), .one (iP 2), .one (iP 0)]) := by
  have h := @ok_Next 3 1 1 6 baS te1
  have e1 : whyN 3 1 1 6 baS te1 = 0 := by kernel_rfl
  have e2 : nextA 3 1 1 baS te1 = (0, 2) := by kernel_rfl
  rw [e1, e2] at h
  exact h
theorem Clash_3 : FunOK Try.prog 29 [buR 3 1 1 6 baS te3] (.tup [.one (iP 5), .one (iP 0)]) := by
  have h := @ok_Clash 3 1 1 6 baS te3
  have e1 : whyC 3 1 1 6 baS te3 = 0 := by kernel_rfl
  have e2 : clashA 3 1 1 baS te3 = 5 := by kernel_rfl
  rw [e1, e2] at h
  exact h
theorem ok_span83 (a b : Int) : FunOK Try.prog 83 [.one (iP a), .one (iP b)] (.one (.agg [iP a, iP b])) := by
  refine fun_ok (nt := 8) (rs := [.cell 4 23]) Try.func83 rfl rfl rfl (by simp) fun Z w0 => ?_; simp only [initFr, avR, List.map_cons, List.map_nil]
  refine tw ?_; try with_reducible intro QQ hQQ
  refine aw_ret ?_; refine ⟨.inr rfl, ?_⟩; simp only [resA, res1, go_sem, ↓reduceIte]
theorem ok_test38 (a : Int) (f : Bool) : FunOK Try.prog 38 [.one (iP a), .one (.v (.bool f))] (.one (.agg [iP a, .v (.bool f)])) := by
  refine fun_ok (nt := 8) (rs := [.cell 4 42]) Try.func38 rfl rfl rfl (by simp) fun Z w0 => ?_; simp only [initFr, avR, List.map_cons, List.map_nil]
  refine tw ?_; try with_reducible intro QQ hQQ
  refine aw_ret ?_; refine ⟨.inr rfl, ?_⟩; simp only [resA, res1, go_sem, ↓reduceIte]
theorem ok_sample (l : List (Int × Bool)) : FunOK Try.prog 31 [.one (.sl (l.map rowB))] (.one (buR 3 1 1 6 baS l)) := by
  have h1 := ok_span83 1 1
  simp only [buR]
  refine fun_ok (nt := 10) (rs := [.cell 2 27]) Try.func31 rfl rfl rfl (by simp) fun Z w0 => ?_; simp only [initFr, avR, List.map_cons, List.map_nil]
  refine tw ?_; try with_reducible intro QQ hQQ
  ((refine cO 83 rfl rfl rfl (h1) Try.func83 rfl ?_); refine tu ?_; try clear hQQ QQ); refine tw ?_; try with_reducible intro QQ hQQ
  refine aw_ret ?_; refine ⟨.inr rfl, ?_⟩; simp only [resA, res1, go_sem, ↓reduceIte]
  simp [baS, row2]
theorem ok_second : FunOK Try.prog 33 [] (.one (buR 3 1 1 6 baS te1)) := by
  have h1 := ok_test38 2 false
  have h2 := ok_sample te1
  simp only [te1, List.map_cons, List.map_nil, rowB, buR] at h2 ⊢
  refine fun_ok (nt := 4) (rs := [.cell 0 27]) Try.func33 rfl rfl rfl (by simp) fun Z w0 => ?_; simp only [initFr, avR, List.map_cons, List.map_nil]
  refine tw ?_; try with_reducible intro QQ hQQ
  (refine cO 38 rfl rfl rfl (h1) Try.func38 rfl ?_); refine ts ?_; try clear hQQ QQ
  ((refine cB 31 rfl rfl rfl (h2) Try.func31 rfl ?_); refine tu ?_; try clear hQQ QQ); refine tw ?_; try with_reducible intro QQ hQQ
  refine aw_ret ?_; refine ⟨.inr rfl, ?_⟩; simp only [resA, res1, go_sem, ↓reduceIte]
theorem ok_third : FunOK Try.prog 32 [] (.one (buR 3 1 1 6 baS te2)) := by
  have h1 := ok_test38 2 false
  have h3 := ok_test38 1 true
  have h2 := ok_sample te2
  simp only [te2, List.map_cons, List.map_nil, rowB, buR] at h2 ⊢
  refine fun_ok (nt := 5) (rs := [.cell 0 27]) Try.func32 rfl rfl rfl (by simp) fun Z w0 => ?_; simp only [initFr, avR, List.map_cons, List.map_nil]
  refine tw ?_; try with_reducible intro QQ hQQ
  (refine cO 38 rfl rfl rfl (h1) Try.func38 rfl ?_); refine ts ?_; try clear hQQ QQ
  (refine cO 38 rfl rfl rfl (h3) Try.func38 rfl ?_); refine ts ?_; try clear hQQ QQ
  ((refine cB 31 rfl rfl rfl (h2) Try.func31 rfl ?_); refine tu ?_; try clear hQQ QQ); refine tw ?_; try with_reducible intro QQ hQQ
  refine aw_ret ?_; refine ⟨.inr rfl, ?_⟩; simp only [resA, res1, go_sem, ↓reduceIte]
theorem ok_clash34 : FunOK Try.prog 34 [] (.one (buR 3 1 1 6 baS te3)) := by
  have h1 := ok_test38 2 false
  have h3 := ok_test38 1 true
  have h4 := ok_test38 2 true
  have h2 := ok_sample te3
  simp only [te3, List.map_cons, List.map_nil, rowB, buR] at h2 ⊢
  refine fun_ok (nt := 6) (rs := [.cell 0 27]) Try.func34 rfl rfl rfl (by simp) fun Z w0 => ?_; simp only [initFr, avR, List.map_cons, List.map_nil]
  refine tw ?_; try with_reducible intro QQ hQQ
  (refine cO 38 rfl rfl rfl (h1) Try.func38 rfl ?_); refine ts ?_; try clear hQQ QQ
  (refine cO 38 rfl rfl rfl (h3) Try.func38 rfl ?_); refine ts ?_; try clear hQQ QQ
  (refine cO 38 rfl rfl rfl (h4) Try.func38 rfl ?_); refine ts ?_; try clear hQQ QQ
  ((refine cB 31 rfl rfl rfl (h2) Try.func31 rfl ?_); refine tu ?_; try clear hQQ QQ); refine tw ?_; try with_reducible intro QQ hQQ
  refine aw_ret ?_; refine ⟨.inr rfl, ?_⟩; simp only [resA, res1, go_sem, ↓reduceIte]
theorem ok_alive : FunOK Try.prog 13 [] (.one (.one (.v (.bool true)))) := by
  have hs := ok_sample []
  have h1 := ok_second
  have h2 := ok_third
  have h3 := ok_clash34
  have r1 := Mobs_2
  have r2 := Bales_1
  have r3 := Clean_2
  have r4 := Pure_1
  have r5 := Count_0
  have r6 := Open_0
  have r7 := Next_1
  have r8 := Clash_3
  simp only [buR, List.map_nil] at hs h1 h2 h3 r1 r2 r3 r4 r5 r6 r7 r8
  generalize baS.map row2 = S at *
  generalize te1.map rowB = A at *
  generalize te2.map rowB = B at *
  generalize te3.map rowB = D at *
  refine fun_ok (nt := 143) (rs := [.tmp 0]) Try.func13 rfl rfl rfl (by simp) fun Z w0 => ?_; simp only [initFr, avR, List.map_cons, List.map_nil]
  refine tw ?_; try with_reducible intro QQ hQQ
  (refine cB 32 rfl rfl rfl (h2) Try.func32 rfl ?_); refine ts ?_; try clear hQQ QQ
  ((refine cO 14 rfl rfl rfl (r1) Try.func14 rfl ?_); refine tu ?_; try clear hQQ QQ); refine tw ?_; try with_reducible intro QQ hQQ
  (refine cB 33 rfl rfl rfl (h1) Try.func33 rfl ?_); refine ts ?_; try clear hQQ QQ
  ((refine cO 16 rfl rfl rfl (r2) Try.func16 rfl ?_); refine tu ?_; try clear hQQ QQ); refine tw ?_; try with_reducible intro QQ hQQ
  (refine cB 32 rfl rfl rfl (h2) Try.func32 rfl ?_); refine ts ?_; try clear hQQ QQ
  ((refine cO 18 rfl rfl rfl (r3) Try.func18 rfl ?_); refine tu ?_; try clear hQQ QQ); refine tw ?_; try with_reducible intro QQ hQQ
  (refine cB 33 rfl rfl rfl (h1) Try.func33 rfl ?_); refine ts ?_; try clear hQQ QQ
  ((refine cO 20 rfl rfl rfl (r4) Try.func20 rfl ?_); refine tu ?_; try clear hQQ QQ); refine tw ?_; try with_reducible intro QQ hQQ
  (refine cB 31 rfl rfl rfl (hs) Try.func31 rfl ?_); refine ts ?_; try clear hQQ QQ
  ((refine cO 22 rfl rfl rfl (r5) Try.func22 rfl ?_); refine tu ?_; try clear hQQ QQ); refine tw ?_; try with_reducible intro QQ hQQ
  (refine cB 31 rfl rfl rfl (hs) Try.func31 rfl ?_); refine ts ?_; try clear hQQ QQ
  ((refine cO 25 rfl rfl rfl (r6) Try.func25 rfl ?_); refine tu ?_; try clear hQQ QQ); refine tw ?_; try with_reducible intro QQ hQQ
  (refine cB 33 rfl rfl rfl (h1) Try.func33 rfl ?_); refine ts ?_; try clear hQQ QQ
  ((refine cO 27 rfl rfl rfl (r7) Try.func27 rfl ?_); refine tu ?_; try clear hQQ QQ); refine tw ?_; try with_reducible intro QQ hQQ
  (refine cB 34 rfl rfl rfl (h3) Try.func34 rfl ?_); refine ts ?_; try clear hQQ QQ
  ((refine cO 29 rfl rfl rfl (r8) Try.func29 rfl ?_); refine tu ?_; try clear hQQ QQ); refine tw ?_; try with_reducible intro QQ hQQ
  try simp only [List.append_eq, List.cons_append, List.nil_append]
  refine tw ?_; try with_reducible intro QQ hQQ
  refine aw_ret ?_; refine ⟨.inr rfl, ?_⟩; simp only [resA, res1, go_sem, ↓reduceIte]
end Go.Proofs.Ytknikcpeacmpmaa
