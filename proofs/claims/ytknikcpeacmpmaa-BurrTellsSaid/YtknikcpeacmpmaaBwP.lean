/- THE LAW BurrTells, walked. -/
import Derived.Test.YtknikcpeacmpmaaBwO
set_option linter.all false
namespace Go.Proofs.Ytknikcpeacmpmaa
open Go Go.RowKit Go.Sh Go.Pv
set_option maxHeartbeats 8000000
set_option maxRecDepth 8000
set_option pp.maxSteps 60000
section
variable {n lo hi top : Int} {bales : List (Int × Int)} {tests : List (Int × Bool)}
theorem main_tells : FunOK Try.prog 3 [buR n lo hi top bales tests] (.one (.one (.v (.bool true)))) := by
  have hal := ok_alive
  have hl := ok_long n lo hi top bales tests
  have a1 := ok_Mobs (n := n) (lo := lo) (hi := hi) (top := top) (bales := bales) (tests := tests)
  have a2 := ok_MobsR (n := n) (lo := lo) (hi := hi) (top := top) (bales := bales) (tests := tests)
  have a3 := ok_Bales (n := n) (lo := lo) (hi := hi) (top := top) (bales := bales) (tests := tests)
  have a4 := ok_BalesR (n := n) (lo := lo) (hi := hi) (top := top) (bales := bales) (tests := tests)
  have a5 := ok_Clean (n := n) (lo := lo) (hi := hi) (top := top) (bales := bales) (tests := tests)
  have a6 := ok_CleanR (n := n) (lo := lo) (hi := hi) (top := top) (bales := bales) (tests := tests)
  have a7 := ok_Pure (n := n) (lo := lo) (hi := hi) (top := top) (bales := bales) (tests := tests)
  have a8 := ok_PureR (n := n) (lo := lo) (hi := hi) (top := top) (bales := bales) (tests := tests)
  have a9 := ok_Count (n := n) (lo := lo) (hi := hi) (top := top) (bales := bales) (tests := tests)
  have a10 := ok_CountR (n := n) (lo := lo) (hi := hi) (top := top) (bales := bales) (tests := tests)
  simp only [buR, ansR, ansN] at *
  generalize (if whyT n lo hi top bales tests = 0 then (mobA n lo hi bales tests).1 else 0) = v1 at *
  generalize (if whyT n lo hi top bales tests = 0 then (mobA n lo hi bales tests).2 else 0) = v2 at *
  generalize (if whyT n lo hi top bales tests = 0 then (balA n lo hi bales tests).1 else 0) = v3 at *
  generalize (if whyT n lo hi top bales tests = 0 then (balA n lo hi bales tests).2 else 0) = v4 at *
  generalize (if whyT n lo hi top bales tests = 0 then cleanA n lo hi top bales tests else 0) = v5 at *
  generalize (if whyT n lo hi top bales tests = 0 then pureA n lo hi top bales tests else 0) = v6 at *
  generalize (if whyV n lo hi top bales tests = 0 then ((cntB n lo hi bales tests : Nat) : Int) else 0) = v7 at *
  generalize whyT n lo hi top bales tests = e1 at *
  generalize whyV n lo hi top bales tests = e2 at *
  cases b1 : decide (40 < max bales.length tests.length)
  rotate_left
  · rw [b1] at hl
    refine fun_ok (nt := 145) (rs := [.tmp 2]) Try.func3 rfl rfl rfl (by simp) fun Z w0 => ?_; simp only [initFr, avR, List.map_cons, List.map_nil]
    try simp only [List.append_eq, List.cons_append, List.nil_append]
    refine tw ?_; try with_reducible intro QQ hQQ
    ((refine cO 12 rfl rfl rfl (hl) Try.func12 rfl ?_); refine tu ?_; try clear hQQ QQ); refine tw ?_; try with_reducible intro QQ hQQ
    refine ti ?_; try clear hQQ QQ
    refine tw ?_; try with_reducible intro QQ hQQ
    ((refine cO 13 rfl rfl rfl (hal) Try.func13 rfl ?_); refine tu ?_; try clear hQQ QQ); refine tw ?_; try with_reducible intro QQ hQQ
    refine aw_ret ?_; refine ⟨.inr rfl, ?_⟩; simp only [resA, res1, go_sem, ↓reduceIte]
  rw [b1] at hl
  refine fun_ok (nt := 145) (rs := [.tmp 2]) Try.func3 rfl rfl rfl (by simp) fun Z w0 => ?_; simp only [initFr, avR, List.map_cons, List.map_nil]
  try simp only [List.append_eq, List.cons_append, List.nil_append]
  refine tw ?_; try with_reducible intro QQ hQQ
  ((refine cO 12 rfl rfl rfl (hl) Try.func12 rfl ?_); refine tu ?_; try clear hQQ QQ); refine tw ?_; try with_reducible intro QQ hQQ
  refine ti ?_; try clear hQQ QQ
  refine tw ?_; try with_reducible intro QQ hQQ
  ((refine cO 14 rfl rfl rfl (a1) Try.func14 rfl ?_); refine tu ?_; try clear hQQ QQ); refine tw ?_; try with_reducible intro QQ hQQ
  ((refine cO 15 rfl rfl rfl (a2) Try.func15 rfl ?_); refine tu ?_; try clear hQQ QQ); refine tw ?_; try with_reducible intro QQ hQQ
  ((refine cO 16 rfl rfl rfl (a3) Try.func16 rfl ?_); refine tu ?_; try clear hQQ QQ); refine tw ?_; try with_reducible intro QQ hQQ
  ((refine cO 17 rfl rfl rfl (a4) Try.func17 rfl ?_); refine tu ?_; try clear hQQ QQ); refine tw ?_; try with_reducible intro QQ hQQ
  ((refine cO 18 rfl rfl rfl (a5) Try.func18 rfl ?_); refine tu ?_; try clear hQQ QQ); refine tw ?_; try with_reducible intro QQ hQQ
  ((refine cO 19 rfl rfl rfl (a6) Try.func19 rfl ?_); refine tu ?_; try clear hQQ QQ); refine tw ?_; try with_reducible intro QQ hQQ
  ((refine cO 20 rfl rfl rfl (a7) Try.func20 rfl ?_); refine tu ?_; try clear hQQ QQ); refine tw ?_; try with_reducible intro QQ hQQ
  ((refine cO 21 rfl rfl rfl (a8) Try.func21 rfl ?_); refine tu ?_; try clear hQQ QQ); refine tw ?_; try with_reducible intro QQ hQQ
  ((refine cO 22 rfl rfl rfl (a9) Try.func22 rfl ?_); refine tu ?_; try clear hQQ QQ); refine tw ?_; try with_reducible intro QQ hQQ
  ((refine cO 23 rfl rfl rfl (a10) Try.func23 rfl ?_); refine tu ?_; try clear hQQ QQ); refine tw ?_; try with_reducible intro QQ hQQ
  try simp only [List.append_eq, List.cons_append, List.nil_append]
  refine tw ?_; try with_reducible intro QQ hQQ
  ((refine cO 13 rfl rfl rfl (hal) Try.func13 rfl ?_); refine tu ?_; try clear hQQ QQ); refine tw ?_; try with_reducible intro QQ hQQ
  refine aw_ret ?_; refine ⟨.inr rfl, ?_⟩; simp only [resA, res1, go_sem, ↓reduceIte]
end
end Go.Proofs.Ytknikcpeacmpmaa
