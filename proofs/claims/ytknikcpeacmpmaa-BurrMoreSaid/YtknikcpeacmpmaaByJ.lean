/- THE LAW BurrMore, walked: what is answered of the bales given. -/
import Derived.Test.YtknikcpeacmpmaaByI
set_option linter.all false
namespace Go.Proofs.Ytknikcpeacmpmaa
open Go Go.RowKit Go.Sh Go.Pv
set_option maxHeartbeats 8000000
set_option maxRecDepth 8000
set_option pp.maxSteps 60000
section
variable {N L U T T' : Nat} {bales bz : List (Int × Int)} {tests tz : List (Int × Bool)}
theorem more_tail1 {a c d f d' f' cnt many x' xb pu : Nat} {e : Int} (hb6 : bales.length ≤ 6) (ht6 : tests.length ≤ 6) (bq : Nat → List (Int × Int)) (tq : Nat → List (Int × Bool))
    (gM : FunOK Try.prog 14 [buR N L U T bales tests] (.tup [.one (iP a), .one (iP c), .one (iP e)])) (gA : FunOK Try.prog 16 [buR N L U T bales tests] (.tup [.one (iP d), .one (iP f), .one (iP e)]))
    (gC : FunOK Try.prog 22 [buR N L U T bales tests] (.tup [.one (iP cnt), .one (iP 0)])) (gO : FunOK Try.prog 25 [buR N L U T bales tests] (.tup [.one (iP many), .one (iP xb), .one (iP e)])) (gP : FunOK Try.prog 20 [buR N L U T bales tests] (.tup [.one (iP pu), .one (iP e)]))
    (hQ : ∀ i, i < 2 → QNo (buR N L U T (bq i) (tq i)) ∨ Q10 (buR N L U T (bq i) (tq i)) ∨ ∃ m p s t v few fs mo, Q0 (buR N L U T (bq i) (tq i)) i a c d f cnt many pu e m p s t v few fs mo)
    (hM : FunOK Try.prog 14 [buR N L U T' bz tz] (.tup [.one (iP a), .one (iP c), .one (iP e)])) (hA : FunOK Try.prog 16 [buR N L U T' bz tz] (.tup [.one (iP d'), .one (iP f'), .one (iP e)]))
    (hC : FunOK Try.prog 22 [buR N L U T' bz tz] (.tup [.one (iP cnt), .one (iP 0)])) (hO : FunOK Try.prog 25 [buR N L U T' bz tz] (.tup [.one (iP many), .one (iP x'), .one (iP e)]))
    (hd : FunS Try.prog 45 [.one (.p (iP d)), .one (.box 0 0)] [(0, .box [.p (iP bales.length)])] 1 (.one (.one (iP d')))) (hf : FunS Try.prog 45 [.one (.p (iP f)), .one (.box 0 0)] [(0, .box [.p (iP bales.length)])] 1 (.one (.one (iP f')))) (Z : Zn) (w0 : World) :
    AW ⟨Try.prog, Z, w0, fun _ => False, 463, none, noPan, none, [], true⟩ (rgtN 13 (fnCode Try.f11)) QT6 ⟨[(3, .one (.box 0 0)), (9, .one (.box 2 0)), (10, .one (.box 3 0)), (11, .one (.box 4 0)), (14, .one (.fn 45 [.box 1])), (18, .one (.p (.sl (bales.map row2)))), (19, .one (.p (.sl (tests.map rowB))))], [(0, bxC N L U T bales tests), (1, .box [.p (iP bales.length)]), (2, bxC N L U T (bq 0) (tq 0)), (3, bxC N L U T (bq 1) (tq 1)), (4, bxC N L U T' bz tz)], 5⟩ := by
  have h2 := more_tail2 (T := T) hb6 ht6 bq tq hQ hM hA hC hO hd hf Z w0
  clear hM hA hC hO hd hf hQ
  simp only [bxC, buR] at *
  conv => arg 2; whnf
  try simp only [List.append_eq, List.cons_append, List.nil_append]
  refine tw ?_; try with_reducible intro QQ hQQ
  ((refine cO 14 rfl rfl rfl (gM) Try.func14 rfl ?_); refine tu ?_; try clear hQQ QQ); refine tw ?_; try with_reducible intro QQ hQQ
  ((refine cO 16 rfl rfl rfl (gA) Try.func16 rfl ?_); refine tu ?_; try clear hQQ QQ); refine tw ?_; try with_reducible intro QQ hQQ
  ((refine cO 22 rfl rfl rfl (gC) Try.func22 rfl ?_); refine tu ?_; try clear hQQ QQ); refine tw ?_; try with_reducible intro QQ hQQ
  ((refine cO 25 rfl rfl rfl (gO) Try.func25 rfl ?_); refine tu ?_; try clear hQQ QQ); refine tw ?_; try with_reducible intro QQ hQQ
  ((refine cO 20 rfl rfl rfl (gP) Try.func20 rfl ?_); refine tu ?_; try clear hQQ QQ); refine tw ?_; try with_reducible intro QQ hQQ
  refine ti ?_; try clear hQQ QQ
  (refine aw_skip ?_); (repeat with_reducible first | apply then_n | apply block_n | apply then_x | apply then_r | apply nog_n | apply nog_r | apply block_r | apply block_e (by decide) | apply block_x (by decide))
  refine aw_weak (weak_round (T := ⟨[(3, .one (.box 0 0)), (9, .one (.box 2 0)), (10, .one (.box 3 0)), (11, .one (.box 4 0)), (14, .one (.fn 45 [.box 1])), (18, .one (.p (.sl (bales.map row2)))), (19, .one (.p (.sl (tests.map rowB)))), (20, .one (.p (iP a))), (21, .one (.p (iP c))), (22, .one (.p (iP e))), (23, .one (.p (iP d))), (24, .one (.p (iP f))), (25, .one (.p (iP e))), (26, .one (.p (iP cnt))), (27, .one (.p (iP 0))), (28, .one (.p (iP many))), (30, .one (.p (iP e))), (31, .one (.p (iP pu)))], [(0, .box [.p (iP N), .p (iP L), .p (iP U), .p (.sl (bales.map row2)), .p (iP T), .p (.sl (tests.map rowB))]), (1, .box [.p (iP bales.length)]), (2, .box [.p (iP N), .p (iP L), .p (iP U), .p (.sl ((bq 0).map row2)), .p (iP T), .p (.sl ((tq 0).map rowB))]), (3, .box [.p (iP N), .p (iP L), .p (iP U), .p (.sl ((bq 1).map row2)), .p (iP T), .p (.sl ((tq 1).map rowB))]), (4, .box [.p (iP N), .p (iP L), .p (iP U), .p (.sl (bz.map row2)), .p (iP T'), .p (.sl (tz.map rowB))])], 5⟩) (by simp only [go_sem, ↓reduceIte]; try rfl) (by first | rfl | (simp only [go_sem, ↓reduceIte]))) ?_
  exact h2
end
end Go.Proofs.Ytknikcpeacmpmaa
