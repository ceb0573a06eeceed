/- tally: what is told, and of what is counted. -/
import Derived.Test.YtejbglbiefpagaaTvF
set_option linter.all false
namespace Go.Proofs.Ytejbglbiefpagaa
open Go Go.RowKit Go.Sh Go.Pv
set_option maxHeartbeats 8000000
set_option maxRecDepth 20000
section
variable {N : Nat} {most : Int} {strays : List (Int × Int)} {calls : List (Int × Int × Int × Int)}
theorem every_lt (h : TOK N most strays calls) : 2 ^ calls.length - 1 < 2 ^ 63 := by
  have hp2 : 2 ^ calls.length ≤ 2 ^ 8 := Nat.pow_le_pow_right (by decide) h.cl
  have : (2 : Nat) ^ 8 < 2 ^ 63 := by decide
  omega
theorem s_told (h : TOK N most strays calls) (hc : canB (tabF N most strays calls (2 ^ calls.length - 1)) 11 = true) :
    FunS Try.prog 61 [.one (.box 0 0)] (ydH N most strays calls (keepI (tabF N most strays calls)) Try.prog) 2 (.one (.agg ((mk (tabF N most strays calls (2 ^ calls.length - 1))).map iP))) := by
  have hev := ok_every N most strays calls h.cl
  have hst := s_table h (2 ^ calls.length - 1) (every_lt h)
  have hcan := ok_can (tabF N most strays calls (2 ^ calls.length - 1))
  rw [hc] at hcan
  simp only [ydP] at hev
  generalize (2 ^ calls.length - 1) = E at *
  unfold ydH ydC
  refine funS_ok (nt := 12) (rs := [.cell 2 92]) Try.func61 rfl rfl rfl (by simp) fun Z w0 cap pan dk tm => ?_; simp only [initV, pins, pinOf, List.map_cons, List.map_nil]
  refine tw ?_; try with_reducible intro QQ hQQ
  (refine cO 84 rfl rfl rfl (hev) Try.func84 rfl ?_); refine ts ?_; try clear hQQ QQ
  (refine callO_S [0, 1] (hst) rfl rfl (by simp (disch := first | decide | omega) only [go_sem, ↓reduceIte]; try rfl) (by simp (disch := first | decide | omega) only [go_sem, ↓reduceIte]; try rfl) Try.func83 rfl (by decide) (by rfl) (by repeat' (first | trivial | apply And.intro | (simp (disch := first | decide | omega) only [go_sem, ↓reduceIte]; first | done | rfl))) (by decide) (by decide) (by first | rfl | (simp (disch := first | decide | omega) only [go_sem, ↓reduceIte]; try rfl)) ?_); refine ts ?_; try clear hQQ QQ
  refine tw ?_; try with_reducible intro QQ hQQ
  (refine cO 85 rfl rfl rfl (hcan) Try.func85 rfl ?_); refine ts ?_; try clear hQQ QQ
  ((refine cO 96 rfl rfl rfl (ok_must 10) Try.func96 rfl ?_); refine tu ?_; try clear hQQ QQ); refine tw ?_; try with_reducible intro QQ hQQ
  (refine aw_ret ⟨.inr rfl, (by simp (maxSteps := 400000) (disch := first | decide | omega) only [go_sem, ↓reduceIte]; try rfl), (by simp (maxSteps := 400000) (disch := first | decide | omega) only [go_sem, ↓reduceIte]; try rfl), (by simp only [List.mem_cons, List.mem_nil_iff, forall_eq_or_imp, forall_eq, false_imp_iff, implies_true, or_false, and_true]; simp (maxSteps := 400000) (disch := first | decide | omega) only [go_sem, ↓reduceIte]; try exact ⟨rfl, rfl⟩)⟩)
theorem sx_told (h : TOK N most strays calls) (hc : canB (tabF N most strays calls (2 ^ calls.length - 1)) 11 = false) :
    FunSX Try.prog 61 [.one (.box 0 0)] (ydH N most strays calls (keepI (tabF N most strays calls)) Try.prog) 2 (stopV 10) := by
  have hev := ok_every N most strays calls h.cl
  have hst := s_table h (2 ^ calls.length - 1) (every_lt h)
  have hcan := ok_can (tabF N most strays calls (2 ^ calls.length - 1))
  rw [hc] at hcan
  simp only [ydP] at hev
  generalize (2 ^ calls.length - 1) = E at *
  unfold ydH ydC
  refine funSX_ok (nt := 12) Try.func61 rfl rfl (by simp) fun Z w0 cap dk tm => ?_; simp only [initV, pins, pinOf, List.map_cons, List.map_nil]
  refine tw ?_; try with_reducible intro QQ hQQ
  (refine cO 84 rfl rfl rfl (hev) Try.func84 rfl ?_); refine ts ?_; try clear hQQ QQ
  (refine callO_S [0, 1] (hst) rfl rfl (by simp (disch := first | decide | omega) only [go_sem, ↓reduceIte]; try rfl) (by simp (disch := first | decide | omega) only [go_sem, ↓reduceIte]; try rfl) Try.func83 rfl (by decide) (by rfl) (by repeat' (first | trivial | apply And.intro | (simp (disch := first | decide | omega) only [go_sem, ↓reduceIte]; first | done | rfl))) (by decide) (by decide) (by first | rfl | (simp (disch := first | decide | omega) only [go_sem, ↓reduceIte]; try rfl)) ?_); refine ts ?_; try clear hQQ QQ
  refine tw ?_; try with_reducible intro QQ hQQ
  (refine cO 85 rfl rfl rfl (hcan) Try.func85 rfl ?_); refine ts ?_; try clear hQQ QQ
  (refine ⟨rfl, .inr ⟨rfl, callS_x rfl 96 ⟨by simp (disch := first | decide | omega) only [go_sem, ↓reduceIte]; try rfl, by simp (disch := first | decide | omega) only [go_sem, ↓reduceIte]; try rfl⟩ Try.func96 rfl (by decide) (x_must 10) ?_⟩⟩)
  refine ⟨rfl, by simp (disch := first | decide | omega) only [go_sem, ↓reduceIte], ?_⟩
  simp only [List.mem_cons, List.mem_nil_iff, forall_eq_or_imp, forall_eq, false_imp_iff, implies_true, or_false, and_true]
  simp (disch := first | decide | omega) only [go_sem, ↓reduceIte]
/-- The span of what lies between two numbers. -/
def spanR (f : Nat → Nat → Int) (a b : Nat) : RR := .one (.agg [iP (-(f b a)), iP (f a b)])
theorem tab_bd (h : TOK N most strays calls) (set : Nat) : ∀ i j, i < 11 → j < 11 → -4611686018427387904 ≤ tabF N most strays calls set i j ∧ tabF N most strays calls set i j ≤ 4611686018427387904 := by
  intro i j hi hj
  have hs := h.sl
  have h5 := h.n5
  have hc := h.cl
  have := inB_far (inB_F2 h (set := set) calls.length (Nat.le_refl _)) (by omega) i j hi hj
  unfold tabF
  omega
theorem s_of0 (h : TOK N most strays calls) (hc : canB (tabF N most strays calls (2 ^ calls.length - 1)) 11 = true) (a b : Nat) (ha : a < 11) (hb : b < 11) (x y : Int) (hx : x = a) (hy : y = b) :
    FunS Try.prog 51 [.one (.box 0 0), .one (.p (.v (cntV 0 x y)))] (ydH N most strays calls (keepI (tabF N most strays calls)) Try.prog) 2 (spanR (tabF N most strays calls (2 ^ calls.length - 1)) b a) := by
  subst hx hy
  have hto := s_told h hc
  have hen := ok_endsS (.ptr [iP N, iP most, .sl (strays.map row2), .sl (calls.map row4), .any]) a b
  have hsp := ok_span (tabF N most strays calls (2 ^ calls.length - 1)) b a 0 0 hb ha (tab_bd h _ a b ha hb)
  generalize (2 ^ calls.length - 1) = E at *
  unfold ydH ydC cntV spanR
  simp only [one_ne_zero2, show ((0 : Int) = 1) = False by simp, ↓reduceIte]
  refine funS_ok (nt := 14) (rs := [.cell 4 27]) Try.func51 rfl rfl rfl (by simp) fun Z w0 cap pan dk tm => ?_; simp only [initV, pins, pinOf, List.map_cons, List.map_nil]
  refine tw ?_; try with_reducible intro QQ hQQ
  (refine callO_S [0, 1] (hto) rfl rfl (by simp (disch := first | decide | omega) only [go_sem, ↓reduceIte]; try rfl) (by simp (disch := first | decide | omega) only [go_sem, ↓reduceIte]; try rfl) Try.func61 rfl (by decide) (by rfl) (by repeat' (first | trivial | apply And.intro | (simp (disch := first | decide | omega) only [go_sem, ↓reduceIte]; first | done | rfl))) (by decide) (by decide) (by first | rfl | (simp (disch := first | decide | omega) only [go_sem, ↓reduceIte]; try rfl)) ?_); refine ts ?_; try clear hQQ QQ
  refine tw ?_; try with_reducible intro QQ hQQ
  (refine ⟨rfl, .inr ⟨rfl, callS_invoke (any := true) rfl rfl (by simp (disch := first | decide | omega) only [go_sem, ↓reduceIte]; try rfl) 132 (fun _ => by kernel_rfl) relR_two (by simp (disch := first | decide | omega) only [go_sem, ↓reduceIte]; try rfl) Try.func132 rfl (by decide) (fun _ => rfl) (hen) ?_⟩⟩); refine ts ?_; try clear hQQ QQ
  (refine ⟨rfl, .inr ⟨rfl, callS_bound (any := true) rfl rfl 62 (by simp (disch := first | decide | omega) only [go_sem, ↓reduceIte]; try rfl) (by simp (disch := first | decide | omega) only [go_sem, ↓reduceIte]; try rfl) Try.func62 rfl (by decide) (fun _ => rfl) (hsp) ?_⟩⟩); refine ts ?_; try clear hQQ QQ
  refine tw ?_; try with_reducible intro QQ hQQ
  (refine aw_ret ⟨.inr rfl, (by simp (maxSteps := 400000) (disch := first | decide | omega) only [go_sem, ↓reduceIte]; try rfl), (by simp (maxSteps := 400000) (disch := first | decide | omega) only [go_sem, ↓reduceIte]; try rfl), (by simp only [List.mem_cons, List.mem_nil_iff, forall_eq_or_imp, forall_eq, false_imp_iff, implies_true, or_false, and_true]; simp (maxSteps := 400000) (disch := first | decide | omega) only [go_sem, ↓reduceIte]; try exact ⟨rfl, rfl⟩)⟩)
theorem s_of1 (h : TOK N most strays calls) (hc : canB (tabF N most strays calls (2 ^ calls.length - 1)) 11 = true) (a b : Nat) (ha : a ≤ N) (hb : b ≤ N) (x y : Int) (hx : x = a) (hy : y = b) :
    FunS Try.prog 51 [.one (.box 0 0), .one (.p (.v (cntV 1 x y)))] (ydH N most strays calls (keepI (tabF N most strays calls)) Try.prog) 2 (spanR (tabF N most strays calls (2 ^ calls.length - 1)) (posM N b) (posM N a)) := by
  subst hx hy
  have h5 := h.n5
  have hto := s_told h hc
  have hen := ok_endsI N most strays calls a b (by omega) (by omega)
  simp only [ydP, posM_cast] at hen
  have hsp := ok_span (tabF N most strays calls (2 ^ calls.length - 1)) (posM N b) (posM N a) 0 0 (posM_lt h5 hb) (posM_lt h5 ha) (tab_bd h _ _ _ (posM_lt h5 ha) (posM_lt h5 hb))
  generalize (2 ^ calls.length - 1) = E at *
  unfold ydH ydC cntV spanR
  simp only [↓reduceIte]
  refine funS_ok (nt := 14) (rs := [.cell 4 27]) Try.func51 rfl rfl rfl (by simp) fun Z w0 cap pan dk tm => ?_; simp only [initV, pins, pinOf, List.map_cons, List.map_nil]
  refine tw ?_; try with_reducible intro QQ hQQ
  (refine callO_S [0, 1] (hto) rfl rfl (by simp (disch := first | decide | omega) only [go_sem, ↓reduceIte]; try rfl) (by simp (disch := first | decide | omega) only [go_sem, ↓reduceIte]; try rfl) Try.func61 rfl (by decide) (by rfl) (by repeat' (first | trivial | apply And.intro | (simp (disch := first | decide | omega) only [go_sem, ↓reduceIte]; first | done | rfl))) (by decide) (by decide) (by first | rfl | (simp (disch := first | decide | omega) only [go_sem, ↓reduceIte]; try rfl)) ?_); refine ts ?_; try clear hQQ QQ
  refine tw ?_; try with_reducible intro QQ hQQ
  (refine ⟨rfl, .inr ⟨rfl, callS_invoke (any := true) rfl rfl (by simp (disch := first | decide | omega) only [go_sem, ↓reduceIte]; try rfl) 133 (fun _ => by kernel_rfl) relR_two (by simp (disch := first | decide | omega) only [go_sem, ↓reduceIte]; try rfl) Try.func133 rfl (by decide) (fun _ => rfl) (hen) ?_⟩⟩); refine ts ?_; try clear hQQ QQ
  (refine ⟨rfl, .inr ⟨rfl, callS_bound (any := true) rfl rfl 62 (by simp (disch := first | decide | omega) only [go_sem, ↓reduceIte]; try rfl) (by simp (disch := first | decide | omega) only [go_sem, ↓reduceIte]; try rfl) Try.func62 rfl (by decide) (fun _ => rfl) (hsp) ?_⟩⟩); refine ts ?_; try clear hQQ QQ
  refine tw ?_; try with_reducible intro QQ hQQ
  (refine aw_ret ⟨.inr rfl, (by simp (maxSteps := 400000) (disch := first | decide | omega) only [go_sem, ↓reduceIte]; try rfl), (by simp (maxSteps := 400000) (disch := first | decide | omega) only [go_sem, ↓reduceIte]; try rfl), (by simp only [List.mem_cons, List.mem_nil_iff, forall_eq_or_imp, forall_eq, false_imp_iff, implies_true, or_false, and_true]; simp (maxSteps := 400000) (disch := first | decide | omega) only [go_sem, ↓reduceIte]; try exact ⟨rfl, rfl⟩)⟩)
theorem sx_of (h : TOK N most strays calls) (hc : canB (tabF N most strays calls (2 ^ calls.length - 1)) 11 = false) (v : Value) :
    FunSX Try.prog 51 [.one (.box 0 0), .one (.p (.v v))] (ydH N most strays calls (keepI (tabF N most strays calls)) Try.prog) 2 (stopV 10) := by
  have hto := sx_told h hc
  generalize (2 ^ calls.length - 1) = E at *
  unfold ydH ydC
  refine funSX_ok (nt := 14) Try.func51 rfl rfl (by simp) fun Z w0 cap dk tm => ?_; simp only [initV, pins, pinOf, List.map_cons, List.map_nil]
  refine tw ?_; try with_reducible intro QQ hQQ
  refine callO_SX [0, 1] hto rfl rfl (by simp (disch := first | decide | omega) only [go_sem, ↓reduceIte]; try rfl) (by simp (disch := first | decide | omega) only [go_sem, ↓reduceIte]; try rfl) Try.func61 rfl (by decide) (by rfl) (by repeat' (first | trivial | apply And.intro | (simp (disch := first | decide | omega) only [go_sem, ↓reduceIte]; first | done | rfl))) (by decide) (by decide) (by first | rfl | (simp (disch := first | decide | omega) only [go_sem, ↓reduceIte]; try rfl)) ?_
  refine ⟨rfl, by simp (disch := first | decide | omega) only [go_sem, ↓reduceIte], ?_⟩
  simp only [List.mem_cons, List.mem_nil_iff, forall_eq_or_imp, forall_eq, false_imp_iff, implies_true, or_false, and_true]
  simp (disch := first | decide | omega) only [go_sem, ↓reduceIte]
end
end Go.Proofs.Ytejbglbiefpagaa
