/- classer: the document's hull. -/
import Derived.Test.YtgdhdikeicgndaaWcH
import Derived.Test.YtgdhdikeicgndaaKcx18
import Derived.Test.YtgdhdikeicgndaaKwa11
set_option linter.all false
namespace Go.Proofs.Ytgdhdikeicgndaa
open Go Go.RowKit Go.Sh Go.Pv Go.Cl
set_option maxHeartbeats 2000000
set_option maxRecDepth 20000
set_option pp.maxSteps 60000
attribute [local go_sem] rowN rowsK_rN get_someN
theorem ok_hull (l : List Nat) (h0 : 0 < l.length) (hl : l.length ≤ 100000000000) : FunOK Try.prog 50 [.one (.sl (l.map rowN))] (.one (.agg [iP (((hullR l l.length).1 : Nat) : Int), iP (((hullR l l.length).2 : Nat) : Int)])) := by
  have hz : hullR l 0 = (l.getD 0 0, l.getD 0 0) := rfl
  have hs : ∀ i, hullR l (i + 1) = (min (hullR l i).1 (l.getD i 0), max (hullR l i).2 (l.getD i 0)) := fun i => rfl
  have hll : (l.map rowN).length = l.length := List.length_map _
  generalize hullR l = H at *
  refine fun_ok (nt := 34) (rs := [.cell 2 28]) Try.func50 rfl rfl rfl (by simp) fun Z w0 => ?_; simp only [initFr, avR, List.map_cons, List.map_nil]
  try clear hF
  have hF := And.intro hz (hll)
  refine twF ?_; try with_reducible intro QQ hQQ
  refine aw_weak (weak_keep [0, 2, 3, 4] (by simp only [hF, go_sem, ↓reduceIte]; rfl)) ?_
  refine aw_loop_ov (ι := { i : Nat // i ≤ l.length }) (fun i => [(4, iA i.1)]) (fun i => [(1, .box [.p (iP (((H i.1).1 : Nat) : Int)), .p (iP (((H i.1).2 : Nat) : Int))])]) (fun i => l.length - i.1) ⟨0, by omega⟩ (by first | rfl | (simp only [hF, go_sem, ↓reduceIte]; first | done | rfl | (simp; try rfl))) ?_
  rintro ⟨i, hi⟩
  simp (disch := decide) only [ov, ovL, AL.get_nil, AL.get_eq, AL.get_ne, Option.getD_some, Option.getD_none]
  by_cases hil : i < l.length
  · have hss := hs i
    have hmin : (if ((l.getD i 0 : Nat) : Int) < (((H i).1 : Nat) : Int) then ((l.getD i 0 : Nat) : Int) else (((H i).1 : Nat) : Int)) = ((min (H i).1 (l.getD i 0) : Nat) : Int) := by split <;> omega
    have hmax : (if ((l.getD i 0 : Nat) : Int) > (((H i).2 : Nat) : Int) then ((l.getD i 0 : Nat) : Int) else (((H i).2 : Nat) : Int)) = ((max (H i).2 (l.getD i 0) : Nat) : Int) := by split <;> omega
    try clear hF
    have hF := And.intro hmin (And.intro hmax (hll))
    refine twF ?_; try with_reducible intro QQ hQQ
    refine tiF ?_; try clear hQQ QQ
    refine twF ?_; try with_reducible intro QQ hQQ
    refine ⟨⟨i + 1, by omega⟩, ?_, weak_round ?_ (by first | rfl | (simp only [hF, go_sem, ↓reduceIte]))⟩
    rotate_left
    · simp only [hss]
      (simp only [hF, go_sem, ↓reduceIte]; try rfl)
    · simp only; omega
  · have : i = l.length := by omega
    subst this
    try clear hF
    have hF := hll
    refine twF ?_; try with_reducible intro QQ hQQ
    refine tiF ?_; try clear hQQ QQ
    refine twF ?_; try with_reducible intro QQ hQQ
    refine aw_ret ?_; refine ⟨.inr rfl, ?_⟩; simp only [resA, res1, go_sem, ↓reduceIte]
end Go.Proofs.Ytgdhdikeicgndaa
