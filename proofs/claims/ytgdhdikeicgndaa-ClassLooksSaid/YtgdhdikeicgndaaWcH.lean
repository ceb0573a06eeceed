/- classer: the document's far and Cost. -/
import Derived.Test.YtgdhdikeicgndaaWcG
import Derived.Test.YtgdhdikeicgndaaCxK
set_option linter.all false
namespace Go.Proofs.Ytgdhdikeicgndaa
open Go Go.RowKit Go.Sh Go.Pv Go.Cl
set_option maxHeartbeats 2000000
set_option maxRecDepth 20000
set_option pp.maxSteps 60000
theorem ok_farD (a b : Nat) (ha : a ≤ 1000) (hb : b ≤ 1000) : FunOK Try.prog 98 [.one (iP (a : Int)), .one (iP (b : Int))] (.one (.one (iP ((farN a b : Nat) : Int)))) := by
  have he : (if (b : Int) - (a : Int) > (a : Int) - (b : Int) then (b : Int) - (a : Int) else (a : Int) - (b : Int)) = ((farN a b : Nat) : Int) := by unfold farN; split <;> omega
  have he2 : (if (b : Int) - (a : Int) > (a : Int) - (b : Int) then ((b - a : Nat) : Int) else ((a - b : Nat) : Int)) = ((farN a b : Nat) : Int) := by unfold farN; split <;> omega
  generalize farN a b = f at *
  refine fun_ok (nt := 12) (rs := [.tmp 4]) Try.func98 rfl rfl rfl (by simp) fun Z w0 => ?_; simp only [initFr, avR, List.map_cons, List.map_nil]
  try clear hF
  have hF := And.intro he (he2)
  refine twF ?_; try with_reducible intro QQ hQQ
  refine aw_ret ?_; refine ⟨.inr rfl, ?_⟩; simp only [resA, res1, go_sem, ↓reduceIte]
theorem ok_CostD (b : Nat × Nat × Nat) (w : Nat) (h0 : b.1 ≤ 30) (h1 : b.2.1 ≤ b.1) (h2 : b.2.2 ≤ b.2.1) (hw : w ≤ b.1) : FunOK Try.prog 99 [.agg [iP (b.1 : Int), iP (b.2.1 : Int), iP (b.2.2 : Int)], .one (iP (w : Int))] (.one (.one (iP ((costB b w : Nat) : Int)))) := by
  rw [← cst_cost h1 h2 hw]
  have hf := fun s (hs : s ≤ 30) => ok_farD s b.2.2 (by omega) (by omega)
  have hst : ∀ s, cstL b w (s + 1) = if s ≤ w ∧ b.2.1 - s ≤ b.1 - w then min (cstL b w s) (farN s b.2.2) else cstL b w s := fun s => rfl
  have hz : cstL b w 0 = b.2.1 + 1 := rfl
  have hbd := cstL_bd b w
  obtain ⟨F, K, W⟩ := b
  dsimp only at *
  generalize cstL (F, K, W) w = C at *
  refine fun_ok (nt := 37) (rs := [.tmp 4]) Try.func99 rfl rfl rfl (by simp) fun Z w0 => ?_; simp only [initFr, avR, List.map_cons, List.map_nil]
  try clear hF
  have hF := hz
  refine twF ?_; try with_reducible intro QQ hQQ
  refine aw_weak (weak_keep [1, 2, 5, 6] (by simp only [hF, go_sem, ↓reduceIte]; rfl)) ?_
  refine aw_loop_ov (ι := { i : Nat // i ≤ K + 1 }) (fun i => [(5, iA (C i.1 : Nat)), (6, iA i.1)]) (fun _ => []) (fun i => K + 1 - i.1) ⟨0, by omega⟩ (by first | rfl | (simp only [hF, go_sem, ↓reduceIte]; first | done | rfl | (simp; try rfl))) ?_
  rintro ⟨s, hs⟩
  simp (disch := decide) only [ov, ovL, AL.get_nil, AL.get_eq, AL.get_ne, Option.getD_some, Option.getD_none]
  by_cases hsl : s ≤ K
  · have hfs := hf s (by omega)
    have hss := hst s
    have hb := hbd s
    have hmin : (if ((farN s W : Nat) : Int) < ((C s : Nat) : Int) then ((farN s W : Nat) : Int) else ((C s : Nat) : Int)) = ((min (C s) (farN s W) : Nat) : Int) := by split <;> omega
    by_cases hc : s ≤ w ∧ K - s ≤ F - w
    · rw [if_pos hc] at hss
      obtain ⟨c1, c2⟩ := hc
      try clear hF
      have hF := hmin
      refine twF ?_; try with_reducible intro QQ hQQ
      refine tiF ?_; try clear hQQ QQ
      refine twF ?_; try with_reducible intro QQ hQQ
      refine tiF ?_; try clear hQQ QQ
      refine twF ?_; try with_reducible intro QQ hQQ
      ((refine cOF 98 rfl rfl rfl (hfs) Try.func98 rfl ?_); refine tuF ?_; try clear hQQ QQ); refine twF ?_; try with_reducible intro QQ hQQ
      refine ⟨⟨s + 1, by omega⟩, ?_, weak_round ?_ (by first | rfl | (simp only [hF, go_sem, ↓reduceIte]))⟩
      rotate_left
      · simp only [hss]
        (simp only [hF, go_sem, ↓reduceIte]; try rfl)
      · simp only; omega
    · rw [if_neg hc] at hss
      by_cases c1 : s ≤ w
      · have c2 : ¬ K - s ≤ F - w := fun h => hc ⟨c1, h⟩
        refine tw ?_; try with_reducible intro QQ hQQ
        refine ti ?_; try clear hQQ QQ
        refine tw ?_; try with_reducible intro QQ hQQ
        refine ti ?_; try clear hQQ QQ
        refine tw ?_; try with_reducible intro QQ hQQ
        refine ⟨⟨s + 1, by omega⟩, ?_, weak_round ?_ (by first | rfl | (simp only [go_sem, ↓reduceIte]))⟩
        rotate_left
        · simp only [hss]
          (simp only [go_sem, ↓reduceIte]; try rfl)
        · simp only; omega
      · refine tw ?_; try with_reducible intro QQ hQQ
        refine ti ?_; try clear hQQ QQ
        refine tw ?_; try with_reducible intro QQ hQQ
        refine ti ?_; try clear hQQ QQ
        refine tw ?_; try with_reducible intro QQ hQQ
        refine ⟨⟨s + 1, by omega⟩, ?_, weak_round ?_ (by first | rfl | (simp only [go_sem, ↓reduceIte]))⟩
        rotate_left
        · simp only [hss]
          (simp only [go_sem, ↓reduceIte]; try rfl)
        · simp only; omega
  · have : s = K + 1 := by omega
    subst this
    refine tw ?_; try with_reducible intro QQ hQQ
    refine ti ?_; try clear hQQ QQ
    refine tw ?_; try with_reducible intro QQ hQQ
    refine aw_ret ?_; refine ⟨.inr rfl, ?_⟩; simp only [resA, res1, go_sem, ↓reduceIte]
end Go.Proofs.Ytgdhdikeicgndaa
