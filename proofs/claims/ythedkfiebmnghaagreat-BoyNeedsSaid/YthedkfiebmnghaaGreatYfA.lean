/- Texts of the proof, joined. -/
import Derived.Test.YthedkfiebmnghaaGreatKye37
set_option linter.all false
set_option maxHeartbeats 16000000
set_option maxRecDepth 20000
namespace Go.Proofs.YthedkfiebmnghaaGreat
open Go Go.RowKit Go.Sh Go.Pv Go.By
section
variable {y : YD}
theorem plan_facts (h : YOK y) : ∃ (W : Int) (G : List Nat), waitsS y.D (y.T : Int) (soonY y) = W ∧ bestY y = G ∧ IsPlan y.S y.n G ∧ waitsS y.D (y.T : Int) G = W ∧ 0 ≤ W ∧ W ≤ 1000000 ∧
  (∀ q, IsPlan y.S y.n q → W ≤ waitsS y.D (y.T : Int) q ∧ (waitsS y.D (y.T : Int) q = W → lexLe G q)) ∧
  ∀ q, IsPlan y.S y.n q → (dseq y.D (fun _ => 0) q).Pairwise (· ≤ ·) → waitsS y.D (y.T : Int) q = W := by
 obtain ⟨hp, hs⟩ := soonY_plan h
 have h0 : 0 ≤ waitsS y.D (y.T : Int) (soonY y) := by unfold waitsS; omega
 have hT : (0 : Int) ≤ (y.T : Int) := by omega
 obtain ⟨q, q1, q2, q3, q4⟩ := first_best (b := waitsS y.D (y.T : Int) (soonY y)) (S := y.S) (T := (y.T : Int)) hT (soonY y).length [] (soonY y) rfl hp.1 hs ((waits_le h0).1 (Int.le_refl _))
 rw [List.nil_append] at q1 q3
 have hb : bestY y = q := q1
 have hq : IsPlan y.S y.n q := plan_of_perm hp q2.symm
 have w1 := (waits_le h0).2 q3
 have w2 := waits_least hT hp hq hs
 refine ⟨_, _, rfl, rfl, by rw [hb]; exact hq, by rw [hb]; exact Int.le_antisymm w1 w2, h0, ?_, fun r hr => ⟨waits_least hT hp hr hs, fun hw => ?_⟩, fun r hr hs2 => ?_⟩
 ·exact (waits_rng h).2
 ·rw [hb]
  exact q4 r (plan_perm hr hp) ((waits_le h0).1 (Int.le_of_eq hw))
 ·have a1 := waits_least hT hp hr hs
  have a2 := waits_least hT hr hp hs2
  omega
structure PS (y : YD) (Q : List Nat) (N k : Nat) (c : Nat → Nat) (o : List Nat) : Prop where
 le : k ≤ N
 ol : o.length = k
 tot : totN (fun s => y.n s - c s) y.S = N - k
 cle : ∀ s, s < y.S → c s ≤ y.n s
 go : o ++ soonL y.D y.n y.S (N - k) c = Q
theorem PS.next {Q : List Nat} {N k : Nat} {c : Nat → Nat} {o : List Nat} (h : PS y Q N k c o) (hk : k < N) : ∃ s, pickS y.D y.n c y.S = some s ∧ s < y.S ∧ c s < y.n s ∧ PS y Q N (k + 1) (bump c s) (o ++ [s]) := by
 have ht := h.tot
 have hg := h.go
 rw [show N - k = (N - (k + 1)) + 1 by omega] at ht hg
 obtain ⟨s, h1, h2, h3, h4⟩ := pick_ex (D := y.D) ht
 refine ⟨s, h1, h2, h3, hk, by rw [List.length_append, h.ol]; rfl, h4, fun t ht => ?_, ?_⟩
 ·unfold bump
  split
  ·rename_i e; subst e; omega
  ·exact h.cle t ht
 ·have : soonL y.D y.n y.S ((N - (k + 1)) + 1) c = s :: soonL y.D y.n y.S (N - (k + 1)) (bump c s) := by
   conv => lhs; unfold soonL
   rw [h1]
  rw [this] at hg
  rw [List.append_assoc]
  exact hg
theorem PS.start {N : Nat} (h : totN y.n y.S = N) : PS y (soonL y.D y.n y.S N fun _ => 0) N 0 (fun _ => 0) [] := ⟨Nat.zero_le _, rfl, by rw [Nat.sub_zero, ← h]; rfl, fun s _ => Nat.zero_le _, rfl⟩
theorem PS.all {Q : List Nat} {N : Nat} {c : Nat → Nat} {o : List Nat} (h : PS y Q N N c o) : o = Q := by
 have := h.go
 rw [Nat.sub_self] at this
 rw [← this]
 exact (List.append_nil o).symm
end
end Go.Proofs.YthedkfiebmnghaaGreat
