/- Texts of the proof, joined. -/
import Derived.Test.YthedkfiebmnghaaGreatKyd36
set_option linter.all false
set_option maxHeartbeats 16000000
set_option maxRecDepth 20000
namespace Go.Proofs.YthedkfiebmnghaaGreat
open Go Go.RowKit Go.Sh Go.Pv Go.By
section
variable {D : Nat → List Int} {n : Nat → Nat}
theorem soonL_len {S : Nat} : ∀ (k : Nat) (c : Nat → Nat), totN (fun s => n s - c s) S = k → (soonL D n S k c).length = k
 | 0, c, _ => rfl
 | k + 1, c, h => by
  obtain ⟨s, h1, _, _, h4⟩ := pick_ex (D := D) h
  unfold soonL
  rw [h1]
  show (soonL D n S k (bump c s)).length + 1 = k + 1
  rw [soonL_len k (bump c s) h4]
end
section
variable {y : YD}
theorem best_plan (h : YOK y) : IsPlan y.S y.n (bestY y) := by
 obtain ⟨hp, hs⟩ := soonY_plan h
 have h0 : 0 ≤ waitsS y.D (y.T : Int) (soonY y) := by unfold waitsS; omega
 obtain ⟨q, q1, q2, _⟩ := first_best (b := waitsS y.D (y.T : Int) (soonY y)) (S := y.S) (T := (y.T : Int)) (by omega) (soonY y).length [] (soonY y) rfl hp.1 hs ((waits_le h0).1 (Int.le_refl _))
 unfold bestY
 rw [q1, List.nil_append]
 exact plan_of_perm hp q2.symm
theorem soonL_ok (h : YOK y) : IsPlan y.S y.n (soonL y.D y.n y.S (totN y.n y.S) fun _ => 0) ∧ (dseq y.D (fun _ => 0) (soonL y.D y.n y.S (totN y.n y.S) fun _ => 0)).Pairwise (· ≤ ·) :=
 soon_ok (fun s hs => D_sorted h hs) (fun s hs => by rw [D_len]; exact Nat.le_refl _)
theorem best_len (h : YOK y) : (bestY y).length = totN y.n y.S := by
 rw [(plan_perm (best_plan h) (soonL_ok h).1).length_eq]
 exact soonL_len _ _ rfl
theorem all_len_tot (h : YOK y) : y.all.length = totN y.n y.S := by
 have := (plan_perm (all_plan (y := y)) (soonL_ok h).1).length_eq
 rw [List.length_map] at this
 rw [this]
 exact soonL_len _ _ rfl
theorem slow_facts (h : YOK y) : ∃ (W : Int) (N : Nat) (G : List Nat), waitsS y.D (y.T : Int) (soonY y) = W ∧ bestY y = G ∧ G.length = N ∧ N ≤ 48 ∧ N = totN y.n y.S ∧ 0 ≤ W ∧
  ((slowS y.D (soonY y) = none ∧ W ≠ 0 ∧ waitsS y.D 1 (soonY y) ≠ 0) ∨ ∃ n : Nat, slowS y.D (soonY y) = some n ∧ 1 ≤ n ∧ n ≤ 60 ∧ (W = 0 ↔ y.T ≤ n) ∧ waitsS y.D (n : Int) (soonY y) = 0 ∧ (n < 60 → waitsS y.D ((n + 1 : Nat) : Int) (soonY y) ≠ 0)) ∧
  ((spareY y = none ∧ ¬ (W = 0 ∧ 0 < N)) ∨ ∃ m : Nat, spareY y = some m ∧ W = 0 ∧ 0 < N ∧ LS y (m : Int) N 0 (fun _ => 0) 1000) := by
 have ht := h.t1
 have ht2 := h.t60
 have hn := best_len h
 refine ⟨_, _, _, rfl, rfl, rfl, plan_len h (best_plan h), hn, by unfold waitsS; omega, ?_, ?_⟩
 ·cases hs : slowS y.D (soonY y) with
  | none =>
   have h1 := slow_none hs (T := y.T) ht ht2
   have h2 := slow_none hs (T := 1) (by omega) (by omega)
   have h2 : 0 < overS y.D 1 (soonY y) := h2
   refine .inl ⟨rfl, ?_, ?_⟩ <;> unfold waitsS <;> omega
  | some n =>
   obtain ⟨h1, h2, h3⟩ := slow_iff hs
   have h4 := h3 y.T ht ht2
   have h5 := (h3 n h1 h2).2 (Nat.le_refl _)
   refine .inr ⟨n, rfl, h1, h2, ?_, by unfold waitsS; omega, fun hn => ?_⟩
   ·unfold waitsS; omega
   ·have h6 := h3 (n + 1) (by omega) (by omega)
    have : ¬ overS y.D ((n + 1 : Nat) : Int) (soonY y) ≤ 0 := fun hh => by have := h6.1 hh; omega
    unfold waitsS; omega
 ·have hal := all_len_tot h
  have hsm := soon_same (T := (y.T : Int)) (by omega) (soonL_ok h).1 (soonY_plan h).1 (soonL_ok h).2 (soonY_plan h).2
  have hle := least_over (D := y.D) (T := (y.T : Int)) (p := soonL y.D y.n y.S (totN y.n y.S) fun _ => 0)
  unfold spareY
  rw [spare_eq, hal, ← hn]
  by_cases h0 : (bestY y).length = 0
  ·rw [if_pos h0]
   exact .inl ⟨rfl, fun hh => by omega⟩
  ·rw [if_neg h0]
   by_cases h1 : overS y.D (y.T : Int) (soonY y) ≤ 0
   ·rw [if_pos h1]
    refine .inr ⟨_, rfl, by unfold waitsS; omega, by omega, Nat.zero_le _, ?_, fun s _ => Nat.zero_le _, ?_⟩
    ·rw [hn]; rfl
    ·rw [hn, Nat.sub_zero, hle, hsm]; omega
   ·rw [if_neg h1]
    exact .inl ⟨rfl, fun hh => by have := hh.1; unfold waitsS at this; omega⟩
end
theorem eql4 (x y : Operand) (a b : Bool) : binA Tryz.prog .eql 4 x y (.bool a) (.bool b) = some (.bool (a == b)) := bin_eql_bool (by kernel_rfl) x y a b
theorem neq4 (x y : Operand) (a b : Bool) : binA Tryz.prog .neq 4 x y (.bool a) (.bool b) = some (.bool (a != b)) := bin_neq_bool (by kernel_rfl) x y a b
section
variable {ss : List SD} {first : List Int} {trip load : Int}
attribute [local go_sem] eql4 neq4 bne_tf bne_ft beq_tf beq_ft
theorem ok_BoySlow : FunOK Tryz.prog 9 [boyR ss first trip load] (.one (.one (.v (.bool true)))) := by
 have hfi := ok_fine (ss := ss) (first := first) (trip := trip) (load := load)
 have haw := ok_awake
 cases hv : fineB ss first trip load
 ·rw [hv] at hfi
  unfold boyR at hfi ⊢
  refine fun_ok (nt := 222) (rs := [.tmp 2]) Tryz.func9 rfl rfl rfl (by simp) fun Z w0 => ?_; simp only [initFr, avR, List.map_cons, List.map_nil]
  refine tw ?_; try with_reducible intro QQ hQQ
  ((refine cO 30 rfl rfl rfl (hfi) Tryz.func30 rfl ?_); refine tu ?_; try clear hQQ QQ); refine tw ?_; try with_reducible intro QQ hQQ
  refine ti ?_; try clear hQQ QQ
  refine tw ?_; try with_reducible intro QQ hQQ
  ((refine cO 13 rfl rfl rfl (haw) Tryz.func13 rfl ?_); refine tu ?_; try clear hQQ QQ); refine tw ?_; try with_reducible intro QQ hQQ
  refine aw_ret ?_; refine ⟨.inr rfl, ?_⟩; simp only [resA, res1, go_sem, ↓reduceIte]
 ·rw [hv] at hfi
  have hb : boyB ss first trip load = true := by
   unfold fineB at hv
   rw [Bool.and_eq_true] at hv
   exact hv.2
  obtain ⟨y, h, hy, rfl, rfl, rfl, rfl⟩ := boy_yOf hb
  have hS := ok_Slow (ss := y.ss) (first := y.F.map fun x : Nat => (x : Int)) (trip := y.T) (load := y.L)
  have hP := ok_Spare (ss := y.ss) (first := y.F.map fun x : Nat => (x : Int)) (trip := y.T) (load := y.L)
  have hB := ok_Best (ss := y.ss) (first := y.F.map fun x : Nat => (x : Int)) (trip := y.T) (load := y.L)
  rw [hb, hy] at hS hP hB
  obtain ⟨W, N, G, e1, e2, hGN, hN48, hNt, hW0, hSl, hSp⟩ := slow_facts h
  rw [e1, e2] at hB
  have hB : FunOK Tryz.prog 23 [boyR y.ss (y.F.map fun x : Nat => (x : Int)) y.T y.L] (.tup [.one (.sl (G.map rowN)), .one (iP W), .one (iP 0)]) := hB
  have hGl : (G.map rowN).length = N := by rw [List.length_map]; exact hGN
  unfold boyR at hfi hS hP hB ⊢
  rw [castR] at hfi hS hP hB ⊢
  have hat := fun (t : Nat) h1 h2 => s_at h (t := t) h1 h2
  have ht1 := h.t1
  have ht60 := h.t60
  clear e1 e2 hv hb hy
  rcases hSl with ⟨es, hW, hW1⟩ | ⟨n, es, hn1, hn60, hWn, hk0, hk1⟩
  ·rw [es] at hS
   rcases hSp with ⟨ep, hno⟩ | ⟨m, ep, hW', hN0, hLS⟩
   rotate_left
   ·exact absurd hW' hW
   rw [ep] at hP
   have hS : FunOK Tryz.prog 25 [.agg [.sl (y.ss.map SD.row), .sl (y.F.map rowN), iP (y.T : Int), iP (y.L : Int)]] (.tup [.one (iP 0), .one (iP 4)]) := hS
   have hP : FunOK Tryz.prog 27 [.agg [.sl (y.ss.map SD.row), .sl (y.F.map rowN), iP (y.T : Int), iP (y.L : Int)]] (.tup [.one (iP 0), .one (iP 4)]) := hP
   have h1 := hat 1 (by omega) (by omega)
   have h1 : FunS Tryz.prog 35 [.one (.p (iP 1)), .one (.box 0 0)] [(0, .box [.p (.sl (y.ss.map SD.row)), .p (.sl (y.F.map rowN)), .p (iP (y.T : Int)), .p (iP (y.L : Int))])] 1 (.tup [.one (iP (waitsS y.D 1 (soonY y))), .one (iP 0)]) := h1
   generalize waitsS y.D 1 (soonY y) = w1 at *
   have eW : (W == 0) = false := by simpa using hW
   have ew : (w1 == 0) = false := by simpa using hW1
   refine fun_ok (nt := 222) (rs := [.tmp 2]) Tryz.func9 rfl rfl rfl (by simp) fun Z w0 => ?_; simp only [initFr, avR, List.map_cons, List.map_nil]
   try clear hF
   have hF := And.intro hGl (And.intro eW (ew))
   refine twF ?_; try with_reducible intro QQ hQQ
   ((refine cOF 30 rfl rfl rfl (hfi) Tryz.func30 rfl ?_); refine tuF ?_; try clear hQQ QQ); refine twF ?_; try with_reducible intro QQ hQQ
   refine tiF ?_; try clear hQQ QQ
   refine twF ?_; try with_reducible intro QQ hQQ
   ((refine cOF 25 rfl rfl rfl (hS) Tryz.func25 rfl ?_); refine tuF ?_; try clear hQQ QQ); refine twF ?_; try with_reducible intro QQ hQQ
   ((refine cOF 27 rfl rfl rfl (hP) Tryz.func27 rfl ?_); refine tuF ?_; try clear hQQ QQ); refine twF ?_; try with_reducible intro QQ hQQ
   (refine cBF 23 rfl rfl rfl (hB) Tryz.func23 rfl ?_); refine tsF ?_; try clear hQQ QQ
   refine aw_weak (weak_restrict [1, 3, 4, 5, 6, 7, 8, 9] [0] 1 (by simp only [hF, go_sem, ↓reduceIte]; rfl)) ?_
   refine twF ?_; try with_reducible intro QQ hQQ
   refine tiF ?_; try clear hQQ QQ
   refine twF ?_; try with_reducible intro QQ hQQ
   refine tiF ?_; try clear hQQ QQ
   refine twF ?_; try with_reducible intro QQ hQQ
   (refine callO_S [0] (h1) rfl rfl qF qF Tryz.func35 rfl (by decide) (by rfl) qAF (by decide) (by decide) qCF ?_); refine tsF ?_; try clear hQQ QQ
   refine twF ?_; try with_reducible intro QQ hQQ
   refine tiF ?_; try clear hQQ QQ
   refine twF ?_; try with_reducible intro QQ hQQ
   refine tiF ?_; try clear hQQ QQ
   refine twF ?_; try with_reducible intro QQ hQQ
   ((refine cOF 13 rfl rfl rfl (haw) Tryz.func13 rfl ?_); refine tuF ?_; try clear hQQ QQ); refine twF ?_; try with_reducible intro QQ hQQ
   refine aw_ret ?_; refine ⟨.inr rfl, ?_⟩; simp only [resA, res1, go_sem, ↓reduceIte]
  ·rw [es] at hS
   have hS : FunOK Tryz.prog 25 [.agg [.sl (y.ss.map SD.row), .sl (y.F.map rowN), iP (y.T : Int), iP (y.L : Int)]] (.tup [.one (iP (n : Int)), .one (iP 0)]) := hS
   have h1 := hat n hn1 hn60
   rw [hk0] at h1
   rcases hSp with ⟨ep, hno⟩ | ⟨m, ep, hW', hN0, hLS⟩
   ·rw [ep] at hP
    have hP : FunOK Tryz.prog 27 [.agg [.sl (y.ss.map SD.row), .sl (y.F.map rowN), iP (y.T : Int), iP (y.L : Int)]] (.tup [.one (iP 0), .one (iP 4)]) := hP
    by_cases hW : W = 0
    ·subst hW
     have hNz : N = 0 := by omega
     have hTn : y.T ≤ n := hWn.1 rfl
     subst hNz
     by_cases h60 : n < 60
     ·have h2 := hat (n + 1) (by omega) (by omega)
      have hk1 := hk1 h60
      generalize waitsS y.D ((n + 1 : Nat) : Int) (soonY y) = w1 at *
      have ew : (w1 == 0) = false := by simpa using hk1
      refine fun_ok (nt := 222) (rs := [.tmp 2]) Tryz.func9 rfl rfl rfl (by simp) fun Z w0 => ?_; simp only [initFr, avR, List.map_cons, List.map_nil]
      try clear hF
      have hF := And.intro hGl (ew)
      refine twF ?_; try with_reducible intro QQ hQQ
      ((refine cOF 30 rfl rfl rfl (hfi) Tryz.func30 rfl ?_); refine tuF ?_; try clear hQQ QQ); refine twF ?_; try with_reducible intro QQ hQQ
      refine tiF ?_; try clear hQQ QQ
      refine twF ?_; try with_reducible intro QQ hQQ
      ((refine cOF 25 rfl rfl rfl (hS) Tryz.func25 rfl ?_); refine tuF ?_; try clear hQQ QQ); refine twF ?_; try with_reducible intro QQ hQQ
      ((refine cOF 27 rfl rfl rfl (hP) Tryz.func27 rfl ?_); refine tuF ?_; try clear hQQ QQ); refine twF ?_; try with_reducible intro QQ hQQ
      (refine cBF 23 rfl rfl rfl (hB) Tryz.func23 rfl ?_); refine tsF ?_; try clear hQQ QQ
      refine aw_weak (weak_restrict [1, 3, 4, 5, 6, 7, 8, 9] [0] 1 (by simp only [hF, go_sem, ↓reduceIte]; rfl)) ?_
      refine twF ?_; try with_reducible intro QQ hQQ
      refine tiF ?_; try clear hQQ QQ
      refine twF ?_; try with_reducible intro QQ hQQ
      refine tiF ?_; try clear hQQ QQ
      refine twF ?_; try with_reducible intro QQ hQQ
      (refine callO_S [0] (h1) rfl rfl qF qF Tryz.func35 rfl (by decide) (by rfl) qAF (by decide) (by decide) qCF ?_); refine tsF ?_; try clear hQQ QQ
      refine twF ?_; try with_reducible intro QQ hQQ
      refine tiF ?_; try clear hQQ QQ
      refine twF ?_; try with_reducible intro QQ hQQ
      refine tiF ?_; try clear hQQ QQ
      refine twF ?_; try with_reducible intro QQ hQQ
      (refine callO_S [0] (h2) rfl rfl qF qF Tryz.func35 rfl (by decide) (by rfl) qAF (by decide) (by decide) qCF ?_); refine tsF ?_; try clear hQQ QQ
      refine twF ?_; try with_reducible intro QQ hQQ
      refine tiF ?_; try clear hQQ QQ
      refine twF ?_; try with_reducible intro QQ hQQ
      refine tiF ?_; try clear hQQ QQ
      refine twF ?_; try with_reducible intro QQ hQQ
      ((refine cOF 13 rfl rfl rfl (haw) Tryz.func13 rfl ?_); refine tuF ?_; try clear hQQ QQ); refine twF ?_; try with_reducible intro QQ hQQ
      refine aw_ret ?_; refine ⟨.inr rfl, ?_⟩; simp only [resA, res1, go_sem, ↓reduceIte]
     ·have hn : n = 60 := by omega
      refine fun_ok (nt := 222) (rs := [.tmp 2]) Tryz.func9 rfl rfl rfl (by simp) fun Z w0 => ?_; simp only [initFr, avR, List.map_cons, List.map_nil]
      try clear hF
      have hF := hGl
      refine twF ?_; try with_reducible intro QQ hQQ
      ((refine cOF 30 rfl rfl rfl (hfi) Tryz.func30 rfl ?_); refine tuF ?_; try clear hQQ QQ); refine twF ?_; try with_reducible intro QQ hQQ
      refine tiF ?_; try clear hQQ QQ
      refine twF ?_; try with_reducible intro QQ hQQ
      ((refine cOF 25 rfl rfl rfl (hS) Tryz.func25 rfl ?_); refine tuF ?_; try clear hQQ QQ); refine twF ?_; try with_reducible intro QQ hQQ
      ((refine cOF 27 rfl rfl rfl (hP) Tryz.func27 rfl ?_); refine tuF ?_; try clear hQQ QQ); refine twF ?_; try with_reducible intro QQ hQQ
      (refine cBF 23 rfl rfl rfl (hB) Tryz.func23 rfl ?_); refine tsF ?_; try clear hQQ QQ
      refine aw_weak (weak_restrict [1, 3, 4, 5, 6, 7, 8, 9] [0] 1 (by simp only [hF, go_sem, ↓reduceIte]; rfl)) ?_
      refine twF ?_; try with_reducible intro QQ hQQ
      refine tiF ?_; try clear hQQ QQ
      refine twF ?_; try with_reducible intro QQ hQQ
      refine tiF ?_; try clear hQQ QQ
      refine twF ?_; try with_reducible intro QQ hQQ
      (refine callO_S [0] (h1) rfl rfl qF qF Tryz.func35 rfl (by decide) (by rfl) qAF (by decide) (by decide) qCF ?_); refine tsF ?_; try clear hQQ QQ
      refine twF ?_; try with_reducible intro QQ hQQ
      refine tiF ?_; try clear hQQ QQ
      refine twF ?_; try with_reducible intro QQ hQQ
      refine tiF ?_; try clear hQQ QQ
      refine twF ?_; try with_reducible intro QQ hQQ
      refine tiF ?_; try clear hQQ QQ
      refine twF ?_; try with_reducible intro QQ hQQ
      ((refine cOF 13 rfl rfl rfl (haw) Tryz.func13 rfl ?_); refine tuF ?_; try clear hQQ QQ); refine twF ?_; try with_reducible intro QQ hQQ
      refine aw_ret ?_; refine ⟨.inr rfl, ?_⟩; simp only [resA, res1, go_sem, ↓reduceIte]
    ·have hTn : ¬ y.T ≤ n := fun hh => hW (hWn.2 hh)
     have eW : (W == 0) = false := by simpa using hW
     have h2 := hat (n + 1) (by omega) (by omega)
     have hk1 := hk1 (by omega)
     generalize waitsS y.D ((n + 1 : Nat) : Int) (soonY y) = w1 at *
     have ew : (w1 == 0) = false := by simpa using hk1
     refine fun_ok (nt := 222) (rs := [.tmp 2]) Tryz.func9 rfl rfl rfl (by simp) fun Z w0 => ?_; simp only [initFr, avR, List.map_cons, List.map_nil]
     try clear hF
     have hF := And.intro hGl (And.intro eW (ew))
     refine twF ?_; try with_reducible intro QQ hQQ
     ((refine cOF 30 rfl rfl rfl (hfi) Tryz.func30 rfl ?_); refine tuF ?_; try clear hQQ QQ); refine twF ?_; try with_reducible intro QQ hQQ
     refine tiF ?_; try clear hQQ QQ
     refine twF ?_; try with_reducible intro QQ hQQ
     ((refine cOF 25 rfl rfl rfl (hS) Tryz.func25 rfl ?_); refine tuF ?_; try clear hQQ QQ); refine twF ?_; try with_reducible intro QQ hQQ
     ((refine cOF 27 rfl rfl rfl (hP) Tryz.func27 rfl ?_); refine tuF ?_; try clear hQQ QQ); refine twF ?_; try with_reducible intro QQ hQQ
     (refine cBF 23 rfl rfl rfl (hB) Tryz.func23 rfl ?_); refine tsF ?_; try clear hQQ QQ
     refine aw_weak (weak_restrict [1, 3, 4, 5, 6, 7, 8, 9] [0] 1 (by simp only [hF, go_sem, ↓reduceIte]; rfl)) ?_
     refine twF ?_; try with_reducible intro QQ hQQ
     refine tiF ?_; try clear hQQ QQ
     refine twF ?_; try with_reducible intro QQ hQQ
     refine tiF ?_; try clear hQQ QQ
     refine twF ?_; try with_reducible intro QQ hQQ
     (refine callO_S [0] (h1) rfl rfl qF qF Tryz.func35 rfl (by decide) (by rfl) qAF (by decide) (by decide) qCF ?_); refine tsF ?_; try clear hQQ QQ
     refine twF ?_; try with_reducible intro QQ hQQ
     refine tiF ?_; try clear hQQ QQ
     refine twF ?_; try with_reducible intro QQ hQQ
     refine tiF ?_; try clear hQQ QQ
     refine twF ?_; try with_reducible intro QQ hQQ
     (refine callO_S [0] (h2) rfl rfl qF qF Tryz.func35 rfl (by decide) (by rfl) qAF (by decide) (by decide) qCF ?_); refine tsF ?_; try clear hQQ QQ
     refine twF ?_; try with_reducible intro QQ hQQ
     refine tiF ?_; try clear hQQ QQ
     refine twF ?_; try with_reducible intro QQ hQQ
     refine tiF ?_; try clear hQQ QQ
     refine twF ?_; try with_reducible intro QQ hQQ
     ((refine cOF 13 rfl rfl rfl (haw) Tryz.func13 rfl ?_); refine tuF ?_; try clear hQQ QQ); refine twF ?_; try with_reducible intro QQ hQQ
     refine aw_ret ?_; refine ⟨.inr rfl, ?_⟩; simp only [resA, res1, go_sem, ↓reduceIte]
   ·rw [ep] at hP
    subst hW'
    have hP : FunOK Tryz.prog 27 [.agg [.sl (y.ss.map SD.row), .sl (y.F.map rowN), iP (y.T : Int), iP (y.L : Int)]] (.tup [.one (iP (m : Int)), .one (iP 0)]) := hP
    have hTn : y.T ≤ n := hWn.1 rfl
    have htl := fun Z w0 => slow_tail h hGl hN48 hLS Z w0
    clear hLS
    have hTn' : (y.T : Int) ≤ (n : Int) := by omega
    by_cases h60 : n < 60
    ·have h2 := hat (n + 1) (by omega) (by omega)
     have hk1 := hk1 h60
     generalize waitsS y.D ((n + 1 : Nat) : Int) (soonY y) = w1 at *
     have ew : (w1 == 0) = false := by simpa using hk1
     refine fun_ok (nt := 222) (rs := [.tmp 2]) Tryz.func9 rfl rfl rfl (by simp) fun Z w0 => ?_; simp only [initFr, avR, List.map_cons, List.map_nil]
     try clear hF
     have hF := And.intro hGl (ew)
     refine twF ?_; try with_reducible intro QQ hQQ
     ((refine cOF 30 rfl rfl rfl (hfi) Tryz.func30 rfl ?_); refine tuF ?_; try clear hQQ QQ); refine twF ?_; try with_reducible intro QQ hQQ
     refine tiF ?_; try clear hQQ QQ
     refine twF ?_; try with_reducible intro QQ hQQ
     ((refine cOF 25 rfl rfl rfl (hS) Tryz.func25 rfl ?_); refine tuF ?_; try clear hQQ QQ); refine twF ?_; try with_reducible intro QQ hQQ
     ((refine cOF 27 rfl rfl rfl (hP) Tryz.func27 rfl ?_); refine tuF ?_; try clear hQQ QQ); refine twF ?_; try with_reducible intro QQ hQQ
     (refine cBF 23 rfl rfl rfl (hB) Tryz.func23 rfl ?_); refine tsF ?_; try clear hQQ QQ
     refine aw_weak (weak_restrict [1, 3, 4, 5, 6, 7, 8, 9] [0] 1 (by simp only [hF, go_sem, ↓reduceIte]; rfl)) ?_
     refine twF ?_; try with_reducible intro QQ hQQ
     refine tiF ?_; try clear hQQ QQ
     refine twF ?_; try with_reducible intro QQ hQQ
     refine tiF ?_; try clear hQQ QQ
     refine twF ?_; try with_reducible intro QQ hQQ
     (refine callO_S [0] (h1) rfl rfl qF qF Tryz.func35 rfl (by decide) (by rfl) qAF (by decide) (by decide) qCF ?_); refine tsF ?_; try clear hQQ QQ
     refine twF ?_; try with_reducible intro QQ hQQ
     refine tiF ?_; try clear hQQ QQ
     refine twF ?_; try with_reducible intro QQ hQQ
     refine tiF ?_; try clear hQQ QQ
     refine twF ?_; try with_reducible intro QQ hQQ
     (refine callO_S [0] (h2) rfl rfl qF qF Tryz.func35 rfl (by decide) (by rfl) qAF (by decide) (by decide) qCF ?_); refine tsF ?_; try clear hQQ QQ
     refine twF ?_; try with_reducible intro QQ hQQ
     refine tiF ?_; try clear hQQ QQ
     refine twF ?_; try with_reducible intro QQ hQQ
     refine tiF ?_; try clear hQQ QQ
     (refine aw_skip ?_); (repeat with_reducible first | apply then_n | apply block_n | apply then_x | apply then_r | apply nog_n | apply nog_r | apply block_r | apply block_e (by decide) | apply block_x (by decide))
     refine aw_weak (weak_round (T := ⟨[(1, .one (.box 0 0)), (5, .one (.p (iP (m : Int)))), (7, .one (.p (.sl (G.map rowN))))], [(0, .box [.p (.sl (y.ss.map SD.row)), .p (.sl (y.F.map rowN)), .p (iP (y.T : Int)), .p (iP (y.L : Int))])], 1⟩) (by simp only [go_sem, ↓reduceIte]; try rfl) (by first | rfl | (simp only [go_sem, ↓reduceIte]))) ?_
     exact htl Z w0
    ·have hn : n = 60 := by omega
     refine fun_ok (nt := 222) (rs := [.tmp 2]) Tryz.func9 rfl rfl rfl (by simp) fun Z w0 => ?_; simp only [initFr, avR, List.map_cons, List.map_nil]
     try clear hF
     have hF := hGl
     refine twF ?_; try with_reducible intro QQ hQQ
     ((refine cOF 30 rfl rfl rfl (hfi) Tryz.func30 rfl ?_); refine tuF ?_; try clear hQQ QQ); refine twF ?_; try with_reducible intro QQ hQQ
     refine tiF ?_; try clear hQQ QQ
     refine twF ?_; try with_reducible intro QQ hQQ
     ((refine cOF 25 rfl rfl rfl (hS) Tryz.func25 rfl ?_); refine tuF ?_; try clear hQQ QQ); refine twF ?_; try with_reducible intro QQ hQQ
     ((refine cOF 27 rfl rfl rfl (hP) Tryz.func27 rfl ?_); refine tuF ?_; try clear hQQ QQ); refine twF ?_; try with_reducible intro QQ hQQ
     (refine cBF 23 rfl rfl rfl (hB) Tryz.func23 rfl ?_); refine tsF ?_; try clear hQQ QQ
     refine aw_weak (weak_restrict [1, 3, 4, 5, 6, 7, 8, 9] [0] 1 (by simp only [hF, go_sem, ↓reduceIte]; rfl)) ?_
     refine twF ?_; try with_reducible intro QQ hQQ
     refine tiF ?_; try clear hQQ QQ
     refine twF ?_; try with_reducible intro QQ hQQ
     refine tiF ?_; try clear hQQ QQ
     refine twF ?_; try with_reducible intro QQ hQQ
     (refine callO_S [0] (h1) rfl rfl qF qF Tryz.func35 rfl (by decide) (by rfl) qAF (by decide) (by decide) qCF ?_); refine tsF ?_; try clear hQQ QQ
     refine twF ?_; try with_reducible intro QQ hQQ
     refine tiF ?_; try clear hQQ QQ
     refine twF ?_; try with_reducible intro QQ hQQ
     refine tiF ?_; try clear hQQ QQ
     refine twF ?_; try with_reducible intro QQ hQQ
     refine tiF ?_; try clear hQQ QQ
     (refine aw_skip ?_); (repeat with_reducible first | apply then_n | apply block_n | apply then_x | apply then_r | apply nog_n | apply nog_r | apply block_r | apply block_e (by decide) | apply block_x (by decide))
     refine aw_weak (weak_round (T := ⟨[(1, .one (.box 0 0)), (5, .one (.p (iP (m : Int)))), (7, .one (.p (.sl (G.map rowN))))], [(0, .box [.p (.sl (y.ss.map SD.row)), .p (.sl (y.F.map rowN)), .p (iP (y.T : Int)), .p (iP (y.L : Int))])], 1⟩) (by simp only [go_sem, ↓reduceIte]; try rfl) (by first | rfl | (simp only [go_sem, ↓reduceIte]))) ?_
     exact htl Z w0
end
end Go.Proofs.YthedkfiebmnghaaGreat
