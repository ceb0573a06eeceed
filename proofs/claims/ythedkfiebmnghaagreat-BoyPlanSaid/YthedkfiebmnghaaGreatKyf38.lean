/- Texts of the proof, joined. -/
import Derived.Test.YthedkfiebmnghaaGreatKye37
set_option linter.all false
set_option maxHeartbeats 16000000
set_option maxRecDepth 20000
namespace Go.Proofs.YthedkfiebmnghaaGreat
open Go Go.RowKit Go.Sh Go.Pv Go.By
section
variable {y : YD}
theorem plan_facts (h : YOK y) : ∃ (W : Int) (G : List Nat), waitsS y.D (y.T : Int) (soonY y) = W ∧ bestY y = G ∧ IsPlan y.S y.n G ∧ waitsS y.D (y.T : Int) G = W ∧ 0 ≤ W ∧ W ≤ 1000000 ∧
  (∀ q, IsPlan y.S y.n q → W ≤ waitsS y.D (y.T : Int) q ∧ (waitsS y.D (y.T : Int) q = W → lexLe G q)) ∧
  ∀ q, IsPlan y.S y.n q → (dseq y.D (fun _ => 0) q).Pairwise (· ≤ ·) → waitsS y.D (y.T : Int) q = W := by
 obtain ⟨hp, hs⟩ := soonY_plan h
 have h0 : 0 ≤ waitsS y.D (y.T : Int) (soonY y) := by unfold waitsS; omega
 have hT : (0 : Int) ≤ (y.T : Int) := by omega
 obtain ⟨q, q1, q2, q3, q4⟩ := first_best (b := waitsS y.D (y.T : Int) (soonY y)) (S := y.S) (T := (y.T : Int)) hT (soonY y).length [] (soonY y) rfl hp.1 hs ((waits_le h0).1 (Int.le_refl _))
 rw [List.nil_append] at q1 q3
 have hb : bestY y = q := q1
 have hq : IsPlan y.S y.n q := plan_of_perm hp q2.symm
 have w1 := (waits_le h0).2 q3
 have w2 := waits_least hT hp hq hs
 refine ⟨_, _, rfl, rfl, by rw [hb]; exact hq, by rw [hb]; exact Int.le_antisymm w1 w2, h0, ?_, fun r hr => ⟨waits_least hT hp hr hs, fun hw => ?_⟩, fun r hr hs2 => ?_⟩
 ·exact (waits_rng h).2
 ·rw [hb]
  exact q4 r (plan_perm hr hp) ((waits_le h0).1 (Int.le_of_eq hw))
 ·have a1 := waits_least hT hp hr hs
  have a2 := waits_least hT hr hp hs2
  omega
structure PS (y : YD) (Q : List Nat) (N k : Nat) (c : Nat → Nat) (o : List Nat) : Prop where
 le : k ≤ N
 ol : o.length = k
 tot : totN (fun s => y.n s - c s) y.S = N - k
 cle : ∀ s, s < y.S → c s ≤ y.n s
 go : o ++ soonL y.D y.n y.S (N - k) c = Q
theorem PS.next {Q : List Nat} {N k : Nat} {c : Nat → Nat} {o : List Nat} (h : PS y Q N k c o) (hk : k < N) : ∃ s, pickS y.D y.n c y.S = some s ∧ s < y.S ∧ c s < y.n s ∧ PS y Q N (k + 1) (bump c s) (o ++ [s]) := by
 have ht := h.tot
 have hg := h.go
 rw [show N - k = (N - (k + 1)) + 1 by omega] at ht hg
 obtain ⟨s, h1, h2, h3, h4⟩ := pick_ex (D := y.D) ht
 refine ⟨s, h1, h2, h3, hk, by rw [List.length_append, h.ol]; rfl, h4, fun t ht => ?_, ?_⟩
 ·unfold bump
  split
  ·rename_i e; subst e; omega
  ·exact h.cle t ht
 ·have : soonL y.D y.n y.S ((N - (k + 1)) + 1) c = s :: soonL y.D y.n y.S (N - (k + 1)) (bump c s) := by
   conv => lhs; unfold soonL
   rw [h1]
  rw [this] at hg
  rw [List.append_assoc]
  exact hg
theorem PS.start {N : Nat} (h : totN y.n y.S = N) : PS y (soonL y.D y.n y.S N fun _ => 0) N 0 (fun _ => 0) [] := ⟨Nat.zero_le _, rfl, by rw [Nat.sub_zero, ← h]; rfl, fun s _ => Nat.zero_le _, rfl⟩
theorem PS.all {Q : List Nat} {N : Nat} {c : Nat → Nat} {o : List Nat} (h : PS y Q N N c o) : o = Q := by
 have := h.go
 rw [Nat.sub_self] at this
 rw [← this]
 exact (List.append_nil o).symm
end
theorem lex_cons {p q : List Nat} {i : Nat} (h : lexLe (p.drop i) (q.drop i)) (hp : i < p.length) (hq : i < q.length) : p.getD i 0 < q.getD i 0 ∨ p.getD i 0 = q.getD i 0 ∧ lexLe (p.drop (i + 1)) (q.drop (i + 1)) := by
 rw [List.drop_eq_getElem_cons hp, List.drop_eq_getElem_cons hq] at h
 have e1 : p.getD i 0 = p[i] := by simp [hp]
 have e2 : q.getD i 0 = q[i] := by simp [hq]
 rw [e1, e2]
 exact h
abbrev QT7 : Exit → St → Prop := fun e st => (e = .normal ∨ e = .ret) ∧ resA Tryz.prog st [.tmp 4] = some (.one (.one (.v (.bool true))))
section
variable {y : YD}
theorem plan_tail (h : YOK y) {G Q : List Nat} {N : Nat} {W : Int} (hGl : (G.map rowN).length = N) (hN48 : N ≤ 48) (hPS : PS y Q N 0 (fun _ => 0) []) (hW3 : FunOK Tryz.prog 18 [boyP y, .one (.sl (Q.map rowN))] (.tup [.one (iP W), .one (iP 0)])) (Z : Zn) (w0 : World) :
  AW ⟨Tryz.prog, Z, w0, fun _ => False, 184, none, noPan, none, [], true⟩ (rgtN 8 (fnCode Tryz.f7)) QT7 ⟨[(2, .one (.box 0 0)), (5, .one (.p (.sl (G.map rowN)))), (6, .one (.p (iP W)))], [(0, .box [.p (.sl (y.ss.map SD.row)), .p (.sl (y.F.map rowN)), .p (iP (y.T : Int)), .p (iP (y.L : Int))])], 1⟩ := by
 have haw := ok_awake
 have hSl : (y.ss.map SD.row).length = y.S := List.length_map _
 have hSl2 : y.ss.length = y.S := rfl
 have hFl : y.F.length = y.S := h.fl
 have hS3 := h.n3
 have hL5 := h.l5
 have hrow : ∀ x, rowN x = [iP (x : Int)] := fun _ => rfl
 conv => arg 2; whnf
 try simp only [List.append_eq, List.cons_append, List.nil_append]
 try clear hF
 have hF := And.intro hSl (And.intro hSl2 (hGl))
 refine twF fun QQ hQQ => ?_
 refine ⟨rfl, .inr ⟨rfl, callS_makeSliceZ (n := y.S) (E := 3) (k := 1) (by_ := 8) (zr := [iP 0]) rfl rfl qF qF qF qF rfl (by rfl) rfl qF qF (by omega) (by omega) (by unfold maxLen; omega) ?_⟩⟩
 (refine tsF ?_; try clear hQQ QQ)
 refine twF ?_; try with_reducible intro QQ hQQ
 rw [goneR_zero]
 refine aw_weak (weak_own 14 3 1 (by simp (disch := first | decide | omega) only [go_sem, ↓reduceIte])) ?_
 dsimp only [AL.set, Nat.reduceEqDiff, ↓reduceIte]
 refine aw_weak (weak_restrict [2, 6, 14, 15, 111, 112] [2, 1, 0] 3 (by simp only [go_sem, ↓reduceIte]; rfl)) ?_
 refine aw_loop_ov (ι := { q : Nat × (Nat → Nat) × List Nat // PS y Q N q.1 q.2.1 q.2.2 }) (fun q => [(14, .one (.own 2 q.1.2.2.length)), (112, iA q.1.1)]) (fun q => [(1, .arr 3 1 (goneR q.1.2.1 y.S) false), (2, .arr 3 1 (q.1.2.2.map rowN) true)]) (fun q => N - q.1.1) ⟨(0, fun _ => 0, []), hPS⟩ (by first | rfl | (simp only [go_sem, ↓reduceIte]; first | done | rfl | (simp; try rfl))) ?_
 clear hPS
 rintro ⟨⟨k, c, o⟩, hls⟩
 refine tO ?_
 dsimp only at hls
 have hgl := goneR_len c y.S
 have hol : (o.map rowN).length = o.length := List.length_map _
 by_cases hkN : k < N
 ·obtain ⟨sn, hpk, hsnS, hsnc, hnext⟩ := hls.next hkN
  have hcle := hls.cle
  have holk := hls.ol
  clear hls
  try clear hF
  have hF := And.intro hSl (And.intro hSl2 (And.intro hgl (hol)))
  refine twF ?_; try with_reducible intro QQ hQQ
  refine tiF ?_; try clear hQQ QQ
  refine twF ?_; try with_reducible intro QQ hQQ
  refine aw_weak (weak_restrict [2, 6, 14, 15, 16, 17, 111, 112, 116, 117] [2, 1, 0] 3 (by simp only [go_sem, ↓reduceIte]; rfl)) ?_
  refine aw_loop_ov (ι := { i : Nat // i ≤ y.S }) (fun i => [(16, iA (pkA (pickS y.D y.n c i.1))), (17, iA (pkD y c (pickS y.D y.n c i.1))), (117, iA i.1)]) (fun _ => []) (fun i => y.S - i.1) ⟨0, Nat.zero_le _⟩ (by first | rfl | (simp only [go_sem, ↓reduceIte]; first | done | rfl | (simp; try rfl))) ?_
  rintro ⟨i, hi⟩
  refine tO ?_
  by_cases hiS : i < y.S
  ·have hgF : y.F[i]? = some (y.f i) := getD_some (by rw [h.fl]; exact hiS)
   have hgc := goneR_get (c := c) hiS
   have hci := hcle i hiS
   have hn16 := n_16 h hiS
   have hf16 := h.f16 i hiS
   have hcL : c i * y.L ≤ 16 * 5 := Nat.mul_le_mul (by omega) h.l5
   have hcL2 : (c i : Int) * (y.L : Int) = ((c i * y.L : Nat) : Int) := by push_cast; rfl
   have hcL3 : (y.f i : Int) + ((c i * y.L : Nat) : Int) = ((y.f i + c i * y.L : Nat) : Int) := by push_cast; rfl
   by_cases hc : c i < y.n i
   ·have hN := ok_NeedY h hiS hc
    by_cases hnew : pickS y.D y.n c i = none ∨ ∃ s, pickS y.D y.n c i = some s ∧ (y.D i).getD (c i) 0 < (y.D s).getD (c s) 0
    ·have hp1 := pk_new hc hnew
     have hw : pkA (pickS y.D y.n c i) < 0 ∨ (¬ pkA (pickS y.D y.n c i) < 0 ∧ (y.D i).getD (c i) 0 < pkD y c (pickS y.D y.n c i)) := by
      rcases hnew with e | ⟨s, e, h2⟩
      ·rw [e]; exact .inl (by decide)
      ·rw [e]; exact .inr ⟨by show ¬ ((s : Nat) : Int) < 0; omega, h2⟩
     have ep1 : pkA (pickS y.D y.n c (i + 1)) = (i : Int) := by rw [hp1]; rfl
     have ep2 : pkD y c (pickS y.D y.n c (i + 1)) = (y.D i).getD (c i) 0 := by rw [hp1]; rfl
     generalize pkA (pickS y.D y.n c i) = pa at *
     generalize pkD y c (pickS y.D y.n c i) = pd at *
     generalize (y.D i).getD (c i) 0 = d at *
     rcases hw with hw | ⟨hw, hw2⟩
     ·skip
      try clear hF
      have hF := And.intro hSl (And.intro hSl2 (And.intro hFl (And.intro hgF (And.intro hgc (And.intro hgl (And.intro hrow (And.intro hcL2 (hcL3))))))))
      refine twF ?_; try with_reducible intro QQ hQQ
      refine tiF ?_; try clear hQQ QQ
      refine twF ?_; try with_reducible intro QQ hQQ
      (refine cDF 14 rfl rfl rfl (hN) Tryz.func14 rfl ?_); refine tdF ?_; try clear hQQ QQ
      refine twF ?_; try with_reducible intro QQ hQQ
      refine tiF ?_; try clear hQQ QQ
      refine twF ?_; try with_reducible intro QQ hQQ
      refine ⟨⟨i + 1, by omega⟩, ?_, weak_round ?_ (by first | rfl | (simp only [hF, go_sem, ↓reduceIte]))⟩
      rotate_left
      ·simp only [ep1, ep2]
       (simp only [hF, go_sem, ↓reduceIte]; try rfl)
      ·simp only; omega
     ·skip
      try clear hF
      have hF := And.intro hSl (And.intro hSl2 (And.intro hFl (And.intro hgF (And.intro hgc (And.intro hgl (And.intro hrow (And.intro hcL2 (hcL3))))))))
      refine twF ?_; try with_reducible intro QQ hQQ
      refine tiF ?_; try clear hQQ QQ
      refine twF ?_; try with_reducible intro QQ hQQ
      (refine cDF 14 rfl rfl rfl (hN) Tryz.func14 rfl ?_); refine tdF ?_; try clear hQQ QQ
      refine twF ?_; try with_reducible intro QQ hQQ
      refine tiF ?_; try clear hQQ QQ
      refine twF ?_; try with_reducible intro QQ hQQ
      refine ⟨⟨i + 1, by omega⟩, ?_, weak_round ?_ (by first | rfl | (simp only [hF, go_sem, ↓reduceIte]))⟩
      rotate_left
      ·simp only [ep1, ep2]
       (simp only [hF, go_sem, ↓reduceIte]; try rfl)
      ·simp only; omega
    ·have hold : ∃ s, pickS y.D y.n c i = some s ∧ ¬ (y.D i).getD (c i) 0 < (y.D s).getD (c s) 0 := by
      cases e : pickS y.D y.n c i with
      | none => exact absurd (.inl e) hnew
      | some s => exact ⟨s, rfl, fun h2 => hnew (.inr ⟨s, e, h2⟩)⟩
     obtain ⟨s0, hps, hnl⟩ := hold
     have ep : pickS y.D y.n c (i + 1) = pickS y.D y.n c i := by rw [pk_old hps hnl, hps]
     have hw1 : ¬ pkA (pickS y.D y.n c i) < 0 := by rw [hps]; show ¬ ((s0 : Nat) : Int) < 0; omega
     have hw2 : ¬ (y.D i).getD (c i) 0 < pkD y c (pickS y.D y.n c i) := by rw [hps]; exact hnl
     clear hps hnl hnew
     obtain ⟨pa, hpa⟩ : ∃ pa, pkA (pickS y.D y.n c i) = pa := ⟨_, rfl⟩
     obtain ⟨pd, hpd⟩ : ∃ pd, pkD y c (pickS y.D y.n c i) = pd := ⟨_, rfl⟩
     have ep1 : pkA (pickS y.D y.n c (i + 1)) = pa := by rw [ep, hpa]
     have ep2 : pkD y c (pickS y.D y.n c (i + 1)) = pd := by rw [ep, hpd]
     rw [hpa, hpd]
     rw [hpa] at hw1
     rw [hpd] at hw2
     generalize (y.D i).getD (c i) 0 = d at *
     try clear hF
     have hF := And.intro hSl (And.intro hSl2 (And.intro hFl (And.intro hgF (And.intro hgc (And.intro hgl (And.intro hrow (And.intro hcL2 (hcL3))))))))
     refine twF ?_; try with_reducible intro QQ hQQ
     refine tiF ?_; try clear hQQ QQ
     refine twF ?_; try with_reducible intro QQ hQQ
     (refine cDF 14 rfl rfl rfl (hN) Tryz.func14 rfl ?_); refine tdF ?_; try clear hQQ QQ
     refine twF ?_; try with_reducible intro QQ hQQ
     refine tiF ?_; try clear hQQ QQ
     refine twF ?_; try with_reducible intro QQ hQQ
     refine ⟨⟨i + 1, by omega⟩, ?_, weak_round ?_ (by first | rfl | (simp only [hF, go_sem, ↓reduceIte]))⟩
     rotate_left
     ·simp only [ep1, ep2]
      (simp only [hF, go_sem, ↓reduceIte]; try rfl)
     ·simp only; omega
   ·obtain ⟨e, he0, hN⟩ := ok_NeedN h hiS hc
    have ep := pk_no (D := y.D) hc
    have ee : (e == 0) = false := by simpa using he0
    try clear hF
    have hF := And.intro hSl (And.intro hSl2 (And.intro hFl (And.intro hgF (And.intro hgc (And.intro hgl (And.intro hrow (And.intro hcL2 (And.intro hcL3 (ee)))))))))
    refine twF ?_; try with_reducible intro QQ hQQ
    refine tiF ?_; try clear hQQ QQ
    refine twF ?_; try with_reducible intro QQ hQQ
    (refine cDF 14 rfl rfl rfl (hN) Tryz.func14 rfl ?_); refine tdF ?_; try clear hQQ QQ
    refine twF ?_; try with_reducible intro QQ hQQ
    refine tiF ?_; try clear hQQ QQ
    refine twF ?_; try with_reducible intro QQ hQQ
    refine ⟨⟨i + 1, by omega⟩, ?_, weak_round ?_ (by first | rfl | (simp only [hF, go_sem, ↓reduceIte]))⟩
    rotate_left
    ·simp only [ep]
     (simp only [hF, go_sem, ↓reduceIte]; try rfl)
    ·simp only; omega
  ·have hie : i = y.S := by omega
   subst hie
   rw [hpk]
   have hgc := goneR_get (c := c) hsnS
   have hst := goneR_set (c := c) (S := y.S) (s := sn)
   have hn16 := n_16 h hsnS
   have epa : pkA (some sn) = (sn : Int) := rfl
   rw [epa]
   generalize pkD y c (some sn) = d at *
   have hlb : (o.length + 1) * 8 ≤ 140737488355328 := by omega
   have hmo : (o ++ [sn]).length = o.length + 1 := by simp
   have hro : (o ++ [sn]).map rowN = o.map rowN ++ [[iP (sn : Int)]] := by simp [rowN]
   try clear hF
   have hF := And.intro hSl (And.intro hSl2 (And.intro hgc (And.intro hgl (And.intro hst (And.intro hol (hlb))))))
   refine twF ?_; try with_reducible intro QQ hQQ
   refine tiF ?_; try clear hQQ QQ
   refine twF ?_; try with_reducible intro QQ hQQ
   refine tiF ?_; try clear hQQ QQ
   refine twF ?_; try with_reducible intro QQ hQQ
   refine ⟨⟨(k + 1, bump c sn, o ++ [sn]), hnext⟩, ?_, weak_round ?_ (by first | rfl | (simp only [hF, go_sem, ↓reduceIte]))⟩
   rotate_left
   ·simp only [hmo, hro]
    (simp only [hF, go_sem, ↓reduceIte]; try rfl)
   ·simp only; omega
 ·have hke : k = N := by have := hls.le; omega
  subst hke
  have hoQ := hls.all
  have hta : List.take o.length (o.map rowN) = Q.map rowN := by rw [← hoQ]; exact List.take_of_length_le (by rw [hol]; exact Nat.le_refl _)
  have hWW : (W == W) = true := by simp
  refine aw_weak (weak_dataS 14 qN qN) ?_
  rw [hta]
  try clear hF
  have hF := And.intro hSl (And.intro hSl2 (And.intro hGl (hWW)))
  refine twF ?_; try with_reducible intro QQ hQQ
  refine tiF ?_; try clear hQQ QQ
  refine twF ?_; try with_reducible intro QQ hQQ
  ((refine cOF 18 rfl rfl rfl (hW3) Tryz.func18 rfl ?_); refine tuF ?_; try clear hQQ QQ); refine twF ?_; try with_reducible intro QQ hQQ
  ((refine cOF 13 rfl rfl rfl (haw) Tryz.func13 rfl ?_); refine tuF ?_; try clear hQQ QQ); refine twF ?_; try with_reducible intro QQ hQQ
  refine aw_ret ?_; refine ⟨.inr rfl, ?_⟩; simp only [resA, res1, go_sem, ↓reduceIte]
end
section
variable {ss : List SD} {first : List Int} {trip load : Int}
theorem ok_BoyPlan {by_ : List Nat} (hb : (∀ x ∈ by_, x ≤ 65535) ∧ by_.length ≤ 9223372036854775807) : FunOK Tryz.prog 7 [boyR ss first trip load, .one (.sl (by_.map row16))] (.one (.one (.v (.bool true)))) := by
 have hfi := ok_fine (ss := ss) (first := first) (trip := trip) (load := load)
 have haw := ok_awake
 cases hv : fineB ss first trip load
 ·rw [hv] at hfi
  unfold boyR at hfi ⊢
  refine fun_ok (nt := 184) (rs := [.tmp 4]) Tryz.func7 rfl rfl rfl (by simp) fun Z w0 => ?_; refine tI ?_
  refine tw ?_; try with_reducible intro QQ hQQ
  ((refine cO 30 rfl rfl rfl (hfi) Tryz.func30 rfl ?_); refine tu ?_; try clear hQQ QQ); refine tw ?_; try with_reducible intro QQ hQQ
  refine ti ?_; try clear hQQ QQ
  refine tw ?_; try with_reducible intro QQ hQQ
  ((refine cO 13 rfl rfl rfl (haw) Tryz.func13 rfl ?_); refine tu ?_; try clear hQQ QQ); refine tw ?_; try with_reducible intro QQ hQQ
  refine aw_ret ?_; refine ⟨.inr rfl, ?_⟩; simp only [resA, res1, go_sem, ↓reduceIte]
 ·rw [hv] at hfi
  have hbv : boyB ss first trip load = true := by
   unfold fineB at hv
   rw [Bool.and_eq_true] at hv
   exact hv.2
  obtain ⟨y, h, hy, rfl, rfl, rfl, rfl⟩ := boy_yOf hbv
  have hmk := ok_made h by_ hb.2 hb.1
  have hMp := madeY_plan y by_
  generalize madeY y by_ = M at *
  have hB := ok_Best (ss := y.ss) (first := y.F.map fun x : Nat => (x : Int)) (trip := y.T) (load := y.L)
  rw [hbv, hy] at hB
  have hNt := best_len h
  obtain ⟨W, G, e1, e2, hG, hWG, hW0, hWm, hAll, hSr⟩ := plan_facts h
  rw [e1, e2] at hB
  rw [e2] at hNt
  have hB : FunOK Tryz.prog 23 [boyR y.ss (y.F.map fun x : Nat => (x : Int)) y.T y.L] (.tup [.one (.sl (G.map rowN)), .one (iP W), .one (iP 0)]) := hB
  have hW1 := ok_WaitsY h hG
  have hW2 := ok_WaitsY h hMp
  obtain ⟨hlo, hlex⟩ := hAll M hMp
  obtain ⟨s1, s2⟩ := soonL_ok h
  have hW3 := ok_WaitsY h s1
  rw [hSr _ s1 s2] at hW3
  rw [hWG] at hW1
  obtain ⟨N, hN⟩ : ∃ N, G.length = N := ⟨_, rfl⟩
  rw [hN] at hNt
  rw [← hNt] at hW3
  have hPS := PS.start (y := y) (N := N) hNt.symm
  have hN48 : N ≤ 48 := by rw [← hN]; exact plan_len h hG
  have hMN : M.length = N := by rw [← hN]; exact (plan_perm hMp hG).length_eq
  have hGl : (G.map rowN).length = N := by rw [List.length_map]; exact hN
  have hMl : (M.map rowN).length = N := by rw [List.length_map]; exact hMN
  have htl := fun Z w0 => plan_tail h hGl hN48 hPS hW3 Z w0
  generalize waitsS y.D (y.T : Int) M = Wm at *
  clear hPS hW3 s1 s2 hSr hAll e1 e2 hWG hG hMp hv hbv hy hNt
  unfold boyR at hfi hB ⊢
  rw [castR] at hfi hB ⊢
  have hrow : ∀ x, rowN x = [iP (x : Int)] := fun _ => rfl
  by_cases hm : Wm = W
  ·have hlx := hlex hm
   clear hlex
   subst hm
   have eWm : (Wm == Wm) = true := by simp
   refine fun_ok (nt := 184) (rs := [.tmp 4]) Tryz.func7 rfl rfl rfl (by simp) fun Z w0 => ?_; refine tI ?_
   try clear hF
   have hF := And.intro hGl (And.intro hMl (eWm))
   refine twF ?_; try with_reducible intro QQ hQQ
   ((refine cOF 30 rfl rfl rfl (hfi) Tryz.func30 rfl ?_); refine tuF ?_; try clear hQQ QQ); refine twF ?_; try with_reducible intro QQ hQQ
   refine tiF ?_; try clear hQQ QQ
   refine twF ?_; try with_reducible intro QQ hQQ
   ((refine cBF 23 rfl rfl rfl (hB) Tryz.func23 rfl ?_); refine tuF ?_; try clear hQQ QQ); refine twF ?_; try with_reducible intro QQ hQQ
   ((refine cOF 18 rfl rfl rfl (hW1) Tryz.func18 rfl ?_); refine tuF ?_; try clear hQQ QQ); refine twF ?_; try with_reducible intro QQ hQQ
   ((refine cBF 31 rfl rfl rfl (hmk) Tryz.func31 rfl ?_); refine tuF ?_; try clear hQQ QQ); refine twF ?_; try with_reducible intro QQ hQQ
   ((refine cOF 18 rfl rfl rfl (hW2) Tryz.func18 rfl ?_); refine tuF ?_; try clear hQQ QQ); refine twF ?_; try with_reducible intro QQ hQQ
   refine tiF ?_; try clear hQQ QQ
   refine twF ?_; try with_reducible intro QQ hQQ
   refine tiF ?_; try clear hQQ QQ
   refine twF ?_; try with_reducible intro QQ hQQ
   refine aw_weak (weak_restrict [2, 5, 6, 10, 83, 84] [0] 1 (by simp only [go_sem, ↓reduceIte]; rfl)) ?_
   refine aw_loop_ov (ι := { i : Nat // i ≤ N ∧ lexLe (G.drop i) (M.drop i) }) (fun i => [(84, iA i.1)]) (fun _ => []) (fun i => N - i.1) ⟨0, Nat.zero_le _, hlx⟩ (by first | rfl | (simp only [go_sem, ↓reduceIte]; first | done | rfl | (simp; try rfl))) ?_
   clear hlx
   rintro ⟨i, hi, hlex⟩
   refine tO ?_
   by_cases hiN : i < N
   ·have hgG : G[i]? = some (G.getD i 0) := getD_some (by omega)
    have hgM : M[i]? = some (M.getD i 0) := getD_some (by omega)
    have hcs := lex_cons hlex (by omega) (by omega)
    generalize G.getD i 0 = g at *
    generalize M.getD i 0 = m at *
    rcases hcs with hlt | ⟨heq, hnx⟩
    ·skip
     try clear hF
     have hF := And.intro hGl (And.intro hMl (And.intro hgG (And.intro hgM (hrow))))
     refine twF ?_; try with_reducible intro QQ hQQ
     refine tiF ?_; try clear hQQ QQ
     refine twF ?_; try with_reducible intro QQ hQQ
     refine tiF ?_; try clear hQQ QQ
     refine twF ?_; try with_reducible intro QQ hQQ
     refine tiF ?_; try clear hQQ QQ
     (refine aw_skip ?_); (repeat with_reducible first | apply then_n | apply block_n | apply then_x | apply then_r | apply nog_n | apply nog_r | apply block_r | apply block_e (by decide) | apply block_x (by decide))
     (refine aw_exit ?_); (repeat with_reducible first | apply then_n | apply block_n | apply then_x | apply then_r | apply nog_n | apply nog_r | apply block_r | apply block_e (by decide) | apply block_x (by decide))
     refine aw_weak (weak_round (T := ⟨[(2, .one (.box 0 0)), (5, .one (.p (.sl (G.map rowN)))), (6, .one (.p (iP Wm)))], [(0, .box [.p (.sl (y.ss.map SD.row)), .p (.sl (y.F.map rowN)), .p (iP (y.T : Int)), .p (iP (y.L : Int))])], 1⟩) (by simp only [go_sem, ↓reduceIte]; try rfl) (by first | rfl | (simp only [go_sem, ↓reduceIte]))) ?_
     exact htl _ _
    ·subst heq
     try clear hF
     have hF := And.intro hGl (And.intro hMl (And.intro hgG (And.intro hgM (hrow))))
     refine twF ?_; try with_reducible intro QQ hQQ
     refine tiF ?_; try clear hQQ QQ
     refine twF ?_; try with_reducible intro QQ hQQ
     refine tiF ?_; try clear hQQ QQ
     refine twF ?_; try with_reducible intro QQ hQQ
     refine ⟨⟨i + 1, by omega, hnx⟩, ?_, weak_round ?_ (by first | rfl | (simp only [hF, go_sem, ↓reduceIte]))⟩
     rotate_left
     ·(simp only [hF, go_sem, ↓reduceIte]; try rfl)
     ·simp only; omega
   ·skip
    try clear hF
    have hF := And.intro hGl (hMl)
    refine twF ?_; try with_reducible intro QQ hQQ
    refine tiF ?_; try clear hQQ QQ
    (refine aw_exit ?_); (repeat with_reducible first | apply then_n | apply block_n | apply then_x | apply then_r | apply nog_n | apply nog_r | apply block_r | apply block_e (by decide) | apply block_x (by decide))
    refine aw_weak (weak_round (T := ⟨[(2, .one (.box 0 0)), (5, .one (.p (.sl (G.map rowN)))), (6, .one (.p (iP Wm)))], [(0, .box [.p (.sl (y.ss.map SD.row)), .p (.sl (y.F.map rowN)), .p (iP (y.T : Int)), .p (iP (y.L : Int))])], 1⟩) (by simp only [go_sem, ↓reduceIte]; try rfl) (by first | rfl | (simp only [go_sem, ↓reduceIte]))) ?_
    exact htl _ _
  ·have eWm : (Wm == W) = false := by simpa using hm
   refine fun_ok (nt := 184) (rs := [.tmp 4]) Tryz.func7 rfl rfl rfl (by simp) fun Z w0 => ?_; refine tI ?_
   try clear hF
   have hF := And.intro hGl (And.intro hMl (eWm))
   refine twF ?_; try with_reducible intro QQ hQQ
   ((refine cOF 30 rfl rfl rfl (hfi) Tryz.func30 rfl ?_); refine tuF ?_; try clear hQQ QQ); refine twF ?_; try with_reducible intro QQ hQQ
   refine tiF ?_; try clear hQQ QQ
   refine twF ?_; try with_reducible intro QQ hQQ
   ((refine cBF 23 rfl rfl rfl (hB) Tryz.func23 rfl ?_); refine tuF ?_; try clear hQQ QQ); refine twF ?_; try with_reducible intro QQ hQQ
   ((refine cOF 18 rfl rfl rfl (hW1) Tryz.func18 rfl ?_); refine tuF ?_; try clear hQQ QQ); refine twF ?_; try with_reducible intro QQ hQQ
   ((refine cBF 31 rfl rfl rfl (hmk) Tryz.func31 rfl ?_); refine tuF ?_; try clear hQQ QQ); refine twF ?_; try with_reducible intro QQ hQQ
   ((refine cOF 18 rfl rfl rfl (hW2) Tryz.func18 rfl ?_); refine tuF ?_; try clear hQQ QQ); refine twF ?_; try with_reducible intro QQ hQQ
   refine tiF ?_; try clear hQQ QQ
   refine twF ?_; try with_reducible intro QQ hQQ
   refine tiF ?_; try clear hQQ QQ
   (refine aw_skip ?_); (repeat with_reducible first | apply then_n | apply block_n | apply then_x | apply then_r | apply nog_n | apply nog_r | apply block_r | apply block_e (by decide) | apply block_x (by decide))
   refine aw_weak (weak_round (T := ⟨[(2, .one (.box 0 0)), (5, .one (.p (.sl (G.map rowN)))), (6, .one (.p (iP W)))], [(0, .box [.p (.sl (y.ss.map SD.row)), .p (.sl (y.F.map rowN)), .p (iP (y.T : Int)), .p (iP (y.L : Int))])], 1⟩) (by simp only [go_sem, ↓reduceIte]; try rfl) (by first | rfl | (simp only [go_sem, ↓reduceIte]))) ?_
   exact htl _ _
end
end Go.Proofs.YthedkfiebmnghaaGreat
