/- Texts of the proof, joined. -/
import Derived.Test.YthedkfiebmnghaaGreatYgA
import Derived.Test.YthedkfiebmnghaaGreatYfA
set_option linter.all false
set_option maxHeartbeats 16000000
set_option maxRecDepth 20000
namespace Go.Proofs.YthedkfiebmnghaaGreat
open Go Go.RowKit Go.Sh Go.Sh.Stand Go.Pv Go.By
section
variable {ss : List SD} {first : List Int} {trip load : Int}
attribute [local go_sem] conv52 bin_rem
theorem ok_BoyTrue {by_ : List Nat} (hb : (∀ x ∈ by_, x ≤ 65535) ∧ by_.length ≤ 9223372036854775807) : FunOK Tryz.prog 5 [boyR ss first trip load, .one (.sl (by_.map row16))] (.one (.one (.v (.bool true)))) := by
 have hfi := ok_fine (ss := ss) (first := first) (trip := trip) (load := load)
 have haw := ok_awake
 cases hv : fineB ss first trip load
 ·rw [hv] at hfi
  unfold boyR at hfi ⊢
  refine fun_ok (nt := 230) (rs := [.tmp 4]) Tryz.func5 rfl rfl rfl (by simp) fun Z w0 => ?_; refine tI ?_
  refine tw ?_; try with_reducible intro QQ hQQ
  ((refine cO 30 rfl rfl rfl (hfi) Tryz.func30 rfl ?_); refine tu ?_; try clear hQQ QQ); refine tw ?_; try with_reducible intro QQ hQQ
  refine ti ?_; try clear hQQ QQ
  refine tw ?_; try with_reducible intro QQ hQQ
  ((refine cO 13 rfl rfl rfl (haw) Tryz.func13 rfl ?_); refine tu ?_; try clear hQQ QQ); refine tw ?_; try with_reducible intro QQ hQQ
  refine aw_ret ?_; refine ⟨.inr rfl, ?_⟩; simp only [resA, res1, go_sem, ↓reduceIte]
 ·rw [hv] at hfi
  have hbv : boyB ss first trip load = true := by
   unfold fineB at hv
   rw [Bool.and_eq_true] at hv
   exact hv.2
  obtain ⟨y, h, hy, rfl, rfl, rfl, rfl⟩ := boy_yOf hbv
  have hmk := ok_made h by_ hb.2 hb.1
  have hMp := madeY_plan y by_
  generalize madeY y by_ = M at *
  have hB := ok_Best (ss := y.ss) (first := y.F.map fun x : Nat => (x : Int)) (trip := y.T) (load := y.L)
  rw [hbv, hy] at hB
  obtain ⟨W, G, e1, e2, hG, hWG, hW0, hWm, hAll, hSr⟩ := plan_facts h
  rw [e1, e2] at hB
  have hB : FunOK Tryz.prog 23 [boyR y.ss (y.F.map fun x : Nat => (x : Int)) y.T y.L] (.tup [.one (.sl (G.map rowN)), .one (iP W), .one (iP 0)]) := hB
  have hW2 := ok_WaitsY h hMp
  have hlo := (hAll M hMp).1
  have hkk : ∀ k, k < 2 → ∃ (p : List Nat) (cv : Int), ([[PV.sl (G.map rowN)], [PV.sl (M.map rowN)]] : List (List PV))[k]? = some [.sl (p.map rowN)] ∧ IsPlan y.S y.n p ∧ waitsS y.D (y.T : Int) p ≤ cv ∧ 0 ≤ cv ∧ (k = 1 → cv = waitsS y.D (y.T : Int) M) ∧ (k ≠ 1 → cv = W) := by
   intro k hk
   rcases (show k = 0 ∨ k = 1 by omega) with rfl | rfl
   ·exact ⟨G, W, rfl, hG, by omega, hW0, by omega, fun _ => rfl⟩
   ·exact ⟨M, _, rfl, hMp, Int.le_refl _, by omega, fun _ => rfl, by omega⟩
  generalize waitsS y.D (y.T : Int) M = Wm at *
  clear hSr hAll e1 e2 hWG hG hMp hv hbv hy
  unfold boyR at hfi hB ⊢
  rw [castR] at hfi hB ⊢
  have hSl : (y.ss.map SD.row).length = y.S := List.length_map _
  have hSl2 : y.ss.length = y.S := rfl
  have hFl : y.F.length = y.S := h.fl
  have hS3 := h.n3
  have hrow : ∀ x, rowN x = [iP (x : Int)] := fun _ => rfl
  refine fun_ok (nt := 230) (rs := [.tmp 4]) Tryz.func5 rfl rfl rfl (by simp) fun Z w0 => ?_; refine tI ?_
  refine tw ?_; try with_reducible intro QQ hQQ
  ((refine cO 30 rfl rfl rfl (hfi) Tryz.func30 rfl ?_); refine tu ?_; try clear hQQ QQ); refine tw ?_; try with_reducible intro QQ hQQ
  refine ti ?_; try clear hQQ QQ
  refine tw ?_; try with_reducible intro QQ hQQ
  ((refine cB 23 rfl rfl rfl (hB) Tryz.func23 rfl ?_); refine tu ?_; try clear hQQ QQ); refine tw ?_; try with_reducible intro QQ hQQ
  ((refine cB 31 rfl rfl rfl (hmk) Tryz.func31 rfl ?_); refine tu ?_; try clear hQQ QQ); refine tw ?_; try with_reducible intro QQ hQQ
  ((refine cO 18 rfl rfl rfl (hW2) Tryz.func18 rfl ?_); refine tu ?_; try clear hQQ QQ); refine tw ?_; try with_reducible intro QQ hQQ
  refine ti ?_; try clear hQQ QQ
  refine tw ?_; try with_reducible intro QQ hQQ
  clear hfi hB hmk hW2
  refine aw_weak (weak_dataS 62 qN qN) ?_
  rw [show List.take 2 [[PV.sl (G.map rowN)], [PV.sl (M.map rowN)]] = [[PV.sl (G.map rowN)], [PV.sl (M.map rowN)]] from rfl]
  refine aw_weak (weak_restrict [1, 2, 6, 9, 62, 63, 64] [0] 1 (by simp only [go_sem, ↓reduceIte]; rfl)) ?_
  refine aw_loop_ov (ι := { k : Nat // k ≤ 2 }) (fun k => [(64, iA k.1)]) (fun _ => []) (fun k => 2 - k.1) ⟨0, by omega⟩ (by first | rfl | (simp only [go_sem, ↓reduceIte]; first | done | rfl | (simp; try rfl))) ?_
  rintro ⟨k, hk⟩
  refine tO ?_
  by_cases hk2 : k < 2
  ·obtain ⟨p, cv, hgP, hp, hpc, hc0, hc1, hc2⟩ := hkk k hk2
   try clear hF
   have hF := hgP
   refine twF ?_; try with_reducible intro QQ hQQ
   refine tiF ?_; try clear hQQ QQ
   refine twF ?_; try with_reducible intro QQ hQQ
   refine aw_join_ov (ι := Unit) (fun _ => [(13, iA cv)]) (fun _ => []) ?_ ?_
   ·by_cases hk1 : k = 1
    ·obtain rfl := hc1 hk1
     try clear hF
     have hF := And.intro hgP (hk1)
     refine tiF ?_; try clear hQQ QQ
     refine twF ?_; try with_reducible intro QQ hQQ
     refine ⟨(), weak_round ?_ (by first | rfl | (simp only [hF, go_sem, ↓reduceIte]))⟩
     (simp only [hF, go_sem, ↓reduceIte]; try rfl)
    ·obtain rfl := hc2 hk1
     try clear hF
     have hF := hgP
     refine tiF ?_; try clear hQQ QQ
     (refine aw_skip ?_); (repeat with_reducible first | apply then_n | apply block_n | apply then_x | apply then_r | apply nog_n | apply nog_r | apply block_r | apply block_e (by decide) | apply block_x (by decide))
     refine ⟨(), weak_round ?_ (by first | rfl | (simp only [hF, go_sem, ↓reduceIte]))⟩
     (simp only [hF, go_sem, ↓reduceIte]; try rfl)
   ·rintro ⟨⟩
    simp only [ov, ovL]
    refine tw ?_; try with_reducible intro QQ hQQ
    refine aw_weak (weak_restrict [1, 2, 6, 9, 12, 13, 62, 63, 64, 74, 75, 76] [0] 1 (by simp only [go_sem, ↓reduceIte]; rfl)) ?_
    refine aw_loop_ov (ι := { i : Nat // i ≤ y.S }) (fun i => [(76, iA i.1)]) (fun _ => []) (fun i => y.S - i.1) ⟨0, Nat.zero_le _⟩ (by first | rfl | (simp only [go_sem, ↓reduceIte]; first | done | rfl | (simp; try rfl))) ?_
    rintro ⟨i, hi⟩
    refine tO ?_
    by_cases hiS : i < y.S
    ·have hok := h.ok i hiS
     have hss := sd_mem hiS
     have hsim := sim_true h hiS hp hc0 hpc (takS_mem hok by_ i)
     have hpl := plan_len h hp
     have hrw : SD.row (y.sd i) = [iP (y.sd i).m0.1, iP (y.sd i).m0.2, iP (y.sd i).m1.1, iP (y.sd i).m1.2, iP (y.sd i).m2.1, iP (y.sd i).m2.2, .sl ((y.sd i).runs.map row2), .sl ((y.sd i).sheep.map row1), .sl ((y.sd i).looks.map row3)] := rfl
     try clear hF
     have hF := And.intro hSl (And.intro hSl2 (And.intro hss (hrw)))
     refine twF ?_; try with_reducible intro QQ hQQ
     refine tiF ?_; try clear hQQ QQ
     (refine aw_skip ?_); (repeat with_reducible first | apply then_n | apply block_n | apply then_x | apply then_r | apply nog_n | apply nog_r | apply block_r | apply block_e (by decide) | apply block_x (by decide))
     apply aw_seq
     refine aw_join_keepQ (ι := Unit) [1, 2, 6, 9, 12, 13, 62, 63, 64, 74, 75, 76] (by simp only [hF, go_sem, ↓reduceIte]; rfl) (fun _ => []) (fun _ => []) (fun Q0 => ?_) ?_
     ·refine twF ?_; try with_reducible intro QQ hQQ
      refine aw_weak (weak_restrict [1, 2, 6, 9, 12, 13, 14, 15, 16, 62, 63, 64, 74, 75, 76, 82, 83] [2, 1, 0] 3 (by simp only [go_sem, ↓reduceIte]; rfl)) ?_
      refine aw_loop_ov (ι := { n : Nat // n ≤ 3 }) (fun n => [(83, iA n.1)]) (fun n => [(2, .box (cC fun j => if j < n.1 then takT (y.sd i) by_ i j else 0))]) (fun n => 3 - n.1) ⟨0, by omega⟩ (by first | rfl | (simp only [go_sem, ↓reduceIte]; first | done | rfl | (simp; try rfl))) ?_
      rintro ⟨n, hn⟩
      refine tO ?_
      by_cases hn3 : n < 3
      ·have hmc := mn_cells (s := y.sd i) hn3
       have hmr := mn_rng hok n
       obtain ⟨g0, hg0⟩ : ∃ g : Nat → Int, (fun j => if j < n then takT (y.sd i) by_ i j else 0) = g := ⟨_, rfl⟩
       have hgn : (fun j => if j < n + 1 then takT (y.sd i) by_ i j else 0) = fun j => if j = n then takT (y.sd i) by_ i n else if j = n then (mnS (y.sd i) n).1 else g0 j := by
        funext j
        rw [← hg0]
        by_cases e : j = n
        ·subst e; rw [if_pos (by omega), if_pos rfl]
        ·rw [if_neg e, if_neg e]
         by_cases e2 : j < n
         ·rw [if_pos (by omega)]; exact (if_pos e2).symm
         ·rw [if_neg (by omega)]; exact (if_neg e2).symm
       rw [hg0]
       have hcl := cC_len g0
       have hrf := cC_refs
       have hs1 := cC_spl (g := g0) hn3 (mnS (y.sd i) n).1
       have htr := takT_rng hok by_ i n
       by_cases hb0 : by_.length = 0
       ·have htk : takT (y.sd i) by_ i n = (mnS (y.sd i) n).1 := by unfold takT; rw [if_pos hb0]; omega
        have hgn : (fun j => if j < n + 1 then takT (y.sd i) by_ i j else 0) = fun j => if j = n then (mnS (y.sd i) n).1 else g0 j := by
         rw [hgn, htk]; funext j; split <;> rfl
        have hbl : (by_.map row16).length = by_.length := List.length_map _
        try clear hF
        have hF := And.intro hmc (And.intro hcl (And.intro hs1 (And.intro hbl (hrf))))
        refine twF ?_; try with_reducible intro QQ hQQ
        refine tiF ?_; try clear hQQ QQ
        refine twF ?_; try with_reducible intro QQ hQQ
        refine tiF ?_; try clear hQQ QQ
        refine twF ?_; try with_reducible intro QQ hQQ
        refine ⟨⟨n + 1, by omega⟩, ?_, weak_round ?_ (by first | rfl | (simp only [hF, go_sem, ↓reduceIte]))⟩
        rotate_left
        ·simp only [hgn]
         (simp only [hF, go_sem, ↓reduceIte]; try rfl)
        ·simp only; omega
       ·have hb1 : 0 < by_.length := by omega
        have hbl : (by_.map row16).length = by_.length := List.length_map _
        have hgb : by_[(n + i) % by_.length]? = some (by_.getD ((n + i) % by_.length) 0) := getD_some (Nat.mod_lt _ hb1)
        have hx := hb.1 _ (mem_of_getD (d := 0) (Nat.mod_lt (n + i) hb1))
        have hr16 : ∀ n, row16 n = [.v (.int .u16 (n : Int))] := fun _ => rfl
        have htk : takT (y.sd i) by_ i n = (mnS (y.sd i) n).1 + (((by_.getD ((n + i) % by_.length) 0 : Nat) : Int) + 3 * (n : Int)).tmod ((mnS (y.sd i) n).2 - (mnS (y.sd i) n).1 + 1) := by unfold takT; rw [if_neg hb0]
        have ht1 : ((n + i : Nat) : Int).tmod ((by_.length : Nat) : Int) = (((n + i) % by_.length : Nat) : Int) := (Int.ofNat_tmod _ _).symm
        have hil : (n + i) % by_.length < by_.length := Nat.mod_lt _ hb1
        have hbm := hb.2
        have hs2 := cC_spl (g := fun j => if j = n then (mnS (y.sd i) n).1 else g0 j) hn3 (takT (y.sd i) by_ i n)
        have hcl2 := cC_len (fun j => if j = n then (mnS (y.sd i) n).1 else g0 j)
        have hcd := cC_drop (g := fun j => if j = n then (mnS (y.sd i) n).1 else g0 j) hn3
        simp only [if_true] at hcd
        generalize by_.getD ((n + i) % by_.length) 0 = x at *
        generalize hm : (n + i) % by_.length = im at *
        generalize (mnS (y.sd i) n).1 = a at *
        generalize (mnS (y.sd i) n).2 = bb at *
        generalize takT (y.sd i) by_ i n = tv at *
        obtain ⟨rm, hrm⟩ : ∃ rm, ((x : Int) + 3 * (n : Int)).tmod (bb - a + 1) = rm := ⟨_, rfl⟩
        rw [hrm] at htk
        have htk' : a + rm = tv := htk.symm
        generalize hg1 : (fun j => if j = n then a else g0 j) = g1 at *
        have hgn2 : (fun j => if j < n + 1 then takT (y.sd i) by_ i j else 0) = fun j => if j = n then tv else g0 j := by
         rw [hgn]; funext j
         by_cases e : j = n <;> simp [e]
        try clear hF
        have hF := And.intro hrf (And.intro hmc (And.intro hcl (And.intro hs1 (And.intro hbl (And.intro hgb (And.intro hr16 (And.intro ht1 (And.intro hrm (And.intro htk' (And.intro hs2 (And.intro hcl2 (hcd))))))))))))
        refine twF ?_; try with_reducible intro QQ hQQ
        refine tiF ?_; try clear hQQ QQ
        refine twF ?_; try with_reducible intro QQ hQQ
        refine tiF ?_; try clear hQQ QQ
        try apply aw_seq
        refine aw_weak (weak_restrict [1, 2, 6, 9, 12, 13, 14, 15, 16, 17, 18, 62, 63, 64, 74, 75, 76, 82, 83] [3, 2, 1, 0] 4 (by simp only [hF, go_sem, ↓reduceIte]; rfl)) ?_
        refine twF ?_; try with_reducible intro QQ hQQ
        refine ⟨⟨n + 1, by omega⟩, ?_, weak_round ?_ (by first | rfl | (simp only [hF, go_sem, ↓reduceIte]))⟩
        rotate_left
        ·simp only [hgn2]
         (simp only [hF, go_sem, ↓reduceIte]; try rfl)
        ·simp only; omega
      ·have hne : n = 3 := by omega
       subst hne
       have hcc : (cC fun j => if j < 3 then takT (y.sd i) by_ i j else 0) = [.p (iP (takT (y.sd i) by_ i 0)), .p (iP (takT (y.sd i) by_ i 1)), .p (iP (takT (y.sd i) by_ i 2))] := rfl
       rw [hcc]
       have htz : takS (y.sd i) by_ i = (takT (y.sd i) by_ i 0, takT (y.sd i) by_ i 1, takT (y.sd i) by_ i 2) := rfl
       have hT0 := takT_rng hok by_ i 0
       have hT1 := takT_rng hok by_ i 1
       have hT2 := takT_rng hok by_ i 2
       have hm0 := mn_rng hok 0
       have hm1 := mn_rng hok 1
       have hm2 := mn_rng hok 2
       rw [htz] at hsim
       generalize takT (y.sd i) by_ i 0 = t0 at *
       generalize takT (y.sd i) by_ i 1 = t1 at *
       generalize takT (y.sd i) by_ i 2 = t2 at *
       have hgF : y.F[i]? = some (y.f i) := getD_some (by rw [h.fl]; exact hiS)
       have hf16 := h.f16 i hiS
       have hL5 := h.l5
       have hT60 := h.t60
       clear hss hrw
       generalize y.sd i = s at *
       try clear hF
       have hF := And.intro hFl (And.intro hgF (hrow))
       refine twF ?_; try with_reducible intro QQ hQQ
       refine tiF ?_; try clear hQQ QQ
       refine twF ?_; try with_reducible intro QQ hQQ
       refine aw_weak (weak_own 19 3 1 (by simp (disch := first | decide | omega) only [go_sem, ↓reduceIte])) ?_
       dsimp only [AL.set, Nat.reduceEqDiff, ↓reduceIte]
       refine aw_weak (weak_restrict [1, 2, 6, 9, 12, 13, 14, 15, 16, 19, 62, 63, 64, 74, 75, 76, 124, 125] [3, 2, 1, 0] 4 (by simp only [go_sem, ↓reduceIte]; rfl)) ?_
       refine aw_loop_ov (ι := { j : Nat // j ≤ y.f i }) (fun j => [(19, .one (.own 3 j.1)), (125, iA j.1)]) (fun j => [(3, .arr 3 1 ((List.replicate j.1 (0 : Int)).map row1) true)]) (fun j => y.f i - j.1) ⟨0, Nat.zero_le _⟩ (by first | rfl | (simp only [go_sem, ↓reduceIte]; first | done | rfl | (simp; try rfl))) ?_
       rintro ⟨j, hj⟩
       refine tO ?_
       have hjl : ((List.replicate j (0 : Int)).map row1).length = j := by rw [List.length_map, List.length_replicate]
       by_cases hjf : j < y.f i
       ·have hlb : (j + 1) * 8 ≤ 140737488355328 := by omega
        have hrs : (List.replicate (j + 1) (0 : Int)).map row1 = (List.replicate j (0 : Int)).map row1 ++ [[iP 0]] := by rw [List.replicate_succ', List.map_append]; rfl
        try clear hF
        have hF := And.intro hjl (hlb)
        refine twF ?_; try with_reducible intro QQ hQQ
        refine tiF ?_; try clear hQQ QQ
        refine twF ?_; try with_reducible intro QQ hQQ
        refine ⟨⟨j + 1, by omega⟩, ?_, weak_round ?_ (by first | rfl | (simp only [hF, go_sem, ↓reduceIte]))⟩
        rotate_left
        ·simp only [hrs]
         (simp only [hF, go_sem, ↓reduceIte]; try rfl)
        ·simp only; omega
       ·have hje : j = y.f i := by omega
        subst hje
        have hpm : (p.map rowN).length = p.length := List.length_map _
        try clear hF
        have hF := And.intro hjl (hpm)
        refine twF ?_; try with_reducible intro QQ hQQ
        refine tiF ?_; try clear hQQ QQ
        refine twF ?_; try with_reducible intro QQ hQQ
        have e0 : y.f i = (theK y i p 0).length := by rw [theK_zero, List.length_replicate]
        rw [← theK_zero y i p]
        refine aw_weak (weak_restrict [1, 2, 6, 9, 12, 13, 14, 15, 16, 19, 62, 63, 64, 74, 75, 76, 131, 132, 133] [3, 2, 1, 0] 4 (by simp only [go_sem, ↓reduceIte]; rfl)) ?_
        clear hgF hf16
        rw [e0]
        refine aw_loop_ov (ι := { q : Nat // q ≤ p.length }) (fun q => [(19, .one (.own 3 (theK y i p q.1).length)), (133, iA q.1)]) (fun q => [(3, .arr 3 1 ((theK y i p q.1).map row1) true)]) (fun q => p.length - q.1) ⟨0, Nat.zero_le _⟩ (by first | rfl | (simp only [go_sem, ↓reduceIte]; first | done | rfl | (simp; try rfl))) ?_
        rintro ⟨q, hq⟩
        refine tO ?_
        have hml : ((theK y i p q).map row1).length = (theK y i p q).length := List.length_map _
        have htl := theK_len y i hq
        have hpm : (p.map rowN).length = p.length := List.length_map _
        have hqL : q * y.L ≤ 48 * 5 := Nat.mul_le_mul (by omega) h.l5
        have hf16 := h.f16 i hiS
        by_cases hqp : q < p.length
        ·have hgp : p[q]? = some (p.getD q 0) := getD_some hqp
         have hsucc := theK_succ y i hqp
         have htl2 := theK_len y i (show q + 1 ≤ p.length from hqp)
         have hqL2 : (q + 1) * y.L ≤ 48 * 5 := Nat.mul_le_mul (by omega) h.l5
         generalize hsd : p.getD q 0 = sd at *
         obtain ⟨kt, hkt, hkt2⟩ : ∃ kt : Nat, ((q + 1 : Nat) : Int) * (y.T : Int) = (kt : Int) ∧ kt ≤ 48 * 60 := ⟨(q + 1) * y.T, by push_cast; rfl, Nat.mul_le_mul (by omega) h.t60⟩
         have hkt3 : ((q : Int) + 1) * (y.T : Int) = (kt : Int) := by rw [← hkt]; push_cast; rfl
         rw [hkt] at hsucc
         try clear hF
         have hF := And.intro hpm (And.intro hgp (hrow))
         refine twF ?_; try with_reducible intro QQ hQQ
         refine tiF ?_; try clear hQQ QQ
         refine twF ?_; try with_reducible intro QQ hQQ
         refine aw_weak (weak_restrict [1, 2, 6, 9, 12, 13, 14, 15, 16, 19, 20, 21, 62, 63, 64, 74, 75, 76, 131, 132, 133, 139, 140] [3, 2, 1, 0] 4 (by simp only [go_sem, ↓reduceIte]; rfl)) ?_
         by_cases hsi : sd = i
         ·rw [if_pos hsi] at hsucc
          have esk : (((sd : Nat) : Int) == ((i : Nat) : Int)) = true := by rw [hsi]; simp
          generalize theK y i p q = t0' at *
          rw [show t0' = t0' ++ List.replicate 0 (kt : Int) by simp]
          refine aw_loop_ov (ι := { j : Nat // j ≤ y.L }) (fun j => [(19, .one (.own 3 (t0' ++ List.replicate j.1 (kt : Int)).length)), (140, iA j.1)]) (fun j => [(3, .arr 3 1 ((t0' ++ List.replicate j.1 (kt : Int)).map row1) true)]) (fun j => y.L - j.1) ⟨0, Nat.zero_le _⟩ (by first | rfl | (simp only [go_sem, ↓reduceIte]; first | done | rfl | (simp; try rfl))) ?_
          rintro ⟨j, hj⟩
          refine tO ?_
          have hjm : ((t0' ++ List.replicate j (kt : Int)).map row1).length = (t0' ++ List.replicate j (kt : Int)).length := List.length_map _
          by_cases hjL : j < y.L
          ·have hlb : ((t0' ++ List.replicate j (kt : Int)).length + 1) * 8 ≤ 140737488355328 := by rw [List.length_append, List.length_replicate]; omega
           have hrs : (t0' ++ List.replicate (j + 1) (kt : Int)).map row1 = (t0' ++ List.replicate j (kt : Int)).map row1 ++ [[iP (kt : Int)]] := by rw [List.replicate_succ', ← List.append_assoc, List.map_append]; rfl
           have hrl : (t0' ++ List.replicate (j + 1) (kt : Int)).length = (t0' ++ List.replicate j (kt : Int)).length + 1 := by simp; omega
           generalize t0' ++ List.replicate j (kt : Int) = t1' at *
           try clear hF
           have hF := And.intro hjm (And.intro hlb (And.intro esk (And.intro hkt (hkt3))))
           refine twF ?_; try with_reducible intro QQ hQQ
           refine tiF ?_; try clear hQQ QQ
           refine twF ?_; try with_reducible intro QQ hQQ
           refine tiF ?_; try clear hQQ QQ
           refine twF ?_; try with_reducible intro QQ hQQ
           refine ⟨⟨j + 1, by omega⟩, ?_, weak_round ?_ (by first | rfl | (simp only [hF, go_sem, ↓reduceIte]))⟩
           rotate_left
           ·simp only [hrs, hrl]
            (simp only [hF, go_sem, ↓reduceIte]; try rfl)
           ·simp only; omega
          ·have hje : j = y.L := by omega
           subst hje
           rw [← hsucc]
           refine tw ?_; try with_reducible intro QQ hQQ
           refine ti ?_; try clear hQQ QQ
           refine tw ?_; try with_reducible intro QQ hQQ
           refine ⟨⟨q + 1, by omega⟩, ?_, weak_round ?_ (by first | rfl | (simp only [go_sem, ↓reduceIte]))⟩
           rotate_left
           ·(simp only [go_sem, ↓reduceIte]; try rfl)
           ·simp only; omega
         ·rw [if_neg hsi, List.append_nil] at hsucc
          have esk : (((sd : Nat) : Int) == ((i : Nat) : Int)) = false := by simp; omega
          rw [← hsucc]
          refine aw_loop_ov (ι := { j : Nat // j ≤ y.L }) (fun j => [(140, iA j.1)]) (fun j => []) (fun j => y.L - j.1) ⟨0, Nat.zero_le _⟩ (by first | rfl | (simp only [go_sem, ↓reduceIte]; first | done | rfl | (simp; try rfl))) ?_
          rintro ⟨j, hj⟩
          refine tO ?_
          by_cases hjL : j < y.L
          ·skip
           try clear hF
           have hF := esk
           refine twF ?_; try with_reducible intro QQ hQQ
           refine tiF ?_; try clear hQQ QQ
           refine twF ?_; try with_reducible intro QQ hQQ
           refine tiF ?_; try clear hQQ QQ
           refine twF ?_; try with_reducible intro QQ hQQ
           refine ⟨⟨j + 1, by omega⟩, ?_, weak_round ?_ (by first | rfl | (simp only [hF, go_sem, ↓reduceIte]))⟩
           rotate_left
           ·(simp only [hF, go_sem, ↓reduceIte]; try rfl)
           ·simp only; omega
          ·have hje : j = y.L := by omega
           subst hje
           refine tw ?_; try with_reducible intro QQ hQQ
           refine ti ?_; try clear hQQ QQ
           refine tw ?_; try with_reducible intro QQ hQQ
           refine ⟨⟨q + 1, by omega⟩, ?_, weak_round ?_ (by first | rfl | (simp only [go_sem, ↓reduceIte]))⟩
           rotate_left
           ·(simp only [go_sem, ↓reduceIte]; try rfl)
           ·simp only; omega
        ·have hqe : q = p.length := by omega
         subst hqe
         have hTl := there_len y i p
         have hcnt := List.count_le_length (a := i) (l := p)
         rw [theK_all] at hml htl ⊢
         have hTr := there_rng h (i := i) hpl
         generalize thereL (y.f i) y.L (y.T : Int) i p = TH at *
         refine aw_weak (weak_dataS 19 qN qN) ?_
         rw [show List.take TH.length (TH.map row1) = (TH.drop 0).map row1 by rw [List.drop_zero]; exact List.take_of_length_le (by rw [hml]; exact Nat.le_refl _)]
         have hsl : (s.sheep.map row1).length = s.sheep.length := List.length_map _
         try clear hF
         have hF := And.intro hsl (hpm)
         refine twF ?_; try with_reducible intro QQ hQQ
         refine tiF ?_; try clear hQQ QQ
         refine twF ?_; try with_reducible intro QQ hQQ
         refine aw_weak (weak_restrict [1, 2, 6, 9, 12, 13, 15, 16, 19, 22, 23, 62, 63, 64, 74, 75, 76, 156, 157, 158] [2, 1, 0] 3 (by simp only [go_sem, ↓reduceIte]; rfl)) ?_
         rw [show TH.map row1 = (TH.drop 0).map row1 by rw [List.drop_zero]]
         refine aw_loop_ov (ι := { q : Nat × Nat × Int // q.1 ≤ s.sheep.length ∧ q.2.1 ≤ s.runs.length ∧ 0 ≤ q.2.2 ∧ q.2.2 ≤ 640 ∧ simB (runF s.runs) s.runs.length cv (fun k => TH[k]?) (tkN (t0, t1, t2)) ((ksN s.sheep).drop q.1) q.1 q.2.1 q.2.2 = true }) (fun q => [(19, .one (.p (.sl ((TH.drop q.1.1).map row1)))), (22, iA q.1.2.2), (23, iA q.1.2.1), (158, iA q.1.1)]) (fun _ => []) (fun q => s.sheep.length - q.1.1) ⟨(0, 0, 0), Nat.zero_le _, Nat.zero_le _, by simp, by simp, hsim⟩ (by first | rfl | (simp only [go_sem, ↓reduceIte]; first | done | rfl | (simp; try rfl))) ?_
         clear hsim
         rintro ⟨⟨k6, r0, d⟩, g1, g2, g3, g4, g5⟩
         refine tO ?_
         dsimp only at g1 g2 g3 g4 g5
         by_cases hks : k6 < s.sheep.length
         ·have hgs : s.sheep[k6]? = some (s.sheep.getD k6 0) := get_some1' hks
          have hx := kinds_ok hok _ (mem_of_getD (d := 0) hks)
          have hr1 : ∀ z, row1 z = [iP z] := fun _ => rfl
          have hkd : (ksN s.sheep).drop k6 = (s.sheep.getD k6 0).toNat :: (ksN s.sheep).drop (k6 + 1) := by
           have hlk : k6 < (ksN s.sheep).length := by unfold ksN; rw [List.length_map]; exact hks
           rw [List.drop_eq_getElem_cons hlk]
           congr 1
           unfold ksN
           simp [hks]
           first | done | rfl | exact List.getElem_map _ | rw [List.getElem_map]
          rw [hkd] at g5
          obtain ⟨res, hs, hnx⟩ := sim_step g5
          clear g5 hkd
          generalize s.sheep.getD k6 0 = x at *
          try clear hF
          have hF := And.intro hsl (And.intro hgs (hr1))
          refine twF ?_; try with_reducible intro QQ hQQ
          refine tiF ?_; try clear hQQ QQ
          refine twF ?_; try with_reducible intro QQ hQQ
          refine aw_weak (weak_restrict [1, 2, 6, 9, 12, 13, 15, 16, 19, 22, 23, 25, 26, 27, 62, 63, 64, 74, 75, 76, 156, 157, 158] [2, 1, 0] 3 (by simp only [go_sem, ↓reduceIte]; rfl)) ?_
          refine aw_loop_ov (ι := { q : Nat × Nat × Int // SI (runF s.runs) s.runs.length cv (TH[k6]?) d res r0 q.1 q.2.1 q.2.2 }) (fun q => [(23, iA q.1.2.1), (26, iA q.1.2.2), (27, iA q.1.1)]) (fun _ => []) (fun q => s.runs.length - q.1.1) ⟨(r0, r0, -1), .inl ⟨rfl, rfl, g2, hs⟩⟩ (by first | rfl | (simp only [go_sem, ↓reduceIte]; first | done | rfl | (simp; try rfl))) ?_
          clear hs
          rintro ⟨⟨r, at_, bg⟩, hSI⟩
          refine tO ?_
          dsimp only at hSI
          have hrl : (s.runs.map row2).length = s.runs.length := List.length_map _
          have hr2 : ∀ z : Int × Int, row2 z = [iP z.1, iP z.2] := fun _ => rfl
          have hr8 : s.runs.length ≤ 40 := Nat.le_trans (ok_fit hok).runs.2 (by decide)
          rcases hSI with ⟨hbg, hat, hr, hs⟩ | ⟨b0, b1, b2, hr, hres, hne⟩
          ·subst hbg hat
           by_cases hrn : r < s.runs.length
           ·have hgr : s.runs[r]? = some (s.runs.getD r (0, 0)) := getD_some hrn
            have hrb : 0 ≤ (s.runs.getD r (0, 0)).1 ∧ (s.runs.getD r (0, 0)).1 < (s.runs.getD r (0, 0)).2 ∧ (s.runs.getD r (0, 0)).2 ≤ 600 := (ok_fit hok).runb _ (mem_of_getD (l := s.runs) (d := (0, 0)) hrn)
            have hst := scan_step hs hrn
            rw [show runF s.runs r = s.runs.getD r (0, 0) from rfl] at hst
            generalize s.runs.getD r (0, 0) = rb at *
            obtain ⟨st, be⟩ := rb
            dsimp only at hst hrb
            have hmx : (if st > d then st else d) = max d st := by rw [Int.max_def]; split <;> split <;> omega
            obtain ⟨w, hw⟩ : ∃ w, max d st = w := ⟨_, rfl⟩
            have hw1 : d ≤ w ∧ st ≤ w := by rw [← hw]; exact ⟨Int.le_max_left _ _, Int.le_max_right _ _⟩
            rw [hw] at hmx hst
            try clear hF
            have hF := And.intro hsl (And.intro hgr (And.intro hr2 (And.intro hrl (hmx))))
            refine twF ?_; try with_reducible intro QQ hQQ
            refine tiF ?_; try clear hQQ QQ
            refine twF ?_; try with_reducible intro QQ hQQ
            rcases hst with ⟨c1, c2⟩ | ⟨z, ht, c1, c2, ⟨c3, hres⟩ | ⟨c3, c4⟩⟩
            ·skip
             try clear hF
             have hF := hrl
             refine tiF ?_; try clear hQQ QQ
             (refine aw_exit ?_); (repeat with_reducible first | apply then_n | apply block_n | apply then_x | apply then_r | apply nog_n | apply nog_r | apply block_r | apply block_e (by decide) | apply block_x (by decide))
             refine twF ?_; try with_reducible intro QQ hQQ
             refine ⟨⟨(r + 1, at_, -1), .inl ⟨rfl, rfl, by omega, c2⟩⟩, ?_, weak_round ?_ (by first | rfl | (simp only [hF, go_sem, ↓reduceIte]))⟩
             rotate_left
             ·(simp only [hF, go_sem, ↓reduceIte]; try rfl)
             ·simp only; omega
            ·have hk6 : k6 < TH.length := (List.getElem?_eq_some_iff.1 ht).1
             have hzr := hTr z (List.mem_of_getElem? ht)
             have hU0 : (TH.drop k6)[0]? = some z := by rw [List.getElem?_drop, Nat.add_zero]; exact ht
             have hUp : 0 < (TH.drop k6).length := by rw [List.length_drop]; omega
             generalize TH.drop k6 = U at *
             have hUl : (U.map row1).length = U.length := List.length_map _
             have hz0 : ((U.length : Int) == 0) = false := by rw [beq_eq_false_iff_ne]; omega
             have hmx2 : (if z > w then z else w) = max w z := by rw [Int.max_def]; split <;> split <;> omega
             obtain ⟨v, hv⟩ : ∃ v, max w z = v := ⟨_, rfl⟩
             have hv1 : w ≤ v ∧ z ≤ v := by rw [← hv]; exact ⟨Int.le_max_left _ _, Int.le_max_right _ _⟩
             rw [hv] at hmx2 c3 hres
             try clear hF
             have hF := And.intro hrl (And.intro hgr (And.intro hr2 (And.intro hr1 (And.intro hU0 (And.intro hUl (And.intro hz0 (hmx2)))))))
             refine tiF ?_; try clear hQQ QQ
             refine twF ?_; try with_reducible intro QQ hQQ
             refine tiF ?_; try clear hQQ QQ
             refine twF ?_; try with_reducible intro QQ hQQ
             refine tiF ?_; try clear hQQ QQ
             refine twF ?_; try with_reducible intro QQ hQQ
             refine ⟨⟨(r + 1, r, v), .inr ⟨by (dsimp only; omega), by (dsimp only; omega), hrn, rfl, hres, by rw [ht]; simp⟩⟩, ?_, weak_round ?_ (by first | rfl | (simp only [hF, go_sem, ↓reduceIte]))⟩
             rotate_left
             ·(simp only [hF, go_sem, ↓reduceIte]; try rfl)
             ·simp only; omega
            ·have hk6 : k6 < TH.length := (List.getElem?_eq_some_iff.1 ht).1
             have hzr := hTr z (List.mem_of_getElem? ht)
             have hU0 : (TH.drop k6)[0]? = some z := by rw [List.getElem?_drop, Nat.add_zero]; exact ht
             have hUp : 0 < (TH.drop k6).length := by rw [List.length_drop]; omega
             generalize TH.drop k6 = U at *
             have hUl : (U.map row1).length = U.length := List.length_map _
             have hz0 : ((U.length : Int) == 0) = false := by rw [beq_eq_false_iff_ne]; omega
             have hmx2 : (if z > w then z else w) = max w z := by rw [Int.max_def]; split <;> split <;> omega
             obtain ⟨v, hv⟩ : ∃ v, max w z = v := ⟨_, rfl⟩
             have hv1 : w ≤ v ∧ z ≤ v := by rw [← hv]; exact ⟨Int.le_max_left _ _, Int.le_max_right _ _⟩
             rw [hv] at hmx2 c3
             try clear hF
             have hF := And.intro hrl (And.intro hgr (And.intro hr2 (And.intro hr1 (And.intro hU0 (And.intro hUl (And.intro hz0 (hmx2)))))))
             refine tiF ?_; try clear hQQ QQ
             refine twF ?_; try with_reducible intro QQ hQQ
             refine tiF ?_; try clear hQQ QQ
             refine twF ?_; try with_reducible intro QQ hQQ
             refine tiF ?_; try clear hQQ QQ
             refine twF ?_; try with_reducible intro QQ hQQ
             refine ⟨⟨(r + 1, at_, -1), .inl ⟨rfl, rfl, by omega, c4⟩⟩, ?_, weak_round ?_ (by first | rfl | (simp only [hF, go_sem, ↓reduceIte]))⟩
             rotate_left
             ·(simp only [hF, go_sem, ↓reduceIte]; try rfl)
             ·simp only; omega
           ·skip
            try clear hF
            have hF := hrl
            refine twF ?_; try with_reducible intro QQ hQQ
            refine tiF ?_; try clear hQQ QQ
            refine twF ?_; try with_reducible intro QQ hQQ
            refine tiF ?_; try clear hQQ QQ
            refine twF ?_; try with_reducible intro QQ hQQ
            refine ⟨(), weak_round ?_ (by first | rfl | (simp only [hF, go_sem, ↓reduceIte]))⟩
            (simp only [hF, go_sem, ↓reduceIte]; try rfl)
          ·have hsx := hnx at_ bg hres
           obtain ⟨xn, rfl⟩ := Int.eq_ofNat_of_zero_le hx.1
           rw [Int.toNat_natCast] at hsx
           have htc : List.drop xn [AC.p (iP t0), AC.p (iP t1), AC.p (iP t2)] = .p (iP (tkN (t0, t1, t2) xn)) :: List.drop (xn + 1) [AC.p (iP t0), AC.p (iP t1), AC.p (iP t2)] := by
            rcases (show xn = 0 ∨ xn = 1 ∨ xn = 2 by omega) with rfl | rfl | rfl <;> rfl
           have htv : 1 ≤ tkN (t0, t1, t2) xn ∧ tkN (t0, t1, t2) xn ≤ 40 := by
            rcases (show xn = 0 ∨ xn = 1 ∨ xn = 2 by omega) with rfl | rfl | rfl
            ·show 1 ≤ t0 ∧ t0 ≤ 40; omega
            ·show 1 ≤ t1 ∧ t1 ≤ 40; omega
            ·show 1 ≤ t2 ∧ t2 ≤ 40; omega
           have hk6 : k6 < TH.length := by
            by_cases hh : k6 < TH.length
            ·exact hh
            ·exact absurd (List.getElem?_eq_none (by omega)) hne
           generalize tkN (t0, t1, t2) xn = tv at htc htv hsx
           have hkr : rowsK 1 ((TH.drop k6).map row1) := of_eq_true (rowsK_r1 _)
           have hUp : 0 < (TH.drop k6).length := by rw [List.length_drop]; omega
           have hB : (((TH.drop k6).map row1).take ((TH.drop k6).map row1).length).drop 1 = (TH.drop (k6 + 1)).map row1 := by rw [List.take_length, ← List.map_drop, List.drop_drop]
           have hUl : ((TH.drop k6).map row1).length = (TH.drop k6).length := List.length_map _
           rcases Nat.lt_or_ge r s.runs.length with hrn | hrn
           all_goals
            try clear hF
            have hF := And.intro hrl (And.intro htc (hUl))
            refine twF ?_; try with_reducible intro QQ hQQ
            refine tiF ?_; try clear hQQ QQ
            refine twF ?_; try with_reducible intro QQ hQQ
            refine tiF ?_; try clear hQQ QQ
            refine twF ?_; try with_reducible intro QQ hQQ
            refine callD_sliceG (T := 23) (E := 3) (k := 1) (l := 1) (h := ((TH.drop k6).map row1).length) (rows := (TH.drop k6).map row1) rfl rfl qF qF qF hkr ⟨.i64, qF⟩ rfl (by rw [hUl]; omega) (Nat.le_refl _) hB ?_
            (refine tdF ?_; try clear hQQ QQ)
            refine twF ?_; try with_reducible intro QQ hQQ
            refine ⟨⟨(k6 + 1, at_, bg + tv), by (dsimp only; omega), by (dsimp only; omega), by (dsimp only; omega), by (dsimp only; omega), hsx⟩, ?_, weak_round ?_ (by first | rfl | (simp only [hF, go_sem, ↓reduceIte]))⟩
            rotate_left
            ·(simp only [hF, go_sem, ↓reduceIte]; try rfl)
            ·simp only; omega
         ·have hke : k6 = s.sheep.length := by omega
          subst hke
          try clear hF
          have hF := hsl
          refine twF ?_; try with_reducible intro QQ hQQ
          refine tiF ?_; try clear hQQ QQ
          refine twF ?_; try with_reducible intro QQ hQQ
          refine ⟨(), weak_round ?_ (by first | rfl | (simp only [hF, go_sem, ↓reduceIte]))⟩
          (simp only [hF, go_sem, ↓reduceIte]; try rfl)
     ·rintro ⟨⟩
      simp only [ov, ovL]
      refine tw ?_; try with_reducible intro QQ hQQ
      refine ⟨⟨i + 1, by omega⟩, ?_, weak_round ?_ (by first | rfl | (simp only [go_sem, ↓reduceIte]))⟩
      rotate_left
      ·(simp only [go_sem, ↓reduceIte]; try rfl)
      ·simp only; omega
    ·have hie : i = y.S := by omega
     subst hie
     refine tw ?_; try with_reducible intro QQ hQQ
     refine ti ?_; try clear hQQ QQ
     refine tw ?_; try with_reducible intro QQ hQQ
     refine ⟨⟨k + 1, by omega⟩, ?_, weak_round ?_ (by first | rfl | (simp only [go_sem, ↓reduceIte]))⟩
     rotate_left
     ·(simp only [go_sem, ↓reduceIte]; try rfl)
     ·simp only; omega
  ·have hke : k = 2 := by omega
   subst hke
   refine tw ?_; try with_reducible intro QQ hQQ
   refine ti ?_; try clear hQQ QQ
   refine tw ?_; try with_reducible intro QQ hQQ
   ((refine cO 13 rfl rfl rfl (haw) Tryz.func13 rfl ?_); refine tu ?_; try clear hQQ QQ); refine tw ?_; try with_reducible intro QQ hQQ
   refine aw_ret ?_; refine ⟨.inr rfl, ?_⟩; simp only [resA, res1, go_sem, ↓reduceIte]
end
end Go.Proofs.YthedkfiebmnghaaGreat
