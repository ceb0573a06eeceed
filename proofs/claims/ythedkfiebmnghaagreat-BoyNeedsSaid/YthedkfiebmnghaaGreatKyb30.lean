/- Texts of the proof, joined. -/
import Derived.Test.YthedkfiebmnghaaGreatKyb29
set_option linter.all false
set_option maxHeartbeats 16000000
set_option maxRecDepth 20000
namespace Go.Proofs.YthedkfiebmnghaaGreat
open Go Go.RowKit Go.Sh Go.Pv Go.By
open Go.Sort (swp PermIn SortedIn SWO permIn_refl permIn_trans insertionSort insertionSort_holds heapSort heapSort_holds partitionEqual partitionEqual_holds partition partition_holds partialInsertionSort partialInsertionSort_holds scanSorted round_eq round_part)
section
variable {t len : Nat} {ac : AC} {cf : Nat × Nat → Nat × Nat → Int} {pr : Nat × Nat → Prop}
theorem c_pdq (hS : SWO (ltT cf)) (hl : len ≤ 49) (n : Nat) : ∀ {Z : Zn} {w0 : World} {cap : Nat → Prop} {nt : Nat} {rd : Option Nat} {pan : List PanicEntry → St → Prop} {df : Option Nat} {dk : List Nat} {rg : Bool} {fr : List (Nat × AV)} {hp : List (Nat × Obj')} {nx : Nat} (a b lim : Nat) (d : Array (Nat × Nat)) (_ : CmpI ac cf pr hp nx t) (_ : AL.get hp t = some (arrT d)) (_ : OkT pr len d) (_ : a ≤ b) (_ : b ≤ len) (_ : b - a ≤ n) (_ : lim ≤ 100) (_ : Go.Sort.Below (ltT cf) a b d),
  CallF ⟨Tryz.prog, Z, w0, cap, nt, rd, pan, df, dk, rg⟩ 121 [.one (.own t len), iA a, iA b, iA lim, .one ac] ⟨fr, hp, nx⟩ fun st' av => ∃ d', PermIn a b d d' ∧ SortedIn (ltT cf) a b d' ∧ OkT pr len d' ∧ st' = ⟨fr, AL.set hp t (arrT d'), nx⟩ ∧ av = .tup [] := by
 induction n using Nat.strongRecOn with
 | _ n ih =>
 intro Z w0 cap nt rd pan df dk rg fr hp nx a b lim d hC ht hok hab hb hn hlim hB
 obtain ⟨g, caps, gn, rfl, g5, g6, g7, gC⟩ := id hC
 (refine callF_to (nt := 148) (rs := []) Tryz.func121 rfl rfl rfl (by simp) fun hcl tm Ds => ?_); simp only [initV]
 have htn := hcl.lt t _ ht
 dsimp only [Kx.calleeT] at htn ⊢
 refine tw ?_
 refine aw_weak (weak_thr [0, 1, 2, 3, 4, 10, 11] (by simp only [go_sem, ↓reduceIte]; rfl)) ?_
 refine aw_loop_hp (ι := { p : (Nat × Nat × Nat) × Bool × Bool × Array (Nat × Nat) // (a ≤ p.1.1 ∧ p.1.1 ≤ p.1.2.1 ∧ p.1.2.1 ≤ b ∧ p.1.2.2 ≤ 100) ∧ OkT pr len p.2.2.2 ∧ Go.Sort.Below (ltT cf) p.1.1 p.1.2.1 p.2.2.2 ∧ ∀ R, PermIn p.1.1 p.1.2.1 p.2.2.2 R → SortedIn (ltT cf) p.1.1 p.1.2.1 R → PermIn a b d R ∧ SortedIn (ltT cf) a b R }) (fun p => [(1, iA p.1.1.1), (2, iA p.1.1.2.1), (3, iA p.1.1.2.2), (10, .one (.p (.v (.bool p.1.2.1)))), (11, .one (.p (.v (.bool p.1.2.2.1))))]) (fun p => SF fr tm hp nx t p.1.2.2.2) (fun p => p.1.1.2.1 - p.1.1.1) ⟨((a, b, lim), true, true, d), by dsimp only; omega, hok, hB, fun R h1 h2 => ⟨h1, h2⟩⟩ (by first | rfl | (simp only [go_sem, ↓reduceIte]; rfl)) (sf_start hcl ht) ?_
 clear hok hB
 rintro ⟨⟨⟨a', b', l'⟩, wb, wp, d'⟩, hr, hok, hB, hfin⟩ hpX nxX hSF
 refine tO ?_
 dsimp only at hr hok hB hfin hSF
 have hq8 : ∀ T x y, binA Tryz.prog .quo T x y (.int .i64 ((b' - a' : Nat) : Int)) (.int .i64 8) = some (.int .i64 (((b' - a') / 8 : Nat) : Int)) := fun T x y => bin_quo_nat (d := 8) T x y (by omega) (by decide)
 by_cases h12 : b' - a' ≤ 12
 ·refine tw ?_
  refine ti ?_
  refine tw fun QQ hQQ => ?_
  refine callS_ok rfl rfl 134 qN qN Tryz.func134 rfl (by decide) ((c_ins (hC.sf hSF) (by omega) a' b' d' hSF.2.2.1 hok (by omega) (by omega)).mono ?_)
  rintro _ _ ⟨⟨rfl, rfl⟩, hok2⟩
  obtain ⟨q1, q2⟩ := insertionSort_holds hS d' a' b' hr.2.1 (by rw [hok.1]; omega)
  obtain ⟨q3, q4⟩ := hfin _ q1 q2
  (refine ts ?_; clear hQQ QQ)
  refine tw ?_
  refine aw_ret ⟨.inr rfl, _, rfl, sf_end (d := insertionSort (ltT cf) d' a' b') hcl ht (sf_set' _ htn hSF) rfl ?_⟩
  exact ⟨_, q3, q4, hok2, rfl, rfl⟩
 ·by_cases hl0 : l' = 0
  ·subst hl0
   refine tw ?_
   refine ti ?_
   refine tw ?_
   refine ti ?_
   refine tw fun QQ hQQ => ?_
   refine callS_ok rfl rfl 135 qN qN Tryz.func135 rfl (by decide) ((c_heap (hC.sf hSF) (by omega) a' b' d' hSF.2.2.1 hok (by omega) (by omega)).mono ?_)
   rintro _ _ ⟨⟨rfl, rfl⟩, hok2⟩
   obtain ⟨q1, q2⟩ := heapSort_holds hS d' a' b' hr.2.1 (by rw [hok.1]; omega)
   obtain ⟨q3, q4⟩ := hfin _ q1 q2
   (refine ts ?_; clear hQQ QQ)
   refine tw ?_
   refine aw_ret ⟨.inr rfl, _, rfl, sf_end (d := heapSort (ltT cf) d' a' b') hcl ht (sf_set' _ htn hSF) rfl ?_⟩
   exact ⟨_, q3, q4, hok2, rfl, rfl⟩
  ·cases wb
   ·refine tw ?_
    refine ti ?_
    refine tw ?_
    refine ti ?_
    refine tw ?_
    refine ti ?_
    refine tw fun QQ hQQ => ?_
    refine callS_ok rfl rfl 136 qN qN Tryz.func136 rfl (by decide) ((c_break hl a' b' d' hSF.2.2.1 hok (by omega) (by omega)).mono ?_)
    rintro _ _ ⟨d1, hP1, hok1, rfl, rfl⟩
    have hSF1 := sf_set' d1 htn hSF
    have hB1 := hB.perm (by rw [hok.1]; omega) hP1
    have hfin1 : ∀ R, PermIn a' b' d1 R → SortedIn (ltT cf) a' b' R → PermIn a b d R ∧ SortedIn (ltT cf) a b R := fun R h1 h2 => hfin R (permIn_trans _ _ _ _ _ hP1 h1) h2
    generalize AL.set hpX t (arrT d1) = hpY at *
    (refine ts ?_; clear hQQ QQ)
    refine tw fun QQ hQQ => ?_
    refine callS_ok rfl rfl 137 qN qN Tryz.func137 rfl (by decide) ((c_pivot (hC.sf hSF1) hl a' b' d1 hSF1.2.2.1 hok1 (by omega) (by omega)).mono ?_)
    rintro _ _ ⟨pv, h, hpv, hh, rfl, rfl⟩
    (refine ts ?_; clear hQQ QQ)
    refine tw ?_
    refine ti ?_
    refine tw ?_
    refine ti ?_
    obtain ⟨f0, f1, f2, f3⟩ := id hSF1
    obtain ⟨hsz, hpr⟩ := id hok1
    unfold arrT at f2
    have pp := hpr pv (by omega)
    try clear hF
    have hF := And.intro f1 (And.intro f2 (hsz))
    by_cases ha0 : 0 < a'
    ·have pa := hpr (a' - 1) (by omega)
     by_cases hcc : cf (tA d1 (a' - 1)) (tA d1 pv) < 0
     ·refine twF fun QQ hQQ => ?_
      (refine callD_F [] (.one (.p (iP (cf (tA d1 (a' - 1)) (tA d1 pv))))) _ _ rfl rfl qF qF g5 g6 g7 (fun _ _ => rfl) (Nat.le_refl _) (fun _ h => by cases h) (fun fr' hk => gC _ _ _ _ rfl pa pp fun id ob h1 h2 h3 => f3 id ob h1 h2 h3) ?_); (refine tdF ?_; clear hQQ QQ)
      refine twF ?_
      refine tiF ?_
      refine twF fun QQ hQQ => ?_
      refine callS_ok rfl rfl 141 qF qF Tryz.func141 rfl (by decide) ((c_part (hC.sf hSF1) (by omega) a' b' pv d1 hSF1.2.2.1 hok1 (by omega) (by omega) (by omega)).mono ?_)
      rintro _ _ ⟨⟨rfl, rfl⟩, hok2⟩
      generalize hx : partition (ltT cf) d1 a' b' pv = res at *
      obtain ⟨mid, ap, d2⟩ := res
      dsimp only at hok2 ⊢
      obtain ⟨g1, g2, g3, gBa, gBr, gL, gR⟩ := round_part hS (partition_holds (ltT cf)) hpv.1 hpv.2 (by rw [hok1.1]; omega) hB1 hx
      have hSF2 := sf_set' d2 htn hSF1
      generalize AL.set hpY t (arrT d2) = hpZ at *
      clear hSF1 f0 f1 f2 f3
      try clear hF
      have hF := hq8
      (refine tsF ?_; clear hQQ QQ)
      refine twF ?_
      by_cases hlr : mid - a' < b' - mid
      ·refine tiF ?_
       refine twF fun QQ hQQ => ?_
       refine callS_ok rfl rfl 121 qF qF Tryz.func121 rfl (by decide) ((ih (mid - a') (by omega) a' mid (l' - 1) d2 (hC.sf hSF2) hSF2.2.2.1 hok2 g1 (by omega) (Nat.le_refl _) (by omega) gBa).mono ?_)
       rintro _ _ ⟨d3, q1, q2, hok3, rfl, rfl⟩
       obtain ⟨hB3, hfin3⟩ := gL d3 q1 q2
       (refine tsF ?_; clear hQQ QQ)
       refine twF ?_
       exact ⟨⟨((mid + 1, b', (l' - 1)), decide (((mid - a' : Nat) : Int) ≥ (((b' - a') / 8 : Nat) : Int)), ap, d3), by dsimp only; omega, hok3, hB3, fun R hR hs => let ⟨u1, u2⟩ := hfin3 R hR hs; hfin1 R u1 u2⟩, by dsimp only; omega, sf_set' _ htn hSF2, by first | rfl | (simp only [hF, go_sem, ↓reduceIte]; rfl)⟩
      ·refine tiF ?_
       refine twF fun QQ hQQ => ?_
       refine callS_ok rfl rfl 121 qF qF Tryz.func121 rfl (by decide) ((ih (b' - (mid + 1)) (by omega) (mid + 1) b' (l' - 1) d2 (hC.sf hSF2) hSF2.2.2.1 hok2 (by omega) (by omega) (Nat.le_refl _) (by omega) gBr).mono ?_)
       rintro _ _ ⟨d3, q1, q2, hok3, rfl, rfl⟩
       obtain ⟨hB3, hfin3⟩ := gR d3 q1 q2
       (refine tsF ?_; clear hQQ QQ)
       refine twF ?_
       exact ⟨⟨((a', mid, (l' - 1)), decide (((b' - mid : Nat) : Int) ≥ (((b' - a') / 8 : Nat) : Int)), ap, d3), by dsimp only; omega, hok3, hB3, fun R hR hs => let ⟨u1, u2⟩ := hfin3 R hR hs; hfin1 R u1 u2⟩, by dsimp only; omega, sf_set' _ htn hSF2, by first | rfl | (simp only [hF, go_sem, ↓reduceIte]; rfl)⟩
     ·refine twF fun QQ hQQ => ?_
      (refine callD_F [] (.one (.p (iP (cf (tA d1 (a' - 1)) (tA d1 pv))))) _ _ rfl rfl qF qF g5 g6 g7 (fun _ _ => rfl) (Nat.le_refl _) (fun _ h => by cases h) (fun fr' hk => gC _ _ _ _ rfl pa pp fun id ob h1 h2 h3 => f3 id ob h1 h2 h3) ?_); (refine tdF ?_; clear hQQ QQ)
      refine twF ?_
      refine tiF ?_
      refine twF fun QQ hQQ => ?_
      refine callS_ok rfl rfl 140 qF qF Tryz.func140 rfl (by decide) ((c_pequal (hC.sf hSF1) (by omega) a' b' pv d1 hSF1.2.2.1 hok1 (by omega) (by omega) (by omega)).mono ?_)
      rintro _ _ ⟨⟨rfl, rfl⟩, hok2⟩
      generalize hx : partitionEqual (ltT cf) d1 a' b' pv = res at *
      obtain ⟨mid, d2⟩ := res
      dsimp only at hok2 ⊢
      obtain ⟨g1, g2, g3, gB, gF⟩ := round_eq hS (partitionEqual_holds (ltT cf)) ha0 hpv.1 hpv.2 (by rw [hok1.1]; omega) hB1 (decide_eq_false hcc) hx
      have hSF2 := sf_set' d2 htn hSF1
      generalize AL.set hpY t (arrT d2) = hpZ at *
      (refine tsF ?_; clear hQQ QQ)
      refine twF ?_
      exact ⟨⟨((mid, b', (l' - 1)), false, wp, d2), by dsimp only; omega, hok2, gB, fun R hR hs => let ⟨u1, u2⟩ := gF R hR hs; hfin1 R u1 u2⟩, by dsimp only; omega, hSF2, by first | rfl | (simp only [hF, go_sem, ↓reduceIte]; rfl)⟩
    ·refine twF ?_
     refine tiF ?_
     refine twF fun QQ hQQ => ?_
     refine callS_ok rfl rfl 141 qF qF Tryz.func141 rfl (by decide) ((c_part (hC.sf hSF1) (by omega) a' b' pv d1 hSF1.2.2.1 hok1 (by omega) (by omega) (by omega)).mono ?_)
     rintro _ _ ⟨⟨rfl, rfl⟩, hok2⟩
     generalize hx : partition (ltT cf) d1 a' b' pv = res at *
     obtain ⟨mid, ap, d2⟩ := res
     dsimp only at hok2 ⊢
     obtain ⟨g1, g2, g3, gBa, gBr, gL, gR⟩ := round_part hS (partition_holds (ltT cf)) hpv.1 hpv.2 (by rw [hok1.1]; omega) hB1 hx
     have hSF2 := sf_set' d2 htn hSF1
     generalize AL.set hpY t (arrT d2) = hpZ at *
     clear hSF1 f0 f1 f2 f3
     try clear hF
     have hF := hq8
     (refine tsF ?_; clear hQQ QQ)
     refine twF ?_
     by_cases hlr : mid - a' < b' - mid
     ·refine tiF ?_
      refine twF fun QQ hQQ => ?_
      refine callS_ok rfl rfl 121 qF qF Tryz.func121 rfl (by decide) ((ih (mid - a') (by omega) a' mid (l' - 1) d2 (hC.sf hSF2) hSF2.2.2.1 hok2 g1 (by omega) (Nat.le_refl _) (by omega) gBa).mono ?_)
      rintro _ _ ⟨d3, q1, q2, hok3, rfl, rfl⟩
      obtain ⟨hB3, hfin3⟩ := gL d3 q1 q2
      (refine tsF ?_; clear hQQ QQ)
      refine twF ?_
      exact ⟨⟨((mid + 1, b', (l' - 1)), decide (((mid - a' : Nat) : Int) ≥ (((b' - a') / 8 : Nat) : Int)), ap, d3), by dsimp only; omega, hok3, hB3, fun R hR hs => let ⟨u1, u2⟩ := hfin3 R hR hs; hfin1 R u1 u2⟩, by dsimp only; omega, sf_set' _ htn hSF2, by first | rfl | (simp only [hF, go_sem, ↓reduceIte]; rfl)⟩
     ·refine tiF ?_
      refine twF fun QQ hQQ => ?_
      refine callS_ok rfl rfl 121 qF qF Tryz.func121 rfl (by decide) ((ih (b' - (mid + 1)) (by omega) (mid + 1) b' (l' - 1) d2 (hC.sf hSF2) hSF2.2.2.1 hok2 (by omega) (by omega) (Nat.le_refl _) (by omega) gBr).mono ?_)
      rintro _ _ ⟨d3, q1, q2, hok3, rfl, rfl⟩
      obtain ⟨hB3, hfin3⟩ := gR d3 q1 q2
      (refine tsF ?_; clear hQQ QQ)
      refine twF ?_
      exact ⟨⟨((a', mid, (l' - 1)), decide (((b' - mid : Nat) : Int) ≥ (((b' - a') / 8 : Nat) : Int)), ap, d3), by dsimp only; omega, hok3, hB3, fun R hR hs => let ⟨u1, u2⟩ := hfin3 R hR hs; hfin1 R u1 u2⟩, by dsimp only; omega, sf_set' _ htn hSF2, by first | rfl | (simp only [hF, go_sem, ↓reduceIte]; rfl)⟩
   ·have hz9 := hl0
    refine tw ?_
    refine ti ?_
    refine tw ?_
    refine ti ?_
    refine tw ?_
    refine ti ?_
    refine tw fun QQ hQQ => ?_
    have hSF1 := hSF
    have hok1 := hok
    have hB1 := hB
    have hfin1 := hfin
    generalize hd1 : d' = d1 at *
    generalize hY : hpX = hpY at *
    refine callS_ok rfl rfl 137 qN qN Tryz.func137 rfl (by decide) ((c_pivot (hC.sf hSF1) hl a' b' d1 hSF1.2.2.1 hok1 (by omega) (by omega)).mono ?_)
    rintro _ _ ⟨pv, h, hpv, hh, rfl, rfl⟩
    cases wp
    ·(refine ts ?_; clear hQQ QQ)
     refine tw ?_
     refine ti ?_
     refine tw ?_
     refine ti ?_
     obtain ⟨f0, f1, f2, f3⟩ := id hSF1
     obtain ⟨hsz, hpr⟩ := id hok1
     unfold arrT at f2
     have pp := hpr pv (by omega)
     try clear hF
     have hF := And.intro f1 (And.intro f2 (hsz))
     by_cases ha0 : 0 < a'
     ·have pa := hpr (a' - 1) (by omega)
      by_cases hcc : cf (tA d1 (a' - 1)) (tA d1 pv) < 0
      ·refine twF fun QQ hQQ => ?_
       (refine callD_F [] (.one (.p (iP (cf (tA d1 (a' - 1)) (tA d1 pv))))) _ _ rfl rfl qF qF g5 g6 g7 (fun _ _ => rfl) (Nat.le_refl _) (fun _ h => by cases h) (fun fr' hk => gC _ _ _ _ rfl pa pp fun id ob h1 h2 h3 => f3 id ob h1 h2 h3) ?_); (refine tdF ?_; clear hQQ QQ)
       refine twF ?_
       refine tiF ?_
       refine twF fun QQ hQQ => ?_
       refine callS_ok rfl rfl 141 qF qF Tryz.func141 rfl (by decide) ((c_part (hC.sf hSF1) (by omega) a' b' pv d1 hSF1.2.2.1 hok1 (by omega) (by omega) (by omega)).mono ?_)
       rintro _ _ ⟨⟨rfl, rfl⟩, hok2⟩
       generalize hx : partition (ltT cf) d1 a' b' pv = res at *
       obtain ⟨mid, ap, d2⟩ := res
       dsimp only at hok2 ⊢
       obtain ⟨g1, g2, g3, gBa, gBr, gL, gR⟩ := round_part hS (partition_holds (ltT cf)) hpv.1 hpv.2 (by rw [hok1.1]; omega) hB1 hx
       have hSF2 := sf_set' d2 htn hSF1
       generalize AL.set hpY t (arrT d2) = hpZ at *
       clear hSF1 f0 f1 f2 f3
       try clear hF
       have hF := hq8
       (refine tsF ?_; clear hQQ QQ)
       refine twF ?_
       by_cases hlr : mid - a' < b' - mid
       ·refine tiF ?_
        refine twF fun QQ hQQ => ?_
        refine callS_ok rfl rfl 121 qF qF Tryz.func121 rfl (by decide) ((ih (mid - a') (by omega) a' mid l' d2 (hC.sf hSF2) hSF2.2.2.1 hok2 g1 (by omega) (Nat.le_refl _) (by omega) gBa).mono ?_)
        rintro _ _ ⟨d3, q1, q2, hok3, rfl, rfl⟩
        obtain ⟨hB3, hfin3⟩ := gL d3 q1 q2
        (refine tsF ?_; clear hQQ QQ)
        refine twF ?_
        exact ⟨⟨((mid + 1, b', l'), decide (((mid - a' : Nat) : Int) ≥ (((b' - a') / 8 : Nat) : Int)), ap, d3), by dsimp only; omega, hok3, hB3, fun R hR hs => let ⟨u1, u2⟩ := hfin3 R hR hs; hfin1 R u1 u2⟩, by dsimp only; omega, sf_set' _ htn hSF2, by first | rfl | (simp only [hF, go_sem, ↓reduceIte]; rfl)⟩
       ·refine tiF ?_
        refine twF fun QQ hQQ => ?_
        refine callS_ok rfl rfl 121 qF qF Tryz.func121 rfl (by decide) ((ih (b' - (mid + 1)) (by omega) (mid + 1) b' l' d2 (hC.sf hSF2) hSF2.2.2.1 hok2 (by omega) (by omega) (Nat.le_refl _) (by omega) gBr).mono ?_)
        rintro _ _ ⟨d3, q1, q2, hok3, rfl, rfl⟩
        obtain ⟨hB3, hfin3⟩ := gR d3 q1 q2
        (refine tsF ?_; clear hQQ QQ)
        refine twF ?_
        exact ⟨⟨((a', mid, l'), decide (((b' - mid : Nat) : Int) ≥ (((b' - a') / 8 : Nat) : Int)), ap, d3), by dsimp only; omega, hok3, hB3, fun R hR hs => let ⟨u1, u2⟩ := hfin3 R hR hs; hfin1 R u1 u2⟩, by dsimp only; omega, sf_set' _ htn hSF2, by first | rfl | (simp only [hF, go_sem, ↓reduceIte]; rfl)⟩
      ·refine twF fun QQ hQQ => ?_
       (refine callD_F [] (.one (.p (iP (cf (tA d1 (a' - 1)) (tA d1 pv))))) _ _ rfl rfl qF qF g5 g6 g7 (fun _ _ => rfl) (Nat.le_refl _) (fun _ h => by cases h) (fun fr' hk => gC _ _ _ _ rfl pa pp fun id ob h1 h2 h3 => f3 id ob h1 h2 h3) ?_); (refine tdF ?_; clear hQQ QQ)
       refine twF ?_
       refine tiF ?_
       refine twF fun QQ hQQ => ?_
       refine callS_ok rfl rfl 140 qF qF Tryz.func140 rfl (by decide) ((c_pequal (hC.sf hSF1) (by omega) a' b' pv d1 hSF1.2.2.1 hok1 (by omega) (by omega) (by omega)).mono ?_)
       rintro _ _ ⟨⟨rfl, rfl⟩, hok2⟩
       generalize hx : partitionEqual (ltT cf) d1 a' b' pv = res at *
       obtain ⟨mid, d2⟩ := res
       dsimp only at hok2 ⊢
       obtain ⟨g1, g2, g3, gB, gF⟩ := round_eq hS (partitionEqual_holds (ltT cf)) ha0 hpv.1 hpv.2 (by rw [hok1.1]; omega) hB1 (decide_eq_false hcc) hx
       have hSF2 := sf_set' d2 htn hSF1
       generalize AL.set hpY t (arrT d2) = hpZ at *
       (refine tsF ?_; clear hQQ QQ)
       refine twF ?_
       exact ⟨⟨((mid, b', l'), true, false, d2), by dsimp only; omega, hok2, gB, fun R hR hs => let ⟨u1, u2⟩ := gF R hR hs; hfin1 R u1 u2⟩, by dsimp only; omega, hSF2, by first | rfl | (simp only [hF, go_sem, ↓reduceIte]; rfl)⟩
     ·refine twF ?_
      refine tiF ?_
      refine twF fun QQ hQQ => ?_
      refine callS_ok rfl rfl 141 qF qF Tryz.func141 rfl (by decide) ((c_part (hC.sf hSF1) (by omega) a' b' pv d1 hSF1.2.2.1 hok1 (by omega) (by omega) (by omega)).mono ?_)
      rintro _ _ ⟨⟨rfl, rfl⟩, hok2⟩
      generalize hx : partition (ltT cf) d1 a' b' pv = res at *
      obtain ⟨mid, ap, d2⟩ := res
      dsimp only at hok2 ⊢
      obtain ⟨g1, g2, g3, gBa, gBr, gL, gR⟩ := round_part hS (partition_holds (ltT cf)) hpv.1 hpv.2 (by rw [hok1.1]; omega) hB1 hx
      have hSF2 := sf_set' d2 htn hSF1
      generalize AL.set hpY t (arrT d2) = hpZ at *
      clear hSF1 f0 f1 f2 f3
      try clear hF
      have hF := hq8
      (refine tsF ?_; clear hQQ QQ)
      refine twF ?_
      by_cases hlr : mid - a' < b' - mid
      ·refine tiF ?_
       refine twF fun QQ hQQ => ?_
       refine callS_ok rfl rfl 121 qF qF Tryz.func121 rfl (by decide) ((ih (mid - a') (by omega) a' mid l' d2 (hC.sf hSF2) hSF2.2.2.1 hok2 g1 (by omega) (Nat.le_refl _) (by omega) gBa).mono ?_)
       rintro _ _ ⟨d3, q1, q2, hok3, rfl, rfl⟩
       obtain ⟨hB3, hfin3⟩ := gL d3 q1 q2
       (refine tsF ?_; clear hQQ QQ)
       refine twF ?_
       exact ⟨⟨((mid + 1, b', l'), decide (((mid - a' : Nat) : Int) ≥ (((b' - a') / 8 : Nat) : Int)), ap, d3), by dsimp only; omega, hok3, hB3, fun R hR hs => let ⟨u1, u2⟩ := hfin3 R hR hs; hfin1 R u1 u2⟩, by dsimp only; omega, sf_set' _ htn hSF2, by first | rfl | (simp only [hF, go_sem, ↓reduceIte]; rfl)⟩
      ·refine tiF ?_
       refine twF fun QQ hQQ => ?_
       refine callS_ok rfl rfl 121 qF qF Tryz.func121 rfl (by decide) ((ih (b' - (mid + 1)) (by omega) (mid + 1) b' l' d2 (hC.sf hSF2) hSF2.2.2.1 hok2 (by omega) (by omega) (Nat.le_refl _) (by omega) gBr).mono ?_)
       rintro _ _ ⟨d3, q1, q2, hok3, rfl, rfl⟩
       obtain ⟨hB3, hfin3⟩ := gR d3 q1 q2
       (refine tsF ?_; clear hQQ QQ)
       refine twF ?_
       exact ⟨⟨((a', mid, l'), decide (((b' - mid : Nat) : Int) ≥ (((b' - a') / 8 : Nat) : Int)), ap, d3), by dsimp only; omega, hok3, hB3, fun R hR hs => let ⟨u1, u2⟩ := hfin3 R hR hs; hfin1 R u1 u2⟩, by dsimp only; omega, sf_set' _ htn hSF2, by first | rfl | (simp only [hF, go_sem, ↓reduceIte]; rfl)⟩
    ·by_cases hh1 : h = 0
     ·subst hh1
      (refine ts ?_; clear hQQ QQ)
      refine tw ?_
      refine ti ?_
      refine tw ?_
      refine ti ?_
      obtain ⟨f0, f1, f2, f3⟩ := id hSF1
      obtain ⟨hsz, hpr⟩ := id hok1
      unfold arrT at f2
      have pp := hpr pv (by omega)
      try clear hF
      have hF := And.intro f1 (And.intro f2 (hsz))
      by_cases ha0 : 0 < a'
      ·have pa := hpr (a' - 1) (by omega)
       by_cases hcc : cf (tA d1 (a' - 1)) (tA d1 pv) < 0
       ·refine twF fun QQ hQQ => ?_
        (refine callD_F [] (.one (.p (iP (cf (tA d1 (a' - 1)) (tA d1 pv))))) _ _ rfl rfl qF qF g5 g6 g7 (fun _ _ => rfl) (Nat.le_refl _) (fun _ h => by cases h) (fun fr' hk => gC _ _ _ _ rfl pa pp fun id ob h1 h2 h3 => f3 id ob h1 h2 h3) ?_); (refine tdF ?_; clear hQQ QQ)
        refine twF ?_
        refine tiF ?_
        refine twF fun QQ hQQ => ?_
        refine callS_ok rfl rfl 141 qF qF Tryz.func141 rfl (by decide) ((c_part (hC.sf hSF1) (by omega) a' b' pv d1 hSF1.2.2.1 hok1 (by omega) (by omega) (by omega)).mono ?_)
        rintro _ _ ⟨⟨rfl, rfl⟩, hok2⟩
        generalize hx : partition (ltT cf) d1 a' b' pv = res at *
        obtain ⟨mid, ap, d2⟩ := res
        dsimp only at hok2 ⊢
        obtain ⟨g1, g2, g3, gBa, gBr, gL, gR⟩ := round_part hS (partition_holds (ltT cf)) hpv.1 hpv.2 (by rw [hok1.1]; omega) hB1 hx
        have hSF2 := sf_set' d2 htn hSF1
        generalize AL.set hpY t (arrT d2) = hpZ at *
        clear hSF1 f0 f1 f2 f3
        try clear hF
        have hF := hq8
        (refine tsF ?_; clear hQQ QQ)
        refine twF ?_
        by_cases hlr : mid - a' < b' - mid
        ·refine tiF ?_
         refine twF fun QQ hQQ => ?_
         refine callS_ok rfl rfl 121 qF qF Tryz.func121 rfl (by decide) ((ih (mid - a') (by omega) a' mid l' d2 (hC.sf hSF2) hSF2.2.2.1 hok2 g1 (by omega) (Nat.le_refl _) (by omega) gBa).mono ?_)
         rintro _ _ ⟨d3, q1, q2, hok3, rfl, rfl⟩
         obtain ⟨hB3, hfin3⟩ := gL d3 q1 q2
         (refine tsF ?_; clear hQQ QQ)
         refine twF ?_
         exact ⟨⟨((mid + 1, b', l'), decide (((mid - a' : Nat) : Int) ≥ (((b' - a') / 8 : Nat) : Int)), ap, d3), by dsimp only; omega, hok3, hB3, fun R hR hs => let ⟨u1, u2⟩ := hfin3 R hR hs; hfin1 R u1 u2⟩, by dsimp only; omega, sf_set' _ htn hSF2, by first | rfl | (simp only [hF, go_sem, ↓reduceIte]; rfl)⟩
        ·refine tiF ?_
         refine twF fun QQ hQQ => ?_
         refine callS_ok rfl rfl 121 qF qF Tryz.func121 rfl (by decide) ((ih (b' - (mid + 1)) (by omega) (mid + 1) b' l' d2 (hC.sf hSF2) hSF2.2.2.1 hok2 (by omega) (by omega) (Nat.le_refl _) (by omega) gBr).mono ?_)
         rintro _ _ ⟨d3, q1, q2, hok3, rfl, rfl⟩
         obtain ⟨hB3, hfin3⟩ := gR d3 q1 q2
         (refine tsF ?_; clear hQQ QQ)
         refine twF ?_
         exact ⟨⟨((a', mid, l'), decide (((b' - mid : Nat) : Int) ≥ (((b' - a') / 8 : Nat) : Int)), ap, d3), by dsimp only; omega, hok3, hB3, fun R hR hs => let ⟨u1, u2⟩ := hfin3 R hR hs; hfin1 R u1 u2⟩, by dsimp only; omega, sf_set' _ htn hSF2, by first | rfl | (simp only [hF, go_sem, ↓reduceIte]; rfl)⟩
       ·refine twF fun QQ hQQ => ?_
        (refine callD_F [] (.one (.p (iP (cf (tA d1 (a' - 1)) (tA d1 pv))))) _ _ rfl rfl qF qF g5 g6 g7 (fun _ _ => rfl) (Nat.le_refl _) (fun _ h => by cases h) (fun fr' hk => gC _ _ _ _ rfl pa pp fun id ob h1 h2 h3 => f3 id ob h1 h2 h3) ?_); (refine tdF ?_; clear hQQ QQ)
        refine twF ?_
        refine tiF ?_
        refine twF fun QQ hQQ => ?_
        refine callS_ok rfl rfl 140 qF qF Tryz.func140 rfl (by decide) ((c_pequal (hC.sf hSF1) (by omega) a' b' pv d1 hSF1.2.2.1 hok1 (by omega) (by omega) (by omega)).mono ?_)
        rintro _ _ ⟨⟨rfl, rfl⟩, hok2⟩
        generalize hx : partitionEqual (ltT cf) d1 a' b' pv = res at *
        obtain ⟨mid, d2⟩ := res
        dsimp only at hok2 ⊢
        obtain ⟨g1, g2, g3, gB, gF⟩ := round_eq hS (partitionEqual_holds (ltT cf)) ha0 hpv.1 hpv.2 (by rw [hok1.1]; omega) hB1 (decide_eq_false hcc) hx
        have hSF2 := sf_set' d2 htn hSF1
        generalize AL.set hpY t (arrT d2) = hpZ at *
        (refine tsF ?_; clear hQQ QQ)
        refine twF ?_
        exact ⟨⟨((mid, b', l'), true, true, d2), by dsimp only; omega, hok2, gB, fun R hR hs => let ⟨u1, u2⟩ := gF R hR hs; hfin1 R u1 u2⟩, by dsimp only; omega, hSF2, by first | rfl | (simp only [hF, go_sem, ↓reduceIte]; rfl)⟩
      ·refine twF ?_
       refine tiF ?_
       refine twF fun QQ hQQ => ?_
       refine callS_ok rfl rfl 141 qF qF Tryz.func141 rfl (by decide) ((c_part (hC.sf hSF1) (by omega) a' b' pv d1 hSF1.2.2.1 hok1 (by omega) (by omega) (by omega)).mono ?_)
       rintro _ _ ⟨⟨rfl, rfl⟩, hok2⟩
       generalize hx : partition (ltT cf) d1 a' b' pv = res at *
       obtain ⟨mid, ap, d2⟩ := res
       dsimp only at hok2 ⊢
       obtain ⟨g1, g2, g3, gBa, gBr, gL, gR⟩ := round_part hS (partition_holds (ltT cf)) hpv.1 hpv.2 (by rw [hok1.1]; omega) hB1 hx
       have hSF2 := sf_set' d2 htn hSF1
       generalize AL.set hpY t (arrT d2) = hpZ at *
       clear hSF1 f0 f1 f2 f3
       try clear hF
       have hF := hq8
       (refine tsF ?_; clear hQQ QQ)
       refine twF ?_
       by_cases hlr : mid - a' < b' - mid
       ·refine tiF ?_
        refine twF fun QQ hQQ => ?_
        refine callS_ok rfl rfl 121 qF qF Tryz.func121 rfl (by decide) ((ih (mid - a') (by omega) a' mid l' d2 (hC.sf hSF2) hSF2.2.2.1 hok2 g1 (by omega) (Nat.le_refl _) (by omega) gBa).mono ?_)
        rintro _ _ ⟨d3, q1, q2, hok3, rfl, rfl⟩
        obtain ⟨hB3, hfin3⟩ := gL d3 q1 q2
        (refine tsF ?_; clear hQQ QQ)
        refine twF ?_
        exact ⟨⟨((mid + 1, b', l'), decide (((mid - a' : Nat) : Int) ≥ (((b' - a') / 8 : Nat) : Int)), ap, d3), by dsimp only; omega, hok3, hB3, fun R hR hs => let ⟨u1, u2⟩ := hfin3 R hR hs; hfin1 R u1 u2⟩, by dsimp only; omega, sf_set' _ htn hSF2, by first | rfl | (simp only [hF, go_sem, ↓reduceIte]; rfl)⟩
       ·refine tiF ?_
        refine twF fun QQ hQQ => ?_
        refine callS_ok rfl rfl 121 qF qF Tryz.func121 rfl (by decide) ((ih (b' - (mid + 1)) (by omega) (mid + 1) b' l' d2 (hC.sf hSF2) hSF2.2.2.1 hok2 (by omega) (by omega) (Nat.le_refl _) (by omega) gBr).mono ?_)
        rintro _ _ ⟨d3, q1, q2, hok3, rfl, rfl⟩
        obtain ⟨hB3, hfin3⟩ := gR d3 q1 q2
        (refine tsF ?_; clear hQQ QQ)
        refine twF ?_
        exact ⟨⟨((a', mid, l'), decide (((b' - mid : Nat) : Int) ≥ (((b' - a') / 8 : Nat) : Int)), ap, d3), by dsimp only; omega, hok3, hB3, fun R hR hs => let ⟨u1, u2⟩ := hfin3 R hR hs; hfin1 R u1 u2⟩, by dsimp only; omega, sf_set' _ htn hSF2, by first | rfl | (simp only [hF, go_sem, ↓reduceIte]; rfl)⟩
     ·have hh2 : h = 1 := by omega
      subst hh2
      (refine ts ?_; clear hQQ QQ)
      refine tw ?_
      refine ti ?_
      refine tw ?_
      refine ti ?_
      refine tw fun QQ hQQ => ?_
      refine callS_ok rfl rfl 139 qN qN Tryz.func139 rfl (by decide) ((c_partial (hC.sf hSF1) hl a' b' d1 hSF1.2.2.1 hok1 (by omega) (by omega)).mono ?_)
      rintro _ _ ⟨rfl, rfl⟩
      have hSF3 := sf_set' d1 htn hSF1
      clear hSF1
      have hSF1 := hSF3
      clear hSF3
      generalize AL.set hpY t (arrT d1) = hpW at *
      clear hY
      generalize hpW = hpY at *
      by_cases hsc : scanSorted (ltT cf) d1 b' (a' + 1) = b'
      ·rw [decide_eq_true hsc]
       (refine ts ?_; clear hQQ QQ)
       refine tw ?_
       refine ti ?_
       have hpi := partialInsertionSort_holds hS d1 a' b' (by omega) (by rw [hok1.1]; omega) hB1
       rw [partial_small (by omega)] at hpi
       obtain ⟨q3, q4⟩ := hfin1 _ (permIn_refl d1 a' b') (hpi.2 (decide_eq_true hsc))
       refine aw_ret ⟨.inr rfl, _, rfl, sf_end (d := d1) hcl ht hSF1 rfl ?_⟩
       exact ⟨_, q3, q4, hok1, rfl, rfl⟩
      ·rw [decide_eq_false hsc]
       (refine ts ?_; clear hQQ QQ)
       refine tw ?_
       refine ti ?_
       obtain ⟨f0, f1, f2, f3⟩ := id hSF1
       obtain ⟨hsz, hpr⟩ := id hok1
       unfold arrT at f2
       have pp := hpr pv (by omega)
       try clear hF
       have hF := And.intro f1 (And.intro f2 (hsz))
       by_cases ha0 : 0 < a'
       ·have pa := hpr (a' - 1) (by omega)
        by_cases hcc : cf (tA d1 (a' - 1)) (tA d1 pv) < 0
        ·refine twF fun QQ hQQ => ?_
         (refine callD_F [] (.one (.p (iP (cf (tA d1 (a' - 1)) (tA d1 pv))))) _ _ rfl rfl qF qF g5 g6 g7 (fun _ _ => rfl) (Nat.le_refl _) (fun _ h => by cases h) (fun fr' hk => gC _ _ _ _ rfl pa pp fun id ob h1 h2 h3 => f3 id ob h1 h2 h3) ?_); (refine tdF ?_; clear hQQ QQ)
         refine twF ?_
         refine tiF ?_
         refine twF fun QQ hQQ => ?_
         refine callS_ok rfl rfl 141 qF qF Tryz.func141 rfl (by decide) ((c_part (hC.sf hSF1) (by omega) a' b' pv d1 hSF1.2.2.1 hok1 (by omega) (by omega) (by omega)).mono ?_)
         rintro _ _ ⟨⟨rfl, rfl⟩, hok2⟩
         generalize hx : partition (ltT cf) d1 a' b' pv = res at *
         obtain ⟨mid, ap, d2⟩ := res
         dsimp only at hok2 ⊢
         obtain ⟨g1, g2, g3, gBa, gBr, gL, gR⟩ := round_part hS (partition_holds (ltT cf)) hpv.1 hpv.2 (by rw [hok1.1]; omega) hB1 hx
         have hSF2 := sf_set' d2 htn hSF1
         generalize AL.set hpY t (arrT d2) = hpZ at *
         clear hSF1 f0 f1 f2 f3
         try clear hF
         have hF := hq8
         (refine tsF ?_; clear hQQ QQ)
         refine twF ?_
         by_cases hlr : mid - a' < b' - mid
         ·refine tiF ?_
          refine twF fun QQ hQQ => ?_
          refine callS_ok rfl rfl 121 qF qF Tryz.func121 rfl (by decide) ((ih (mid - a') (by omega) a' mid l' d2 (hC.sf hSF2) hSF2.2.2.1 hok2 g1 (by omega) (Nat.le_refl _) (by omega) gBa).mono ?_)
          rintro _ _ ⟨d3, q1, q2, hok3, rfl, rfl⟩
          obtain ⟨hB3, hfin3⟩ := gL d3 q1 q2
          (refine tsF ?_; clear hQQ QQ)
          refine twF ?_
          exact ⟨⟨((mid + 1, b', l'), decide (((mid - a' : Nat) : Int) ≥ (((b' - a') / 8 : Nat) : Int)), ap, d3), by dsimp only; omega, hok3, hB3, fun R hR hs => let ⟨u1, u2⟩ := hfin3 R hR hs; hfin1 R u1 u2⟩, by dsimp only; omega, sf_set' _ htn hSF2, by first | rfl | (simp only [hF, go_sem, ↓reduceIte]; rfl)⟩
         ·refine tiF ?_
          refine twF fun QQ hQQ => ?_
          refine callS_ok rfl rfl 121 qF qF Tryz.func121 rfl (by decide) ((ih (b' - (mid + 1)) (by omega) (mid + 1) b' l' d2 (hC.sf hSF2) hSF2.2.2.1 hok2 (by omega) (by omega) (Nat.le_refl _) (by omega) gBr).mono ?_)
          rintro _ _ ⟨d3, q1, q2, hok3, rfl, rfl⟩
          obtain ⟨hB3, hfin3⟩ := gR d3 q1 q2
          (refine tsF ?_; clear hQQ QQ)
          refine twF ?_
          exact ⟨⟨((a', mid, l'), decide (((b' - mid : Nat) : Int) ≥ (((b' - a') / 8 : Nat) : Int)), ap, d3), by dsimp only; omega, hok3, hB3, fun R hR hs => let ⟨u1, u2⟩ := hfin3 R hR hs; hfin1 R u1 u2⟩, by dsimp only; omega, sf_set' _ htn hSF2, by first | rfl | (simp only [hF, go_sem, ↓reduceIte]; rfl)⟩
        ·refine twF fun QQ hQQ => ?_
         (refine callD_F [] (.one (.p (iP (cf (tA d1 (a' - 1)) (tA d1 pv))))) _ _ rfl rfl qF qF g5 g6 g7 (fun _ _ => rfl) (Nat.le_refl _) (fun _ h => by cases h) (fun fr' hk => gC _ _ _ _ rfl pa pp fun id ob h1 h2 h3 => f3 id ob h1 h2 h3) ?_); (refine tdF ?_; clear hQQ QQ)
         refine twF ?_
         refine tiF ?_
         refine twF fun QQ hQQ => ?_
         refine callS_ok rfl rfl 140 qF qF Tryz.func140 rfl (by decide) ((c_pequal (hC.sf hSF1) (by omega) a' b' pv d1 hSF1.2.2.1 hok1 (by omega) (by omega) (by omega)).mono ?_)
         rintro _ _ ⟨⟨rfl, rfl⟩, hok2⟩
         generalize hx : partitionEqual (ltT cf) d1 a' b' pv = res at *
         obtain ⟨mid, d2⟩ := res
         dsimp only at hok2 ⊢
         obtain ⟨g1, g2, g3, gB, gF⟩ := round_eq hS (partitionEqual_holds (ltT cf)) ha0 hpv.1 hpv.2 (by rw [hok1.1]; omega) hB1 (decide_eq_false hcc) hx
         have hSF2 := sf_set' d2 htn hSF1
         generalize AL.set hpY t (arrT d2) = hpZ at *
         (refine tsF ?_; clear hQQ QQ)
         refine twF ?_
         exact ⟨⟨((mid, b', l'), true, true, d2), by dsimp only; omega, hok2, gB, fun R hR hs => let ⟨u1, u2⟩ := gF R hR hs; hfin1 R u1 u2⟩, by dsimp only; omega, hSF2, by first | rfl | (simp only [hF, go_sem, ↓reduceIte]; rfl)⟩
       ·refine twF ?_
        refine tiF ?_
        refine twF fun QQ hQQ => ?_
        refine callS_ok rfl rfl 141 qF qF Tryz.func141 rfl (by decide) ((c_part (hC.sf hSF1) (by omega) a' b' pv d1 hSF1.2.2.1 hok1 (by omega) (by omega) (by omega)).mono ?_)
        rintro _ _ ⟨⟨rfl, rfl⟩, hok2⟩
        generalize hx : partition (ltT cf) d1 a' b' pv = res at *
        obtain ⟨mid, ap, d2⟩ := res
        dsimp only at hok2 ⊢
        obtain ⟨g1, g2, g3, gBa, gBr, gL, gR⟩ := round_part hS (partition_holds (ltT cf)) hpv.1 hpv.2 (by rw [hok1.1]; omega) hB1 hx
        have hSF2 := sf_set' d2 htn hSF1
        generalize AL.set hpY t (arrT d2) = hpZ at *
        clear hSF1 f0 f1 f2 f3
        try clear hF
        have hF := hq8
        (refine tsF ?_; clear hQQ QQ)
        refine twF ?_
        by_cases hlr : mid - a' < b' - mid
        ·refine tiF ?_
         refine twF fun QQ hQQ => ?_
         refine callS_ok rfl rfl 121 qF qF Tryz.func121 rfl (by decide) ((ih (mid - a') (by omega) a' mid l' d2 (hC.sf hSF2) hSF2.2.2.1 hok2 g1 (by omega) (Nat.le_refl _) (by omega) gBa).mono ?_)
         rintro _ _ ⟨d3, q1, q2, hok3, rfl, rfl⟩
         obtain ⟨hB3, hfin3⟩ := gL d3 q1 q2
         (refine tsF ?_; clear hQQ QQ)
         refine twF ?_
         exact ⟨⟨((mid + 1, b', l'), decide (((mid - a' : Nat) : Int) ≥ (((b' - a') / 8 : Nat) : Int)), ap, d3), by dsimp only; omega, hok3, hB3, fun R hR hs => let ⟨u1, u2⟩ := hfin3 R hR hs; hfin1 R u1 u2⟩, by dsimp only; omega, sf_set' _ htn hSF2, by first | rfl | (simp only [hF, go_sem, ↓reduceIte]; rfl)⟩
        ·refine tiF ?_
         refine twF fun QQ hQQ => ?_
         refine callS_ok rfl rfl 121 qF qF Tryz.func121 rfl (by decide) ((ih (b' - (mid + 1)) (by omega) (mid + 1) b' l' d2 (hC.sf hSF2) hSF2.2.2.1 hok2 (by omega) (by omega) (Nat.le_refl _) (by omega) gBr).mono ?_)
         rintro _ _ ⟨d3, q1, q2, hok3, rfl, rfl⟩
         obtain ⟨hB3, hfin3⟩ := gR d3 q1 q2
         (refine tsF ?_; clear hQQ QQ)
         refine twF ?_
         exact ⟨⟨((a', mid, l'), decide (((b' - mid : Nat) : Int) ≥ (((b' - a') / 8 : Nat) : Int)), ap, d3), by dsimp only; omega, hok3, hB3, fun R hR hs => let ⟨u1, u2⟩ := hfin3 R hR hs; hfin1 R u1 u2⟩, by dsimp only; omega, sf_set' _ htn hSF2, by first | rfl | (simp only [hF, go_sem, ↓reduceIte]; rfl)⟩
end
open Go.Sort (PermIn SortedIn SWO)
section
variable {Z : Zn} {w0 : World} {cap : Nat → Prop} {nt : Nat} {rd : Option Nat} {pan : List PanicEntry → St → Prop} {df : Option Nat} {dk : List Nat} {rg : Bool} {fr : List (Nat × AV)} {hp : List (Nat × Obj')} {nx t len : Nat} {ac : AC} {cf : Nat × Nat → Nat × Nat → Int} {pr : Nat × Nat → Prop}
theorem c_sortf (hS : SWO (ltT cf)) (hC : CmpI ac cf pr hp nx t) (hl : len ≤ 49) (d : Array (Nat × Nat)) (ht : AL.get hp t = some (arrT d)) (hok : OkT pr len d) :
  CallF ⟨Tryz.prog, Z, w0, cap, nt, rd, pan, df, dk, rg⟩ 96 [.one (.own t len), .one ac] ⟨fr, hp, nx⟩ fun st' av => ∃ d', PermIn 0 len d d' ∧ SortedIn (ltT cf) 0 len d' ∧ OkT pr len d' ∧ st' = ⟨fr, AL.set hp t (arrT d'), nx⟩ ∧ av = .tup [] := by
 obtain ⟨g, caps, gn, rfl, g5, g6, g7, gC⟩ := id hC
 have hlen := ok_len len (by omega)
 have hb := (bitLen_small ⟨len, by omega⟩).1
 dsimp only at hb
 have hcv := conv3_159 len (by omega)
 (refine callF_to (nt := 14) (rs := []) Tryz.func96 rfl rfl rfl (by simp) fun hcl tm Ds => ?_); simp only [initV]
 have htn := hcl.lt t _ ht
 dsimp only [Kx.calleeT] at htn ⊢
 have hSF := sf_start (tm := tm) hcl ht
 obtain ⟨f0, f1, f2, f3⟩ := id hSF
 obtain ⟨hsz, hpr⟩ := id hok
 unfold arrT at f2
 try clear hF
 have hF := And.intro f1 (And.intro f2 (And.intro hsz (hcv)))
 refine twF fun QQ hQQ => ?_
 (refine cOF 122 rfl rfl rfl (hlen) Tryz.func122 rfl ?_); refine tsF ?_
 refine callS_ok rfl rfl 121 qF qF Tryz.func121 rfl (by decide) ((c_pdq hS hl len 0 len (Lib.bitLen len) d (hC.sf hSF) hSF.2.2.1 hok (Nat.zero_le _) (Nat.le_refl _) (Nat.sub_le _ _) (by omega) (.inl rfl)).mono ?_)
 rintro _ _ ⟨d', q1, q2, hok2, rfl, rfl⟩
 (refine tsF ?_; clear hQQ QQ)
 refine twF ?_
 refine ⟨.inl rfl, _, rfl, sf_end (d := d') hcl ht (sf_set' _ htn hSF) rfl ?_⟩
 exact ⟨d', q1, q2, hok2, rfl, rfl⟩
end
end Go.Proofs.YthedkfiebmnghaaGreat
