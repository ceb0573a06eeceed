/- Texts of the proof, joined. -/
import Derived.Test.YthedkfiebmnghaaGreatKyb27
import Derived.Shelf.Small.Bits
import Derived.Shelf.Lay
import Derived.Ground.NamesProg
set_option linter.all false
set_option maxHeartbeats 16000000
set_option maxRecDepth 20000
namespace Go.Proofs.YthedkfiebmnghaaGreat
open Go Go.RowKit Go.Sh Go.Pv Go.By
open Go.Sort (swp scanUp scanDown partEqLoop partitionEqual partEqLoop_eq)
section
variable {p : Nat × Nat → Bool} {d : Array (Nat × Nat)} {i j : Nat}
theorem scanUp_t (h : i ≤ j) (hp : p (tA d i) = true) : scanUp p d j i = scanUp p d j (i + 1) := by
 rw [scanUp, if_pos]
 rw [Bool.and_eq_true]
 exact ⟨decide_eq_true h, hp⟩
theorem scanUp_f (h : ¬ (i ≤ j ∧ p (tA d i) = true)) : scanUp p d j i = i := by
 rw [scanUp, if_neg]
 rw [Bool.and_eq_true]
 rintro ⟨h1, h2⟩
 exact h ⟨of_decide_eq_true h1, h2⟩
theorem scanDown_t (h0 : 1 ≤ j) (h : i ≤ j) (hp : p (tA d j) = true) : scanDown p d i j = scanDown p d i (j - 1) := by
 obtain ⟨j, rfl⟩ : ∃ k, j = k + 1 := ⟨j - 1, by omega⟩
 rw [scanDown, if_pos]
 ·rfl
 ·rw [Bool.and_eq_true]
  exact ⟨decide_eq_true h, hp⟩
theorem scanDown_f (h : ¬ (i ≤ j ∧ p (tA d j) = true)) : scanDown p d i j = j := by
 cases j with
 | zero => rfl
 | succ j =>
  rw [scanDown, if_neg]
  rw [Bool.and_eq_true]
  rintro ⟨h1, h2⟩
  exact h ⟨of_decide_eq_true h1, h2⟩
end
theorem nb_t {x : Int} (h : x < 0) : (!decide (x < 0)) = false := by rw [decide_eq_true h]; rfl
theorem nb_f {x : Int} (h : ¬ x < 0) : (!decide (x < 0)) = true := by rw [decide_eq_false h]; rfl
section
variable {Z : Zn} {w0 : World} {cap : Nat → Prop} {nt : Nat} {rd : Option Nat} {pan : List PanicEntry → St → Prop} {df : Option Nat} {dk : List Nat} {rg : Bool} {fr : List (Nat × AV)} {hp : List (Nat × Obj')} {nx t len : Nat} {ac : AC} {cf : Nat × Nat → Nat × Nat → Int} {pr : Nat × Nat → Prop}
theorem c_pequal (hC : CmpI ac cf pr hp nx t) (hl : len ≤ 100000) (a b pv : Nat) (d : Array (Nat × Nat)) (ht : AL.get hp t = some (arrT d)) (hok : OkT pr len d) (hab : a < b) (hb : b ≤ len) (hpv : pv < len) :
  CallF ⟨Tryz.prog, Z, w0, cap, nt, rd, pan, df, dk, rg⟩ 140 [.one (.own t len), iA a, iA b, iA pv, .one ac] ⟨fr, hp, nx⟩ fun st' av => (st' = ⟨fr, AL.set hp t (arrT (partitionEqual (ltT cf) d a b pv).2), nx⟩ ∧ av = .one (.p (iP ((partitionEqual (ltT cf) d a b pv).1 : Int)))) ∧ OkT pr len (partitionEqual (ltT cf) d a b pv).2 := by
 obtain ⟨g, caps, gn, rfl, g5, g6, g7, gC⟩ := id hC
 (refine callF_to (nt := 90) (rs := [.tmp 10]) Tryz.func140 rfl rfl rfl (by simp) fun hcl tm Ds => ?_); simp only [initV]
 have htn := hcl.lt t _ ht
 dsimp only [Kx.calleeT] at htn ⊢
 generalize hR : partitionEqual (ltT cf) d a b pv = R
 unfold partitionEqual at hR
 have hSF0 := sf_start (tm := tm) hcl ht
 obtain ⟨f0, f1, f2, f3⟩ := id hSF0
 obtain ⟨hsz, hpr⟩ := id hok
 unfold arrT at f2
 try clear hF
 have hF := And.intro f1 (And.intro f2 (hsz))
 refine twF ?_
 have hok1 := hok.sw (i := a) (j := pv) (by omega) hpv
 refine aw_weak (weak_thr [0, 1, 4, 11, 12] (by simp only [go_sem, ↓reduceIte]; rfl)) ?_
 refine aw_loop_hp (ι := { p : Nat × Nat × Array (Nat × Nat) // (a < p.1 ∧ p.1 ≤ len + 1 ∧ p.2.1 < len) ∧ OkT pr len p.2.2 ∧ partEqLoop (ltT cf) a p.1 p.2.1 p.2.2 = R }) (fun p => [(11, iA p.1.1), (12, iA p.1.2.1)]) (fun p => SF fr tm hp nx t p.1.2.2) (fun p => p.1.2.1 + 1 - p.1.1) ⟨(a + 1, b - 1, swp d a pv), by dsimp only; omega, hok1, hR⟩ (by first | rfl | (simp only [go_sem, ↓reduceIte]; rfl)) (sf_set2 _ _ htn hSF0) ?_
 clear hSF0 f0 f1 f2 f3 hsz hpr hR hok hok1
 rintro ⟨⟨i, j, d⟩, hij, hok, hs⟩ hpX nxX hSF
 refine tO ?_
 dsimp only at hij hs hSF hok
 rw [partEqLoop_eq] at hs
 refine tw ?_
 refine aw_weak (weak_thr [0, 1, 4, 11, 12] (by simp only [go_sem, ↓reduceIte]; rfl)) ?_
 generalize hI : scanUp (fun x => !ltT cf d[a]! x) d j i = I2 at hs
 refine aw_loop_hp (ι := { i : Nat // (a < i ∧ i ≤ len + 1) ∧ scanUp (fun x => !ltT cf d[a]! x) d j i = I2 }) (fun p => [(11, iA p.1)]) (fun p => SF fr tm hp nx t d) (fun p => len + 2 - p.1) ⟨i, by omega, hI⟩ (by first | rfl | (simp only [go_sem, ↓reduceIte]; rfl)) hSF ?_
 have hi0 : i ≤ I2 := by rw [← hI]; exact Go.Sort.scanUp_ge _ d j i
 clear hI hSF
 rintro ⟨i', hi, hI⟩ hpX2 nxX2 hSF
 refine tO ?_
 obtain ⟨f0, f1, f2, f3⟩ := id hSF
 obtain ⟨hsz, hpr⟩ := id hok
 try dsimp only at hi hI f2 hSF
 unfold arrT at f2
 have pa := hpr a (by omega)
 try clear hF
 have hF := And.intro f1 (And.intro f2 (hsz))
 by_cases hle : i' ≤ j
 ·have pi := hpr i' (by omega)
  by_cases hc : cf (tA d a) (tA d i') < 0
  ·rw [scanUp_f (by rintro ⟨_, h⟩; rw [show (!ltT cf d[a]! (tA d i')) = false from nb_t hc] at h; cases h)] at hI
   subst hI
   refine twF fun QQ hQQ => ?_
   (refine callD_F [] (.one (.p (iP (cf (tA d a) (tA d i'))))) _ _ rfl rfl qF qF g5 g6 g7 (fun _ _ => rfl) (Nat.le_refl _) (fun _ h => by cases h) (fun fr' hk => gC _ _ _ _ rfl pa pi fun id ob h1 h2 h3 => f3 id ob h1 h2 h3) ?_); (refine tdF ?_; clear hQQ QQ)
   refine twF ?_
   refine tiF ?_
   refine twF ?_
   refine aw_weak (weak_thr [0, 1, 4, 11, 12] (by simp only [hF, go_sem, ↓reduceIte]; rfl)) ?_
   generalize hJ : scanDown (fun x => ltT cf d[a]! x) d i' j = J2 at hs
   refine aw_loop_hp (ι := { j' : Nat // j' ≤ j ∧ scanDown (fun x => ltT cf d[a]! x) d i' j' = J2 }) (fun p => [(12, iA p.1)]) (fun p => SF fr tm hp nx t d) (fun p => p.1) ⟨j, Nat.le_refl _, hJ⟩ (by first | rfl | (simp only [hF, go_sem, ↓reduceIte]; rfl)) hSF ?_
   have hj0 : J2 ≤ j := by rw [← hJ]; exact Go.Sort.scanDown_le _ d i' j
   clear hJ hSF f0 f1 f2 f3
   rintro ⟨j', hj, hJ⟩ hpX3 nxX3 hSF
   refine tO ?_
   obtain ⟨f0, f1, f2, f3⟩ := id hSF
   try dsimp only at hj hJ f2 hSF
   unfold arrT at f2
   try clear hF
   have hF := And.intro f1 (And.intro f2 (hsz))
   by_cases hle2 : i' ≤ j'
   ·have pj := hpr j' (by omega)
    by_cases hc2 : cf (tA d a) (tA d j') < 0
    ·rw [scanDown_t (by omega) hle2 (decide_eq_true hc2)] at hJ
     refine twF fun QQ hQQ => ?_
     (refine callD_F [] (.one (.p (iP (cf (tA d a) (tA d j'))))) _ _ rfl rfl qF qF g5 g6 g7 (fun _ _ => rfl) (Nat.le_refl _) (fun _ h => by cases h) (fun fr' hk => gC _ _ _ _ rfl pa pj fun id ob h1 h2 h3 => f3 id ob h1 h2 h3) ?_); (refine tdF ?_; clear hQQ QQ)
     refine twF ?_
     refine tiF ?_
     refine twF ?_
     exact ⟨⟨j' - 1, by omega, hJ⟩, by dsimp only; omega, hSF, by first | rfl | (simp only [hF, go_sem, ↓reduceIte]; rfl)⟩
    ·rw [scanDown_f (by rintro ⟨_, h⟩; exact hc2 (of_decide_eq_true h))] at hJ
     subst hJ
     rw [if_neg (by omega)] at hs
     refine twF fun QQ hQQ => ?_
     (refine callD_F [] (.one (.p (iP (cf (tA d a) (tA d j'))))) _ _ rfl rfl qF qF g5 g6 g7 (fun _ _ => rfl) (Nat.le_refl _) (fun _ h => by cases h) (fun fr' hk => gC _ _ _ _ rfl pa pj fun id ob h1 h2 h3 => f3 id ob h1 h2 h3) ?_); (refine tdF ?_; clear hQQ QQ)
     refine twF ?_
     refine tiF ?_
     refine twF ?_
     refine tiF ?_
     refine twF ?_
     exact ⟨⟨(i' + 1, j' - 1, swp d i' j'), by dsimp only; omega, hok.sw (by omega) (by omega), hs⟩, by dsimp only; omega, sf_set2 _ _ htn hSF, by first | rfl | (simp only [hF, go_sem, ↓reduceIte]; rfl)⟩
   ·rw [scanDown_f (by omega)] at hJ
    subst hJ
    rw [if_pos (by omega)] at hs
    refine twF ?_
    refine tiF ?_
    refine twF ?_
    refine tiF ?_
    refine twF ?_
    subst hs
    refine aw_ret ⟨.inr rfl, _, qF, sf_end (d := d) hcl ht hSF rfl ?_⟩
    exact ⟨⟨rfl, rfl⟩, hok⟩
  ·rw [scanUp_t hle (by rw [show (!ltT cf d[a]! (tA d i')) = true from nb_f hc])] at hI
   refine twF fun QQ hQQ => ?_
   (refine callD_F [] (.one (.p (iP (cf (tA d a) (tA d i'))))) _ _ rfl rfl qF qF g5 g6 g7 (fun _ _ => rfl) (Nat.le_refl _) (fun _ h => by cases h) (fun fr' hk => gC _ _ _ _ rfl pa pi fun id ob h1 h2 h3 => f3 id ob h1 h2 h3) ?_); (refine tdF ?_; clear hQQ QQ)
   refine twF ?_
   refine tiF ?_
   refine twF ?_
   exact ⟨⟨i' + 1, by omega, hI⟩, by dsimp only; omega, hSF, by first | rfl | (simp only [hF, go_sem, ↓reduceIte]; rfl)⟩
 ·rw [scanUp_f (by omega)] at hI
  subst hI
  rw [scanDown_f (by omega), if_pos (by omega)] at hs
  refine twF ?_
  refine tiF ?_
  refine twF ?_
  refine aw_weak (weak_thr [0, 1, 4, 11, 12] (by simp only [hF, go_sem, ↓reduceIte]; rfl)) ?_
  refine aw_loop_hp (ι := Unit) (fun _ => []) (fun _ => SF fr tm hp nx t d) (fun _ => 0) () (by first | rfl | (simp only [hF, go_sem, ↓reduceIte]; rfl)) hSF ?_
  clear hSF f0 f1 f2 f3
  rintro ⟨⟩ hpX3 nxX3 hSF
  refine tO ?_
  obtain ⟨f0, f1, f2, f3⟩ := id hSF
  unfold arrT at f2
  try clear hF
  have hF := And.intro f1 (And.intro f2 (hsz))
  refine twF ?_
  refine tiF ?_
  refine twF ?_
  refine tiF ?_
  refine twF ?_
  subst hs
  refine aw_ret ⟨.inr rfl, _, qF, sf_end (d := d) hcl ht hSF rfl ?_⟩
  exact ⟨⟨rfl, rfl⟩, hok⟩
end
open Go.Sort (swp scanSorted partialIns partialInsertionSort)
theorem scanS_t {lt : Nat × Nat → Nat × Nat → Bool} {d : Array (Nat × Nat)} {b i : Nat} (h : i < b) (hp : lt (tA d i) (tA d (i - 1)) = false) : scanSorted lt d b i = scanSorted lt d b (i + 1) := by
 rw [scanSorted, if_pos]
 rw [Bool.and_eq_true]
 exact ⟨decide_eq_true h, by rw [show lt d[i]! d[i - 1]! = false from hp]; rfl⟩
theorem scanS_f {lt : Nat × Nat → Nat × Nat → Bool} {d : Array (Nat × Nat)} {b i : Nat} (h : ¬ (i < b ∧ lt (tA d i) (tA d (i - 1)) = false)) : scanSorted lt d b i = i := by
 rw [scanSorted, if_neg]
 rw [Bool.and_eq_true]
 rintro ⟨h1, h2⟩
 exact h ⟨of_decide_eq_true h1, show lt d[i]! d[i - 1]! = false by simpa using h2⟩
theorem partial_small {lt : Nat × Nat → Nat × Nat → Bool} {d : Array (Nat × Nat)} {a b : Nat} (h : b - a < 50) : partialInsertionSort lt d a b = (d, decide (scanSorted lt d b (a + 1) = b)) := by
 unfold partialInsertionSort
 rw [partialIns]
 dsimp only
 split
 ·rename_i e; rw [decide_eq_true e]
 ·rename_i e; rw [decide_eq_false e]
section
variable {Z : Zn} {w0 : World} {cap : Nat → Prop} {nt : Nat} {rd : Option Nat} {pan : List PanicEntry → St → Prop} {df : Option Nat} {dk : List Nat} {rg : Bool} {fr : List (Nat × AV)} {hp : List (Nat × Obj')} {nx t len : Nat} {ac : AC} {cf : Nat × Nat → Nat × Nat → Int} {pr : Nat × Nat → Prop}
theorem c_partial (hC : CmpI ac cf pr hp nx t) (hl : len ≤ 49) (a b : Nat) (d : Array (Nat × Nat)) (ht : AL.get hp t = some (arrT d)) (hok : OkT pr len d) (hab : a < b) (hb : b ≤ len) :
  CallF ⟨Tryz.prog, Z, w0, cap, nt, rd, pan, df, dk, rg⟩ 139 [.one (.own t len), iA a, iA b, .one ac] ⟨fr, hp, nx⟩ fun st' av => st' = ⟨fr, AL.set hp t (arrT d), nx⟩ ∧ av = .one (.p (.v (.bool (decide (scanSorted (ltT cf) d b (a + 1) = b))))) := by
 obtain ⟨g, caps, gn, rfl, g5, g6, g7, gC⟩ := id hC
 (refine callF_to (nt := 141) (rs := [.tmp 8]) Tryz.func139 rfl rfl rfl (by simp) fun hcl tm Ds => ?_); simp only [initV]
 have htn := hcl.lt t _ ht
 dsimp only [Kx.calleeT] at htn ⊢
 generalize hR : scanSorted (ltT cf) d b (a + 1) = R
 obtain ⟨hsz, hpr⟩ := id hok
 refine tw ?_
 refine aw_weak (weak_thr [0, 1, 2, 3, 9, 10] (by simp only [go_sem, ↓reduceIte]; rfl)) ?_
 refine aw_loop_hp (ι := Unit) (fun _ => [(9, iA ((a + 1 : Nat) : Int)), (10, iA 0)]) (fun _ => SF fr tm hp nx t d) (fun _ => 0) () (by first | rfl | (simp only [go_sem, ↓reduceIte]; rfl)) (sf_start hcl ht) ?_
 rintro ⟨⟩ hpX nxX hSF
 refine tO ?_
 refine tw ?_
 refine ti ?_
 refine tw ?_
 refine aw_weak (weak_thr [0, 1, 2, 3, 9, 10] (by simp only [go_sem, ↓reduceIte]; rfl)) ?_
 refine aw_loop_hp (ι := { i : Nat // (a + 1 ≤ i ∧ i ≤ b) ∧ scanSorted (ltT cf) d b i = R }) (fun p => [(9, iA p.1)]) (fun p => SF fr tm hp nx t d) (fun p => b - p.1) ⟨a + 1, by omega, hR⟩ (by first | rfl | (simp only [go_sem, ↓reduceIte]; rfl)) hSF ?_
 clear hSF
 rintro ⟨i, hi, hI⟩ hpX nxX hSF
 refine tO ?_
 obtain ⟨f0, f1, f2, f3⟩ := id hSF
 try dsimp only at hi hI f2 hSF
 unfold arrT at f2
 try clear hF
 have hF := And.intro f1 (And.intro f2 (hsz))
 by_cases hib : i < b
 ·have p1 := hpr i (by omega)
  have p2 := hpr (i - 1) (by omega)
  by_cases hc : cf (tA d i) (tA d (i - 1)) < 0
  ·rw [scanS_f (by rintro ⟨_, h⟩; rw [show ltT cf (tA d i) (tA d (i - 1)) = true from decide_eq_true hc] at h; cases h)] at hI
   subst hI
   rw [decide_eq_false (by omega)]
   refine twF fun QQ hQQ => ?_
   (refine callD_F [] (.one (.p (iP (cf (tA d i) (tA d (i - 1)))))) _ _ rfl rfl qF qF g5 g6 g7 (fun _ _ => rfl) (Nat.le_refl _) (fun _ h => by cases h) (fun fr' hk => gC _ _ _ _ rfl p1 p2 fun id ob h1 h2 h3 => f3 id ob h1 h2 h3) ?_); (refine tdF ?_; clear hQQ QQ)
   refine twF ?_
   refine tiF ?_
   refine twF ?_
   refine tiF ?_
   refine twF ?_
   refine tiF ?_
   refine twF ?_
   refine aw_ret ⟨.inr rfl, _, qF, sf_end (d := d) hcl ht hSF rfl ?_⟩
   exact ⟨rfl, rfl⟩
  ·rw [scanS_t hib (decide_eq_false hc)] at hI
   refine twF fun QQ hQQ => ?_
   (refine callD_F [] (.one (.p (iP (cf (tA d i) (tA d (i - 1)))))) _ _ rfl rfl qF qF g5 g6 g7 (fun _ _ => rfl) (Nat.le_refl _) (fun _ h => by cases h) (fun fr' hk => gC _ _ _ _ rfl p1 p2 fun id ob h1 h2 h3 => f3 id ob h1 h2 h3) ?_); (refine tdF ?_; clear hQQ QQ)
   refine twF ?_
   refine tiF ?_
   refine twF ?_
   exact ⟨⟨i + 1, by omega, hI⟩, by dsimp only; omega, hSF, by first | rfl | (simp only [hF, go_sem, ↓reduceIte]; rfl)⟩
 ·rw [scanS_f (by omega)] at hI
  subst hI
  have hie : i = b := by omega
  rw [decide_eq_true hie]
  subst hie
  refine twF ?_
  refine tiF ?_
  refine twF ?_
  refine tiF ?_
  refine twF ?_
  refine aw_ret ⟨.inr rfl, _, qF, sf_end (d := d) hcl ht hSF rfl ?_⟩
  exact ⟨rfl, rfl⟩
end
open Go.Sort (swp)
def boxN (w : Nat) : Obj' := .box [.p (iP (w : Int))]
def SB (fr : List (Nat × AV)) (tm : Nat → Value) (hp : List (Nat × Obj')) (nx s w : Nat) (hpX : List (Nat × Obj')) (nxX : Nat) : Prop :=
 nx < nxX ∧ AL.get hpX nx = some (.kept fr tm) ∧ AL.get hpX s = some (boxN w) ∧ ∀ id o, id < nx → id ≠ s → AL.get hp id = some o → AL.get hpX id = some o
section
variable {fr : List (Nat × AV)} {tm : Nat → Value} {hp hpX : List (Nat × Obj')} {nx nxX s w w0 : Nat}
theorem sb_start (hcl : Closed ⟨fr, hp, nx⟩) (ht : AL.get hp s = some (boxN w)) : SB fr tm hp nx s w ((nx, .kept fr tm) :: hp) (nx + 1) := by
 have hl := hcl.lt s _ ht
 refine ⟨Nat.lt_succ_self _, AL.get_eq _ _ _, ?_, fun id o h1 h2 h3 => ?_⟩
 ·rw [AL.get_ne _ _ (by dsimp only at hl; omega)]; exact ht
 ·rw [AL.get_ne _ _ (by omega)]; exact h3
theorem sb_set (w' : Nat) (htn : s < nx) (h : SB fr tm hp nx s w hpX nxX) : SB fr tm hp nx s w' ((s, boxN w') :: hpX) nxX := by
 obtain ⟨h1, h2, h3, h4⟩ := h
 refine ⟨h1, ?_, AL.get_eq _ _ _, fun id o g1 g2 g3 => ?_⟩
 ·rw [AL.get_ne _ _ (by omega)]; exact h2
 ·rw [AL.get_ne _ _ g2]; exact h4 id o g1 g2 g3
theorem sb_set' (w' : Nat) (htn : s < nx) (h : SB fr tm hp nx s w hpX nxX) : SB fr tm hp nx s w' (AL.set hpX s (boxN w')) nxX := by
 obtain ⟨h1, h2, h3, h4⟩ := h
 refine ⟨h1, ?_, ?_, fun id o g1 g2 g3 => ?_⟩
 ·rw [AL.get_set, if_neg (by omega)]; exact h2
 ·rw [AL.get_set, if_pos rfl]
 ·rw [AL.get_set, if_neg g2]; exact h4 id o g1 g2 g3
theorem sb_end (hcl : Closed ⟨fr, hp, nx⟩) (ht : AL.get hp s = some (boxN w0)) (h : SB fr tm hp nx s w hpX nxX) {av : AV} (hrf : refsV av = []) {Q : St → Prop} (hq : Q ⟨fr, AL.set hp s (boxN w), nx⟩) :
  AL.get hpX nx = some (.kept fr tm) ∧ ∃ T : St, T.fr = fr ∧ Closed T ∧ (∀ id o, AL.get T.hp id = some o → AL.get hpX id = some o) ∧ There (AL.get T.hp) (refsV av) ∧ Q T := by
 obtain ⟨h1, h2, h3, h4⟩ := h
 refine ⟨h2, ⟨fr, AL.set hp s (boxN w), nx⟩, rfl, hcl.set ht (fun _ _ h => by cases h) (fun i hi => by cases hi), fun id o ho => ?_, fun i hi => (by rw [hrf] at hi; cases hi), hq⟩
 have ho : AL.get (AL.set hp s (boxN w)) id = some o := ho
 rw [AL.get_set] at ho
 split at ho
 ·rename_i e; rw [e]; rw [← ho]; exact h3
 ·rename_i e; exact h4 id o (hcl.lt id o ho) e ho
end
section
variable {Z : Zn} {w0 : World} {cap : Nat → Prop} {nt : Nat} {rd : Option Nat} {pan : List PanicEntry → St → Prop} {df : Option Nat} {dk : List Nat} {rg : Bool} {fr : List (Nat × AV)} {hp : List (Nat × Obj')} {nx t s len nx0 : Nat} {hp0 : List (Nat × Obj')} {ac : AC} {cf : Nat × Nat → Nat × Nat → Int} {pr : Nat × Nat → Prop}
theorem c_ord (hC : CmpI ac cf pr hp0 nx0 t) (h0 : ∀ id ob, id < nx0 → id ≠ t → AL.get hp0 id = some ob → AL.get hp id = some ob) (h0s : nx0 ≤ s) (hl : len ≤ 49) (a b w : Nat) (d : Array (Nat × Nat)) (hst : s ≠ t) (ht : AL.get hp t = some (arrT d)) (hs : AL.get hp s = some (boxN w)) (hok : OkT pr len d) (ha : a < len) (hb : b < len) (hw : w ≤ 100) :
  CallF ⟨Tryz.prog, Z, w0, cap, nt, rd, pan, df, dk, rg⟩ 154 [.one (.own t len), iA a, iA b, .one (.box s 0), .one ac] ⟨fr, hp, nx⟩ fun st' av => ∃ a' b' w' : Nat, ((a' = a ∧ b' = b) ∨ (a' = b ∧ b' = a)) ∧ w' ≤ w + 1 ∧ st' = ⟨fr, AL.set hp s (boxN w'), nx⟩ ∧ av = .tup [.one (iP (a' : Int)), .one (iP (b' : Int))] := by
 obtain ⟨g, caps, gn, rfl, g5, g6, g7, gC⟩ := id hC
 (refine callF_to (nt := 32) (rs := [.tmp 10, .tmp 11]) Tryz.func154 rfl rfl rfl (by simp) fun hcl tm Ds => ?_); simp only [initV]
 have htn := hcl.lt t _ ht
 have hsn := hcl.lt s _ hs
 dsimp only [Kx.calleeT] at htn hsn ⊢
 obtain ⟨hsz, hpr⟩ := id hok
 have hSB := sb_start (tm := tm) hcl hs
 obtain ⟨f0, f1, f2, f3⟩ := id hSB
 have f4 := f3 t _ htn (fun h => hst h.symm) ht
 unfold arrT at f4
 unfold boxN at f2
 have hts : t ≠ s := fun h => hst h.symm
 have pa := hpr a ha
 have pb := hpr b hb
 have f5 : ∀ id ob, id < nx0 → id ≠ t → AL.get hp0 id = some ob → AL.get ((nx, Obj'.kept fr tm) :: hp) id = some ob := fun id ob h1 h2 h3 => by
  have h4 := h0 id ob h1 h2 h3
  have h5 := hcl.lt id _ h4
  dsimp only at h5
  rw [AL.get_ne _ _ (by omega)]; exact h4
 by_cases hc : cf (tA d b) (tA d a) < 0
 ·have hx9 := hsz
  try clear hF
  have hF := And.intro f1 (And.intro f2 (And.intro f4 (hsz)))
  refine twF fun QQ hQQ => ?_
  (refine callD_F [] (.one (.p (iP (cf (tA d b) (tA d a))))) _ _ rfl rfl qF qF g5 g6 g7 (fun _ _ => rfl) (Nat.le_refl _) (fun _ h => by cases h) (fun fr' hk => gC _ _ _ _ rfl pb pa fun id ob h1 h2 h3 => f5 id ob h1 h2 h3) ?_); (refine tdF ?_; clear hQQ QQ)
  refine twF ?_
  refine tiF ?_
  refine twF ?_
  refine aw_ret ⟨.inr rfl, _, qF, sb_end (w := w + 1) hcl hs (sb_set (w + 1) hsn hSB) rfl ?_⟩
  exact ⟨b, a, w + 1, .inr ⟨rfl, rfl⟩, Nat.le_refl _, rfl, rfl⟩
 ·have hx9 := hsz
  try clear hF
  have hF := And.intro f1 (And.intro f2 (And.intro f4 (hsz)))
  refine twF fun QQ hQQ => ?_
  (refine callD_F [] (.one (.p (iP (cf (tA d b) (tA d a))))) _ _ rfl rfl qF qF g5 g6 g7 (fun _ _ => rfl) (Nat.le_refl _) (fun _ h => by cases h) (fun fr' hk => gC _ _ _ _ rfl pb pa fun id ob h1 h2 h3 => f5 id ob h1 h2 h3) ?_); (refine tdF ?_; clear hQQ QQ)
  refine twF ?_
  refine tiF ?_
  refine twF ?_
  refine aw_ret ⟨.inr rfl, _, qF, sb_end (w := w) hcl hs hSB rfl ?_⟩
  exact ⟨a, b, w, .inl ⟨rfl, rfl⟩, Nat.le_succ _, rfl, rfl⟩
theorem c_median (hC : CmpI ac cf pr hp0 nx0 t) (h0 : ∀ id ob, id < nx0 → id ≠ t → AL.get hp0 id = some ob → AL.get hp id = some ob) (h0s : nx0 ≤ s) (hl : len ≤ 49) (a b c w : Nat) (d : Array (Nat × Nat)) (hst : s ≠ t) (ht : AL.get hp t = some (arrT d)) (hs : AL.get hp s = some (boxN w)) (hok : OkT pr len d) (ha : a < len) (hb : b < len) (hc : c < len) (hw : w ≤ 90) :
  CallF ⟨Tryz.prog, Z, w0, cap, nt, rd, pan, df, dk, rg⟩ 153 [.one (.own t len), iA a, iA b, iA c, .one (.box s 0), .one ac] ⟨fr, hp, nx⟩ fun st' av => ∃ m w' : Nat, (m = a ∨ m = b ∨ m = c) ∧ w' ≤ w + 3 ∧ st' = ⟨fr, AL.set hp s (boxN w'), nx⟩ ∧ av = .one (.p (iP (m : Int))) := by
 obtain ⟨g, caps, gn, rfl, g5, g6, g7, gC⟩ := id hC
 (refine callF_to (nt := 41) (rs := [.tmp 12]) Tryz.func153 rfl rfl rfl (by simp) fun hcl tm Ds => ?_); simp only [initV]
 have htn := hcl.lt t _ ht
 have hsn := hcl.lt s _ hs
 dsimp only [Kx.calleeT] at htn hsn ⊢
 have hSB := sb_start (tm := tm) hcl hs
 generalize hX : (nx, Obj'.kept fr tm) :: hp = hpX at *
 generalize hN : nx + 1 = nxX at *
 have f5 : ∀ {hpX nxX w'}, SB fr tm hp nx s w' hpX nxX → ∀ id ob, id < nx0 → id ≠ t → AL.get hp0 id = some ob → AL.get hpX id = some ob := fun hSB id ob h1 h2 h3 => by
  have h4 := h0 id ob h1 h2 h3
  have h5 := hcl.lt id _ h4
  dsimp only at h5
  exact hSB.2.2.2 id ob h5 (by omega) h4
 have f4 : ∀ {hpX nxX w'}, SB fr tm hp nx s w' hpX nxX → AL.get hpX t = some (arrT d) := fun hSB => hSB.2.2.2 t _ htn (fun h => hst h.symm) ht
 refine tw fun QQ hQQ => ?_
 refine callS_ok rfl rfl 154 qN qN Tryz.func154 rfl (by decide) ((c_ord hC (f5 hSB) h0s hl a b w d hst (f4 hSB) hSB.2.2.1 hok ha hb (by omega)).mono ?_)
 rintro _ _ ⟨a1, b1, w1, he1, hw1, rfl, rfl⟩
 have hSB1 := sb_set' w1 hsn hSB
 have ha1 : a1 < len ∧ b1 < len ∧ (a1 = a ∨ a1 = b) ∧ (b1 = a ∨ b1 = b) := by omega
 (refine ts ?_; clear hQQ QQ)
 refine tw fun QQ hQQ => ?_
 refine callS_ok rfl rfl 154 qN qN Tryz.func154 rfl (by decide) ((c_ord hC (f5 hSB1) h0s hl b1 c w1 d hst (f4 hSB1) hSB1.2.2.1 hok (by omega) hc (by omega)).mono ?_)
 rintro _ _ ⟨b2, c2, w2, he2, hw2, rfl, rfl⟩
 have hSB2 := sb_set' w2 hsn hSB1
 have ha2 : b2 < len ∧ (b2 = a ∨ b2 = b ∨ b2 = c) := by omega
 (refine ts ?_; clear hQQ QQ)
 refine tw fun QQ hQQ => ?_
 refine callS_ok rfl rfl 154 qN qN Tryz.func154 rfl (by decide) ((c_ord hC (f5 hSB2) h0s hl a1 b2 w2 d hst (f4 hSB2) hSB2.2.2.1 hok (by omega) (by omega) (by omega)).mono ?_)
 rintro _ _ ⟨a3, b3, w3, he3, hw3, rfl, rfl⟩
 have hSB3 := sb_set' w3 hsn hSB2
 (refine ts ?_; clear hQQ QQ)
 refine tw ?_
 refine aw_ret ⟨.inr rfl, _, qN, sb_end (w := w3) hcl hs hSB3 rfl ?_⟩
 exact ⟨b3, w3, by omega, by omega, rfl, rfl⟩
end
end Go.Proofs.YthedkfiebmnghaaGreat
namespace Go.Proofs.YthedkfiebmnghaaGreat
open Go Go.RowKit Go.Sh Go.Pv Go.By Go.Shelf
shelf_lay Lays.n125 Nm 125 at Tryz as len122
theorem ok_len (x : Nat) (h : x ≤ 100000) : FunOK Tryz.prog 122 [.one (.v (.int .u64 (x : Int)))] (.one (.one (iP (Lib.bitLen x : Nat)))) := by
 intro Z w us hus
 have hc := Any.bits_Len len122 (x : Int) w (by omega) (by omega)
 change Calls Tryz.prog 122 _ _ _ at hc
 rw [Int.toNat_natCast] at hc
 have e : us = #[.int .u64 (x : Int)] := by
  obtain ⟨h1, h2⟩ := hus
  obtain ⟨v, h3, h4⟩ := h2 0 _ rfl
  cases h4
  apply Array.ext'
  obtain ⟨l⟩ := us
  match l, h1, h3 with
  | [y], _, h3 => simp at h3; rw [h3]
 subst e
 refine hc.mono ?_
 rintro e w' ⟨rfl, rfl⟩
 exact ⟨_, rfl, .v _ rfl, Below.refl _ _⟩
theorem bitLen_small : ∀ n : Fin 64, Lib.bitLen n.val ≤ 6 ∧ (1 ≤ n.val → 2 ^ Lib.bitLen n.val ≤ 2 * n.val) := by decide +kernel
end Go.Proofs.YthedkfiebmnghaaGreat
namespace Go.Proofs.YthedkfiebmnghaaGreat
open Go Go.RowKit Go.Sh Go.Pv Go.By
open Go.Sort (swp)
def boxU (w : Nat) : Obj' := .box [.p (.v (.int .u64 (w : Int)))]
theorem wrap64 (x : Int) : ∃ n : Nat, n < 2 ^ 64 ∧ IntKind.u64.wrap x = (n : Int) := by
 refine ⟨(IntKind.u64.wrap x).toNat, ?_, ?_⟩ <;> (simp only [IntKind.wrap, IntKind.bits, IntKind.signed]; simp; omega)
theorem u_shl (x : Nat) (b : Int) (hb : 0 ≤ b) : ∃ y : Nat, y < 2 ^ 64 ∧ ∀ T p q, binA Tryz.prog .shl T p q (.int .u64 (x : Int)) (.int .u64 b) = some (.int .u64 (y : Int)) := by
 obtain ⟨n, h1, h2⟩ := wrap64 ((x : Int) * 2 ^ (min b.toNat IntKind.u64.bits))
 exact ⟨n, h1, fun T p q => by rw [bin_shl _ _ _ _ _ _ _ hb, h2]⟩
theorem u_shr (x : Nat) (hx : x < 2 ^ 64) (b : Int) (hb : 0 ≤ b) : ∃ y : Nat, y < 2 ^ 64 ∧ ∀ T p q, binA Tryz.prog .shr T p q (.int .u64 (x : Int)) (.int .u64 b) = some (.int .u64 (y : Int)) := by
 refine ⟨x / 2 ^ (min b.toNat IntKind.u64.bits), Nat.lt_of_le_of_lt (Nat.div_le_self _ _) hx, fun T p q => ?_⟩
 rw [bin_shr _ _ _ _ _ _ _ hb]
 have e : ∀ m : Nat, (x : Int).fdiv (2 ^ m) = ((x / 2 ^ m : Nat) : Int) := fun m => by
  rw [Int.fdiv_eq_ediv_of_nonneg _ (by exact Int.le_of_lt (Int.pow_pos (by decide)))]
  push_cast
  rfl
 rw [e]
theorem wrap64_of {n : Nat} (h : n < 2 ^ 64) : IntKind.u64.wrap (n : Int) = (n : Int) := by
 simp only [IntKind.wrap, IntKind.bits, IntKind.signed]; simp; omega
theorem u_and (x y : Nat) (hy : y < 2 ^ 64) : ∃ z : Nat, z ≤ y ∧ ∀ T p q, binA Tryz.prog .and T p q (.int .u64 (x : Int)) (.int .u64 (y : Int)) = some (.int .u64 (z : Int)) := by
 have h : (BitVec.ofInt IntKind.u64.bits (x : Int) &&& BitVec.ofInt IntKind.u64.bits (y : Int)).toNat ≤ y := by
  rw [BitVec.toNat_and]
  refine Nat.le_trans Nat.and_le_right ?_
  show (BitVec.ofInt 64 (y : Int)).toNat ≤ y
  rw [BitVec.ofInt_natCast, BitVec.toNat_ofNat]
  exact Nat.mod_le _ _
 refine ⟨_, h, fun T p q => ?_⟩
 rw [bin_and, wrap64_of (by omega)]
theorem bin_xor (k : IntKind) (T : TypeId) (x y : Operand) (a b : Int) : binA Tryz.prog .xor T x y (.int k a) (.int k b) = some (.int k (k.wrap ((BitVec.ofInt k.bits a ^^^ BitVec.ofInt k.bits b).toNat))) := by cases k <;> rfl
theorem u_xor (x y : Nat) : ∃ z : Nat, z < 2 ^ 64 ∧ ∀ T p q, binA Tryz.prog .xor T p q (.int .u64 (x : Int)) (.int .u64 (y : Int)) = some (.int .u64 (z : Int)) := by
 obtain ⟨n, h1, h2⟩ := wrap64 ((BitVec.ofInt IntKind.u64.bits (x : Int) ^^^ BitVec.ofInt IntKind.u64.bits (y : Int)).toNat)
 exact ⟨n, h1, fun T p q => by rw [bin_xor, h2]⟩
def keptU (fr : List (Nat × AV)) (tm : Nat → Value) (hp : List (Nat × Obj')) (nx s w : Nat) (hpX : List (Nat × Obj')) (nxX : Nat) : Prop :=
 nx < nxX ∧ AL.get hpX nx = some (.kept fr tm) ∧ AL.get hpX s = some (boxU w) ∧ ∀ id o, id < nx → id ≠ s → AL.get hp id = some o → AL.get hpX id = some o
theorem ku_end {fr : List (Nat × AV)} {tm : Nat → Value} {hp hpX : List (Nat × Obj')} {nx nxX s w w0 : Nat} (hcl : Closed ⟨fr, hp, nx⟩) (ht : AL.get hp s = some (boxU w0)) (h : keptU fr tm hp nx s w hpX nxX) {av : AV} (hrf : refsV av = []) {Q : St → Prop} (hq : Q ⟨fr, AL.set hp s (boxU w), nx⟩) :
  AL.get hpX nx = some (.kept fr tm) ∧ ∃ T : St, T.fr = fr ∧ Closed T ∧ (∀ id o, AL.get T.hp id = some o → AL.get hpX id = some o) ∧ There (AL.get T.hp) (refsV av) ∧ Q T := by
 obtain ⟨h1, h2, h3, h4⟩ := h
 refine ⟨h2, ⟨fr, AL.set hp s (boxU w), nx⟩, rfl, hcl.set ht (fun _ _ h => by cases h) (fun i hi => by cases hi), fun id o ho => ?_, fun i hi => (by rw [hrf] at hi; cases hi), hq⟩
 have ho : AL.get (AL.set hp s (boxU w)) id = some o := ho
 rw [AL.get_set] at ho
 split at ho
 ·rename_i e; rw [e]; rw [← ho]; exact h3
 ·rename_i e; exact h4 id o (hcl.lt id o ho) e ho
section
variable {Z : Zn} {w0 : World} {cap : Nat → Prop} {nt : Nat} {rd : Option Nat} {pan : List PanicEntry → St → Prop} {df : Option Nat} {dk : List Nat} {rg : Bool} {fr : List (Nat × AV)} {hp : List (Nat × Obj')} {nx s : Nat}
theorem c_next (w : Nat) (hw : w < 2 ^ 64) (hs : AL.get hp s = some (boxU w)) :
  CallF ⟨Tryz.prog, Z, w0, cap, nt, rd, pan, df, dk, rg⟩ 151 [.one (.box s 0)] ⟨fr, hp, nx⟩ fun st' av => ∃ w' : Nat, w' < 2 ^ 64 ∧ st' = ⟨fr, AL.set hp s (boxU w'), nx⟩ ∧ av = .one (.p (.v (.int .u64 (w' : Int)))) := by
 (refine callF_to (nt := 33) (rs := [.tmp 2]) Tryz.func151 rfl rfl rfl (by simp) fun hcl tm Ds => ?_); simp only [initV]
 have hsn := hcl.lt s _ hs
 dsimp only [Kx.calleeT] at hsn ⊢
 obtain ⟨a1, ha1, e1⟩ := u_shl w 13 (by decide)
 obtain ⟨b1, hb1, e2⟩ := u_xor w a1
 obtain ⟨a2, ha2, e3⟩ := u_shr b1 hb1 7 (by decide)
 obtain ⟨b2, hb2, e4⟩ := u_xor b1 a2
 obtain ⟨a3, ha3, e5⟩ := u_shl b2 17 (by decide)
 obtain ⟨b3, hb3, e6⟩ := u_xor b2 a3
 have f1 : AL.get ((nx, Obj'.kept fr tm) :: hp) s = some (boxU w) := by rw [AL.get_ne _ _ (by omega)]; exact hs
 have f2 : AL.get hp s = some (.box [.p (.v (.int .u64 (w : Int)))]) := hs
 try clear hF
 have hF := And.intro f2 (And.intro e1 (And.intro e2 (And.intro e3 (And.intro e4 (And.intro e5 (e6))))))
 refine twF ?_
 refine aw_ret ⟨.inr rfl, _, qF, ku_end (w := b3) hcl hs ⟨Nat.lt_succ_self _, qF, qF, fun id o h1 h2 h3 => by simp (disch := first | decide | omega) only [hF, go_sem, ↓reduceIte]; exact h3⟩ rfl ?_⟩
 exact ⟨b3, hb3, rfl, rfl⟩
end
open Go.Sort (swp PermIn swp_permIn permIn_refl permIn_trans)
theorem conv3_159 (a : Nat) (h : a < 2 ^ 63) : convA Tryz.prog 3 159 (.int .i64 (a : Int)) = some (.int .u64 (a : Int)) := by
 rw [conv_int (Tryz.underlying3) (Tryz.underlying159), wrap64_of (by omega)]
theorem conv3_207 (a : Nat) (h : a < 2 ^ 63) : convA Tryz.prog 3 207 (.int .i64 (a : Int)) = some (.int .u64 (a : Int)) := by
 rw [conv_int (Tryz.underlying3) (Tryz.underlying207), wrap64_of (by omega)]
theorem conv159_3 (a : Nat) (h : a < 2 ^ 62) : convA Tryz.prog 159 3 (.int .u64 (a : Int)) = some (.int .i64 (a : Int)) := by
 rw [conv_int (Tryz.underlying159) (Tryz.underlying3)]
 congr 2
 simp only [IntKind.wrap, IntKind.bits, IntKind.signed]; simp; omega
theorem ok_pow (x : Nat) (h1 : 1 ≤ x) (h : x < 64) : ∃ M : Nat, 1 ≤ M ∧ M ≤ 2 * x ∧ FunOK Tryz.prog 150 [.one (iP (x : Int))] (.one (.one (.v (.int .u64 (M : Int))))) := by
 obtain ⟨g1, g2⟩ := bitLen_small ⟨x, h⟩
 have hlen := ok_len x (by omega)
 dsimp only at g1 g2
 have g2 := g2 h1
 generalize Lib.bitLen x = v at *
 refine ⟨2 ^ v, Nat.one_le_two_pow, g2, ?_⟩
 have hc := conv3_159 x (by omega)
 have hs : ∀ T p q, binA Tryz.prog .shl T p q (.int .u64 1) (.int .i64 (v : Int)) = some (.int .u64 ((2 ^ v : Nat) : Int)) := fun T p q => by
  rw [bin_shl _ _ _ _ _ _ _ (by omega), Int.toNat_natCast, show min v IntKind.u64.bits = v from by show min v 64 = v; omega, Int.one_mul]
  have : ((2 ^ v : Nat) : Int) = (2 : Int) ^ v := by push_cast; rfl
  rw [← this, wrap64_of (by omega)]
 refine fun_ok (nt := 7) (rs := [.tmp 2]) Tryz.func150 rfl rfl rfl (by simp) fun Z w0 => ?_; refine tI ?_
 try clear hF
 have hF := And.intro hc (hs)
 refine twF fun QQ hQQ => ?_
 ((refine cOF 122 rfl rfl rfl (hlen) Tryz.func122 rfl ?_); refine tuF ?_; clear hQQ QQ); refine twF ?_
 exact qRN
open Go.Sort (swp PermIn swp_permIn permIn_refl permIn_trans)
theorem nmul_2 (a : Nat) : (a : Int) * 2 = ((a * 2 : Nat) : Int) := rfl
theorem nmul_3 (a : Nat) : (a : Int) * 3 = ((a * 3 : Nat) : Int) := rfl
theorem nmul_1 (a : Nat) : (a : Int) * 1 = ((a * 1 : Nat) : Int) := rfl
attribute [go_sem] nmul_2
theorem sf_other {fr : List (Nat × AV)} {tm : Nat → Value} {hp hpX : List (Nat × Obj')} {nx nxX t s : Nat} {d : Array (Nat × Nat)} (ob : Obj') (htn : t < nx) (hs : nx < s) (h : SF fr tm hp nx t d hpX nxX) : SF fr tm hp nx t d (AL.set hpX s ob) nxX := by
 obtain ⟨h1, h2, h3, h4⟩ := h
 refine ⟨h1, ?_, ?_, fun id o g1 g2 g3 => ?_⟩
 ·rw [AL.get_set, if_neg (by omega)]; exact h2
 ·rw [AL.get_set, if_neg (by omega)]; exact h3
 ·rw [AL.get_set, if_neg (by omega)]; exact h4 id o g1 g2 g3
section
variable {Z : Zn} {w0 : World} {cap : Nat → Prop} {nt : Nat} {rd : Option Nat} {pan : List PanicEntry → St → Prop} {df : Option Nat} {dk : List Nat} {rg : Bool} {fr : List (Nat × AV)} {hp : List (Nat × Obj')} {nx t len : Nat} {ac : AC} {cf : Nat × Nat → Nat × Nat → Int} {pr : Nat × Nat → Prop}
theorem c_break (hl : len ≤ 49) (a b : Nat) (d : Array (Nat × Nat)) (ht : AL.get hp t = some (arrT d)) (hok : OkT pr len d) (hab : a + 12 < b) (hb : b ≤ len) :
  CallF ⟨Tryz.prog, Z, w0, cap, nt, rd, pan, df, dk, rg⟩ 136 [.one (.own t len), iA a, iA b, .one ac] ⟨fr, hp, nx⟩ fun st' av => ∃ d', PermIn a b d d' ∧ OkT pr len d' ∧ st' = ⟨fr, AL.set hp t (arrT d'), nx⟩ ∧ av = .tup [] := by
 obtain ⟨N, hN⟩ : ∃ N, b - a = N := ⟨_, rfl⟩
 obtain ⟨M, hM1, hM2, hpow⟩ := ok_pow N (by omega) (by omega)
 (refine callF_to (nt := 67) (rs := []) Tryz.func136 rfl rfl rfl (by simp) fun hcl tm Ds => ?_); simp only [initV]
 have htn := hcl.lt t _ ht
 dsimp only [Kx.calleeT] at htn ⊢
 have hNi : (b : Int) - (a : Int) = (N : Int) := by omega
 have hq : ∀ T x y, binA Tryz.prog .quo T x y (.int .i64 (N : Int)) (.int .i64 4) = some (.int .i64 ((N / 4 : Nat) : Int)) := fun T x y => bin_quo_nat (d := 4) T x y (by omega) (by decide)
 have hcv := conv3_207 N (by omega)
 have hk : 6 ≤ N / 4 * 2 ∧ N / 4 * 2 + 1 < N := by omega
 have hSF0 := sf_start (tm := tm) hcl ht
 try clear hF
 have hF := And.intro hNi (And.intro hq (hcv))
 refine twF ?_
 refine tiF ?_
 refine twF fun QQ hQQ => ?_
 ((refine cOF 150 rfl rfl rfl (hpow) Tryz.func150 rfl ?_); refine tuF ?_; clear hQQ QQ); refine twF ?_
 generalize hkk : N / 4 * 2 = k2 at *
 have hSF1 : ∀ X, SF fr tm hp nx t d ((nx + 1, boxU N) :: (nx + 1, X) :: (nx, Obj'.kept fr tm) :: hp) (nx + 1 + 1) := fun X => by
  obtain ⟨h1, h2, h3, h4⟩ := hSF0
  refine ⟨by omega, ?_, ?_, fun id o g1 g2 g3 => ?_⟩
  ·rw [AL.get_ne _ _ (by omega), AL.get_ne _ _ (by omega)]; exact h2
  ·rw [AL.get_ne _ _ (by omega), AL.get_ne _ _ (by omega)]; exact h3
  ·rw [AL.get_ne _ _ (by omega), AL.get_ne _ _ (by omega)]; exact h4 id o g1 g2 g3
 have hsub : ∀ T p q, binA Tryz.prog .sub T p q (.int .u64 (M : Int)) (.int .u64 1) = some (.int .u64 ((M - 1 : Nat) : Int)) := fun T p q => by
  rw [bin_sub, show (M : Int) - 1 = ((M - 1 : Nat) : Int) by omega, wrap64_of (by omega)]
 refine aw_weak (weak_thr [0, 1, 8, 9, 10, 11] (by simp only [go_sem, ↓reduceIte]; rfl)) ?_
 refine aw_loop_hp (ι := { p : Nat × Nat × Array (Nat × Nat) // (a + k2 - 1 ≤ p.1 ∧ p.1 ≤ a + k2 + 2) ∧ p.2.1 < 2 ^ 64 ∧ OkT pr len p.2.2 ∧ PermIn a b d p.2.2 }) (fun p => [(11, iA p.1.1)]) (fun p hpX nxX => SF fr tm hp nx t p.1.2.2 hpX nxX ∧ nx + 1 < nxX ∧ AL.get hpX (nx + 1) = some (boxU p.1.2.1)) (fun p => a + k2 + 2 - p.1.1) ⟨(a + k2 - 1, N, d), by dsimp only; omega, by dsimp only; omega, hok, permIn_refl d a b⟩ (by first | rfl | (simp only [go_sem, ↓reduceIte]; rfl)) ⟨hSF1 _, by dsimp only; omega, AL.get_eq _ _ _⟩ ?_
 clear hSF0 hSF1
 rintro ⟨⟨i, w, d'⟩, hi, hw, hok', hpm⟩ hpX nxX ⟨hSF, hnn, hbx⟩
 refine tO ?_
 dsimp only at hi hw hok' hpm hSF hbx hnn
 have hkq : N / 4 * 2 = k2 := hkk
 try clear hF
 have hF := And.intro hq (hkq)
 by_cases hik : i ≤ a + k2 + 1
 ·refine twF ?_
  refine tiF ?_
  refine twF fun QQ hQQ => ?_
  refine callS_ok rfl rfl 151 qF qF Tryz.func151 rfl (by decide) ((c_next w hw hbx).mono ?_)
  rintro _ _ ⟨w', hw', rfl, rfl⟩
  have hSF2 := sf_other (s := nx + 1) (boxU w') htn (by omega) hSF
  have hbx2 : AL.get (AL.set hpX (nx + 1) (boxU w')) (nx + 1) = some (boxU w') := by rw [AL.get_set, if_pos rfl]
  generalize AL.set hpX (nx + 1) (boxU w') = hpY at *
  obtain ⟨z, hz, hand⟩ := u_and w' (M - 1) (by omega)
  have hcz := conv159_3 z (by omega)
  obtain ⟨f0, f1, f2, f3⟩ := id hSF2
  obtain ⟨hsz, hpr⟩ := id hok'
  unfold arrT at f2
  try clear hF
  have hF := And.intro f1 (And.intro f2 (And.intro hsz (And.intro hq (And.intro hkq (And.intro hsub (And.intro hand (hcz)))))))
  (refine tsF ?_; clear hQQ QQ)
  refine twF ?_
  by_cases hzN : N ≤ z
  ·have hzz : (z : Int) - (N : Int) = ((z - N : Nat) : Int) := by omega
   try clear hF
   have hF := And.intro f1 (And.intro f2 (And.intro hsz (And.intro hq (And.intro hkq (And.intro hsub (And.intro hand (And.intro hcz (hzz))))))))
   refine tiF ?_
   refine twF ?_
   exact ⟨⟨(i + 1, w', swp d' i (a + (z - N))), by dsimp only; omega, hw', hok'.sw (by omega) (by omega), permIn_trans _ _ _ _ _ hpm (swp_permIn d' a b i (a + (z - N)) (by omega) (by omega) (by omega) (by omega) (by omega))⟩, by dsimp only; omega, ⟨sf_set2 _ _ htn hSF2, by dsimp only; omega, by simp (disch := first | decide | omega) only [hF, go_sem, ↓reduceIte]; exact hbx2⟩, by first | rfl | (simp only [hF, go_sem, ↓reduceIte]; rfl)⟩
  ·refine tiF ?_
   refine twF ?_
   exact ⟨⟨(i + 1, w', swp d' i (a + z)), by dsimp only; omega, hw', hok'.sw (by omega) (by omega), permIn_trans _ _ _ _ _ hpm (swp_permIn d' a b i (a + z) (by omega) (by omega) (by omega) (by omega) (by omega))⟩, by dsimp only; omega, ⟨sf_set2 _ _ htn hSF2, by dsimp only; omega, by simp (disch := first | decide | omega) only [hF, go_sem, ↓reduceIte]; exact hbx2⟩, by first | rfl | (simp only [hF, go_sem, ↓reduceIte]; rfl)⟩
 ·have hie : i = a + k2 + 2 := by omega
  refine twF ?_
  refine tiF ?_
  refine twF ?_
  refine ⟨.inl rfl, _, rfl, sf_end (d := d') hcl ht hSF rfl ?_⟩
  exact ⟨d', hpm, hok', rfl, rfl⟩
end
end Go.Proofs.YthedkfiebmnghaaGreat
