/- Texts of the proof, joined. -/
import Derived.Test.YthedkfiebmnghaaGreatKyb28
set_option linter.all false
set_option maxHeartbeats 16000000
set_option maxRecDepth 20000
namespace Go.Proofs.YthedkfiebmnghaaGreat
open Go Go.RowKit Go.Sh Go.Pv Go.By
open Go.Sort (swp)
attribute [go_sem] nmul_1 nmul_3
section
variable {Z : Zn} {w0 : World} {cap : Nat → Prop} {nt : Nat} {rd : Option Nat} {pan : List PanicEntry → St → Prop} {df : Option Nat} {dk : List Nat} {rg : Bool} {fr : List (Nat × AV)} {hp : List (Nat × Obj')} {nx t len : Nat} {ac : AC} {cf : Nat × Nat → Nat × Nat → Int} {pr : Nat × Nat → Prop}
theorem c_pivot (hC : CmpI ac cf pr hp nx t) (hl : len ≤ 49) (a b : Nat) (d : Array (Nat × Nat)) (ht : AL.get hp t = some (arrT d)) (hok : OkT pr len d) (hab : a + 12 < b) (hb : b ≤ len) :
  CallF ⟨Tryz.prog, Z, w0, cap, nt, rd, pan, df, dk, rg⟩ 137 [.one (.own t len), iA a, iA b, .one ac] ⟨fr, hp, nx⟩ fun st' av => ∃ p h : Nat, (a ≤ p ∧ p < b) ∧ h ≤ 1 ∧ st' = ⟨fr, hp, nx⟩ ∧ av = .tup [.one (iP (p : Int)), .one (iP (h : Int))] := by
 obtain ⟨g, caps, gn, rfl, g5, g6, g7, gC⟩ := id hC
 obtain ⟨N, hN⟩ : ∃ N, b - a = N := ⟨_, rfl⟩
 (refine callF_to (nt := 63) (rs := [.tmp 8, .tmp 9]) Tryz.func137 rfl rfl rfl (by simp) fun hcl tm Ds => ?_); simp only [initV]
 have htn := hcl.lt t _ ht
 have hlt := hcl.lt
 dsimp only [Kx.calleeT] at htn hlt ⊢
 have hNi : (b : Int) - (a : Int) = (N : Int) := by omega
 have hq : ∀ T x y, binA Tryz.prog .quo T x y (.int .i64 (N : Int)) (.int .i64 4) = some (.int .i64 ((N / 4 : Nat) : Int)) := fun T x y => bin_quo_nat (d := 4) T x y (by omega) (by decide)
 have hk : 3 ≤ N / 4 ∧ N / 4 * 3 < N := by omega
 try clear hF
 have hF := And.intro hNi (hq)
 refine twF ?_
 refine tiF ?_
 refine twF ?_
 refine tiF ?_
 refine twF fun QQ hQQ => ?_
 generalize N / 4 = k at *
 refine callS_ok rfl rfl 153 qF qF Tryz.func153 rfl (by decide) ((c_median (s := nx + 1) (w := 0) hC (fun id ob h1 h2 h3 => ?_) (Nat.le_succ _) hl (a + k) (a + k * 2) (a + k * 3) d (by omega) ?_ ?_ hok (by omega) (by omega) (by omega) (by omega)).mono ?_)
 ·have := hlt id ob h3
  simp (disch := first | decide | omega) only [hF, go_sem, ↓reduceIte]
  exact h3
 ·have : t < nx := htn
  simp (disch := first | decide | omega) only [hF, go_sem, ↓reduceIte]
  exact ht
 ·exact AL.get_eq _ _ _
 rintro _ _ ⟨m, w', hm, hw, rfl, rfl⟩
 have hfin : ∀ {hpX : List (Nat × Obj')} {Q : St → Prop} {av : AV}, refsV av = [] → AL.get hpX nx = some (.kept fr tm) → (∀ id o, id < nx → AL.get hp id = some o → AL.get hpX id = some o) → Q ⟨fr, hp, nx⟩ → AL.get hpX nx = some (.kept fr tm) ∧ ∃ T : St, T.fr = fr ∧ Closed T ∧ (∀ id o, AL.get T.hp id = some o → AL.get hpX id = some o) ∧ There (AL.get T.hp) (refsV av) ∧ Q T := fun hr h1 h2 h3 =>
  ⟨h1, ⟨fr, hp, nx⟩, rfl, hcl, fun id o ho => h2 id o (hlt id o ho) ho, fun i hi => (by rw [hr] at hi; cases hi), h3⟩
 have f1 : AL.get (AL.set ((nx + 1, Obj'.box [AC.p (PV.v (Value.int IntKind.i64 0))]) :: (nx, Obj'.kept fr tm) :: hp) (nx + 1) (boxN w')) (nx + 1) = some (.box [.p (iP (w' : Int))]) := by rw [AL.get_set, if_pos rfl]; rfl
 have f2 : AL.get (AL.set ((nx + 1, Obj'.box [AC.p (PV.v (Value.int IntKind.i64 0))]) :: (nx, Obj'.kept fr tm) :: hp) (nx + 1) (boxN w')) nx = some (.kept fr tm) := by rw [AL.get_set, if_neg (by omega), AL.get_ne _ _ (by omega), AL.get_eq]
 have f3 : ∀ id o, id < nx → AL.get hp id = some o → AL.get (AL.set ((nx + 1, Obj'.box [AC.p (PV.v (Value.int IntKind.i64 0))]) :: (nx, Obj'.kept fr tm) :: hp) (nx + 1) (boxN w')) id = some o := fun id o h1 h2 => by rw [AL.get_set, if_neg (by omega), AL.get_ne _ _ (by omega), AL.get_ne _ _ (by omega)]; exact h2
 generalize AL.set ((nx + 1, Obj'.box [AC.p (PV.v (Value.int IntKind.i64 0))]) :: (nx, Obj'.kept fr tm) :: hp) (nx + 1) (boxN w') = hpY at *
 try clear hF
 have hF := And.intro f1 (f2)
 (refine tsF ?_; clear hQQ QQ)
 refine twF ?_
 by_cases hw0 : w' = 0
 ·subst hw0
  refine tiF ?_
  refine twF ?_
  refine aw_ret ⟨.inr rfl, _, qF, hfin rfl f2 f3 ?_⟩
  exact ⟨m, 1, by omega, Nat.le_refl _, rfl, rfl⟩
 ·refine tiF ?_
  refine twF ?_
  refine tiF ?_
  refine twF ?_
  refine aw_ret ⟨.inr rfl, _, qF, hfin rfl f2 f3 ?_⟩
  exact ⟨m, 0, by omega, by decide, rfl, rfl⟩
end
open Go.Sort (swp reverseLoop reverseRange siftDown heapBuild heapPop heapSort)
section
variable {Z : Zn} {w0 : World} {cap : Nat → Prop} {nt : Nat} {rd : Option Nat} {pan : List PanicEntry → St → Prop} {df : Option Nat} {dk : List Nat} {rg : Bool} {fr : List (Nat × AV)} {hp : List (Nat × Obj')} {nx t len : Nat} {ac : AC} {cf : Nat × Nat → Nat × Nat → Int} {pr : Nat × Nat → Prop}
theorem c_heap (hC : CmpI ac cf pr hp nx t) (hl : len ≤ 100000) (a b : Nat) (d : Array (Nat × Nat)) (ht : AL.get hp t = some (arrT d)) (hok : OkT pr len d) (hab : a < b) (hb : b ≤ len) :
  CallF ⟨Tryz.prog, Z, w0, cap, nt, rd, pan, df, dk, rg⟩ 135 [.one (.own t len), iA a, iA b, .one ac] ⟨fr, hp, nx⟩ fun st' av => (st' = ⟨fr, AL.set hp t (arrT (heapSort (ltT cf) d a b)), nx⟩ ∧ av = .tup []) ∧ OkT pr len (heapSort (ltT cf) d a b) := by
 obtain ⟨g, caps, gn, rfl, g5, g6, g7, gC⟩ := id hC
 obtain ⟨N, hN⟩ : ∃ N, b - a = N := ⟨_, rfl⟩
 (refine callF_to (nt := 60) (rs := []) Tryz.func135 rfl rfl rfl (by simp) fun hcl tm Ds => ?_); simp only [initV]
 have htn := hcl.lt t _ ht
 dsimp only [Kx.calleeT] at htn ⊢
 generalize hR : heapSort (ltT cf) d a b = R
 unfold heapSort at hR
 rw [hN] at hR
 have hNi : (b : Int) - (a : Int) = (N : Int) := by omega
 have hq : ∀ T x y, binA Tryz.prog .quo T x y (.int .i64 ((N - 1 : Nat) : Int)) (.int .i64 2) = some (.int .i64 (((N - 1) / 2 : Nat) : Int)) := fun T x y => bin_quo_nat (d := 2) T x y (by omega) (by decide)
 have hN1 : (N : Int) - 1 = ((N - 1 : Nat) : Int) := by omega
 try clear hF
 have hF := And.intro hNi (And.intro hN1 (hq))
 refine twF ?_
 generalize hB : heapBuild (ltT cf) N a ((N - 1) / 2 + 1) d = B at hR
 have hM : (N - 1) / 2 + 1 ≤ N := by omega
 generalize (N - 1) / 2 = M at *
 refine aw_weak (weak_thr [0, 3, 8, 9, 10, 11] (by simp only [go_sem, ↓reduceIte]; rfl)) ?_
 refine aw_loop_hp (ι := { p : Nat × Array (Nat × Nat) // p.1 ≤ M + 1 ∧ OkT pr len p.2 ∧ heapBuild (ltT cf) N a p.1 p.2 = B }) (fun p => [(11, iA ((p.1.1 : Int) - 1))]) (fun p => SF fr tm hp nx t p.1.2) (fun p => p.1.1) ⟨(M + 1, d), by dsimp only; omega, hok, hB⟩ (by first | rfl | (simp only [go_sem, ↓reduceIte]; first | rfl | (simp; done))) (sf_start hcl ht) ?_
 rintro ⟨⟨k, d⟩, hk, hok, hs⟩ hpX nxX hSF
 refine tO ?_
 obtain ⟨f0, f1, f2, f3⟩ := id hSF
 dsimp only at hk hs f2 hSF hok
 by_cases hk0 : k = 0
 ·subst hk0
  have hs : d = B := hs
  subst hs
  refine tw ?_
  refine ti ?_
  refine tw ?_
  clear f0 f1 f2 f3 hq
  refine aw_weak (weak_thr [0, 3, 8, 9, 12] (by simp only [go_sem, ↓reduceIte]; rfl)) ?_
  refine aw_loop_hp (ι := { p : Nat × Array (Nat × Nat) // p.1 ≤ N ∧ OkT pr len p.2 ∧ heapPop (ltT cf) a p.1 p.2 = R }) (fun p => [(12, iA ((p.1.1 : Int) - 1))]) (fun p => SF fr tm hp nx t p.1.2) (fun p => p.1.1) ⟨(N, d), by dsimp only; omega, hok, hR⟩ (by rw [← hN1]; first | rfl | (simp only [go_sem, ↓reduceIte]; first | rfl | (simp; done))) hSF ?_
  clear hSF hok hR
  rintro ⟨⟨k, d⟩, hk, hok, hs⟩ hpX2 nxX2 hSF
  refine tO ?_
  obtain ⟨f0, f1, f2, f3⟩ := id hSF
  obtain ⟨hsz, hpr⟩ := id hok
  dsimp only at hk hs f2 hSF hok hsz hpr
  by_cases hk0 : k = 0
  ·subst hk0
   have hs : d = R := hs
   refine tw ?_
   refine ti ?_
   refine tw ?_
   refine ⟨.inl rfl, _, rfl, sf_end (d := R) hcl ht (by rw [← hs]; exact hSF) rfl ?_⟩
   exact ⟨⟨rfl, rfl⟩, by rw [← hs]; exact hok⟩
  ·obtain ⟨k, rfl⟩ : ∃ k', k = k' + 1 := ⟨k - 1, by omega⟩
   have hs : heapPop (ltT cf) a k (siftDown (ltT cf) k a 0 (swp d a (a + k))) = R := hs
   have ek : ((k + 1 : Nat) : Int) - 1 = (k : Int) := by omega
   rw [ek]
   have hok1 := hok.sw (i := a) (j := a + k) (by omega) (by omega)
   have f2' := f2
   unfold arrT at f2
   try clear hF
   have hF := And.intro f1 (And.intro f2 (hsz))
   refine twF ?_
   refine tiF ?_
   refine twF fun QQ hQQ => ?_
   refine callS_ok rfl rfl 149 qF qF Tryz.func149 rfl (by decide) ((c_sift (hC.sf (sf_set2 (swp d a (a + k)) _ htn hSF)) hl 0 k a (swp d a (a + k)) (AL.get_eq _ _ _) hok1 (by omega) (by omega)).mono ?_)
   rintro _ _ ⟨⟨rfl, rfl⟩, hok2⟩
   (refine tsF ?_; clear hQQ QQ)
   refine twF ?_
   exact ⟨⟨(k, siftDown (ltT cf) k a 0 (swp d a (a + k))), by dsimp only; omega, hok2, hs⟩, by dsimp only; omega, sf_set' _ htn (sf_set2 _ _ htn hSF), by first | rfl | (simp only [hF, go_sem, ↓reduceIte]; rfl)⟩
 ·obtain ⟨k, rfl⟩ : ∃ k', k = k' + 1 := ⟨k - 1, by omega⟩
  have hs : heapBuild (ltT cf) N a k (siftDown (ltT cf) N a k d) = B := hs
  have ek : ((k + 1 : Nat) : Int) - 1 = (k : Int) := by omega
  rw [ek]
  have hC2 : CmpI (.fn g caps) cf pr hpX nxX t := hC.sf hSF
  refine tw ?_
  refine ti ?_
  refine tw fun QQ hQQ => ?_
  refine callS_ok rfl rfl 149 qN qN Tryz.func149 rfl (by decide) ((c_sift hC2 hl k N a d f2 hok (by omega) (by omega)).mono ?_)
  rintro _ _ ⟨⟨rfl, rfl⟩, hok2⟩
  (refine ts ?_; clear hQQ QQ)
  refine tw ?_
  exact ⟨⟨(k, siftDown (ltT cf) N a k d), by dsimp only; omega, hok2, hs⟩, by dsimp only; omega, sf_set' _ htn hSF, by first | rfl | (simp only [go_sem, ↓reduceIte]; rfl)⟩
end
open Go.Sort (swp scanUp scanDown partLoop partition partLoop_eq)
section
variable {Z : Zn} {w0 : World} {cap : Nat → Prop} {nt : Nat} {rd : Option Nat} {pan : List PanicEntry → St → Prop} {df : Option Nat} {dk : List Nat} {rg : Bool} {fr : List (Nat × AV)} {hp : List (Nat × Obj')} {nx t len : Nat} {ac : AC} {cf : Nat × Nat → Nat × Nat → Int} {pr : Nat × Nat → Prop}
theorem c_part (hC : CmpI ac cf pr hp nx t) (hl : len ≤ 100000) (a b pv : Nat) (D : Array (Nat × Nat)) (ht : AL.get hp t = some (arrT D)) (hok : OkT pr len D) (hab : a < b) (hb : b ≤ len) (hpv : pv < len) :
  CallF ⟨Tryz.prog, Z, w0, cap, nt, rd, pan, df, dk, rg⟩ 141 [.one (.own t len), iA a, iA b, iA pv, .one ac] ⟨fr, hp, nx⟩ fun st' av => (st' = ⟨fr, AL.set hp t (arrT (partition (ltT cf) D a b pv).2.2), nx⟩ ∧ av = .tup [.one (iP ((partition (ltT cf) D a b pv).1 : Int)), .one (.v (.bool (partition (ltT cf) D a b pv).2.1))]) ∧ OkT pr len (partition (ltT cf) D a b pv).2.2 := by
 obtain ⟨g, caps, gn, rfl, g5, g6, g7, gC⟩ := id hC
 (refine callF_to (nt := 178) (rs := [.tmp 10, .tmp 11]) Tryz.func141 rfl rfl rfl (by simp) fun hcl tm Ds => ?_); simp only [initV]
 have htn := hcl.lt t _ ht
 dsimp only [Kx.calleeT] at htn ⊢
 generalize hs : partition (ltT cf) D a b pv = R
 unfold partition at hs
 dsimp only at hs
 have hSF0 := sf_start (tm := tm) hcl ht
 obtain ⟨f0, f1, f2, f3⟩ := id hSF0
 obtain ⟨hsz, hpr⟩ := id hok
 unfold arrT at f2
 try clear hF
 have hF := And.intro f1 (And.intro f2 (hsz))
 refine twF ?_
 have hok1 := hok.sw (i := a) (j := pv) (by omega) hpv
 have hSF := sf_set2 (swp D a pv) (.arr 94 2 (rowsT (putT D a (tA D pv))) false) htn hSF0
 clear hSF0 f0 f1 f2 f3 hsz hpr hok
 have hok := hok1
 clear hok1
 generalize hd1 : swp D a pv = d at *
 clear hd1
 have hij : a < a + 1 ∧ a + 1 ≤ len + 1 ∧ a ≤ b - 1 ∧ b - 1 < len := by omega
 generalize b - 1 = j at *
 generalize a + 1 = i at *
 refine aw_weak (weak_thr [0, 1, 4, 12, 13] (by simp only [go_sem, ↓reduceIte]; rfl)) ?_
 generalize hI : scanUp (fun x => ltT cf x d[a]!) d j i = I2 at hs
 refine aw_loop_hp (ι := { i : Nat // (a < i ∧ i ≤ len + 1) ∧ scanUp (fun x => ltT cf x d[a]!) d j i = I2 }) (fun p => [(12, iA p.1)]) (fun p => SF fr tm hp nx t d) (fun p => len + 2 - p.1) ⟨i, by omega, hI⟩ (by first | rfl | (simp only [go_sem, ↓reduceIte]; rfl)) hSF ?_
 have hi0 : i ≤ I2 := by rw [← hI]; exact Go.Sort.scanUp_ge _ d j i
 clear hI hSF
 rintro ⟨i', hi, hI⟩ hpX2 nxX2 hSF
 refine tO ?_
 obtain ⟨f0, f1, f2, f3⟩ := id hSF
 obtain ⟨hsz, hpr⟩ := id hok
 try dsimp only at hi hI f2 hSF
 unfold arrT at f2
 have pa := hpr a (by omega)
 try clear hF
 have hF := And.intro f1 (And.intro f2 (hsz))
 by_cases hle : i' ≤ j
 ·have pi := hpr i' (by omega)
  by_cases hc : cf (tA d i') (tA d a) < 0
  ·rw [scanUp_t hle (decide_eq_true hc)] at hI
   refine twF fun QQ hQQ => ?_
   (refine callD_F [] (.one (.p (iP (cf (tA d i') (tA d a))))) _ _ rfl rfl qF qF g5 g6 g7 (fun _ _ => rfl) (Nat.le_refl _) (fun _ h => by cases h) (fun fr' hk => gC _ _ _ _ rfl pi pa fun id ob h1 h2 h3 => f3 id ob h1 h2 h3) ?_); (refine tdF ?_; clear hQQ QQ)
   refine twF ?_
   refine tiF ?_
   refine twF ?_
   exact ⟨⟨i' + 1, by omega, hI⟩, by dsimp only; omega, hSF, by first | rfl | (simp only [hF, go_sem, ↓reduceIte]; rfl)⟩
  ·rw [scanUp_f (by rintro ⟨_, h⟩; exact hc (of_decide_eq_true h))] at hI
   subst hI
   refine twF fun QQ hQQ => ?_
   (refine callD_F [] (.one (.p (iP (cf (tA d i') (tA d a))))) _ _ rfl rfl qF qF g5 g6 g7 (fun _ _ => rfl) (Nat.le_refl _) (fun _ h => by cases h) (fun fr' hk => gC _ _ _ _ rfl pi pa fun id ob h1 h2 h3 => f3 id ob h1 h2 h3) ?_); (refine tdF ?_; clear hQQ QQ)
   refine twF ?_
   refine tiF ?_
   refine twF ?_
   refine aw_weak (weak_thr [0, 1, 4, 12, 13] (by simp only [hF, go_sem, ↓reduceIte]; rfl)) ?_
   generalize hJ : scanDown (fun x => !ltT cf x d[a]!) d i' j = J2 at hs
   refine aw_loop_hp (ι := { j' : Nat // (a ≤ j' ∧ j' ≤ j) ∧ scanDown (fun x => !ltT cf x d[a]!) d i' j' = J2 }) (fun p => [(13, iA p.1)]) (fun p => SF fr tm hp nx t d) (fun p => p.1) ⟨j, by omega, hJ⟩ (by first | rfl | (simp only [hF, go_sem, ↓reduceIte]; rfl)) hSF ?_
   have hj0 : J2 ≤ j := by rw [← hJ]; exact Go.Sort.scanDown_le _ d i' j
   clear hJ hSF f0 f1 f2 f3
   rintro ⟨j', hj, hJ⟩ hpX3 nxX3 hSF
   refine tO ?_
   obtain ⟨f0, f1, f2, f3⟩ := id hSF
   try dsimp only at hj hJ f2 hSF
   unfold arrT at f2
   try clear hF
   have hF := And.intro f1 (And.intro f2 (hsz))
   by_cases hle2 : i' ≤ j'
   ·have pj := hpr j' (by omega)
    by_cases hc2 : cf (tA d j') (tA d a) < 0
    ·rw [scanDown_f (by rintro ⟨_, h⟩; rw [show (!ltT cf (tA d j') d[a]!) = false from nb_t hc2] at h; cases h)] at hJ
     subst hJ
     rw [if_neg (by omega)] at hs
     refine twF fun QQ hQQ => ?_
     (refine callD_F [] (.one (.p (iP (cf (tA d j') (tA d a))))) _ _ rfl rfl qF qF g5 g6 g7 (fun _ _ => rfl) (Nat.le_refl _) (fun _ h => by cases h) (fun fr' hk => gC _ _ _ _ rfl pj pa fun id ob h1 h2 h3 => f3 id ob h1 h2 h3) ?_); (refine tdF ?_; clear hQQ QQ)
     refine twF ?_
     refine tiF ?_
     refine twF ?_
     refine tiF ?_
     refine twF ?_
     have hok2 := hok.sw (i := i') (j := j') (by omega) (by omega)
     have hSF2 := sf_set2 (swp d i' j') (.arr 94 2 (rowsT (putT d i' (tA d j'))) false) htn hSF
     generalize hL : partLoop (ltT cf) a (i' + 1) (j' - 1) (swp d i' j') = L at hs
     have hsR := hs
     clear hs
     refine aw_weak (weak_thr [0, 1, 4, 12, 13] (by simp only [go_sem, ↓reduceIte]; rfl)) ?_
     refine aw_loop_hp (ι := { p : Nat × Nat × Array (Nat × Nat) // (a < p.1 ∧ p.1 ≤ len + 1 ∧ a ≤ p.2.1 ∧ p.2.1 < len) ∧ OkT pr len p.2.2 ∧ partLoop (ltT cf) a p.1 p.2.1 p.2.2 = L }) (fun p => [(12, iA p.1.1), (13, iA p.1.2.1)]) (fun p => SF fr tm hp nx t p.1.2.2) (fun p => p.1.2.1 + 1 - p.1.1) ⟨(i' + 1, j' - 1, swp d i' j'), by dsimp only; omega, hok2, hL⟩ (by first | rfl | (simp only [go_sem, ↓reduceIte]; rfl)) hSF2 ?_
     clear hSF2 hSF hok2 hok f0 f1 f2 f3 hsz hpr pa pi pj hL hc hc2 hle hle2 hi hj hj0 hi0
     rintro ⟨⟨i, j, d⟩, hij, hok, hL⟩ hpX nxX hSF
     refine tO ?_
     dsimp only at hij hL hSF hok
     rw [partLoop_eq] at hL
     refine tw ?_
     refine aw_weak (weak_thr [0, 1, 4, 12, 13] (by simp only [go_sem, ↓reduceIte]; rfl)) ?_
     generalize hI : scanUp (fun x => ltT cf x d[a]!) d j i = I2 at hL
     refine aw_loop_hp (ι := { i : Nat // (a < i ∧ i ≤ len + 1) ∧ scanUp (fun x => ltT cf x d[a]!) d j i = I2 }) (fun p => [(12, iA p.1)]) (fun p => SF fr tm hp nx t d) (fun p => len + 2 - p.1) ⟨i, by omega, hI⟩ (by first | rfl | (simp only [go_sem, ↓reduceIte]; rfl)) hSF ?_
     have hi0 : i ≤ I2 := by rw [← hI]; exact Go.Sort.scanUp_ge _ d j i
     clear hI hSF
     rintro ⟨i', hi, hI⟩ hpX2 nxX2 hSF
     refine tO ?_
     obtain ⟨f0, f1, f2, f3⟩ := id hSF
     obtain ⟨hsz, hpr⟩ := id hok
     try dsimp only at hi hI f2 hSF
     unfold arrT at f2
     have pa := hpr a (by omega)
     try clear hF
     have hF := And.intro f1 (And.intro f2 (hsz))
     by_cases hle : i' ≤ j
     ·have pi := hpr i' (by omega)
      by_cases hc : cf (tA d i') (tA d a) < 0
      ·rw [scanUp_t hle (decide_eq_true hc)] at hI
       refine twF fun QQ hQQ => ?_
       (refine callD_F [] (.one (.p (iP (cf (tA d i') (tA d a))))) _ _ rfl rfl qF qF g5 g6 g7 (fun _ _ => rfl) (Nat.le_refl _) (fun _ h => by cases h) (fun fr' hk => gC _ _ _ _ rfl pi pa fun id ob h1 h2 h3 => f3 id ob h1 h2 h3) ?_); (refine tdF ?_; clear hQQ QQ)
       refine twF ?_
       refine tiF ?_
       refine twF ?_
       exact ⟨⟨i' + 1, by omega, hI⟩, by dsimp only; omega, hSF, by first | rfl | (simp only [hF, go_sem, ↓reduceIte]; rfl)⟩
      ·rw [scanUp_f (by rintro ⟨_, h⟩; exact hc (of_decide_eq_true h))] at hI
       subst hI
       refine twF fun QQ hQQ => ?_
       (refine callD_F [] (.one (.p (iP (cf (tA d i') (tA d a))))) _ _ rfl rfl qF qF g5 g6 g7 (fun _ _ => rfl) (Nat.le_refl _) (fun _ h => by cases h) (fun fr' hk => gC _ _ _ _ rfl pi pa fun id ob h1 h2 h3 => f3 id ob h1 h2 h3) ?_); (refine tdF ?_; clear hQQ QQ)
       refine twF ?_
       refine tiF ?_
       refine twF ?_
       refine aw_weak (weak_thr [0, 1, 4, 12, 13] (by simp only [hF, go_sem, ↓reduceIte]; rfl)) ?_
       generalize hJ : scanDown (fun x => !ltT cf x d[a]!) d i' j = J2 at hL
       refine aw_loop_hp (ι := { j' : Nat // (a ≤ j' ∧ j' ≤ j) ∧ scanDown (fun x => !ltT cf x d[a]!) d i' j' = J2 }) (fun p => [(13, iA p.1)]) (fun p => SF fr tm hp nx t d) (fun p => p.1) ⟨j, by omega, hJ⟩ (by first | rfl | (simp only [hF, go_sem, ↓reduceIte]; rfl)) hSF ?_
       have hj0 : J2 ≤ j := by rw [← hJ]; exact Go.Sort.scanDown_le _ d i' j
       clear hJ hSF f0 f1 f2 f3
       rintro ⟨j', hj, hJ⟩ hpX3 nxX3 hSF
       refine tO ?_
       obtain ⟨f0, f1, f2, f3⟩ := id hSF
       try dsimp only at hj hJ f2 hSF
       unfold arrT at f2
       try clear hF
       have hF := And.intro f1 (And.intro f2 (hsz))
       by_cases hle2 : i' ≤ j'
       ·have pj := hpr j' (by omega)
        by_cases hc2 : cf (tA d j') (tA d a) < 0
        ·rw [scanDown_f (by rintro ⟨_, h⟩; rw [show (!ltT cf (tA d j') d[a]!) = false from nb_t hc2] at h; cases h)] at hJ
         subst hJ
         rw [if_neg (by omega)] at hL
         refine twF fun QQ hQQ => ?_
         (refine callD_F [] (.one (.p (iP (cf (tA d j') (tA d a))))) _ _ rfl rfl qF qF g5 g6 g7 (fun _ _ => rfl) (Nat.le_refl _) (fun _ h => by cases h) (fun fr' hk => gC _ _ _ _ rfl pj pa fun id ob h1 h2 h3 => f3 id ob h1 h2 h3) ?_); (refine tdF ?_; clear hQQ QQ)
         refine twF ?_
         refine tiF ?_
         refine twF ?_
         refine tiF ?_
         refine twF ?_
         exact ⟨⟨(i' + 1, j' - 1, swp d i' j'), by dsimp only; omega, hok.sw (by omega) (by omega), hL⟩, by dsimp only; omega, sf_set2 _ _ htn hSF, by first | rfl | (simp only [hF, go_sem, ↓reduceIte]; rfl)⟩
        ·rw [scanDown_t (by omega) hle2 (by rw [show (!ltT cf (tA d j') d[a]!) = true from nb_f hc2])] at hJ
         refine twF fun QQ hQQ => ?_
         (refine callD_F [] (.one (.p (iP (cf (tA d j') (tA d a))))) _ _ rfl rfl qF qF g5 g6 g7 (fun _ _ => rfl) (Nat.le_refl _) (fun _ h => by cases h) (fun fr' hk => gC _ _ _ _ rfl pj pa fun id ob h1 h2 h3 => f3 id ob h1 h2 h3) ?_); (refine tdF ?_; clear hQQ QQ)
         refine twF ?_
         refine tiF ?_
         refine twF ?_
         exact ⟨⟨j' - 1, by omega, hJ⟩, by dsimp only; omega, hSF, by first | rfl | (simp only [hF, go_sem, ↓reduceIte]; rfl)⟩
       ·rw [scanDown_f (by omega)] at hJ
        subst hJ
        rw [if_pos (by omega)] at hL
        refine twF ?_
        refine tiF ?_
        refine twF ?_
        refine tiF ?_
        refine twF ?_
        subst hL
        subst hsR
        refine aw_ret ⟨.inr rfl, _, qF, sf_end (d := swp d j' a) hcl ht (sf_set2 _ _ htn hSF) rfl ?_⟩
        exact ⟨⟨rfl, rfl⟩, hok.sw (by omega) (by omega)⟩
     ·rw [scanUp_f (by omega)] at hI
      subst hI
      rw [scanDown_f (by omega), if_pos (by omega)] at hL
      refine twF ?_
      refine tiF ?_
      refine twF ?_
      refine aw_weak (weak_thr [0, 1, 4, 12, 13] (by simp only [hF, go_sem, ↓reduceIte]; rfl)) ?_
      refine aw_loop_hp (ι := Unit) (fun _ => []) (fun _ => SF fr tm hp nx t d) (fun _ => 0) () (by first | rfl | (simp only [hF, go_sem, ↓reduceIte]; rfl)) hSF ?_
      clear hSF f0 f1 f2 f3
      rintro ⟨⟩ hpX3 nxX3 hSF
      refine tO ?_
      obtain ⟨f0, f1, f2, f3⟩ := id hSF
      unfold arrT at f2
      try clear hF
      have hF := And.intro f1 (And.intro f2 (hsz))
      refine twF ?_
      refine tiF ?_
      refine twF ?_
      refine tiF ?_
      refine twF ?_
      subst hL
      subst hsR
      refine aw_ret ⟨.inr rfl, _, qF, sf_end (d := swp d j a) hcl ht (sf_set2 _ _ htn hSF) rfl ?_⟩
      exact ⟨⟨rfl, rfl⟩, hok.sw (by omega) (by omega)⟩
    ·rw [scanDown_t (by omega) hle2 (by rw [show (!ltT cf (tA d j') d[a]!) = true from nb_f hc2])] at hJ
     refine twF fun QQ hQQ => ?_
     (refine callD_F [] (.one (.p (iP (cf (tA d j') (tA d a))))) _ _ rfl rfl qF qF g5 g6 g7 (fun _ _ => rfl) (Nat.le_refl _) (fun _ h => by cases h) (fun fr' hk => gC _ _ _ _ rfl pj pa fun id ob h1 h2 h3 => f3 id ob h1 h2 h3) ?_); (refine tdF ?_; clear hQQ QQ)
     refine twF ?_
     refine tiF ?_
     refine twF ?_
     exact ⟨⟨j' - 1, by omega, hJ⟩, by dsimp only; omega, hSF, by first | rfl | (simp only [hF, go_sem, ↓reduceIte]; rfl)⟩
   ·rw [scanDown_f (by omega)] at hJ
    subst hJ
    rw [if_pos (by omega)] at hs
    refine twF ?_
    refine tiF ?_
    refine twF ?_
    refine tiF ?_
    refine twF ?_
    subst hs
    refine aw_ret ⟨.inr rfl, _, qF, sf_end (d := swp d j' a) hcl ht (sf_set2 _ _ htn hSF) rfl ?_⟩
    exact ⟨⟨rfl, rfl⟩, hok.sw (by omega) (by omega)⟩
 ·rw [scanUp_f (by omega)] at hI
  subst hI
  rw [scanDown_f (by omega), if_pos (by omega)] at hs
  refine twF ?_
  refine tiF ?_
  refine twF ?_
  refine aw_weak (weak_thr [0, 1, 4, 12, 13] (by simp only [hF, go_sem, ↓reduceIte]; rfl)) ?_
  refine aw_loop_hp (ι := Unit) (fun _ => []) (fun _ => SF fr tm hp nx t d) (fun _ => 0) () (by first | rfl | (simp only [hF, go_sem, ↓reduceIte]; rfl)) hSF ?_
  clear hSF f0 f1 f2 f3
  rintro ⟨⟩ hpX3 nxX3 hSF
  refine tO ?_
  obtain ⟨f0, f1, f2, f3⟩ := id hSF
  unfold arrT at f2
  try clear hF
  have hF := And.intro f1 (And.intro f2 (hsz))
  refine twF ?_
  refine tiF ?_
  refine twF ?_
  refine tiF ?_
  refine twF ?_
  subst hs
  refine aw_ret ⟨.inr rfl, _, qF, sf_end (d := swp d j a) hcl ht (sf_set2 _ _ htn hSF) rfl ?_⟩
  exact ⟨⟨rfl, rfl⟩, hok.sw (by omega) (by omega)⟩
end
end Go.Proofs.YthedkfiebmnghaaGreat
