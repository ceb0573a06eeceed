/- Kwa20: texts joined (WaX WaQ WaP). -/
import Derived.Test.YtgdhdikeicgndaaKwa19
import Derived.Test.YtgdhdikeicgndaaKwa11
set_option linter.all false
/- classer: the exported function More. -/
namespace Go.Proofs.Ytgdhdikeicgndaa
open Go Go.RowKit Go.Sh Go.Pv Go.Cl
set_option maxHeartbeats 800000
set_option maxRecDepth 20000
set_option pp.maxSteps 60000
section
variable {bales : List (Int × Int × Int)} {may drift mist : Int} {bs : List (Nat × Nat × Nat)} {May D M : Nat}
/-- Are so many fleeces more of a bale enough? -/
def enM (D M May : Nat) (bs : List (Nat × Nat × Nat)) (j x : Nat) : Bool := enB D M May (moreL bs j x) j 31
/-- How many more can be looked at. -/
def restM (bs : List (Nat × Nat × Nat)) (j : Nat) : List Nat := List.range ((bG bs j).1 - (bG bs j).2.1 + 1)
def whyM (bales : List (Int × Int × Int)) (may drift mist i : Int) : Int := if whyL bales may drift mist (inB i 0 ((bales.length : Int) - 1)) = 0 then (if (restM (nB bales) i.toNat).any (enM drift.toNat mist.toNat may.toNat (nB bales) i.toNat) = true then 0 else 4) else whyL bales may drift mist (inB i 0 ((bales.length : Int) - 1))
def moreN (bales : List (Int × Int × Int)) (may drift mist i : Int) : Nat := firstF (enM drift.toNat mist.toNat may.toNat (nB bales) i.toNat) (restM (nB bales) i.toNat)
theorem pred_more {j bo bl bb t nx0 : Nat} {hp0 : List (Nat × Obj')} (h : LOK bs) (hMay : May ≤ 30) (hD : D ≤ 30) (hM : M ≤ 6) (hj : j < bs.length) (hbo : AL.get hp0 bo = some (.box [.own t bs.length])) (hbl : AL.get hp0 bl = some (.box [.p (.sl (bs.map baleP)), .p (iP (May : Int)), .p (iP (D : Int)), .p (iP (M : Int))]))
    (hbb : AL.get hp0 bb = some (.box [.p (iP (j : Int))])) (h1 : bo < nx0 ∧ bl < nx0 ∧ bb < nx0) (h2 : bo ≠ t ∧ bl ≠ t ∧ bb ≠ t) : PredT (.fn 66 [.box bo, .box bl, .box bb]) (enM D M May bs j) (restM bs j) t bs.length (fun x => (moreL bs j x).map baleP) hp0 nx0 := by
  intro K st o f arg argTypes x Q hK hx hd ho hf ha R hR hRn hh hQ
  have hxl : (bG bs j).2.1 + x ≤ (bG bs j).1 := by
    have := List.mem_range.1 hx
    have hba := h.ba j hj
    omega
  obtain ⟨P, Z, w0, cap, nt, rd, pan, df, dk, rg⟩ := K
  dsimp only at hK
  subst hK
  obtain ⟨fr, hp, nx⟩ := st
  refine callS_of hd ho 66 (caps := [.box bo, .box bl, .box bb]) (avs := [.one (.p (iP (x : Int)))]) (by rw [hf]; rfl) (by simp [mapO, ha]) Try.func66 rfl (by decide) ((c_enough h hMay hD hM hj hxl (hh bo _ h1.1 h2.1 hbo) (hh bl _ h1.2.1 h2.2.1 hbl) (hh bb _ h1.2.2 h2.2.2 hbb) hR hRn).mono ?_)
  rintro _ _ ⟨rfl, rfl⟩
  exact hQ
theorem ok_More (i : Int) : FunOK Try.prog 26 [lineR bales may drift mist, .one (iP i)] (ansN (whyM bales may drift mist i) (moreN bales may drift mist i : Nat)) := by
  refine fun_expA (l := []) (od := _) (nt := 40) (t := 5) (eb := 2) (rs := [.tmp 4, .cell 5 29]) ans43 Try.func26 rfl rfl rfl (by simp) rfl rfl rfl ansFid_eq Try.func43 rfl (by decide) fun Z w0 => ?_; simp only [initFr, avR, List.map_cons, List.map_nil]
  simp only [lineR, List.map_cons, List.map_nil]
  refine tw ?_; try with_reducible intro QQ hQQ
  refine ⟨rfl, ?_⟩
  (refine ts ?_; try clear hQQ QQ)
  refine tw ?_; try with_reducible intro QQ hQQ
  cases hv : lineB bales may drift mist
  · have hwhy : whyM bales may drift mist i = 1 := by simp [whyM, whyL, hv]
    have hb := hwhy
    refine callS_ok rfl rfl 44 (by simp (disch := first | decide | omega) only [go_sem, ↓reduceIte]; try rfl) (by simp (disch := first | decide | omega) only [go_sem, ↓reduceIte]; try rfl) Try.func44 rfl (by decide) (CallF.mono (c_open_arg hv Try.func65 rfl (by decide) ?_ ?_) fun _ _ h => False.elim h); (intro i hi; first | exact (List.not_mem_nil hi).elim | (simp only [List.flatMap_cons, List.flatMap_nil, refsCC, List.append_nil, List.mem_singleton] at hi; subst hi; exact ⟨_, by simp (disch := first | decide | omega) only [go_sem, ↓reduceIte]; try rfl⟩))
    exact ⟨1, 0, rfl, by simp (disch := first | decide | omega) only [go_sem, ↓reduceIte]; try rfl, by simp (disch := first | decide | omega) only [go_sem, ↓reduceIte]; try rfl, by simp (disch := first | decide | omega) only [resA, res1, ansR, ansN, hwhy, hb, go_sem, ↓reduceIte]; try rfl⟩
  obtain ⟨bs, May, D, M, rfl, rfl, rfl, rfl, hL, hMay, hD, hM⟩ := line_of hv
  simp only [rows_cast]
  have hIS := fun b (hb : inB i 0 (((bs.map castB).length : Int) - 1) = b) => by
    have := s_is (D := D) (M := M) (May := May) 65 i hL (.inr (.inr rfl))
    rw [List.length_map] at hb
    rw [hb] at this
    exact this
  cases hb : inB i 0 (((bs.map castB).length : Int) - 1)
  · have hwhy : whyM (bs.map castB) May D M i = 2 := by
      unfold whyM
      rw [hb]
      simp [whyL, hv]
    have hIS := hIS _ hb
    have hb := hwhy
    refine callS_ok rfl rfl 44 (by simp (disch := first | decide | omega) only [go_sem, ↓reduceIte]; try rfl) (by simp (disch := first | decide | omega) only [go_sem, ↓reduceIte]; try rfl) Try.func44 rfl (by decide) (CallF.mono (c_open_ran hL hMay hD hM Try.func65 rfl (by decide) ?_ ?_ ?_) fun _ _ h => False.elim h); (intro i hi; first | exact (List.not_mem_nil hi).elim | (simp only [List.flatMap_cons, List.flatMap_nil, refsCC, List.append_nil, List.mem_singleton] at hi; subst hi; exact ⟨_, by simp (disch := first | decide | omega) only [go_sem, ↓reduceIte]; try rfl⟩)); (exact is_box1 (c := 1) hIS (by rfl) (by first | decide | (dsimp only; omega)))
    exact ⟨2, 0, rfl, by simp (disch := first | decide | omega) only [go_sem, ↓reduceIte]; try rfl, by simp (disch := first | decide | omega) only [go_sem, ↓reduceIte]; try rfl, by simp (disch := first | decide | omega) only [resA, res1, ansR, ansN, hwhy, hb, go_sem, ↓reduceIte]; try rfl⟩
  have hIS := hIS _ hb
  have hb0 := hb
  rw [List.length_map] at hb
  have hi : 0 ≤ i ∧ i ≤ (bs.length : Int) - 1 := by simpa [inB] using hb
  obtain ⟨j, rfl⟩ : ∃ j : Nat, i = j := ⟨i.toNat, by omega⟩
  have hj : j < bs.length := by omega
  have hev := ok_every (D := D) (M := M) (May := May) hL
  have hca := s_can (M := M) (May := May) hL hD _ (all_lt hL)
  unfold tP at hev
  cases hc : canB (bs.map castB) D M
  · have hwhy : whyM (bs.map castB) May D M j = 10 := by
      unfold whyM
      rw [hb0]
      simp [whyL, hv, hc]
    rw [canB_cast] at hc
    rw [hc] at hca
    have hb := hwhy
    clear hc hv hb0
    generalize 2 ^ bs.length - 1 = E at *
    refine callS_ok rfl rfl 44 (by simp (disch := first | decide | omega) only [go_sem, ↓reduceIte]; try rfl) (by simp (disch := first | decide | omega) only [go_sem, ↓reduceIte]; try rfl) Try.func44 rfl (by decide) (CallF.mono (c_open_ok hL hMay hD hM Try.func65 rfl (by decide) ?_ ?_) ?_); (intro i hi; first | exact (List.not_mem_nil hi).elim | (simp only [List.flatMap_cons, List.flatMap_nil, refsCC, List.append_nil, List.mem_singleton] at hi; subst hi; exact ⟨_, by simp (disch := first | decide | omega) only [go_sem, ↓reduceIte]; try rfl⟩)); (exact is_box1 (c := 1) hIS (by rfl) (by first | decide | (dsimp only; omega))); rintro _ _ ⟨rfl, rfl⟩; refine ts ?_; try clear hQQ QQ
    refine tw ?_; try with_reducible intro QQ hQQ
    ((refine cO 54 rfl rfl rfl (hev) Try.func54 rfl ?_); refine tu ?_; try clear hQQ QQ); refine tw ?_; try with_reducible intro QQ hQQ
    (refine callO_S [6, 5] (hca) rfl rfl (by simp (disch := first | decide | omega) only [go_sem, ↓reduceIte]; try rfl) (by simp (disch := first | decide | omega) only [go_sem, ↓reduceIte]; try rfl) Try.func53 rfl (by decide) (by rfl) (by repeat' (first | trivial | apply And.intro | (simp (disch := first | decide | omega) only [go_sem, ↓reduceIte]; first | done | rfl))) (by decide) (by decide) (by first | rfl | (simp (disch := first | decide | omega) only [go_sem, ↓reduceIte]; try rfl)) ?_); refine ts ?_; try clear hQQ QQ
    refine tw ?_; try with_reducible intro QQ hQQ
    (refine ⟨rfl, .inr ⟨rfl, callS_x rfl 52 ⟨by simp (disch := first | decide | omega) only [go_sem, ↓reduceIte]; try rfl, by simp (disch := first | decide | omega) only [go_sem, ↓reduceIte]; try rfl⟩ Try.func52 rfl (by decide) (x_ask 10) ?_⟩⟩)
    exact ⟨10, 0, rfl, by simp (disch := first | decide | omega) only [go_sem, ↓reduceIte]; try rfl, by simp (disch := first | decide | omega) only [go_sem, ↓reduceIte]; try rfl, by simp (disch := first | decide | omega) only [resA, res1, ansR, ansN, hwhy, hb, go_sem, ↓reduceIte]; try rfl⟩
  · have hwy : whyM (bs.map castB) May D M j = if (restM bs j).any (enM D M May bs j) = true then 0 else 4 := by
      unfold whyM
      rw [hb0, nB_cast]
      simp [whyL, hv, hc]
    rw [canB_cast] at hc
    rw [hc] at hca
    clear hc hv hb0
    generalize 2 ^ bs.length - 1 = E at *
    have hm := ok_ask 10
    have hl6 := hL.n6
    have hlm : (bs.map baleP).length = bs.length := List.length_map _
    have hba := hL.ba j hj
    have hg : (bs.map baleP)[j]? = some [iP ((bG bs j).1 : Int), iP ((bG bs j).2.1 : Int), iP ((bG bs j).2.2 : Int)] := by rw [List.getElem?_map, get_someBale hj]; rfl
    have he : ((bG bs j).1 : Int) - ((bG bs j).2.1 : Int) = (((bG bs j).1 - (bG bs j).2.1 : Nat) : Int) := by omega
    have hnm := ok_numbers (((bG bs j).1 - (bG bs j).2.1 + 1 : Nat) : Int) (by omega)
    rw [Int.toNat_natCast, show List.range ((bG bs j).1 - (bG bs j).2.1 + 1) = restM bs j from rfl] at hnm
    cases hA : (restM bs j).any (enM D M May bs j)
    · have hwhy : whyM (bs.map castB) May D M j = 4 := by rw [hwy, hA]; rfl
      have hb := hwhy
      clear hwy
      refine callS_ok rfl rfl 44 (by simp (disch := first | decide | omega) only [go_sem, ↓reduceIte]; try rfl) (by simp (disch := first | decide | omega) only [go_sem, ↓reduceIte]; try rfl) Try.func44 rfl (by decide) (CallF.mono (c_open_ok hL hMay hD hM Try.func65 rfl (by decide) ?_ ?_) ?_); (intro i hi; first | exact (List.not_mem_nil hi).elim | (simp only [List.flatMap_cons, List.flatMap_nil, refsCC, List.append_nil, List.mem_singleton] at hi; subst hi; exact ⟨_, by simp (disch := first | decide | omega) only [go_sem, ↓reduceIte]; try rfl⟩)); (exact is_box1 (c := 1) hIS (by rfl) (by first | decide | (dsimp only; omega))); rintro _ _ ⟨rfl, rfl⟩; refine ts ?_; try clear hQQ QQ
      refine tw ?_; try with_reducible intro QQ hQQ
      ((refine cO 54 rfl rfl rfl (hev) Try.func54 rfl ?_); refine tu ?_; try clear hQQ QQ); refine tw ?_; try with_reducible intro QQ hQQ
      (refine callO_S [6, 5] (hca) rfl rfl (by simp (disch := first | decide | omega) only [go_sem, ↓reduceIte]; try rfl) (by simp (disch := first | decide | omega) only [go_sem, ↓reduceIte]; try rfl) Try.func53 rfl (by decide) (by rfl) (by repeat' (first | trivial | apply And.intro | (simp (disch := first | decide | omega) only [go_sem, ↓reduceIte]; first | done | rfl))) (by decide) (by decide) (by first | rfl | (simp (disch := first | decide | omega) only [go_sem, ↓reduceIte]; try rfl)) ?_); refine ts ?_; try clear hQQ QQ
      refine tw ?_; try with_reducible intro QQ hQQ
      (refine cO 52 rfl rfl rfl (hm) Try.func52 rfl ?_); refine ts ?_; try clear hQQ QQ
      (repeat (first | apply aw_seq | apply aw_block | apply aw_skip | apply aw_label | apply aw_exit | ((first | refine aw_region (hideO fun QQ hQQ => ?_) | refine aw_draw mixed (hideD fun QQ hQQ => ?_)); simp (maxSteps := 400000) (disch := first | decide | omega) only [hlm, go_sem, ↓reduceIte]; try (first | with_reducible refine unhide hQQ ?_ | refine ⟨by kernel_rfl, unhide hQQ ?_⟩); clear hQQ QQ) | with_reducible first | apply then_n | apply block_n | apply then_x | apply then_r | apply nog_n | apply nog_r | apply block_r | apply block_e (by decide) | apply block_x (by decide)))
      refine ⟨rfl, .inr ⟨rfl, callS_makeSlice (n := bs.length) (E := 44) (k := 3) (by_ := 24) (zr := [iP 0, iP 0, iP 0]) rfl rfl (by simp (disch := first | decide | omega) only [go_sem, ↓reduceIte]) (by simp (disch := first | decide | omega) only [go_sem, ↓reduceIte]) (by simp (disch := first | decide | omega) only [go_sem, ↓reduceIte]) (by simp (disch := first | decide | omega) only [go_sem, ↓reduceIte]; try rfl) rfl (by simp (disch := first | decide | omega) only [go_sem, ↓reduceIte]; try rfl) (by simp (disch := first | decide | omega) only [go_sem, ↓reduceIte]; try rfl) (by omega) (by omega) (by unfold maxLen; omega) ?_⟩⟩
      (refine ts ?_; try clear hQQ QQ)
      (repeat (first | apply aw_seq | apply aw_block | apply aw_skip | apply aw_label | apply aw_exit | ((first | refine aw_region (hideO fun QQ hQQ => ?_) | refine aw_draw mixed (hideD fun QQ hQQ => ?_)); simp (maxSteps := 400000) (disch := first | decide | omega) only [hg, he, go_sem, ↓reduceIte]; try (first | with_reducible refine unhide hQQ ?_ | refine ⟨by kernel_rfl, unhide hQQ ?_⟩); clear hQQ QQ) | with_reducible first | apply then_n | apply block_n | apply then_x | apply then_r | apply nog_n | apply nog_r | apply block_r | apply block_e (by decide) | apply block_x (by decide)))
      ((refine callD_ok rfl rfl 60 false rfl (by simp (disch := first | decide | omega) only [hg, he, go_sem, ↓reduceIte]; try rfl) (fun h => by cases h) (hnm) Try.func60 rfl (by decide) ?_); simp (maxSteps := 400000) (disch := first | decide | omega) only [hg, he, go_sem, ↓reduceIte]; try (refine ⟨by kernel_rfl, unhide hQQ ?_⟩; clear hQQ QQ)); (repeat (first | apply aw_seq | apply aw_block | apply aw_skip | apply aw_label | apply aw_exit | ((first | refine aw_region (hideO fun QQ hQQ => ?_) | refine aw_draw mixed (hideD fun QQ hQQ => ?_)); simp (maxSteps := 400000) (disch := first | decide | omega) only [hg, he, go_sem, ↓reduceIte]; try (first | with_reducible refine unhide hQQ ?_ | refine ⟨by kernel_rfl, unhide hQQ ?_⟩); clear hQQ QQ) | with_reducible first | apply then_n | apply block_n | apply then_x | apply then_r | apply nog_n | apply nog_r | apply block_r | apply block_e (by decide) | apply block_x (by decide)))
      refine callD_FX rfl rfl (by simp (disch := first | decide | omega) only [go_sem, ↓reduceIte]; try rfl) (by simp (disch := first | decide | omega) only [go_sem, ↓reduceIte]; try rfl) Try.func59 rfl (by decide) ?_ ?_
      rotate_left
      · (repeat (first | refine evDead_skip (by rfl) ?_ | (refine evDead_step (by rfl) (by simp (maxSteps := 400000) (disch := first | decide | omega) only [go_sem, ↓reduceIte]; try rfl) (by simp (maxSteps := 400000) (disch := first | decide | omega) only [go_sem, ↓reduceIte]; try rfl) ?_; simp (maxSteps := 400000) (disch := first | decide | omega) only [go_sem, ↓reduceIte]))); (try (show okDraw _ _ = true)); kernel_rfl
      intro fr hk
      refine cx_firstT (n := bs.length) (l := restM bs j) (p := enM D M May bs j) (t := 7) (RF := fun x => (moreL bs j x).map baleP) (hl := by unfold restM; rw [List.length_range]; omega) (ht := by rfl) (hR0 := by simp) (hRF := fun x => by rw [List.length_map]; exact moreL_len) (hp1 := pred_more hL hMay hD hM hj (by rfl) (by rfl) (by rfl) (by dsimp only; decide) (by decide)) (h := hA) (hpan := fun R => ?_)
      (have k5 := hk 5 (by rfl); have k4 := hk 4 (by rfl); have k5 := hk 5 (by rfl); simp (disch := first | decide | omega) only [go_sem, ↓reduceIte] at k5 k4 k5; exact ⟨4, 0, rfl, k5, by simp (disch := first | decide | omega) only [go_sem, ↓reduceIte]; try rfl, by simp (disch := first | decide | omega) only [k4, k5, hwhy, hb, resA, res1, ansR, ansN, go_sem, ↓reduceIte]; try rfl⟩)
    · have hwhy : whyM (bs.map castB) May D M j = 0 := by rw [hwy, hA]; rfl
      have hb := hwhy
      clear hwy
      refine callS_ok rfl rfl 44 (by simp (disch := first | decide | omega) only [go_sem, ↓reduceIte]; try rfl) (by simp (disch := first | decide | omega) only [go_sem, ↓reduceIte]; try rfl) Try.func44 rfl (by decide) (CallF.mono (c_open_ok hL hMay hD hM Try.func65 rfl (by decide) ?_ ?_) ?_); (intro i hi; first | exact (List.not_mem_nil hi).elim | (simp only [List.flatMap_cons, List.flatMap_nil, refsCC, List.append_nil, List.mem_singleton] at hi; subst hi; exact ⟨_, by simp (disch := first | decide | omega) only [go_sem, ↓reduceIte]; try rfl⟩)); (exact is_box1 (c := 1) hIS (by rfl) (by first | decide | (dsimp only; omega))); rintro _ _ ⟨rfl, rfl⟩; refine ts ?_; try clear hQQ QQ
      refine tw ?_; try with_reducible intro QQ hQQ
      ((refine cO 54 rfl rfl rfl (hev) Try.func54 rfl ?_); refine tu ?_; try clear hQQ QQ); refine tw ?_; try with_reducible intro QQ hQQ
      (refine callO_S [6, 5] (hca) rfl rfl (by simp (disch := first | decide | omega) only [go_sem, ↓reduceIte]; try rfl) (by simp (disch := first | decide | omega) only [go_sem, ↓reduceIte]; try rfl) Try.func53 rfl (by decide) (by rfl) (by repeat' (first | trivial | apply And.intro | (simp (disch := first | decide | omega) only [go_sem, ↓reduceIte]; first | done | rfl))) (by decide) (by decide) (by first | rfl | (simp (disch := first | decide | omega) only [go_sem, ↓reduceIte]; try rfl)) ?_); refine ts ?_; try clear hQQ QQ
      refine tw ?_; try with_reducible intro QQ hQQ
      (refine cO 52 rfl rfl rfl (hm) Try.func52 rfl ?_); refine ts ?_; try clear hQQ QQ
      (repeat (first | apply aw_seq | apply aw_block | apply aw_skip | apply aw_label | apply aw_exit | ((first | refine aw_region (hideO fun QQ hQQ => ?_) | refine aw_draw mixed (hideD fun QQ hQQ => ?_)); simp (maxSteps := 400000) (disch := first | decide | omega) only [hlm, go_sem, ↓reduceIte]; try (first | with_reducible refine unhide hQQ ?_ | refine ⟨by kernel_rfl, unhide hQQ ?_⟩); clear hQQ QQ) | with_reducible first | apply then_n | apply block_n | apply then_x | apply then_r | apply nog_n | apply nog_r | apply block_r | apply block_e (by decide) | apply block_x (by decide)))
      refine ⟨rfl, .inr ⟨rfl, callS_makeSlice (n := bs.length) (E := 44) (k := 3) (by_ := 24) (zr := [iP 0, iP 0, iP 0]) rfl rfl (by simp (disch := first | decide | omega) only [go_sem, ↓reduceIte]) (by simp (disch := first | decide | omega) only [go_sem, ↓reduceIte]) (by simp (disch := first | decide | omega) only [go_sem, ↓reduceIte]) (by simp (disch := first | decide | omega) only [go_sem, ↓reduceIte]; try rfl) rfl (by simp (disch := first | decide | omega) only [go_sem, ↓reduceIte]; try rfl) (by simp (disch := first | decide | omega) only [go_sem, ↓reduceIte]; try rfl) (by omega) (by omega) (by unfold maxLen; omega) ?_⟩⟩
      (refine ts ?_; try clear hQQ QQ)
      (repeat (first | apply aw_seq | apply aw_block | apply aw_skip | apply aw_label | apply aw_exit | ((first | refine aw_region (hideO fun QQ hQQ => ?_) | refine aw_draw mixed (hideD fun QQ hQQ => ?_)); simp (maxSteps := 400000) (disch := first | decide | omega) only [hg, he, go_sem, ↓reduceIte]; try (first | with_reducible refine unhide hQQ ?_ | refine ⟨by kernel_rfl, unhide hQQ ?_⟩); clear hQQ QQ) | with_reducible first | apply then_n | apply block_n | apply then_x | apply then_r | apply nog_n | apply nog_r | apply block_r | apply block_e (by decide) | apply block_x (by decide)))
      (refine callD_ok rfl rfl 60 false rfl (by simp (disch := first | decide | omega) only [hg, he, go_sem, ↓reduceIte]; try rfl) (fun h => by cases h) (hnm) Try.func60 rfl (by decide) ?_); simp (maxSteps := 400000) (disch := first | decide | omega) only [hg, he, go_sem, ↓reduceIte]; (try (refine ⟨by kernel_rfl, unhide hQQ ?_⟩; clear hQQ QQ; (repeat with_reducible first | apply then_n | apply block_n | apply then_x | apply then_r | apply nog_n | apply nog_r | apply block_r | apply block_e (by decide) | apply block_x (by decide))))
      obtain ⟨x, hans⟩ : ∃ x, firstF (enM D M May bs j) (restM bs j) = x := ⟨_, rfl⟩
      have hans' : moreN (bs.map castB) May D M j = x := by unfold moreN; rw [nB_cast]; exact hans
      (repeat (first | apply aw_seq | apply aw_block | apply aw_skip | apply aw_label | apply aw_exit | ((first | refine aw_region (hideO fun QQ hQQ => ?_) | refine aw_draw mixed (hideD fun QQ hQQ => ?_)); simp (maxSteps := 400000) (disch := first | decide | omega) only [hg, he, go_sem, ↓reduceIte]; try (first | with_reducible refine unhide hQQ ?_ | refine ⟨by kernel_rfl, unhide hQQ ?_⟩); clear hQQ QQ) | with_reducible first | apply then_n | apply block_n | apply then_x | apply then_r | apply nog_n | apply nog_r | apply block_r | apply block_e (by decide) | apply block_x (by decide)))
      refine callD_F [7] ?_ ?_ 9 rfl rfl (by simp (disch := first | decide | omega) only [go_sem, ↓reduceIte]; try rfl) (by simp (disch := first | decide | omega) only [go_sem, ↓reduceIte]; try rfl) Try.func59 rfl (by decide) ?_ (by dsimp only; omega) (by decide) ?_ ?_; rotate_left 3; (intro fr hk; exact (by refine c_firstT (n := bs.length) (l := restM bs j) (p := enM D M May bs j) (t := 7) (RF := fun x => (moreL bs j x).map baleP) (ac := .fn 66 [.box 8, .box 0, .box 1]) (R0 := List.replicate bs.length [iP 0, iP 0, iP 0]) (fun x => (List.length_map _).trans moreL_len) ?_ (by simp) (by unfold restM; rw [List.length_range]; omega) (pred_more hL hMay hD hM hj ?_ ?_ ?_ ?_ (by decide)) hA; rfl; rfl; rfl; rfl; dsimp only; decide)); rotate_left; (intro id hid; simp only [List.mem_cons, List.mem_nil_iff, or_false, not_or] at hid; simp (disch := first | decide | omega) only [go_sem, ↓reduceIte]); refine td ?_; try clear hQQ QQ
      rw [hans]
      have hans := hans'
      refine tw ?_; try with_reducible intro QQ hQQ
      (refine aw_ret ⟨.inr rfl, by simp (disch := first | decide | omega) only [go_sem, ↓reduceIte]; try rfl, by simp (disch := first | decide | omega) only [resA, res1, ansR, ansN, hb, hwhy, hans, go_sem, ↓reduceIte]; try rfl⟩)
end
end Go.Proofs.Ytgdhdikeicgndaa
/- classer: the exported function Line. -/
namespace Go.Proofs.Ytgdhdikeicgndaa
open Go Go.RowKit Go.Sh Go.Pv Go.Cl
set_option maxHeartbeats 1600000
set_option maxRecDepth 20000
set_option pp.maxSteps 60000
section
variable {bales : List (Int × Int × Int)} {may drift mist : Int} {bs : List (Nat × Nat × Nat)} {May D M : Nat}
theorem ok_Line : FunOK Try.prog 20 [lineR bales may drift mist] (ansN (whyL bales may drift mist true) ((lineS drift.toNat mist.toNat may.toNat (nB bales) : Nat))) := by
  refine fun_expA (l := []) (od := _) (nt := 29) (t := 3) (eb := 1) (rs := [.tmp 2, .cell 3 29]) ans43 Try.func20 rfl rfl rfl (by simp) rfl rfl rfl ansFid_eq Try.func43 rfl (by decide) fun Z w0 => ?_; simp only [initFr, avR, List.map_cons, List.map_nil]
  simp only [lineR, List.map_cons, List.map_nil]
  refine tw ?_; try with_reducible intro QQ hQQ
  refine ⟨rfl, ?_⟩
  (refine ts ?_; try clear hQQ QQ)
  refine tw ?_; try with_reducible intro QQ hQQ
  cases hv : lineB bales may drift mist
  · have hwhy : whyL bales may drift mist true = 1 := by simp [whyL, hv]
    have hb := hwhy
    refine callS_ok rfl rfl 44 (by simp (disch := first | decide | omega) only [go_sem, ↓reduceIte]; try rfl) (by simp (disch := first | decide | omega) only [go_sem, ↓reduceIte]; try rfl) Try.func44 rfl (by decide) (CallF.mono (c_open_arg hv Try.func51 rfl (by decide) ?_ ?_) fun _ _ h => False.elim h); (intro i hi; first | exact (List.not_mem_nil hi).elim | (simp only [List.flatMap_cons, List.flatMap_nil, refsCC, List.append_nil, List.mem_singleton] at hi; subst hi; exact ⟨_, by simp (disch := first | decide | omega) only [go_sem, ↓reduceIte]; try rfl⟩))
    exact ⟨1, 0, rfl, by simp (disch := first | decide | omega) only [go_sem, ↓reduceIte]; try rfl, by simp (disch := first | decide | omega) only [go_sem, ↓reduceIte]; try rfl, by simp (disch := first | decide | omega) only [resA, res1, ansR, ansN, hwhy, hb, go_sem, ↓reduceIte]; try rfl⟩
  obtain ⟨bs, May, D, M, rfl, rfl, rfl, rfl, hL, hMay, hD, hM⟩ := line_of hv
  simp only [rows_cast]
  have hl1 := hL.n1
  have hl6 := hL.n6
  have hb : nB (bs.map castB) = bs := nB_cast
  cases hc : canB (bs.map castB) D M
  · have hwhy : whyL (bs.map castB) May D M true = 10 := by simp [whyL, hv, hc]
    rw [canB_cast] at hc
    have hsx := fun i => sx_wrong (May := May) hL hD i (of_decide_eq_false hc)
    clear hc hv
    refine callS_ok rfl rfl 44 (by simp (disch := first | decide | omega) only [go_sem, ↓reduceIte]; try rfl) (by simp (disch := first | decide | omega) only [go_sem, ↓reduceIte]; try rfl) Try.func44 rfl (by decide) (CallF.mono (c_open_ok hL hMay hD hM Try.func51 rfl (by decide) ?_ ?_) ?_); (intro i hi; first | exact (List.not_mem_nil hi).elim | (simp only [List.flatMap_cons, List.flatMap_nil, refsCC, List.append_nil, List.mem_singleton] at hi; subst hi; exact ⟨_, by simp (disch := first | decide | omega) only [go_sem, ↓reduceIte]; try rfl⟩)); (exact is_box0 s_always); rintro _ _ ⟨rfl, rfl⟩; refine ts ?_; try clear hQQ QQ
    refine tw ?_; try with_reducible intro QQ hQQ
    refine aw_weak (weak_restrict [2, 3, 4, 5, 11, 12] [1, 4, 5] 6 (by simp only [go_sem, ↓reduceIte]; rfl)) ?_
    have hsx0 := hsx 0
    refine aw_loop_ov (ι := { i : Nat // i = 0 }) (fun i => [(12, iA i.1)]) (fun _ => []) (fun i => 1 - i.1) ⟨0, rfl⟩ (by first | rfl | (simp only [go_sem, ↓reduceIte]; first | done | rfl | (simp; try rfl))) ?_
    rintro ⟨i, hi⟩
    subst hi
    simp (disch := decide) only [ov, ovL, AL.get_nil, AL.get_eq, AL.get_ne, Option.getD_some, Option.getD_none]
    refine tw ?_; try with_reducible intro QQ hQQ
    refine ti ?_; try clear hQQ QQ
    refine tw ?_; try with_reducible intro QQ hQQ
    refine callO_SX [5, 4] (hsx0) rfl rfl (by simp (disch := first | decide | omega) only [go_sem, ↓reduceIte]; try rfl) (by simp (disch := first | decide | omega) only [go_sem, ↓reduceIte]; try rfl) Try.func47 rfl (by decide) (by rfl) (by repeat' (first | trivial | apply And.intro | (simp (disch := first | decide | omega) only [go_sem, ↓reduceIte]; first | done | rfl))) (by decide) (by decide) (by first | rfl | (simp (disch := first | decide | omega) only [go_sem, ↓reduceIte]; try rfl)) ?_
    exact ⟨10, 0, rfl, by simp (disch := first | decide | omega) only [go_sem, ↓reduceIte]; try rfl, by simp (disch := first | decide | omega) only [go_sem, ↓reduceIte]; try rfl, by simp (disch := first | decide | omega) only [resA, res1, ansR, ansN, hwhy, hb, go_sem, ↓reduceIte]; try rfl⟩
  · have hwhy : whyL (bs.map castB) May D M true = 0 := by simp [whyL, hv, hc]
    rw [canB_cast] at hc
    have hw := fun k hk => s_wrong (May := May) hL hD hM k hk (of_decide_eq_true hc)
    have hk := s_keeps (M := M) (D := D) (May := May) hL hD hMay
    have ht := fun k => ok_told (D := D) (M := M) (May := May) (bs := bs) (wrongS D M bs k)
    have hws : ∀ i, worstS D M May bs (i + 1) = min (worstS D M May bs i) (toldS May (wrongS D M bs i)) := fun i => rfl
    have hw0 : worstS D M May bs 0 = 2 := rfl
    have hle := worst_le (D := D) (M := M) (May := May) (bs := bs)
    have htl := fun i => told_le (May := May) (wrongS D M bs i)
    have hls : lineS D M May bs = if worstS D M May bs bs.length = 2 then 2 else if keepB D M May bs = true then 1 else 0 := rfl
    clear hc hv
    unfold tP at ht
    generalize hSS : wrongS D M bs = SS at *
    generalize worstS D M May bs = WW at *
    generalize keepB D M May bs = KK at *
    obtain ⟨ans, hans⟩ : ∃ q, lineS D M May bs = q := ⟨_, rfl⟩
    rw [hans] at hls
    clear hSS
    refine callS_ok rfl rfl 44 (by simp (disch := first | decide | omega) only [go_sem, ↓reduceIte]; try rfl) (by simp (disch := first | decide | omega) only [go_sem, ↓reduceIte]; try rfl) Try.func44 rfl (by decide) (CallF.mono (c_open_ok hL hMay hD hM Try.func51 rfl (by decide) ?_ ?_) ?_); (intro i hi; first | exact (List.not_mem_nil hi).elim | (simp only [List.flatMap_cons, List.flatMap_nil, refsCC, List.append_nil, List.mem_singleton] at hi; subst hi; exact ⟨_, by simp (disch := first | decide | omega) only [go_sem, ↓reduceIte]; try rfl⟩)); (exact is_box0 s_always); rintro _ _ ⟨rfl, rfl⟩; refine ts ?_; try clear hQQ QQ
    refine tw ?_; try with_reducible intro QQ hQQ
    refine aw_weak (weak_restrict [2, 3, 4, 5, 11, 12] [1, 4, 5] 6 (by simp only [go_sem, ↓reduceIte]; rfl)) ?_
    have hw0c : ((WW 0 : Nat) : Int) = 2 := by rw [hw0]; rfl
    refine aw_loop_ov (ι := { i : Nat // i ≤ bs.length }) (fun i => [(12, iA i.1), (5, iA (WW i.1 : Nat))]) (fun i => []) (fun i => bs.length - i.1) ⟨0, by omega⟩ (by first | rfl | (simp only [hw0c, go_sem, ↓reduceIte]; first | done | rfl | (simp; try rfl))) ?_
    rintro ⟨i, hi⟩
    simp (disch := decide) only [ov, ovL, AL.get_nil, AL.get_eq, AL.get_ne, Option.getD_some, Option.getD_none]
    by_cases hil : i < bs.length
    · have hwi := hw i hil
      have hti := ht i
      have htli := htl i
      have hwsi := hws i
      have hlei := hle i
      generalize toldS May (SS i) = T at *
      have hmin : (if (T : Int) < (WW i : Nat) then (T : Int) else (WW i : Nat)) = ((WW (i + 1) : Nat) : Int) := by rw [hwsi]; split <;> omega
      (repeat (first | apply aw_seq | apply aw_block | apply aw_skip | apply aw_label | apply aw_exit | ((first | refine aw_region (hideO fun QQ hQQ => ?_) | refine aw_draw mixed (hideD fun QQ hQQ => ?_)); simp (maxSteps := 400000) (disch := first | decide | omega) only [hmin, go_sem, ↓reduceIte]; try (first | with_reducible refine unhide hQQ ?_ | refine ⟨by kernel_rfl, unhide hQQ ?_⟩); clear hQQ QQ) | with_reducible first | apply then_n | apply block_n | apply then_x | apply then_r | apply nog_n | apply nog_r | apply block_r | apply block_e (by decide) | apply block_x (by decide)))
      refine aw_cond2 (by simp (disch := first | decide | omega) only [hmin, go_sem, ↓reduceIte]; rfl) ?_; first | refine .inl ⟨by first | rfl | exact decide_eq_true (by omega) | exact decide_eq_true (by assumption) | (simp (disch := first | decide | omega) only [if_pos_d, if_neg_d, decide_eq_true_eq, Bool.not_eq_true', decide_eq_false_iff_not]; omega), ?_⟩ | refine .inr ⟨by first | rfl | exact decide_eq_false (by omega) | exact decide_eq_false (by assumption) | (simp (disch := first | decide | omega) only [if_pos_d, if_neg_d, decide_eq_true_eq, Bool.not_eq_true', decide_eq_false_iff_not]; omega), ?_⟩
      (repeat (first | apply aw_seq | apply aw_block | apply aw_skip | apply aw_label | apply aw_exit | ((first | refine aw_region (hideO fun QQ hQQ => ?_) | refine aw_draw mixed (hideD fun QQ hQQ => ?_)); simp (maxSteps := 400000) (disch := first | decide | omega) only [hmin, go_sem, ↓reduceIte]; try (first | with_reducible refine unhide hQQ ?_ | refine ⟨by kernel_rfl, unhide hQQ ?_⟩); clear hQQ QQ) | with_reducible first | apply then_n | apply block_n | apply then_x | apply then_r | apply nog_n | apply nog_r | apply block_r | apply block_e (by decide) | apply block_x (by decide)))
      (refine callO_S [5, 4] (hwi) rfl rfl (by simp (disch := first | decide | omega) only [hmin, go_sem, ↓reduceIte]; try rfl) (by simp (disch := first | decide | omega) only [hmin, go_sem, ↓reduceIte]; try rfl) Try.func47 rfl (by decide) (by rfl) (by repeat' (first | trivial | apply And.intro | (simp (disch := first | decide | omega) only [hmin, go_sem, ↓reduceIte]; first | done | rfl))) (by decide) (by decide) (by first | rfl | (simp (disch := first | decide | omega) only [hmin, go_sem, ↓reduceIte]; try rfl)) ?_); simp (maxSteps := 400000) (disch := first | decide | omega) only [hmin, go_sem, ↓reduceIte]; (try (with_reducible refine unhide hQQ ?_; clear hQQ QQ; (repeat with_reducible first | apply then_n | apply block_n | apply then_x | apply then_r | apply nog_n | apply nog_r | apply block_r | apply block_e (by decide) | apply block_x (by decide))))
      (repeat (first | apply aw_seq | apply aw_block | apply aw_skip | apply aw_label | apply aw_exit | ((first | refine aw_region (hideO fun QQ hQQ => ?_) | refine aw_draw mixed (hideD fun QQ hQQ => ?_)); simp (maxSteps := 400000) (disch := first | decide | omega) only [hmin, go_sem, ↓reduceIte]; try (first | with_reducible refine unhide hQQ ?_ | refine ⟨by kernel_rfl, unhide hQQ ?_⟩); clear hQQ QQ) | with_reducible first | apply then_n | apply block_n | apply then_x | apply then_r | apply nog_n | apply nog_r | apply block_r | apply block_e (by decide) | apply block_x (by decide)))
      ((refine callO_ok rfl rfl 57 true rfl (by simp (disch := first | decide | omega) only [hmin, go_sem, ↓reduceIte]; try rfl) (fun _ => rfl) (hti) Try.func57 rfl (by decide) ?_); simp (maxSteps := 400000) (disch := first | decide | omega) only [hmin, go_sem, ↓reduceIte]; try (with_reducible refine unhide hQQ ?_; clear hQQ QQ)); (repeat (first | apply aw_seq | apply aw_block | apply aw_skip | apply aw_label | apply aw_exit | ((first | refine aw_region (hideO fun QQ hQQ => ?_) | refine aw_draw mixed (hideD fun QQ hQQ => ?_)); simp (maxSteps := 400000) (disch := first | decide | omega) only [hmin, go_sem, ↓reduceIte]; try (first | with_reducible refine unhide hQQ ?_ | refine ⟨by kernel_rfl, unhide hQQ ?_⟩); clear hQQ QQ) | with_reducible first | apply then_n | apply block_n | apply then_x | apply then_r | apply nog_n | apply nog_r | apply block_r | apply block_e (by decide) | apply block_x (by decide)))
      (refine ⟨⟨i + 1, by omega⟩, ?_, weak_round (by simp only [hmin, go_sem, ↓reduceIte]; first | done | rfl) (by first | rfl | (simp only [hmin, go_sem, ↓reduceIte]))⟩; (simp only; omega))
    · have : i = bs.length := by omega
      subst this
      have hlei := hle bs.length
      clear hw ht htl hws hle
      generalize WW bs.length = V at *
      by_cases h2 : V = 2
      · rw [if_pos h2] at hls
        subst hls
        refine tw ?_; try with_reducible intro QQ hQQ
        refine ti ?_; try clear hQQ QQ
        refine tw ?_; try with_reducible intro QQ hQQ
        refine ti ?_; try clear hQQ QQ
        refine tw ?_; try with_reducible intro QQ hQQ
        (refine aw_ret ⟨.inr rfl, by simp (disch := first | decide | omega) only [go_sem, ↓reduceIte]; try rfl, by simp (disch := first | decide | omega) only [resA, res1, ansR, ansN, hb, hwhy, hans, go_sem, ↓reduceIte]; try rfl⟩)
      · rw [if_neg h2] at hls
        cases KK
        · rw [if_neg (by decide)] at hls
          subst hls
          refine tw ?_; try with_reducible intro QQ hQQ
          refine ti ?_; try clear hQQ QQ
          refine tw ?_; try with_reducible intro QQ hQQ
          refine ti ?_; try clear hQQ QQ
          refine tw ?_; try with_reducible intro QQ hQQ
          (refine callO_S [5, 4] (hk) rfl rfl (by simp (disch := first | decide | omega) only [go_sem, ↓reduceIte]; try rfl) (by simp (disch := first | decide | omega) only [go_sem, ↓reduceIte]; try rfl) Try.func58 rfl (by decide) (by rfl) (by repeat' (first | trivial | apply And.intro | (simp (disch := first | decide | omega) only [go_sem, ↓reduceIte]; first | done | rfl))) (by decide) (by decide) (by first | rfl | (simp (disch := first | decide | omega) only [go_sem, ↓reduceIte]; try rfl)) ?_); refine ts ?_; try clear hQQ QQ
          refine tw ?_; try with_reducible intro QQ hQQ
          refine ti ?_; try clear hQQ QQ
          refine tw ?_; try with_reducible intro QQ hQQ
          (refine aw_ret ⟨.inr rfl, by simp (disch := first | decide | omega) only [go_sem, ↓reduceIte]; try rfl, by simp (disch := first | decide | omega) only [resA, res1, ansR, ansN, hb, hwhy, hans, go_sem, ↓reduceIte]; try rfl⟩)
        · rw [if_pos rfl] at hls
          subst hls
          refine tw ?_; try with_reducible intro QQ hQQ
          refine ti ?_; try clear hQQ QQ
          refine tw ?_; try with_reducible intro QQ hQQ
          refine ti ?_; try clear hQQ QQ
          refine tw ?_; try with_reducible intro QQ hQQ
          (refine callO_S [5, 4] (hk) rfl rfl (by simp (disch := first | decide | omega) only [go_sem, ↓reduceIte]; try rfl) (by simp (disch := first | decide | omega) only [go_sem, ↓reduceIte]; try rfl) Try.func58 rfl (by decide) (by rfl) (by repeat' (first | trivial | apply And.intro | (simp (disch := first | decide | omega) only [go_sem, ↓reduceIte]; first | done | rfl))) (by decide) (by decide) (by first | rfl | (simp (disch := first | decide | omega) only [go_sem, ↓reduceIte]; try rfl)) ?_); refine ts ?_; try clear hQQ QQ
          refine tw ?_; try with_reducible intro QQ hQQ
          refine ti ?_; try clear hQQ QQ
          refine tw ?_; try with_reducible intro QQ hQQ
          (refine aw_ret ⟨.inr rfl, by simp (disch := first | decide | omega) only [go_sem, ↓reduceIte]; try rfl, by simp (disch := first | decide | omega) only [resA, res1, ansR, ansN, hb, hwhy, hans, go_sem, ↓reduceIte]; try rfl⟩)
end
end Go.Proofs.Ytgdhdikeicgndaa
/- classer: the exported functions All, Line, Mistaken. -/
namespace Go.Proofs.Ytgdhdikeicgndaa
open Go Go.RowKit Go.Sh Go.Pv Go.Cl
set_option maxHeartbeats 800000
set_option maxRecDepth 20000
set_option pp.maxSteps 60000
section
variable {bales : List (Int × Int × Int)} {may drift mist : Int} {bs : List (Nat × Nat × Nat)} {May D M : Nat}
theorem ok_All : FunOK Try.prog 16 [lineR bales may drift mist] (ansR (whyL bales may drift mist true) (allS drift.toNat mist.toNat (nB bales))) := by
  refine fun_expA (l := []) (od := _) (nt := 14) (t := 3) (eb := 2) (rs := [.cell 2 28, .cell 3 29]) ans43 Try.func16 rfl rfl rfl (by simp) rfl rfl rfl ansFid_eq Try.func43 rfl (by decide) fun Z w0 => ?_; simp only [initFr, avR, List.map_cons, List.map_nil]
  simp only [lineR, List.map_cons, List.map_nil]
  refine tw ?_; try with_reducible intro QQ hQQ
  refine ⟨rfl, ?_⟩
  (refine ts ?_; try clear hQQ QQ)
  refine tw ?_; try with_reducible intro QQ hQQ
  cases hv : lineB bales may drift mist
  · have hwhy : whyL bales may drift mist true = 1 := by simp [whyL, hv]
    have hb := hwhy
    refine callS_ok rfl rfl 44 (by simp (disch := first | decide | omega) only [go_sem, ↓reduceIte]; try rfl) (by simp (disch := first | decide | omega) only [go_sem, ↓reduceIte]; try rfl) Try.func44 rfl (by decide) (CallF.mono (c_open_arg hv Try.func51 rfl (by decide) ?_ ?_) fun _ _ h => False.elim h); (intro i hi; first | exact (List.not_mem_nil hi).elim | (simp only [List.flatMap_cons, List.flatMap_nil, refsCC, List.append_nil, List.mem_singleton] at hi; subst hi; exact ⟨_, by simp (disch := first | decide | omega) only [go_sem, ↓reduceIte]; try rfl⟩))
    exact ⟨1, 0, rfl, by simp (disch := first | decide | omega) only [go_sem, ↓reduceIte]; try rfl, by simp (disch := first | decide | omega) only [go_sem, ↓reduceIte]; try rfl, by simp (disch := first | decide | omega) only [resA, res1, ansR, ansN, hwhy, hb, go_sem, ↓reduceIte]; try rfl⟩
  obtain ⟨bs, May, D, M, rfl, rfl, rfl, rfl, hL, hMay, hD, hM⟩ := line_of hv
  simp only [rows_cast]
  have hb : nB (bs.map castB) = bs := nB_cast
  have hev := ok_every (D := D) (M := M) (May := May) hL
  have hca := s_can (M := M) (May := May) hL hD _ (all_lt hL)
  have hal := ok_all (May := May) hL hD hM
  unfold tP at hev hal
  cases hc : canB (bs.map castB) D M
  · have hwhy : whyL (bs.map castB) May D M true = 10 := by simp [whyL, hv, hc]
    rw [canB_cast] at hc
    rw [hc] at hca
    clear hc hv
    generalize 2 ^ bs.length - 1 = E at *
    refine callS_ok rfl rfl 44 (by simp (disch := first | decide | omega) only [go_sem, ↓reduceIte]; try rfl) (by simp (disch := first | decide | omega) only [go_sem, ↓reduceIte]; try rfl) Try.func44 rfl (by decide) (CallF.mono (c_open_ok hL hMay hD hM Try.func51 rfl (by decide) ?_ ?_) ?_); (intro i hi; first | exact (List.not_mem_nil hi).elim | (simp only [List.flatMap_cons, List.flatMap_nil, refsCC, List.append_nil, List.mem_singleton] at hi; subst hi; exact ⟨_, by simp (disch := first | decide | omega) only [go_sem, ↓reduceIte]; try rfl⟩)); (exact is_box0 s_always); rintro _ _ ⟨rfl, rfl⟩; refine ts ?_; try clear hQQ QQ
    refine tw ?_; try with_reducible intro QQ hQQ
    ((refine cO 54 rfl rfl rfl (hev) Try.func54 rfl ?_); refine tu ?_; try clear hQQ QQ); refine tw ?_; try with_reducible intro QQ hQQ
    (refine callO_S [6, 5] (hca) rfl rfl (by simp (disch := first | decide | omega) only [go_sem, ↓reduceIte]; try rfl) (by simp (disch := first | decide | omega) only [go_sem, ↓reduceIte]; try rfl) Try.func53 rfl (by decide) (by rfl) (by repeat' (first | trivial | apply And.intro | (simp (disch := first | decide | omega) only [go_sem, ↓reduceIte]; first | done | rfl))) (by decide) (by decide) (by first | rfl | (simp (disch := first | decide | omega) only [go_sem, ↓reduceIte]; try rfl)) ?_); refine ts ?_; try clear hQQ QQ
    refine tw ?_; try with_reducible intro QQ hQQ
    (refine ⟨rfl, .inr ⟨rfl, callS_x rfl 52 ⟨by simp (disch := first | decide | omega) only [go_sem, ↓reduceIte]; try rfl, by simp (disch := first | decide | omega) only [go_sem, ↓reduceIte]; try rfl⟩ Try.func52 rfl (by decide) (x_ask 10) ?_⟩⟩)
    exact ⟨10, 0, rfl, by simp (disch := first | decide | omega) only [go_sem, ↓reduceIte]; try rfl, by simp (disch := first | decide | omega) only [go_sem, ↓reduceIte]; try rfl, by simp (disch := first | decide | omega) only [resA, res1, ansR, ansN, hwhy, hb, go_sem, ↓reduceIte]; try rfl⟩
  · have hwhy : whyL (bs.map castB) May D M true = 0 := by simp [whyL, hv, hc]
    rw [canB_cast] at hc
    rw [hc] at hca
    clear hc hv
    generalize 2 ^ bs.length - 1 = E at *
    obtain ⟨⟨x, y⟩, hans⟩ : ∃ q, allS D M bs = q := ⟨_, rfl⟩
    rw [hans] at hal
    refine callS_ok rfl rfl 44 (by simp (disch := first | decide | omega) only [go_sem, ↓reduceIte]; try rfl) (by simp (disch := first | decide | omega) only [go_sem, ↓reduceIte]; try rfl) Try.func44 rfl (by decide) (CallF.mono (c_open_ok hL hMay hD hM Try.func51 rfl (by decide) ?_ ?_) ?_); (intro i hi; first | exact (List.not_mem_nil hi).elim | (simp only [List.flatMap_cons, List.flatMap_nil, refsCC, List.append_nil, List.mem_singleton] at hi; subst hi; exact ⟨_, by simp (disch := first | decide | omega) only [go_sem, ↓reduceIte]; try rfl⟩)); (exact is_box0 s_always); rintro _ _ ⟨rfl, rfl⟩; refine ts ?_; try clear hQQ QQ
    refine tw ?_; try with_reducible intro QQ hQQ
    ((refine cO 54 rfl rfl rfl (hev) Try.func54 rfl ?_); refine tu ?_; try clear hQQ QQ); refine tw ?_; try with_reducible intro QQ hQQ
    (refine callO_S [6, 5] (hca) rfl rfl (by simp (disch := first | decide | omega) only [go_sem, ↓reduceIte]; try rfl) (by simp (disch := first | decide | omega) only [go_sem, ↓reduceIte]; try rfl) Try.func53 rfl (by decide) (by rfl) (by repeat' (first | trivial | apply And.intro | (simp (disch := first | decide | omega) only [go_sem, ↓reduceIte]; first | done | rfl))) (by decide) (by decide) (by first | rfl | (simp (disch := first | decide | omega) only [go_sem, ↓reduceIte]; try rfl)) ?_); refine ts ?_; try clear hQQ QQ
    refine tw ?_; try with_reducible intro QQ hQQ
    ((refine cO 52 rfl rfl rfl (ok_ask 10) Try.func52 rfl ?_); refine tu ?_; try clear hQQ QQ); refine tw ?_; try with_reducible intro QQ hQQ
    ((refine cO 55 rfl rfl rfl (hal) Try.func55 rfl ?_); refine tu ?_; try clear hQQ QQ); refine tw ?_; try with_reducible intro QQ hQQ
    (refine aw_ret ⟨.inr rfl, by simp (disch := first | decide | omega) only [go_sem, ↓reduceIte]; try rfl, by simp (disch := first | decide | omega) only [resA, res1, ansR, ansN, hb, hwhy, hans, go_sem, ↓reduceIte]; try rfl⟩)
theorem ok_Mistaken : FunOK Try.prog 24 [lineR bales may drift mist] (ansN (if lineB bales may drift mist = true then 0 else 1) ((Go.Cl.mist drift.toNat (nB bales) (2 ^ bales.length - 1) : Nat))) := by
  refine fun_expA (l := []) (od := _) (nt := 11) (t := 3) (eb := 1) (rs := [.tmp 2, .cell 3 29]) ans43 Try.func24 rfl rfl rfl (by simp) rfl rfl rfl ansFid_eq Try.func43 rfl (by decide) fun Z w0 => ?_; simp only [initFr, avR, List.map_cons, List.map_nil]
  simp only [lineR, List.map_cons, List.map_nil]
  refine tw ?_; try with_reducible intro QQ hQQ
  refine ⟨rfl, ?_⟩
  (refine ts ?_; try clear hQQ QQ)
  refine tw ?_; try with_reducible intro QQ hQQ
  cases hv : lineB bales may drift mist
  · have hwhy : hv = hv := rfl
    have hb := hv
    refine callS_ok rfl rfl 44 (by simp (disch := first | decide | omega) only [go_sem, ↓reduceIte]; try rfl) (by simp (disch := first | decide | omega) only [go_sem, ↓reduceIte]; try rfl) Try.func44 rfl (by decide) (CallF.mono (c_open_arg hv Try.func51 rfl (by decide) ?_ ?_) fun _ _ h => False.elim h); (intro i hi; first | exact (List.not_mem_nil hi).elim | (simp only [List.flatMap_cons, List.flatMap_nil, refsCC, List.append_nil, List.mem_singleton] at hi; subst hi; exact ⟨_, by simp (disch := first | decide | omega) only [go_sem, ↓reduceIte]; try rfl⟩))
    exact ⟨1, 0, rfl, by simp (disch := first | decide | omega) only [go_sem, ↓reduceIte]; try rfl, by simp (disch := first | decide | omega) only [go_sem, ↓reduceIte]; try rfl, by simp (disch := first | decide | omega) only [resA, res1, ansR, ansN, hwhy, hb, go_sem, ↓reduceIte]; try rfl⟩
  obtain ⟨bs, May, D, M, rfl, rfl, rfl, rfl, hL, hMay, hD, hM⟩ := line_of hv
  simp only [rows_cast]
  have hwhy : nB (bs.map castB) = bs := nB_cast
  have hb := hv
  have hev := ok_every (D := D) (M := M) (May := May) hL
  have hmi := s_mist (M := M) (May := May) hL hD _ (all_lt hL)
  unfold tP at hev
  obtain ⟨x, hans⟩ : ∃ q, Go.Cl.mist D bs (2 ^ bs.length - 1) = q := ⟨_, rfl⟩
  rw [hans] at hmi
  have hans' : ∀ _ : Unit, Go.Cl.mist D bs (2 ^ bs.length - 1) = x := fun _ => hans
  clear hv hb hans
  have hb' : ∀ _ : Unit, lineB (bs.map castB) May D M = true := fun _ => line_to hL hMay hD hM
  generalize 2 ^ bs.length - 1 = E at hev hmi
  refine callS_ok rfl rfl 44 (by simp (disch := first | decide | omega) only [go_sem, ↓reduceIte]; try rfl) (by simp (disch := first | decide | omega) only [go_sem, ↓reduceIte]; try rfl) Try.func44 rfl (by decide) (CallF.mono (c_open_ok hL hMay hD hM Try.func51 rfl (by decide) ?_ ?_) ?_); (intro i hi; first | exact (List.not_mem_nil hi).elim | (simp only [List.flatMap_cons, List.flatMap_nil, refsCC, List.append_nil, List.mem_singleton] at hi; subst hi; exact ⟨_, by simp (disch := first | decide | omega) only [go_sem, ↓reduceIte]; try rfl⟩)); (exact is_box0 s_always); rintro _ _ ⟨rfl, rfl⟩; refine ts ?_; try clear hQQ QQ
  refine tw ?_; try with_reducible intro QQ hQQ
  ((refine cO 54 rfl rfl rfl (hev) Try.func54 rfl ?_); refine tu ?_; try clear hQQ QQ); refine tw ?_; try with_reducible intro QQ hQQ
  (refine callO_S [5, 4] (hmi) rfl rfl (by simp (disch := first | decide | omega) only [go_sem, ↓reduceIte]; try rfl) (by simp (disch := first | decide | omega) only [go_sem, ↓reduceIte]; try rfl) Try.func62 rfl (by decide) (by rfl) (by repeat' (first | trivial | apply And.intro | (simp (disch := first | decide | omega) only [go_sem, ↓reduceIte]; first | done | rfl))) (by decide) (by decide) (by first | rfl | (simp (disch := first | decide | omega) only [go_sem, ↓reduceIte]; try rfl)) ?_); refine ts ?_; try clear hQQ QQ
  refine tw ?_; try with_reducible intro QQ hQQ
  have hans := hans' ()
  have hb := hb' ()
  (refine aw_ret ⟨.inr rfl, by simp (disch := first | decide | omega) only [go_sem, ↓reduceIte]; try rfl, by simp (disch := first | decide | omega) only [resA, res1, ansR, ansN, hb, hwhy, hans, go_sem, ↓reduceIte]; try rfl⟩)
end
end Go.Proofs.Ytgdhdikeicgndaa
