/- Kwe1: texts joined (WdH WdI WdJ WdK). -/
import Derived.Test.YtgdhdikeicgndaaWcQ
import Derived.Test.YtgdhdikeicgndaaWdC
import Derived.Test.YtgdhdikeicgndaaKcx18
import Derived.Test.YtgdhdikeicgndaaWdG
set_option linter.all false
/- classer: the document's Proof and Mistaken. -/
namespace Go.Proofs.Ytgdhdikeicgndaa
open Go Go.RowKit Go.Sh Go.Pv Go.Cl
set_option maxHeartbeats 4000000
set_option maxRecDepth 20000
set_option pp.maxSteps 60000
theorem first_is {p : Nat → Bool} {n i : Nat} (hi : i < n) (hp : p i = true) (h : ∀ k, k < i → p k = false) : (List.range n).any p = true ∧ firstF p (List.range n) = i := by
  have ha : (List.range n).any p = true := List.any_eq_true.2 ⟨i, List.mem_range.2 hi, hp⟩
  obtain ⟨h1, h2, h3⟩ := first_range ha
  refine ⟨ha, ?_⟩
  rcases Nat.lt_trichotomy (firstF p (List.range n)) i with e | e | e
  · rw [h _ e] at h2; cases h2
  · exact e
  · rw [h3 _ e] at hp; cases hp
theorem first_no {p : Nat → Bool} {n : Nat} (h : ∀ k, k < n → p k = false) : (List.range n).any p = false := by
  rw [List.any_eq_false]
  intro x hx
  rw [h x (List.mem_range.1 hx)]; decide
section
variable {bales : List (Int × Int × Int)} {may drift mist : Int}
theorem ok_ProofD (hl : bales.length ≤ 40) : FunOK Try.prog 23 [lineR bales may drift mist] (ansN (whyP bales may drift mist) (proofN bales may drift mist : Nat)) := by
  have ht := ok_toldD (bales := bales) (may := may) (drift := drift) (mist := mist) (-1) true
  by_cases hw : whyL bales may drift mist true = 0
  rotate_left
  · have hp : whyP bales may drift mist = whyL bales may drift mist true := by unfold whyP; rw [if_neg hw]
    rw [hp]
    rw [toldL_no hw] at ht
    simp only [ansN, if_neg hw]
    clear hp
    generalize whyL bales may drift mist true = e at *
    simp only [lineR] at ht ⊢
    refine fun_ok (nt := 33) (rs := [.tmp 2, .tmp 3]) Try.func23 rfl rfl rfl (by simp) fun Z w0 => ?_; simp only [initFr, avR, List.map_cons, List.map_nil]
    refine tw ?_; try with_reducible intro QQ hQQ
    ((refine cB 48 rfl rfl rfl (ht) Try.func48 rfl ?_); refine tu ?_; try clear hQQ QQ); refine tw ?_; try with_reducible intro QQ hQQ
    refine ti ?_; try clear hQQ QQ
    refine tw ?_; try with_reducible intro QQ hQQ
    refine aw_ret ?_; refine ⟨.inr rfl, ?_⟩; simp only [resA, res1, go_sem, ↓reduceIte]
    try rfl
  obtain ⟨hv, -, hc⟩ := why_zero hw
  have hk := fun i => ok_KeepsD (may := may) (drift := drift) (mist := mist) hl i
  have hp : whyP bales may drift mist = if (List.range bales.length).any (nevB drift.toNat mist.toNat may.toNat (nB bales)) = true then 0 else 4 := by unfold whyP; rw [if_pos hw]
  rw [hp]
  unfold proofN
  have hk' : ∀ i : Nat, i < bales.length → FunOK Try.prog 19 [lineR bales may drift mist, .one (iP (i : Int))] (.tup [.one (iP ((toldS may.toNat (wrongS drift.toNat mist.toNat (nB bales) i) : Nat) : Int)), .one (iP 0)]) := fun i hi => by
    have := hk (i : Int)
    rw [show inB (i : Int) 0 ((bales.length : Int) - 1) = true by simp [inB]; omega, hw] at this
    simp only [ansN, if_true, Int.toNat_natCast] at this
    exact this
  have hnv : ∀ i, nevB drift.toNat mist.toNat may.toNat (nB bales) i = decide (toldS may.toNat (wrongS drift.toNat mist.toNat (nB bales) i) = 0) := fun i => rfl
  rw [hw] at ht
  have hll : (bales.map row3).length = bales.length := List.length_map _
  clear hk hp hw hv hc
  generalize toldL bales may drift mist (-1) true = L at *
  generalize nevB drift.toNat mist.toNat may.toNat (nB bales) = NV at *
  obtain ⟨TS, hTS⟩ : ∃ TS : Nat → Nat, ∀ i, toldS may.toNat (wrongS drift.toNat mist.toNat (nB bales) i) = TS i := ⟨_, fun _ => rfl⟩
  simp only [hTS] at *
  clear hTS
  simp only [lineR] at ht hk' ⊢
  refine fun_ok (nt := 33) (rs := [.tmp 2, .tmp 3]) Try.func23 rfl rfl rfl (by simp) fun Z w0 => ?_; simp only [initFr, avR, List.map_cons, List.map_nil]
  refine tw ?_; try with_reducible intro QQ hQQ
  ((refine cB 48 rfl rfl rfl (ht) Try.func48 rfl ?_); refine tu ?_; try clear hQQ QQ); refine tw ?_; try with_reducible intro QQ hQQ
  refine ti ?_; try clear hQQ QQ
  refine tw ?_; try with_reducible intro QQ hQQ
  refine aw_weak (weak_keep [1, 6] (by simp only [go_sem, ↓reduceIte]; rfl)) ?_
  refine aw_loop_ov (ι := { i : Nat // i ≤ bales.length ∧ ∀ k, k < i → NV k = false }) (fun i => [(6, iA i.1)]) (fun _ => []) (fun i => bales.length - i.1) ⟨0, by omega, fun k hk => by omega⟩ (by first | rfl | (simp only [go_sem, ↓reduceIte]; first | done | rfl | (simp; try rfl))) ?_
  rintro ⟨i, hi, hin⟩
  simp (disch := decide) only [ov, ovL, AL.get_nil, AL.get_eq, AL.get_ne, Option.getD_some, Option.getD_none]
  by_cases hil : i < bales.length
  · have hki := hk' i hil
    have hni := hnv i
    clear hk' hnv
    by_cases h0 : TS i = 0
    · obtain ⟨f1, f2⟩ := first_is hil (hni.trans (decide_eq_true h0)) hin
      rw [f1, f2]
      simp only [ansN, if_true]
      clear f1 f2 hin hni
      try clear hF
      have hF := hll
      refine twF ?_; try with_reducible intro QQ hQQ
      refine tiF ?_; try clear hQQ QQ
      refine twF ?_; try with_reducible intro QQ hQQ
      ((refine cOF 19 rfl rfl rfl (hki) Try.func19 rfl ?_); refine tuF ?_; try clear hQQ QQ); refine twF ?_; try with_reducible intro QQ hQQ
      refine tiF ?_; try clear hQQ QQ
      refine twF ?_; try with_reducible intro QQ hQQ
      refine aw_ret ?_; refine ⟨.inr rfl, ?_⟩; simp only [resA, res1, go_sem, ↓reduceIte]
      try rfl
    · have hnf : NV i = false := hni.trans (decide_eq_false h0)
      clear hni
      try clear hF
      have hF := hll
      refine twF ?_; try with_reducible intro QQ hQQ
      refine tiF ?_; try clear hQQ QQ
      refine twF ?_; try with_reducible intro QQ hQQ
      ((refine cOF 19 rfl rfl rfl (hki) Try.func19 rfl ?_); refine tuF ?_; try clear hQQ QQ); refine twF ?_; try with_reducible intro QQ hQQ
      refine tiF ?_; try clear hQQ QQ
      refine twF ?_; try with_reducible intro QQ hQQ
      (refine ⟨⟨i + 1, by omega, fun k hk => by
        by_cases e : k = i
        · subst e; exact hnf
        · exact hin k (by omega)⟩, ?_, weak_round (by simp only [hF, go_sem, ↓reduceIte]; first | done | rfl) (by first | rfl | (simp only [hF, go_sem, ↓reduceIte]))⟩; (simp only; omega))
  · have hie : i = bales.length := by omega
    subst hie
    rw [first_no hin]
    simp only [ansN, Bool.false_eq_true, if_false, show ((4 : Int) = 0) = False from by decide]
    clear hin hk' hnv
    try clear hF
    have hF := hll
    refine twF ?_; try with_reducible intro QQ hQQ
    refine tiF ?_; try clear hQQ QQ
    refine twF ?_; try with_reducible intro QQ hQQ
    refine aw_ret ?_; refine ⟨.inr rfl, ?_⟩; simp only [resA, res1, go_sem, ↓reduceIte]
    try rfl
theorem ok_MistakenD : FunOK Try.prog 25 [lineR bales may drift mist] (ansN (if lineB bales may drift mist = true then 0 else 1) ((Go.Cl.mist drift.toNat (nB bales) (2 ^ bales.length - 1) : Nat))) := by
  have hLn := ok_LineD (bales := bales) (may := may) (drift := drift) (mist := mist)
  cases hv : lineB bales may drift mist
  · rw [hv] at hLn
    simp only [ansN, Bool.false_eq_true, if_false, show ((1 : Int) = 0) = False from by decide]
    clear hv
    refine fun_ok (nt := 18) (rs := [.tmp 2, .tmp 3]) Try.func25 rfl rfl rfl (by simp) fun Z w0 => ?_; simp only [initFr, avR, List.map_cons, List.map_nil]
    simp only [lineR, List.map_cons, List.map_nil]
    refine tw ?_; try with_reducible intro QQ hQQ
    ((refine cO 34 rfl rfl rfl (hLn) Try.func34 rfl ?_); refine tu ?_; try clear hQQ QQ); refine tw ?_; try with_reducible intro QQ hQQ
    refine ti ?_; try clear hQQ QQ
    refine tw ?_; try with_reducible intro QQ hQQ
    refine aw_ret ?_; refine ⟨.inr rfl, ?_⟩; simp only [resA, res1, go_sem, ↓reduceIte]
    try rfl
  rw [hv] at hLn
  obtain ⟨bs, May, D, M, rfl, rfl, rfl, rfl, hL, hMay, hD, hM⟩ := line_of hv
  have h6 := hL.n6
  have hp6 := pow64 h6
  have hp0 := Nat.two_pow_pos bs.length
  have hm180 := mist_180 (D := D) hL (2 ^ bs.length - 1)
  have hev := ok_everyD (bales := bs.map castB) (may := May) (drift := D) (mist := M) (by rw [List.length_map]; omega)
  rw [List.length_map] at hev
  have hst := fun m (hm : m ≤ 1000) => ok_states63 (most := m) (tk := 2 ^ bs.length - 1) (asked := -1) hL hMay hD hm (by omega) (M : Int)
  have hrm := fun m (hm : m < FAR) => ref_mist (D := D) (May := May) (asked := -1) (tk := 2 ^ bs.length - 1) (m := m) hL hm
  have hsl := fun m => st_len6 (D := D) (May := May) (most := m) (tk := 2 ^ bs.length - 1) (asked := -1) hL h6
  have hSF : (1000 : Nat) < FAR := by unfold FAR; omega
  simp only [ansN, if_true, nB_cast, List.length_map, Int.toNat_natCast, lineR_cast, rows_cast] at hLn hev ⊢
  obtain ⟨SL, hSL⟩ : ∃ SL : Nat → List St5, ∀ m, stL bs D May m (2 ^ bs.length - 1) (-1) bs.length = SL m := ⟨_, fun _ => rfl⟩
  simp only [hSL] at *
  generalize Go.Cl.mist D bs (2 ^ bs.length - 1) = mi at *
  clear hSL hv hL
  generalize 2 ^ bs.length - 1 = E at *
  refine fun_ok (nt := 18) (rs := [.tmp 2, .tmp 3]) Try.func25 rfl rfl rfl (by simp) fun Z w0 => ?_; simp only [initFr, avR, List.map_cons, List.map_nil]
  refine tw ?_; try with_reducible intro QQ hQQ
  ((refine cO 34 rfl rfl rfl (hLn) Try.func34 rfl ?_); refine tu ?_; try clear hQQ QQ); refine tw ?_; try with_reducible intro QQ hQQ
  refine ti ?_; try clear hQQ QQ
  refine tw ?_; try with_reducible intro QQ hQQ
  refine aw_weak (weak_keep [1, 4] (by simp only [go_sem, ↓reduceIte]; rfl)) ?_
  refine aw_loop_ov (ι := { m : Nat // m ≤ mi }) (fun m => [(4, iA m.1)]) (fun _ => []) (fun m => mi - m.1) ⟨0, by omega⟩ (by first | rfl | (simp only [go_sem, ↓reduceIte]; first | done | rfl | (simp; try rfl))) ?_
  rintro ⟨m, hm⟩
  simp (disch := decide) only [ov, ovL, AL.get_nil, AL.get_eq, AL.get_ne, Option.getD_some, Option.getD_none]
  have h1 := hst m (by omega)
  have h2 := hrm m (by omega)
  have h3 := hsl m
  have h4 : (SL m).length = 0 ↔ m < mi := by rw [← h2]; exact List.length_eq_zero_iff
  have hll : ((SL m).map stP).length = (SL m).length := List.length_map _
  clear hst hrm hsl h2
  by_cases hml : m < mi
  · have h0 := h4.2 hml
    refine tw ?_; try with_reducible intro QQ hQQ
    (refine cD 64 rfl rfl rfl (hev) Try.func64 rfl ?_); refine td ?_; try clear hQQ QQ
    (refine cG 63 rfl rfl rfl (h1) Try.func63 rfl ?_); refine td ?_; try clear hQQ QQ
    try clear hF
    have hF := hll
    refine twF ?_; try with_reducible intro QQ hQQ
    refine tiF ?_; try clear hQQ QQ
    refine twF ?_; try with_reducible intro QQ hQQ
    (refine ⟨⟨m + 1, by omega⟩, ?_, weak_round (by simp only [hF, go_sem, ↓reduceIte]; first | done | rfl) (by first | rfl | (simp only [hF, go_sem, ↓reduceIte]))⟩; (simp only; omega))
  · have h0 : ¬ (SL m).length = 0 := fun e => hml (h4.1 e)
    have hme : m = mi := by omega
    subst hme
    refine tw ?_; try with_reducible intro QQ hQQ
    (refine cD 64 rfl rfl rfl (hev) Try.func64 rfl ?_); refine td ?_; try clear hQQ QQ
    (refine cG 63 rfl rfl rfl (h1) Try.func63 rfl ?_); refine td ?_; try clear hQQ QQ
    try clear hF
    have hF := hll
    refine twF ?_; try with_reducible intro QQ hQQ
    refine tiF ?_; try clear hQQ QQ
    refine twF ?_; try with_reducible intro QQ hQQ
    refine aw_ret ?_; refine ⟨.inr rfl, ?_⟩; simp only [resA, res1, go_sem, ↓reduceIte]
    try rfl
end
end Go.Proofs.Ytgdhdikeicgndaa
/- classer: the document's More. -/
namespace Go.Proofs.Ytgdhdikeicgndaa
open Go Go.RowKit Go.Sh Go.Pv Go.Cl
set_option maxHeartbeats 4000000
set_option maxRecDepth 20000
set_option pp.maxSteps 60000
attribute [local go_sem] rowsK_bale
section
variable {bales : List (Int × Int × Int)} {may drift mist : Int}
/-- Does a bale keep the line in the first states? -/
def keepT (May : Nat) (L : List St5) (k : Nat) : Bool := (L.take k).all fun s => decide (s.2.2.2.2 ≤ May)
theorem keepT_succ {May : Nat} {L : List St5} {k : Nat} (h : k < L.length) : keepT May L (k + 1) = (keepT May L k && decide ((L.getD k (0, 0, 0, true, 0)).2.2.2.2 ≤ May)) := by
  unfold keepT
  rw [List.take_add_one, List.getElem?_eq_getElem h, List.all_append, List.getD_eq_getElem?_getD, List.getElem?_eq_getElem h]
  simp
theorem ok_MoreD (hl : bales.length ≤ 40) (i : Int) : FunOK Try.prog 27 [lineR bales may drift mist, .one (iP i)] (ansN (whyM bales may drift mist i) (moreN bales may drift mist i : Nat)) := by
  have hb := ok_BaleD (may := may) (drift := drift) (mist := mist) i hl
  have ht := ok_toldD (bales := bales) (may := may) (drift := drift) (mist := mist) i (inB i 0 ((bales.length : Int) - 1))
  by_cases hw : whyL bales may drift mist (inB i 0 ((bales.length : Int) - 1)) = 0
  rotate_left
  · rw [toldL_no hw] at ht
    have hm : whyM bales may drift mist i = whyL bales may drift mist (inB i 0 ((bales.length : Int) - 1)) := by unfold whyM; rw [if_neg hw]
    rw [hm]
    simp only [ansN, if_neg hw]
    clear hm
    generalize whyL bales may drift mist (inB i 0 ((bales.length : Int) - 1)) = e at *
    generalize inB i 0 ((bales.length : Int) - 1) = v at *
    simp only [lineR] at ht hb ⊢
    refine fun_ok (nt := 81) (rs := [.tmp 4, .tmp 5]) Try.func27 rfl rfl rfl (by simp) fun Z w0 => ?_; simp only [initFr, avR, List.map_cons, List.map_nil]
    refine tw ?_; try with_reducible intro QQ hQQ
    (refine cD 49 rfl rfl rfl (hb) Try.func49 rfl ?_); refine td ?_; try clear hQQ QQ
    ((refine cG 48 rfl rfl rfl (ht) Try.func48 rfl ?_); refine tv ?_; try clear hQQ QQ); refine tw ?_; try with_reducible intro QQ hQQ
    refine ti ?_; try clear hQQ QQ
    refine tw ?_; try with_reducible intro QQ hQQ
    refine aw_ret ?_; refine ⟨.inr rfl, ?_⟩; simp only [resA, res1, go_sem, ↓reduceIte]
    try rfl
  obtain ⟨hv, hvb, hc⟩ := why_zero hw
  obtain ⟨bs, May, D, M, rfl, rfl, rfl, rfl, hL, hMay, hD, hM⟩ := line_of hv
  have hM' : M < FAR := by unfold FAR; omega
  have hi : 0 ≤ i ∧ i ≤ (bs.length : Int) - 1 := by
    rw [List.length_map] at hvb
    simpa [inB] using hvb
  obtain ⟨j, rfl⟩ : ∃ j : Nat, i = j := ⟨i.toNat, by omega⟩
  have hj : j < bs.length := by omega
  have hwy : whyM (bs.map castB) May D M j = if (List.range ((bG bs j).1 - (bG bs j).2.1 + 1)).any (enM D M May bs j) = true then 0 else 4 := by
    unfold whyM
    rw [hw, if_pos rfl, nB_cast, Int.toNat_natCast, Int.toNat_natCast, Int.toNat_natCast]
    rfl
  have hmn : moreN (bs.map castB) May D M j = firstF (enM D M May bs j) (List.range ((bG bs j).1 - (bG bs j).2.1 + 1)) := by unfold moreN; rw [nB_cast]; rfl
  have h6 := hL.n6
  have hp6 := pow64 h6
  have hp0 := Nat.two_pow_pos bs.length
  have hba := hL.ba j hj
  have hg : (bs.map baleP)[j]? = some [iP ((bG bs j).1 : Int), iP ((bG bs j).2.1 : Int), iP ((bG bs j).2.2 : Int)] := by rw [List.getElem?_map, get_someBale hj]; rfl
  have hll : (bs.map baleP).length = bs.length := List.length_map _
  have hrows : ∀ m, (bs.map baleP).set j [iP ((bG bs j).1 : Int), iP (((bG bs j).2.1 + m : Nat) : Int), iP ((bG bs j).2.2 : Int)] = (moreL bs j m).map baleP := fun m => by
    unfold moreL
    rw [List.map_set]; rfl
  have hml : ∀ m, (moreL bs j m).length = bs.length := fun m => moreL_len
  have hev := fun m => ok_everyD (bales := (moreL bs j m).map castB) (may := May) (drift := D) (mist := M) (by rw [List.length_map, hml]; omega)
  have hst : ∀ m, (bG bs j).2.1 + m ≤ (bG bs j).1 → FunOK Try.prog 63 [.agg [.sl ((moreL bs j m).map baleP), iP (May : Int), iP (D : Int), iP (M : Int)], .one (iP (j : Int)), .one (iP ((2 ^ bs.length - 1 : Nat) : Int)), .one (iP (M : Int))] (.one (.one (.sl ((stL (moreL bs j m) D May M (2 ^ bs.length - 1) j bs.length).map stP)))) := fun m hm => by
    have := ok_states63 (most := M) (tk := 2 ^ bs.length - 1) (asked := (j : Int)) (moreL_ok hL hj hm) hMay hD (by omega) (by omega) (M : Int)
    rw [hml] at this
    exact this
  have hen : ∀ m, (bG bs j).2.1 + m ≤ (bG bs j).1 → (stL (moreL bs j m) D May M (2 ^ bs.length - 1) j bs.length).all (fun s => decide (s.2.2.2.2 ≤ May)) = enM D M May bs j m := fun m hm => by
    have := ref_more (May := May) (D := D) (moreL_ok hL hj hm) hM' (j := j) (by rw [hml]; exact hj)
    rw [hml] at this
    exact this
  have hsl : ∀ m, (bG bs j).2.1 + m ≤ (bG bs j).1 → (stL (moreL bs j m) D May M (2 ^ bs.length - 1) j bs.length).length ≤ 887503681 := fun m hm => st_len6 (moreL_ok hL hj hm) h6
  rw [hw, hvb, toldL_stL (by rw [← hvb]; exact hw)] at ht
  rw [hvb] at hb
  rw [hwy, hmn]
  simp only [List.length_map, rows_cast, lineR_cast, hml] at ht hb hev ⊢
  generalize stL bs D May M (2 ^ bs.length - 1) (j : Int) bs.length = L0 at *
  obtain ⟨SL, hSL⟩ : ∃ SL : Nat → List St5, ∀ m, stL (moreL bs j m) D May M (2 ^ bs.length - 1) (j : Int) bs.length = SL m := ⟨_, fun _ => rfl⟩
  simp only [hSL] at *
  generalize enM D M May bs j = EN at *
  generalize moreL bs j = ML at *
  clear hSL hv hL hw hvb hc hwy hmn
  generalize 2 ^ bs.length - 1 = E at *
  have hb24 : bs.length * 24 ≤ 140737488355328 := by omega
  have hFK : ((bG bs j).1 : Int) - ((bG bs j).2.1 : Int) = (((bG bs j).1 - (bG bs j).2.1 : Nat) : Int) := by omega
  refine fun_ok (nt := 81) (rs := [.tmp 4, .tmp 5]) Try.func27 rfl rfl rfl (by simp) fun Z w0 => ?_; simp only [initFr, avR, List.map_cons, List.map_nil]
  refine tw ?_; try with_reducible intro QQ hQQ
  (refine cD 49 rfl rfl rfl (hb) Try.func49 rfl ?_); refine td ?_; try clear hQQ QQ
  ((refine cG 48 rfl rfl rfl (ht) Try.func48 rfl ?_); refine tv ?_; try clear hQQ QQ); refine tw ?_; try with_reducible intro QQ hQQ
  refine ti ?_; try clear hQQ QQ
  try clear hF
  have hF := And.intro hll (hg)
  refine twF ?_; try with_reducible intro QQ hQQ
  refine aw_weak (weak_keep [1, 2, 8, 9] (by simp only [hF, go_sem, ↓reduceIte]; rfl)) ?_
  refine aw_loop_ov (ι := { m : Nat // m ≤ (bG bs j).1 - (bG bs j).2.1 + 1 ∧ ∀ k, k < m → EN k = false }) (fun m => [(9, iA m.1)]) (fun _ => []) (fun m => (bG bs j).1 - (bG bs j).2.1 + 1 - m.1) ⟨0, by omega, fun k hk => by omega⟩ (by first | rfl | (simp only [hF, go_sem, ↓reduceIte]; first | done | rfl | (simp; try rfl))) ?_
  rintro ⟨m, hm, hmn⟩
  simp (disch := decide) only [ov, ovL, AL.get_nil, AL.get_eq, AL.get_ne, Option.getD_some, Option.getD_none]
  by_cases hml2 : m ≤ (bG bs j).1 - (bG bs j).2.1
  · have hst1 := hst m (by omega)
    have hen1 := hen m (by omega)
    have hev1 := hev m
    have hsl1 := hsl m (by omega)
    have hrw := hrows m
    have hmlm := hml m
    have htk : ((ML m).map baleP).take bs.length = (ML m).map baleP := List.take_of_length_le (by rw [List.length_map, hmlm]; exact Nat.le_refl _)
    have hl3 : ((ML m).map baleP).length = bs.length := by rw [List.length_map, hmlm]
    have hkz : keepT May (SL m) 0 = true := rfl
    have hks := fun k (hk : k < (SL m).length) => keepT_succ (May := May) hk
    have hke : keepT May (SL m) (SL m).length = EN m := by rw [← hen1]; unfold keepT; rw [List.take_length]
    have hga : ∀ k, k < (SL m).length → ((SL m).map stP)[k]? = some [iP (((SL m).getD k (0, 0, 0, true, 0)).1 : Int), iP (((SL m).getD k (0, 0, 0, true, 0)).2.1 : Int), iP (((SL m).getD k (0, 0, 0, true, 0)).2.2.1 : Int), .v (.bool ((SL m).getD k (0, 0, 0, true, 0)).2.2.2.1), iP (((SL m).getD k (0, 0, 0, true, 0)).2.2.2.2 : Int)] := fun k hk => by
      simp [List.getD_eq_getElem?_getD, hk]
    have hll3 : ((SL m).map stP).length = (SL m).length := List.length_map _
    generalize keepT May (SL m) = KT at *
    generalize SL m = S at *
    clear hst hen hev hsl hrows hml hen1 hmlm
    generalize ML m = bs2 at *
    have hie : ([] : List (List PV)).isEmpty = true := rfl
    have hnt : (!true) = false := rfl
    try clear hF
    have hF := And.intro hll (And.intro hg (And.intro hb24 (And.intro hrw (And.intro htk (And.intro hl3 (And.intro hie (hnt)))))))
    refine twF ?_; try with_reducible intro QQ hQQ
    refine tiF ?_; try clear hQQ QQ
    (repeat (first | apply aw_seq | apply aw_block | apply aw_skip | apply aw_label)); (refine tgF ?_; try with_reducible intro QQ hQQ)
    (repeat (first | apply aw_seq | apply aw_block | apply aw_skip | apply aw_label)); (refine tgF ?_; try with_reducible intro QQ hQQ)
    (repeat (first | apply aw_seq | apply aw_block | apply aw_skip | apply aw_label)); (refine tgF ?_; try with_reducible intro QQ hQQ)
    refine aw_weak (weak_share 3 (by rfl)) ?_
    refine twF ?_; try with_reducible intro QQ hQQ
    (refine cDF 64 rfl rfl rfl (hev1) Try.func64 rfl ?_); refine tdF ?_; try clear hQQ QQ
    ((refine cGF 63 rfl rfl rfl (hst1) Try.func63 rfl ?_); refine tvF ?_; try clear hQQ QQ); refine twF ?_; try with_reducible intro QQ hQQ
    try clear hF
    have hF := hkz
    refine aw_weak (weak_keep [1, 2, 8, 9, 11, 12, 13] (by simp only [hF, go_sem, ↓reduceIte]; rfl)) ?_
    refine aw_loop_ov (ι := { k : Nat // k ≤ S.length }) (fun k => [(12, .one (.p (.v (.bool (KT k.1))))), (13, iA k.1)]) (fun _ => []) (fun k => S.length - k.1) ⟨0, by omega⟩ (by first | rfl | (simp only [hF, go_sem, ↓reduceIte]; first | done | rfl | (simp; try rfl))) ?_
    rintro ⟨k, hk⟩
    simp (disch := decide) only [ov, ovL, AL.get_nil, AL.get_eq, AL.get_ne, Option.getD_some, Option.getD_none]
    by_cases hkl : k < S.length
    · have hga1 := hga k hkl
      have hks1 := hks k hkl
      clear hga hks hke hev1 hst1
      generalize (S.getD k (0, 0, 0, true, 0)).2.2.2.2 = a at *
      cases hkt : KT k
      · rw [hkt, Bool.false_and] at hks1
        try clear hF
        have hF := And.intro hll3 (hga1)
        refine twF ?_; try with_reducible intro QQ hQQ
        refine tiF ?_; try clear hQQ QQ
        refine twF ?_; try with_reducible intro QQ hQQ
        refine ⟨⟨k + 1, by omega⟩, ?_, weak_round ?_ (by first | rfl | (simp only [hF, go_sem, ↓reduceIte]))⟩
        rotate_left
        · simp only [hks1]
          (simp only [hF, go_sem, ↓reduceIte]; try rfl)
        · simp only; omega
      · rw [hkt, Bool.true_and] at hks1
        by_cases ham : a ≤ May
        · rw [decide_eq_true ham] at hks1
          try clear hF
          have hF := And.intro hll3 (hga1)
          refine twF ?_; try with_reducible intro QQ hQQ
          refine tiF ?_; try clear hQQ QQ
          refine twF ?_; try with_reducible intro QQ hQQ
          refine ⟨⟨k + 1, by omega⟩, ?_, weak_round ?_ (by first | rfl | (simp only [hF, go_sem, ↓reduceIte]))⟩
          rotate_left
          · simp only [hks1]
            (simp only [hF, go_sem, ↓reduceIte]; try rfl)
          · simp only; omega
        · rw [decide_eq_false ham] at hks1
          try clear hF
          have hF := And.intro hll3 (hga1)
          refine twF ?_; try with_reducible intro QQ hQQ
          refine tiF ?_; try clear hQQ QQ
          refine twF ?_; try with_reducible intro QQ hQQ
          refine ⟨⟨k + 1, by omega⟩, ?_, weak_round ?_ (by first | rfl | (simp only [hF, go_sem, ↓reduceIte]))⟩
          rotate_left
          · simp only [hks1]
            (simp only [hF, go_sem, ↓reduceIte]; try rfl)
          · simp only; omega
    · have hkk : k = S.length := by omega
      subst hkk
      rw [hke]
      clear hga hks hev1 hst1
      cases hem : EN m
      · skip
        try clear hF
        have hF := hll3
        refine twF ?_; try with_reducible intro QQ hQQ
        refine tiF ?_; try clear hQQ QQ
        refine twF ?_; try with_reducible intro QQ hQQ
        refine tiF ?_; try clear hQQ QQ
        refine twF ?_; try with_reducible intro QQ hQQ
        (refine ⟨⟨m + 1, by omega, fun k hk => by
          by_cases e : k = m
          · subst e; exact hem
          · exact hmn k (by omega)⟩, ?_, weak_round (by simp only [hF, go_sem, ↓reduceIte]; first | done | rfl) (by first | rfl | (simp only [hF, go_sem, ↓reduceIte]))⟩; (simp only; omega))
      · obtain ⟨f1, f2⟩ := first_is (n := (bG bs j).1 - (bG bs j).2.1 + 1) (by omega) hem hmn
        rw [f1, f2]
        simp only [ansN, if_true]
        clear f1 f2 hmn
        try clear hF
        have hF := hll3
        refine twF ?_; try with_reducible intro QQ hQQ
        refine tiF ?_; try clear hQQ QQ
        refine twF ?_; try with_reducible intro QQ hQQ
        refine tiF ?_; try clear hQQ QQ
        refine twF ?_; try with_reducible intro QQ hQQ
        refine aw_ret ?_; refine ⟨.inr rfl, ?_⟩; simp only [resA, res1, go_sem, ↓reduceIte]
        try rfl
  · rw [first_no (n := (bG bs j).1 - (bG bs j).2.1 + 1) (fun k hk => hmn k (by omega))]
    simp only [ansN, Bool.false_eq_true, if_false, show ((4 : Int) = 0) = False from by decide]
    clear hmn hst hen hev hsl hrows
    try clear hF
    have hF := And.intro hll (hg)
    refine twF ?_; try with_reducible intro QQ hQQ
    refine tiF ?_; try clear hQQ QQ
    refine twF ?_; try with_reducible intro QQ hQQ
    refine aw_ret ?_; refine ⟨.inr rfl, ?_⟩; simp only [resA, res1, go_sem, ↓reduceIte]
    try rfl
end
end Go.Proofs.Ytgdhdikeicgndaa
/- classer: the document's Clash. -/
namespace Go.Proofs.Ytgdhdikeicgndaa
open Go Go.RowKit Go.Sh Go.Pv Go.Cl
set_option maxHeartbeats 4000000
set_option maxRecDepth 20000
set_option pp.maxSteps 60000
section
variable {bales : List (Int × Int × Int)} {may drift mist : Int}
theorem ok_ClashD : FunOK Try.prog 29 [lineR bales may drift mist] (ansN (whyC bales may drift mist) (clS drift.toNat mist.toNat (nB bales) : Nat)) := by
  have hLn := ok_LineD (bales := bales) (may := may) (drift := drift) (mist := mist)
  cases hv : lineB bales may drift mist
  · rw [hv] at hLn
    have hw : whyC bales may drift mist = 1 := by unfold whyC; rw [hv]; rfl
    rw [hw]
    simp only [ansN, if_false, show ((1 : Int) = 0) = False from by decide]
    clear hv hw
    refine fun_ok (nt := 41) (rs := [.tmp 2, .tmp 3]) Try.func29 rfl rfl rfl (by simp) fun Z w0 => ?_; simp only [initFr, avR, List.map_cons, List.map_nil]
    simp only [lineR, List.map_cons, List.map_nil]
    refine tw ?_; try with_reducible intro QQ hQQ
    ((refine cO 34 rfl rfl rfl (hLn) Try.func34 rfl ?_); refine tu ?_; try clear hQQ QQ); refine tw ?_; try with_reducible intro QQ hQQ
    refine ti ?_; try clear hQQ QQ
    refine tw ?_; try with_reducible intro QQ hQQ
    refine aw_ret ?_; refine ⟨.inr rfl, ?_⟩; simp only [resA, res1, go_sem, ↓reduceIte]
    try rfl
  rw [hv] at hLn
  obtain ⟨bs, May, D, M, rfl, rfl, rfl, rfl, hL, hMay, hD, hM⟩ := line_of hv
  have h6 := hL.n6
  have hp6 := pow64 h6
  have hp0 := Nat.two_pow_pos bs.length
  have hM' : M < FAR := by unfold FAR; omega
  have hev := ok_everyD (bales := bs.map castB) (may := May) (drift := D) (mist := M) (by rw [List.length_map]; omega)
  rw [List.length_map] at hev
  have hst := fun x (hx : x < 64) => ok_states63 (most := M) (tk := x) (asked := -1) hL hMay hD (by omega) hx (M : Int)
  have hrm := fun x => ref_mist (D := D) (May := May) (asked := -1) (tk := x) (m := M) hL hM'
  have hsl := fun x => st_len6 (D := D) (May := May) (most := M) (tk := x) (asked := -1) hL h6
  have hwy : whyC (bs.map castB) May D M = if clP D M bs (2 ^ bs.length - 1) = true then 0 else 4 := by
    unfold whyC
    rw [hv, if_pos rfl, nB_cast, List.length_map, Int.toNat_natCast, Int.toNat_natCast]
  have hcl : ∀ x, clP D M bs x = true ↔ M < Go.Cl.mist D bs x := fun x => decide_eq_true_iff
  rw [hwy]
  have hmin := fun hf => cl_min (D := D) (M := M) hL hf
  have hm0 : minF (clP D M bs) bs.length 0 = 2 ^ bs.length - 1 := rfl
  have hms : ∀ s, minF (clP D M bs) bs.length (s + 1) = if popc s < popc (minF (clP D M bs) bs.length s) ∧ clP D M bs s = true then s else minF (clP D M bs) bs.length s := fun s => rfl
  have hml : ∀ s, s ≤ 2 ^ bs.length → minF (clP D M bs) bs.length s < 64 := fun s => by
    induction s with
    | zero => intro _; rw [hm0]; omega
    | succ s ih =>
      intro hs
      rw [hms]
      split
      · omega
      · exact ih (by omega)
  simp only [nB_cast, Int.toNat_natCast, lineR_cast, rows_cast] at hLn hev ⊢
  obtain ⟨SL, hSL⟩ : ∃ SL : Nat → List St5, ∀ x, stL bs D May M x (-1) bs.length = SL x := ⟨_, fun _ => rfl⟩
  simp only [hSL] at *
  have hz : ∀ x, (SL x).length = 0 ↔ clP D M bs x = true := fun x => by rw [hcl, ← hrm]; exact List.length_eq_zero_iff
  generalize clP D M bs = CP at *
  clear hSL hrm hcl hv hwy
  generalize clS D M bs = cS at *
  generalize minF CP bs.length = MF at *
  clear hL
  have hecast : ((2 ^ bs.length - 1 : Nat) : Int) = ((2 ^ bs.length - 1 : Nat) : Int) := rfl
  generalize 2 ^ bs.length = X at *
  have h1 := hst (X - 1) (by omega)
  have hz1 := hz (X - 1)
  have hsl1 := hsl (X - 1)
  have hll1 : ((SL (X - 1)).map stP).length = (SL (X - 1)).length := List.length_map _
  cases hf : CP (X - 1)
  · have hn0 : 0 < (SL (X - 1)).length := by
      rcases Nat.eq_zero_or_pos (SL (X - 1)).length with e | e
      · rw [hz1.1 e] at hf; cases hf
      · exact e
    simp only [ansN, Bool.false_eq_true, if_false, show ((4 : Int) = 0) = False from by decide]
    clear hst hsl hmin hm0 hms hml hz hz1 hf
    refine fun_ok (nt := 41) (rs := [.tmp 2, .tmp 3]) Try.func29 rfl rfl rfl (by simp) fun Z w0 => ?_; simp only [initFr, avR, List.map_cons, List.map_nil]
    refine tw ?_; try with_reducible intro QQ hQQ
    ((refine cO 34 rfl rfl rfl (hLn) Try.func34 rfl ?_); refine tu ?_; try clear hQQ QQ); refine tw ?_; try with_reducible intro QQ hQQ
    refine ti ?_; try clear hQQ QQ
    refine tw ?_; try with_reducible intro QQ hQQ
    (refine cD 64 rfl rfl rfl (hev) Try.func64 rfl ?_); refine td ?_; try clear hQQ QQ
    (refine cG 63 rfl rfl rfl (h1) Try.func63 rfl ?_); refine td ?_; try clear hQQ QQ
    try clear hF
    have hF := hll1
    refine twF ?_; try with_reducible intro QQ hQQ
    refine tiF ?_; try clear hQQ QQ
    refine twF ?_; try with_reducible intro QQ hQQ
    refine aw_ret ?_; refine ⟨.inr rfl, ?_⟩; simp only [resA, res1, go_sem, ↓reduceIte]
    try rfl
  · have hn0 := hz1.2 hf
    have hmin := hmin hf
    simp only [ansN, if_true]
    rw [hmin]
    clear hmin
    have hz2 : ∀ x : Nat, x < 64 → FunOK Try.prog 39 [.one (iP (x : Int))] (.one (.one (iP (popc x : Nat)))) := fun x hx => ok_Size x hx
    have hpb : ∀ x : Nat, x < 64 → popc x ≤ 6 := fun x hx => popc6 hx
    clear hz1 hf
    refine fun_ok (nt := 41) (rs := [.tmp 2, .tmp 3]) Try.func29 rfl rfl rfl (by simp) fun Z w0 => ?_; simp only [initFr, avR, List.map_cons, List.map_nil]
    refine tw ?_; try with_reducible intro QQ hQQ
    ((refine cO 34 rfl rfl rfl (hLn) Try.func34 rfl ?_); refine tu ?_; try clear hQQ QQ); refine tw ?_; try with_reducible intro QQ hQQ
    refine ti ?_; try clear hQQ QQ
    refine tw ?_; try with_reducible intro QQ hQQ
    (refine cD 64 rfl rfl rfl (hev) Try.func64 rfl ?_); refine td ?_; try clear hQQ QQ
    (refine cG 63 rfl rfl rfl (h1) Try.func63 rfl ?_); refine td ?_; try clear hQQ QQ
    try clear hF
    have hF := hll1
    refine twF ?_; try with_reducible intro QQ hQQ
    refine tiF ?_; try clear hQQ QQ
    refine twF ?_; try with_reducible intro QQ hQQ
    ((refine cOF 64 rfl rfl rfl (hev) Try.func64 rfl ?_); refine tuF ?_; try clear hQQ QQ); refine twF ?_; try with_reducible intro QQ hQQ
    try clear hF
    have hF := hm0
    refine aw_weak (weak_keep [1, 4, 5] (by simp only [hF, go_sem, ↓reduceIte]; rfl)) ?_
    refine aw_loop_ov (ι := { s : Nat // s ≤ X }) (fun s => [(4, .one (.p (iP ((MF s.1 : Nat) : Int)))), (5, iA s.1)]) (fun _ => []) (fun s => X - s.1) ⟨0, by omega⟩ (by first | rfl | (simp only [hF, go_sem, ↓reduceIte]; first | done | rfl | (simp; try rfl))) ?_
    rintro ⟨s, hs⟩
    simp (disch := decide) only [ov, ovL, AL.get_nil, AL.get_eq, AL.get_ne, Option.getD_some, Option.getD_none]
    by_cases hsx : s < X
    · have hms1 := hms s
      have hml1 := hml s (by omega)
      have k1 := hz2 s (by omega)
      have k2 := hz2 (MF s) hml1
      have p1 := hpb s (by omega)
      have p2 := hpb (MF s) hml1
      have h2 := hst s (by omega)
      have hzz := hz s
      have hsl2 := hsl s
      have hll2 : ((SL s).map stP).length = (SL s).length := List.length_map _
      generalize popc s = ps at *
      generalize popc (MF s) = pm at *
      clear hms hml hst hsl hz hz2 hpb h1 hll1 hsl1 hLn
      by_cases hlt : ps < pm
      · cases hcp : CP s
        · have hn1 : ¬ (SL s).length = 0 := fun e => by rw [hzz.1 e] at hcp; cases hcp
          rw [hcp, if_neg (fun h => by cases h.2)] at hms1
          clear hzz hcp
          refine tw ?_; try with_reducible intro QQ hQQ
          ((refine cO 64 rfl rfl rfl (hev) Try.func64 rfl ?_); refine tu ?_; try clear hQQ QQ); refine tw ?_; try with_reducible intro QQ hQQ
          refine ti ?_; try clear hQQ QQ
          refine tw ?_; try with_reducible intro QQ hQQ
          (refine cO 39 rfl rfl rfl (k1) Try.func39 rfl ?_); refine ts ?_; try clear hQQ QQ
          (refine cO 39 rfl rfl rfl (k2) Try.func39 rfl ?_); refine ts ?_; try clear hQQ QQ
          (refine cB 63 rfl rfl rfl (h2) Try.func63 rfl ?_); refine ts ?_; try clear hQQ QQ
          try clear hF
          have hF := hll2
          refine twF ?_; try with_reducible intro QQ hQQ
          refine tiF ?_; try clear hQQ QQ
          refine twF ?_; try with_reducible intro QQ hQQ
          refine ⟨⟨s + 1, by omega⟩, ?_, weak_round ?_ (by first | rfl | (simp only [hF, go_sem, ↓reduceIte]))⟩
          rotate_left
          · simp only [hms1]
            (simp only [hF, go_sem, ↓reduceIte]; try rfl)
          · simp only; omega
        · have hn1 := hzz.2 hcp
          rw [hcp, if_pos ⟨hlt, rfl⟩] at hms1
          clear hzz hcp
          refine tw ?_; try with_reducible intro QQ hQQ
          ((refine cO 64 rfl rfl rfl (hev) Try.func64 rfl ?_); refine tu ?_; try clear hQQ QQ); refine tw ?_; try with_reducible intro QQ hQQ
          refine ti ?_; try clear hQQ QQ
          refine tw ?_; try with_reducible intro QQ hQQ
          (refine cO 39 rfl rfl rfl (k1) Try.func39 rfl ?_); refine ts ?_; try clear hQQ QQ
          (refine cO 39 rfl rfl rfl (k2) Try.func39 rfl ?_); refine ts ?_; try clear hQQ QQ
          (refine cB 63 rfl rfl rfl (h2) Try.func63 rfl ?_); refine ts ?_; try clear hQQ QQ
          try clear hF
          have hF := hll2
          refine twF ?_; try with_reducible intro QQ hQQ
          refine tiF ?_; try clear hQQ QQ
          refine twF ?_; try with_reducible intro QQ hQQ
          refine ⟨⟨s + 1, by omega⟩, ?_, weak_round ?_ (by first | rfl | (simp only [hF, go_sem, ↓reduceIte]))⟩
          rotate_left
          · simp only [hms1]
            (simp only [hF, go_sem, ↓reduceIte]; try rfl)
          · simp only; omega
      · rw [if_neg (fun h => hlt h.1)] at hms1
        clear hzz
        refine tw ?_; try with_reducible intro QQ hQQ
        ((refine cO 64 rfl rfl rfl (hev) Try.func64 rfl ?_); refine tu ?_; try clear hQQ QQ); refine tw ?_; try with_reducible intro QQ hQQ
        refine ti ?_; try clear hQQ QQ
        refine tw ?_; try with_reducible intro QQ hQQ
        (refine cO 39 rfl rfl rfl (k1) Try.func39 rfl ?_); refine ts ?_; try clear hQQ QQ
        ((refine cO 39 rfl rfl rfl (k2) Try.func39 rfl ?_); refine tu ?_; try clear hQQ QQ); refine tw ?_; try with_reducible intro QQ hQQ
        refine ti ?_; try clear hQQ QQ
        refine tw ?_; try with_reducible intro QQ hQQ
        refine ⟨⟨s + 1, by omega⟩, ?_, weak_round ?_ (by first | rfl | (simp only [go_sem, ↓reduceIte]))⟩
        rotate_left
        · simp only [hms1]
          (simp only [go_sem, ↓reduceIte]; try rfl)
        · simp only; omega
    · have hse : s = X := by omega
      subst hse
      clear hms hml hst hsl hz hz2 hpb h1 hll1 hsl1 hLn
      refine tw ?_; try with_reducible intro QQ hQQ
      ((refine cO 64 rfl rfl rfl (hev) Try.func64 rfl ?_); refine tu ?_; try clear hQQ QQ); refine tw ?_; try with_reducible intro QQ hQQ
      refine ti ?_; try clear hQQ QQ
      refine tw ?_; try with_reducible intro QQ hQQ
      refine aw_ret ?_; refine ⟨.inr rfl, ?_⟩; simp only [resA, res1, go_sem, ↓reduceIte]
      try rfl
end
end Go.Proofs.Ytgdhdikeicgndaa
/- THE LAW ClassLooks, walked. -/
namespace Go.Proofs.Ytgdhdikeicgndaa
open Go Go.RowKit Go.Sh Go.Pv Go.Cl
set_option maxHeartbeats 8000000
set_option maxRecDepth 20000
set_option pp.maxSteps 60000
attribute [local go_sem] eql4 neq4 bne_tf bne_ft beq_tf beq_ft span_eql span_neq
section
variable {bales : List (Int × Int × Int)} {may drift mist : Int}
theorem ok_ClassLooks (bale : Int) : FunOK Try.prog 4 [lineR bales may drift mist, .one (iP bale)] (.one (.one (.v (.bool true)))) := by
  have haw := ok_awake
  obtain ⟨B, hB, h40⟩ := ok_heavy (bales := bales) (may := may) (drift := drift) (mist := mist) 18
  cases B
  rotate_left
  · simp only [lineR] at hB ⊢
    refine fun_ok (nt := 107) (rs := [.tmp 4]) Try.func4 rfl rfl rfl (by simp) fun Z w0 => ?_; simp only [initFr, avR, List.map_cons, List.map_nil]
    refine tw ?_; try with_reducible intro QQ hQQ
    ((refine cO 12 rfl rfl rfl (hB) Try.func12 rfl ?_); refine tu ?_; try clear hQQ QQ); refine tw ?_; try with_reducible intro QQ hQQ
    refine ti ?_; try clear hQQ QQ
    refine tw ?_; try with_reducible intro QQ hQQ
    ((refine cO 13 rfl rfl rfl (haw) Try.func13 rfl ?_); refine tu ?_; try clear hQQ QQ); refine tw ?_; try with_reducible intro QQ hQQ
    refine aw_ret ?_; refine ⟨.inr rfl, ?_⟩; simp only [resA, res1, go_sem, ↓reduceIte]
  have hl := h40 rfl
  have w1 := ok_Proof (bales := bales) (may := may) (drift := drift) (mist := mist)
  have w2 := ok_ProofD (may := may) (drift := drift) (mist := mist) hl
  have a1 := ok_Mistaken (bales := bales) (may := may) (drift := drift) (mist := mist)
  have a2 := ok_MistakenD (bales := bales) (may := may) (drift := drift) (mist := mist)
  have k1 := ok_More (bales := bales) (may := may) (drift := drift) (mist := mist) bale
  have k2 := ok_MoreD (may := may) (drift := drift) (mist := mist) hl bale
  have l1 := ok_Clash (bales := bales) (may := may) (drift := drift) (mist := mist)
  have l2 := ok_ClashD (bales := bales) (may := may) (drift := drift) (mist := mist)
  unfold ansN at w1 w2 a1 a2 k1 k2 l1 l2
  generalize (if whyP bales may drift mist = 0 then ((proofN bales may drift mist : Nat) : Int) else 0) = x1 at *
  generalize (if (if lineB bales may drift mist = true then (0 : Int) else 1) = 0 then ((Go.Cl.mist drift.toNat (nB bales) (2 ^ bales.length - 1) : Nat) : Int) else 0) = x2 at *
  generalize (if whyM bales may drift mist bale = 0 then ((moreN bales may drift mist bale : Nat) : Int) else 0) = x3 at *
  generalize (if whyC bales may drift mist = 0 then ((clS drift.toNat mist.toNat (nB bales) : Nat) : Int) else 0) = x4 at *
  generalize whyP bales may drift mist = e1 at *
  generalize (if lineB bales may drift mist = true then (0 : Int) else 1) = e2 at *
  generalize whyM bales may drift mist bale = e3 at *
  generalize whyC bales may drift mist = e4 at *
  clear hl h40
  simp only [lineR] at *
  generalize bales.map row3 = rows at *
  refine fun_ok (nt := 107) (rs := [.tmp 4]) Try.func4 rfl rfl rfl (by simp) fun Z w0 => ?_; simp only [initFr, avR, List.map_cons, List.map_nil]
  refine tw ?_; try with_reducible intro QQ hQQ
  ((refine cO 12 rfl rfl rfl (hB) Try.func12 rfl ?_); refine tu ?_; try clear hQQ QQ); refine tw ?_; try with_reducible intro QQ hQQ
  refine ti ?_; try clear hQQ QQ
  refine tw ?_; try with_reducible intro QQ hQQ
  ((refine cO 22 rfl rfl rfl (w1) Try.func22 rfl ?_); refine tu ?_; try clear hQQ QQ); refine tw ?_; try with_reducible intro QQ hQQ
  ((refine cO 23 rfl rfl rfl (w2) Try.func23 rfl ?_); refine tu ?_; try clear hQQ QQ); refine tw ?_; try with_reducible intro QQ hQQ
  ((refine cO 24 rfl rfl rfl (a1) Try.func24 rfl ?_); refine tu ?_; try clear hQQ QQ); refine tw ?_; try with_reducible intro QQ hQQ
  ((refine cO 25 rfl rfl rfl (a2) Try.func25 rfl ?_); refine tu ?_; try clear hQQ QQ); refine tw ?_; try with_reducible intro QQ hQQ
  ((refine cO 26 rfl rfl rfl (k1) Try.func26 rfl ?_); refine tu ?_; try clear hQQ QQ); refine tw ?_; try with_reducible intro QQ hQQ
  ((refine cO 27 rfl rfl rfl (k2) Try.func27 rfl ?_); refine tu ?_; try clear hQQ QQ); refine tw ?_; try with_reducible intro QQ hQQ
  ((refine cO 28 rfl rfl rfl (l1) Try.func28 rfl ?_); refine tu ?_; try clear hQQ QQ); refine tw ?_; try with_reducible intro QQ hQQ
  (refine cO 29 rfl rfl rfl (l2) Try.func29 rfl ?_); refine ts ?_; try clear hQQ QQ
  (repeat (first | apply aw_seq | apply aw_block | apply aw_skip | apply aw_label | apply aw_exit | ((first | refine aw_region (hideO fun QQ hQQ => ?_) | refine aw_draw mixed (hideD fun QQ hQQ => ?_)); simp (maxSteps := 400000) (disch := first | decide | omega) only [beq_self_eq_true, Bool.and_self, go_sem, ↓reduceIte]; try (first | with_reducible refine unhide hQQ ?_ | refine ⟨by kernel_rfl, unhide hQQ ?_⟩); clear hQQ QQ) | with_reducible first | apply then_n | apply block_n | apply then_x | apply then_r | apply nog_n | apply nog_r | apply block_r | apply block_e (by decide) | apply block_x (by decide)))
  ((refine callO_ok rfl rfl 13 true rfl (by simp (disch := first | decide | omega) only [beq_self_eq_true, Bool.and_self, go_sem, ↓reduceIte]; try rfl) (fun _ => rfl) (haw) Try.func13 rfl (by decide) ?_); simp (maxSteps := 400000) (disch := first | decide | omega) only [beq_self_eq_true, Bool.and_self, go_sem, ↓reduceIte]; try (with_reducible refine unhide hQQ ?_; clear hQQ QQ)); (repeat (first | apply aw_seq | apply aw_block | apply aw_skip | apply aw_label | apply aw_exit | ((first | refine aw_region (hideO fun QQ hQQ => ?_) | refine aw_draw mixed (hideD fun QQ hQQ => ?_)); simp (maxSteps := 400000) (disch := first | decide | omega) only [beq_self_eq_true, Bool.and_self, go_sem, ↓reduceIte]; try (first | with_reducible refine unhide hQQ ?_ | refine ⟨by kernel_rfl, unhide hQQ ?_⟩); clear hQQ QQ) | with_reducible first | apply then_n | apply block_n | apply then_x | apply then_r | apply nog_n | apply nog_r | apply block_r | apply block_e (by decide) | apply block_x (by decide)))
  refine aw_ret ?_; refine ⟨.inr rfl, ?_⟩; simp only [resA, res1, go_sem, ↓reduceIte]
end
end Go.Proofs.Ytgdhdikeicgndaa
