/- THE LAW ClassWide, walked. -/
import Derived.Test.YtgdhdikeicgndaaWdL
import Derived.Test.YtgdhdikeicgndaaWdM
import Derived.Test.YtgdhdikeicgndaaWdD
import Derived.Test.YtgdhdikeicgndaaPvNw
import Derived.Test.YtgdhdikeicgndaaWcJ
import Derived.Test.YtgdhdikeicgndaaKwc8
set_option linter.all false
namespace Go.Proofs.Ytgdhdikeicgndaa
open Go Go.RowKit Go.Sh Go.Pv Go.Cl
set_option maxHeartbeats 8000000
set_option maxRecDepth 20000
set_option pp.maxSteps 60000
attribute [local go_sem] eql4 neq4 bne_tf bne_ft beq_tf beq_ft span_eql span_neq bale_neq
theorem c_copyAt {Z : Zn} {w0 : World} {cap : Nat → Prop} {nt : Nat} {rd : Option Nat} {pan : List PanicEntry → St → Prop} {df : Option Nat} {dk : List Nat} {rg : Bool} {fr : List (Nat × AV)} {hp : List (Nat × Obj')} {nx nw : Nat} {bs : List (Nat × Nat × Nat)} {may drift mist : Int} (h : LOK bs) (hnw : AL.get hp nw = none) :
    CallF ⟨Try.prog, Z, w0, cap, nt, rd, pan, df, dk, rg⟩ 37 [.agg [.p (.sl (bs.map baleP)), .p (iP may), .p (iP drift), .p (iP mist)]] ⟨fr, hp, nx⟩ fun st' av => st' = St.upd ⟨fr, hp, nx⟩ (some (nw, .arr 44 3 (bs.map baleP) false)) ∧ av = .agg [.own nw bs.length, .p (iP may), .p (iP drift), .p (iP mist)] := by
  have h6 := h.n6
  have hll : (bs.map baleP).length = bs.length := List.length_map _
  have hb : bs.length * 24 ≤ 140737488355328 := by omega
  have hrk : rowsK 3 (bs.map baleP) := by rw [rowsK_bale]; trivial
  have := callF_newAt (K := ⟨Try.prog, Z, w0, cap, nt, rd, pan, df, dk, rg⟩) (fid := 37) (avs := [.agg [.p (.sl (bs.map baleP)), .p (iP may), .p (iP drift), .p (iP mist)]]) (st := ⟨fr, hp, nx⟩) (nt := 9) (rs := [.cell 2 24]) nw hnw [.agg [.sl (bs.map baleP), iP may, iP drift, iP mist]] 44 3 (bs.map baleP) [iP may, iP drift, iP mist] rfl Try.func37 rfl rfl rfl (by simp) ?_ ?_ (fun Z w0 => ?_)
  · rw [hll] at this
    exact this
  · intro i row j c hi hj
    rw [List.getElem?_map] at hi
    obtain ⟨x, _, rfl⟩ := Option.map_eq_some_iff.1 hi
    rcases j with _ | _ | _ | j
    · simp [baleP] at hj; exact ⟨_, hj.symm⟩
    · simp [baleP] at hj; exact ⟨_, hj.symm⟩
    · simp [baleP] at hj; exact ⟨_, hj.symm⟩
    · simp [baleP] at hj
  · intro p hp
    simp only [List.mem_cons, List.mem_nil_iff, or_false] at hp
    rcases hp with rfl | rfl | rfl
    · exact ⟨_, rfl⟩
    · exact ⟨_, rfl⟩
    · exact ⟨_, rfl⟩
  simp only [initFr, avR, List.map_cons, List.map_nil, hll]
  try clear hF
  have hF := And.intro hll (And.intro hb (hrk))
  refine twF ?_; try with_reducible intro QQ hQQ
  refine aw_ret ⟨.inr rfl, 2, _, by simp (disch := first | decide | omega) only [go_sem, ↓reduceIte]; try rfl, by simp (disch := first | decide | omega) only [go_sem, ↓reduceIte]; try rfl⟩
/-- Several ways meet again: the rest of the code is walked once for all of them. -/
theorem aw_mergeN {K : Kx} {c : Code} {Q : Exit → St → Prop} {ι : Type} (R : ι → Prop) (ST : ι → St) {G : Prop} (h1 : (∀ i, R i → AW K c Q (ST i)) → G) (h2 : ∀ i, R i → AW K c Q (ST i)) : G := h1 h2
section
variable {bales : List (Int × Int × Int)} {may drift mist : Int}
theorem ok_ClassWide (which what : Int) (hw : 0 ≤ which ∧ which ≤ 255) (hw2 : 0 ≤ what ∧ what ≤ 255) : FunOK Try.prog 11 [lineR bales may drift mist, .one (.v (.int .u8 which)), .one (.v (.int .u8 what))] (.one (.one (.v (.bool true)))) := by
  have haw := ok_awake
  have hfi := ok_fine (bales := bales) (may := may) (drift := drift) (mist := mist)
  cases hv : lineB bales may drift mist
  · rw [hv] at hfi
    clear hv
    refine fun_ok (nt := 331) (rs := [.tmp 6]) Try.func11 rfl rfl rfl (by simp) fun Z w0 => ?_; simp only [initFr, avR, List.map_cons, List.map_nil]
    simp only [lineR, List.map_cons, List.map_nil]
    refine tw ?_; try with_reducible intro QQ hQQ
    ((refine cO 30 rfl rfl rfl (hfi) Try.func30 rfl ?_); refine tu ?_; try clear hQQ QQ); refine tw ?_; try with_reducible intro QQ hQQ
    refine ti ?_; try clear hQQ QQ
    refine tw ?_; try with_reducible intro QQ hQQ
    ((refine cO 13 rfl rfl rfl (haw) Try.func13 rfl ?_); refine tu ?_; try clear hQQ QQ); refine tw ?_; try with_reducible intro QQ hQQ
    refine aw_ret ?_; refine ⟨.inr rfl, ?_⟩; simp only [resA, res1, go_sem, ↓reduceIte]
  rw [hv] at hfi
  obtain ⟨bs, May, D, M, rfl, rfl, rfl, rfl, hL, hMay, hD, hM⟩ := line_of hv
  obtain ⟨wh, rfl⟩ : ∃ j : Nat, which = j := ⟨which.toNat, by omega⟩
  obtain ⟨wt, rfl⟩ : ∃ j : Nat, what = j := ⟨what.toNat, by omega⟩
  have hcv := conv5_3 wh hw
  have hcv2 := conv5_3 wt hw2
  have hn1 := hL.n1
  have hn6 := hL.n6
  have hM' : M < FAR := by unfold FAR; omega
  have hrm : ∀ (T : TypeId) (x y : Operand), binA Try.prog .rem T x y (.int .i64 (wh : Int)) (.int .i64 (bs.length : Int)) = some (.int .i64 ((wh % bs.length : Nat) : Int)) := fun T x y => bin_rem_nat T x y (by omega)
  have hi : wh % bs.length < bs.length := Nat.mod_lt _ (by omega)
  have hr2 : ∀ (T : TypeId) (x y : Operand), binA Try.prog .rem T x y (.int .i64 (wt : Int)) (.int .i64 2) = some (.int .i64 ((wt % 2 : Nat) : Int)) := fun T x y => bin_rem_nat T x y (d := 2) (by omega)
  have hq2 : ∀ (T : TypeId) (x y : Operand), binA Try.prog .quo T x y (.int .i64 (wt : Int)) (.int .i64 2) = some (.int .i64 ((wt / 2 : Nat) : Int)) := fun T x y => bin_quo_two T x y (by omega)
  have hrk : ∀ (T : TypeId) (x y : Operand), binA Try.prog .rem T x y (.int .i64 ((wt / 2 : Nat) : Int)) (.int .i64 (bs.length : Int)) = some (.int .i64 ((wt / 2 % bs.length : Nat) : Int)) := fun T x y => bin_rem_nat T x y (by omega)
  have hk : wt / 2 % bs.length < bs.length := Nat.mod_lt _ (by omega)
  have he : wt % 2 ≤ 1 := by omega
  generalize wh % bs.length = i at *
  generalize wt / 2 % bs.length = k at *
  generalize wt / 2 = wt2 at *
  generalize wt % 2 = e1 at *
  obtain ⟨B, Dv, Mv, hgR, hVs⟩ := wide_three hL hD hM hi he May
  have hA := ans4 (May := May) hL hMay hD hM hk
  have hrv := rev_of (D := D) (May := May) hL hM' hk
  have hAt := ans4 (May := May) (k := bs.length - 1 - k) hL.rev hMay hD hM (by rw [List.length_reverse]; omega)
  have hV : ∀ v, v < 3 → _ := fun v hv => ans4 (May := May) (k := k) (hVs v hv).1 hMay (hVs v hv).2.1 (hVs v hv).2.2.1 (by rw [(hVs v hv).2.2.2.1]; exact hk)
  have hrel : ∀ v, v < 3 → _ := fun v hv => rel_of (May := May) (k := k) (hVs v hv).2.2.2.2.1 hL (hVs v hv).1 hM' (by unfold FAR; have := (hVs v hv).2.2.1; omega) hk
  have hmm : ∀ v, v < 3 → mN D bs ≤ mN (Dv v) (B v) := fun v hv => (hVs v hv).2.2.2.2.2
  have hec := fun v => eN_cases (D := Dv v) (M := Mv v) (bs := B v)
  have hl0 := lN_le (D := D) (M := M) (May := May) (bs := bs)
  have hm180 : mN D bs ≤ 180 := mist_180 hL _
  have hgz := hL.ba i hi
  have hll : (bs.map baleP).length = bs.length := List.length_map _
  have hg : ∀ j, j < bs.length → (bs.map baleP)[j]? = some [iP ((bG bs j).1 : Int), iP ((bG bs j).2.1 : Int), iP ((bG bs j).2.2 : Int)] := fun j hj => by rw [List.getElem?_map, get_someBale hj]; rfl
  simp only [lineR_cast, rows_cast] at hfi ⊢
  have hmx1B : (if (M : Int) - 1 > 0 then ((M - 1 : Nat) : Int) else 0) = ((M - 1 : Nat) : Int) := by split <;> omega
  have hmx2B : (if (D : Int) - 1 > 0 then ((D - 1 : Nat) : Int) else 0) = ((D - 1 : Nat) : Int) := by split <;> omega
  have hmx1 : (if (M : Int) - 1 > 0 then (M : Int) - 1 else 0) = ((M - 1 : Nat) : Int) := by split <;> omega
  have hmx2 : (if (D : Int) - 1 > 0 then (D : Int) - 1 else 0) = ((D - 1 : Nat) : Int) := by split <;> omega
  have hgi := hg i hi
  have hgs : ∀ r : List PV, ((bs.map baleP).set i r)[i]? = some r := fun r => by rw [List.getElem?_set_self (by rw [hll]; exact hi)]
  have hss : ∀ r r2 : List PV, ((bs.map baleP).set i r).set i r2 = (bs.map baleP).set i r2 := fun r r2 => by rw [List.set_set]
  have hls : ∀ r : List PV, ((bs.map baleP).set i r).length = bs.length := fun r => by rw [List.length_set]; exact hll
  have hone : (oneL bs i e1).map baleP = if (bG bs i).2.1 < (bG bs i).1 then (bs.map baleP).set i [iP ((bG bs i).1 : Int), iP (((bG bs i).2.1 + 1 : Nat) : Int), iP (((bG bs i).2.2 + e1 : Nat) : Int)] else bs.map baleP := by
    unfold oneL
    split
    · rw [List.map_set]; rfl
    · rfl
  have hconv2 : convA Try.prog 5 3 (.int .u8 (wt : Int)) = some (.int .i64 (wt : Int)) := hcv2
  refine fun_ok (nt := 331) (rs := [.tmp 6]) Try.func11 rfl rfl rfl (by simp) fun Z w0 => ?_; simp only [initFr, avR, List.map_cons, List.map_nil]
  refine tw ?_; try with_reducible intro QQ hQQ
  ((refine cO 30 rfl rfl rfl (hfi) Try.func30 rfl ?_); refine tu ?_; try clear hQQ QQ); refine tw ?_; try with_reducible intro QQ hQQ
  refine ti ?_; try clear hQQ QQ
  try clear hF
  have hF := And.intro hll (And.intro hcv (hrm))
  refine twF ?_; try with_reducible intro QQ hQQ
  refine callD_N 1 _ _ rfl rfl (by simp (disch := first | decide | omega) only [hF, go_sem, ↓reduceIte]; try rfl) (by simp (disch := first | decide | omega) only [hF, go_sem, ↓reduceIte]; try rfl) Try.func37 rfl (by decide) (by simp (disch := first | decide | omega) only [hF, go_sem, ↓reduceIte]; try rfl) (fun fr hp nx hn => c_copyAt hL hn) ?_; refine tdF ?_; try clear hQQ QQ
  refine callD_N 2 _ _ rfl rfl (by simp (disch := first | decide | omega) only [hF, go_sem, ↓reduceIte]; try rfl) (by simp (disch := first | decide | omega) only [hF, go_sem, ↓reduceIte]; try rfl) Try.func37 rfl (by decide) (by simp (disch := first | decide | omega) only [hF, go_sem, ↓reduceIte]; try rfl) (fun fr hp nx hn => c_copyAt hL hn) ?_; refine tdF ?_; try clear hQQ QQ
  refine callD_N 3 _ _ rfl rfl (by simp (disch := first | decide | omega) only [hF, go_sem, ↓reduceIte]; try rfl) (by simp (disch := first | decide | omega) only [hF, go_sem, ↓reduceIte]; try rfl) Try.func37 rfl (by decide) (by simp (disch := first | decide | omega) only [hF, go_sem, ↓reduceIte]; try rfl) (fun fr hp nx hn => c_copyAt hL hn) ?_; refine tdF ?_; try clear hQQ QQ
  refine callD_N 4 _ _ rfl rfl (by simp (disch := first | decide | omega) only [hF, go_sem, ↓reduceIte]; try rfl) (by simp (disch := first | decide | omega) only [hF, go_sem, ↓reduceIte]; try rfl) Try.func37 rfl (by decide) (by simp (disch := first | decide | omega) only [hF, go_sem, ↓reduceIte]; try rfl) (fun fr hp nx hn => c_copyAt hL hn) ?_; refine tdF ?_; try clear hQQ QQ
  apply aw_mergeN (ι := Unit) (fun _ => True) (fun _ => ⟨[(2, .one (.p (.v (.int .u8 wt)))), (3, .one (.box 0 0)), (7, iA bs.length), (9, .one (.box 5 0)), (10, .one (.box 6 0)), (11, .one (.box 7 0)), (12, .one (.box 8 0))], [(0, .box [.p (.sl (bs.map baleP)), .p (iP (May : Int)), .p (iP (D : Int)), .p (iP (M : Int))]), (1, .arr 44 3 (bs.map baleP) false), (2, .arr 44 3 (bs.map baleP) false), (3, .arr 44 3 ((oneL bs i e1).map baleP) false), (4, .arr 44 3 (bs.map baleP) false), (5, .box [.own 1 bs.length, .p (iP (May : Int)), .p (iP (D : Int)), .p (iP ((M - 1 : Nat) : Int))]), (6, .box [.own 2 bs.length, .p (iP (May : Int)), .p (iP ((D - 1 : Nat) : Int)), .p (iP (M : Int))]), (7, .box [.own 3 bs.length, .p (iP (May : Int)), .p (iP (D : Int)), .p (iP (M : Int))]), (8, .box [.own 4 bs.length, .p (iP (May : Int)), .p (iP (D : Int)), .p (iP (M : Int))])], 9⟩)
  · intro hrest
    by_cases hlt : (bG bs i).2.1 < (bG bs i).1
    · rw [if_pos hlt] at hone
      try clear hF
      have hF := And.intro hll (And.intro hgi (And.intro hgs (And.intro hss (And.intro hls (And.intro hmx1 (And.intro hmx1B (And.intro hmx2 (And.intro hmx2B (And.intro hconv2 (hr2))))))))))
      refine twF ?_; try with_reducible intro QQ hQQ
      refine tiF ?_; try clear hQQ QQ
      (repeat (first | apply aw_seq | apply aw_block | apply aw_skip | apply aw_label)); (refine tgF ?_; try with_reducible intro QQ hQQ)
      (repeat (first | apply aw_seq | apply aw_block | apply aw_skip | apply aw_label)); (refine tgF ?_; try with_reducible intro QQ hQQ)
      (repeat (first | apply aw_seq | apply aw_skip))
      refine aw_weak (weak_restrict [2, 3, 7, 9, 10, 11, 12] [0, 1, 2, 3, 4, 5, 6, 7, 8] 9 (by simp only [hF, go_sem, ↓reduceIte]; rfl)) ?_
      have := hrest () trivial
      rw [hone] at this
      exact this
    · rw [if_neg hlt] at hone
      try clear hF
      have hF := And.intro hll (And.intro hgi (And.intro hgs (And.intro hss (And.intro hls (And.intro hmx1 (And.intro hmx1B (And.intro hmx2 (And.intro hmx2B (And.intro hconv2 (hr2))))))))))
      refine twF ?_; try with_reducible intro QQ hQQ
      refine tiF ?_; try clear hQQ QQ
      (repeat (first | apply aw_seq | apply aw_skip))
      refine aw_weak (weak_restrict [2, 3, 7, 9, 10, 11, 12] [0, 1, 2, 3, 4, 5, 6, 7, 8] 9 (by simp only [hF, go_sem, ↓reduceIte]; rfl)) ?_
      have := hrest () trivial
      rw [hone] at this
      exact this
  · rintro _ -
    clear hone hgs hss hls hgi
    have hrz : rvL bs 0 = bs := rfl
    try clear hF
    have hF := And.intro hll (hrz)
    refine twF ?_; try with_reducible intro QQ hQQ
    refine aw_weak (weak_keep [2, 3, 7, 9, 10, 11, 12, 106, 107] (by simp only [hF, go_sem, ↓reduceIte]; rfl)) ?_
    refine aw_loop_ov (ι := { j : Nat // j ≤ bs.length }) (fun j => [(107, iA j.1)]) (fun j => [(4, .arr 44 3 ((rvL bs j.1).map baleP) false)]) (fun j => bs.length - j.1) ⟨0, by omega⟩ (by first | rfl | (simp only [hF, go_sem, ↓reduceIte]; first | done | rfl | (simp; try rfl))) ?_
    rintro ⟨j, hj⟩
    simp (disch := decide) only [ov, ovL, AL.get_nil, AL.get_eq, AL.get_ne, Option.getD_some, Option.getD_none]
    have hrl : ((rvL bs j).map baleP).length = bs.length := by rw [List.length_map, rvL_len hj]
    by_cases hjl : j < bs.length
    · have hgj := hg (bs.length - 1 - j) (by omega)
      have hgr : ((rvL bs j).map baleP)[j]? = some [iP ((bG (rvL bs j) j).1 : Int), iP ((bG (rvL bs j) j).2.1 : Int), iP ((bG (rvL bs j) j).2.2 : Int)] := by
        rw [List.getElem?_map, get_someBale (by rw [rvL_len hj]; exact hjl)]; rfl
      have hn1 : (bs.length : Int) - 1 = ((bs.length - 1 : Nat) : Int) := by omega
      have hn2 : ((bs.length - 1 : Nat) : Int) - (j : Int) = ((bs.length - 1 - j : Nat) : Int) := by omega
      have hrow : ((rvL bs j).map baleP).set j [iP ((bG bs (bs.length - 1 - j)).1 : Int), iP ((bG bs (bs.length - 1 - j)).2.1 : Int), iP ((bG bs (bs.length - 1 - j)).2.2 : Int)] = (rvL bs (j + 1)).map baleP := by
        rw [← rvL_set hjl, List.map_set]; rfl
      try clear hF
      have hF := And.intro hll (And.intro hrl (And.intro hgj (And.intro hgr (And.intro hn1 (hn2)))))
      refine twF ?_; try with_reducible intro QQ hQQ
      refine tiF ?_; try clear hQQ QQ
      refine twF ?_; try with_reducible intro QQ hQQ
      refine ⟨⟨j + 1, by omega⟩, ?_, weak_round ?_ (by first | rfl | (simp only [hF, go_sem, ↓reduceIte]))⟩
      rotate_left
      · simp only [← hrow]
        (simp only [hF, go_sem, ↓reduceIte]; try rfl)
      · simp only; omega
    · have hje : j = bs.length := by omega
      subst hje
      try clear hF
      have hF := hrl
      refine twF ?_; try with_reducible intro QQ hQQ
      refine tiF ?_; try clear hQQ QQ
      (repeat (first | apply aw_seq | apply aw_skip | with_reducible first | apply then_n | apply block_n | apply then_x | apply block_x (by decide) | apply block_e (by decide)))
      have htk1 : (bs.map baleP).take bs.length = bs.map baleP := List.take_of_length_le (by rw [hll]; exact Nat.le_refl _)
      have htk3 : ((oneL bs i e1).map baleP).take bs.length = (oneL bs i e1).map baleP := List.take_of_length_le (by rw [List.length_map, oneL_len]; exact Nat.le_refl _)
      have htk4 : ((rvL bs bs.length).map baleP).take bs.length = bs.reverse.map baleP := by rw [List.take_of_length_le (by rw [hrl]; exact Nat.le_refl _), rvL_all]
      refine aw_weak (weak_share 1 (by rfl)) ?_
      refine aw_weak (weak_share 2 (by rfl)) ?_
      refine aw_weak (weak_share 3 (by rfl)) ?_
      refine aw_weak (weak_share 4 (by rfl)) ?_
      refine aw_weak (weak_dataB 5 0 (by rfl) (by rfl) (by rfl)) ?_
      refine aw_weak (weak_dataB 6 0 (by rfl) (by rfl) (by rfl)) ?_
      refine aw_weak (weak_dataB 7 0 (by rfl) (by rfl) (by rfl)) ?_
      refine aw_weak (weak_dataB 8 0 (by rfl) (by rfl) (by rfl)) ?_
      try clear hF
      have hF := And.intro htk1 (And.intro htk3 (htk4))
      refine aw_weak (weak_restrict [2, 3, 7, 9, 10, 11, 12] [0, 5, 6, 7, 8] 9 (by simp only [hF, go_sem, ↓reduceIte]; rfl)) ?_
      unfold lnA at hA hAt hV
      obtain ⟨A14, A16, A20, A24⟩ := hA
      obtain ⟨B14, B16, B20, B24⟩ := hAt
      rw [hrv.1, hrv.2.1, hrv.2.2.1] at B14
      rw [hrv.1, hrv.2.2.2.1, hrv.2.2.2.2.1] at B16
      rw [hrv.1, hrv.2.2.2.2.2.1] at B20
      rw [hrv.2.2.2.2.2.2] at B24
      try clear hF
      have hF := And.intro hll (And.intro hconv2 (And.intro hq2 (hrk)))
      refine twF ?_; try with_reducible intro QQ hQQ
      refine callS_ok rfl rfl 37 (by simp (disch := first | decide | omega) only [hF, go_sem, ↓reduceIte]; try rfl) (by simp (disch := first | decide | omega) only [hF, go_sem, ↓reduceIte]; try rfl) Try.func37 rfl (by decide) (CallF.mono (c_copyN hL) ?_); rintro _ _ ⟨rfl, rfl⟩; refine tsF ?_; try clear hQQ QQ
      refine twF ?_; try with_reducible intro QQ hQQ
      ((refine cOF 14 rfl rfl rfl (A14) Try.func14 rfl ?_); refine tuF ?_; try clear hQQ QQ); refine twF ?_; try with_reducible intro QQ hQQ
      ((refine cOF 16 rfl rfl rfl (A16) Try.func16 rfl ?_); refine tuF ?_; try clear hQQ QQ); refine twF ?_; try with_reducible intro QQ hQQ
      ((refine cOF 20 rfl rfl rfl (A20) Try.func20 rfl ?_); refine tuF ?_; try clear hQQ QQ); refine twF ?_; try with_reducible intro QQ hQQ
      ((refine cOF 24 rfl rfl rfl (A24) Try.func24 rfl ?_); refine tuF ?_; try clear hQQ QQ); refine twF ?_; try with_reducible intro QQ hQQ
      refine tiF ?_; try clear hQQ QQ
      refine aw_weak (weak_restrict [3, 7, 9, 10, 11, 12, 15, 16, 17, 18, 19, 20, 21, 22, 23, 24, 25] [0, 5, 6, 7, 8, 9, 10, 11, 12] 13 (by simp only [hF, go_sem, ↓reduceIte]; rfl)) ?_
      dsimp only [List.set]
      (refine aw_skip ?_); (repeat with_reducible first | apply then_n | apply block_n | apply then_x | apply then_r | apply nog_n | apply nog_r | apply block_r | apply block_e (by decide) | apply block_x (by decide))
      exact wide_tail (i := i) (e1 := e1) hL hk hgR (fun v hv => (hV v hv).1) (fun v hv => (hV v hv).2.1) (fun v hv => (hV v hv).2.2.1) (fun v hv => (hV v hv).2.2.2) hrel hmm B14 B16 B20 B24 hm180 _ _
end
end Go.Proofs.Ytgdhdikeicgndaa
