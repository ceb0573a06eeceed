/- classer: the law Keeps, walked. -/
import Derived.Test.YtgdhdikeicgndaaKwc8
import Derived.Test.YtgdhdikeicgndaaKcx18
set_option linter.all false
namespace Go.Proofs.Ytgdhdikeicgndaa
open Go Go.RowKit Go.Sh Go.Pv Go.Cl
set_option maxHeartbeats 4000000
set_option maxRecDepth 20000
set_option pp.maxSteps 60000
attribute [local go_sem] eql4 neq4 bne_tf bne_ft beq_tf beq_ft span_eql span_neq
section
variable {bales : List (Int × Int × Int)} {may drift mist : Int}
theorem ok_ClassKeeps : FunOK Try.prog 8 [lineR bales may drift mist] (.one (.one (.v (.bool true)))) := by
  have haw := ok_awake
  have hfi := ok_fine (bales := bales) (may := may) (drift := drift) (mist := mist)
  cases hv : lineB bales may drift mist
  · rw [hv] at hfi
    clear hv
    refine fun_ok (nt := 233) (rs := [.tmp 2]) Try.func8 rfl rfl rfl (by simp) fun Z w0 => ?_; simp only [initFr, avR, List.map_cons, List.map_nil]
    simp only [lineR, List.map_cons, List.map_nil]
    refine tw ?_; try with_reducible intro QQ hQQ
    ((refine cO 30 rfl rfl rfl (hfi) Try.func30 rfl ?_); refine tu ?_; try clear hQQ QQ); refine tw ?_; try with_reducible intro QQ hQQ
    refine ti ?_; try clear hQQ QQ
    refine tw ?_; try with_reducible intro QQ hQQ
    ((refine cO 13 rfl rfl rfl (haw) Try.func13 rfl ?_); refine tu ?_; try clear hQQ QQ); refine tw ?_; try with_reducible intro QQ hQQ
    refine aw_ret ?_; refine ⟨.inr rfl, ?_⟩; simp only [resA, res1, go_sem, ↓reduceIte]
  rw [hv] at hfi
  have hLi := ok_Line (bales := bales) (may := may) (drift := drift) (mist := mist)
  have hPr := ok_Proof (bales := bales) (may := may) (drift := drift) (mist := mist)
  have hAl := ok_All (bales := bales) (may := may) (drift := drift) (mist := mist)
  cases hc : canB bales drift mist
  · have hw : whyL bales may drift mist true = 10 := by simp [whyL, hv, hc]
    have hwp : whyP bales may drift mist = 10 := by unfold whyP; rw [hw]; rfl
    rw [hw] at hLi hAl
    rw [hwp] at hPr
    simp only [ansR, ansN, show ((10 : Int) = 0) = False from by decide, if_false] at hLi hPr hAl
    clear hv hc hw hwp
    refine fun_ok (nt := 233) (rs := [.tmp 2]) Try.func8 rfl rfl rfl (by simp) fun Z w0 => ?_; simp only [initFr, avR, List.map_cons, List.map_nil]
    simp only [lineR, List.map_cons, List.map_nil] at hfi hLi hPr hAl ⊢
    refine tw ?_; try with_reducible intro QQ hQQ
    ((refine cO 30 rfl rfl rfl (hfi) Try.func30 rfl ?_); refine tu ?_; try clear hQQ QQ); refine tw ?_; try with_reducible intro QQ hQQ
    refine ti ?_; try clear hQQ QQ
    refine tw ?_; try with_reducible intro QQ hQQ
    ((refine cO 20 rfl rfl rfl (hLi) Try.func20 rfl ?_); refine tu ?_; try clear hQQ QQ); refine tw ?_; try with_reducible intro QQ hQQ
    ((refine cO 22 rfl rfl rfl (hPr) Try.func22 rfl ?_); refine tu ?_; try clear hQQ QQ); refine tw ?_; try with_reducible intro QQ hQQ
    ((refine cO 16 rfl rfl rfl (hAl) Try.func16 rfl ?_); refine tu ?_; try clear hQQ QQ); refine tw ?_; try with_reducible intro QQ hQQ
    refine ti ?_; try clear hQQ QQ
    refine tw ?_; try with_reducible intro QQ hQQ
    ((refine cO 13 rfl rfl rfl (haw) Try.func13 rfl ?_); refine tu ?_; try clear hQQ QQ); refine tw ?_; try with_reducible intro QQ hQQ
    refine aw_ret ?_; refine ⟨.inr rfl, ?_⟩; simp only [resA, res1, go_sem, ↓reduceIte]
  obtain ⟨bs, May, D, M, rfl, rfl, rfl, rfl, hL, hMay, hD, hM⟩ := line_of hv
  have hM' : M < FAR := by unfold FAR; omega
  have hc2 := hc
  rw [canB_cast] at hc2
  have he : ∃ f, AllT D M bs f := (mist_iff hL hM').1 (of_decide_eq_true hc2)
  have hw : whyL (bs.map castB) May D M true = 0 := by simp [whyL, hv, hc]
  have hW := fun (i : Nat) (hi : i < bs.length) => ok_Wrong (bales := bs.map castB) (may := May) (drift := D) (mist := M) (i : Int)
  have hK := fun (i : Nat) (hi : i < bs.length) => ok_Keeps (bales := bs.map castB) (may := May) (drift := D) (mist := M) (i : Int)
  have hib : ∀ i : Nat, i < bs.length → inB (i : Int) 0 (((bs.map castB).length : Int) - 1) = true := fun i hi => by
    rw [List.length_map]; simp [inB]; omega
  have hwp : whyP (bs.map castB) May D M = if (0 : Int) ≤ fstI D M May bs bs.length then 0 else 4 := by
    unfold whyP
    rw [hw, nB_cast, List.length_map, Int.toNat_natCast, Int.toNat_natCast, Int.toNat_natCast, any_nev]
    by_cases h : (0 : Int) ≤ fstI D M May bs bs.length
    · simp [h]
    · simp [h]
  have hpn : proofN (bs.map castB) May D M = firstF (nevB D M May bs) (List.range bs.length) := by
    unfold proofN
    rw [nB_cast, List.length_map, Int.toNat_natCast, Int.toNat_natCast, Int.toNat_natCast]
  rw [hwp, hpn] at hPr
  rw [hw] at hLi hAl
  simp only [ansR, ansN, if_true, nB_cast, Int.toNat_natCast, lineR_cast, rows_cast] at hLi hAl hPr hfi
  have hW' : ∀ i : Nat, i < bs.length → FunOK Try.prog 14 [.agg [.sl (bs.map baleP), iP (May : Int), iP (D : Int), iP (M : Int)], .one (iP (i : Int))] (.tup [.agg [iP ((wrongS D M bs i).1 : Int), iP ((wrongS D M bs i).2 : Int)], .one (iP 0)]) := fun i hi => by
    have := hW i hi
    rw [hib i hi, hw] at this
    simp only [ansR, if_true, nB_cast, Int.toNat_natCast, lineR_cast] at this
    exact this
  have hK' : ∀ i : Nat, i < bs.length → FunOK Try.prog 18 [.agg [.sl (bs.map baleP), iP (May : Int), iP (D : Int), iP (M : Int)], .one (iP (i : Int))] (.tup [.one (iP ((toldN D M May bs i : Nat) : Int)), .one (iP 0)]) := fun i hi => by
    have := hK i hi
    rw [hib i hi, hw] at this
    simp only [ansN, if_true, nB_cast, Int.toNat_natCast, lineR_cast] at this
    exact this
  rw [lineR_cast]
  have hll : (bs.map baleP).length = bs.length := List.length_map _
  have hl6 := hL.n6
  have hsum := sums_le hL hM' he
  have hends := fun i hi => wrong_ends hL hM' (n := i) hi he
  have hcs := fun i hi => told_cases (May := May) (hends i hi).1
  have htl := fun i => told_le (May := May) (wrongS D M bs i)
  have hbd := fun i => (hL.bd i).1
  have halls := all_sums hL hM' he
  have hlf := line_fst (May := May) hL hM' he
  have hal := line_alw (D := D) (M := M) (May := May) (bs := bs)
  have hll2 : lineS D M May bs ≤ 2 := line_le
  have hfn := first_nev (D := D) (M := M) (May := May) (bs := bs) bs.length
  have hfl := fun k => fstI_lt (D := D) (M := M) (May := May) (bs := bs) k
  have hf0 : fstI D M May bs 0 = -1 := rfl
  have ha0 : alwB D M May bs 0 = true := rfl
  have hlo0 : lowN D M bs 0 = 0 := rfl
  have hhi0 : highN D M bs 0 = 0 := rfl
  have hfs : ∀ i, fstI D M May bs (i + 1) = if toldN D M May bs i = 0 ∧ fstI D M May bs i < 0 then (i : Int) else fstI D M May bs i := fun i => rfl
  have has : ∀ i, alwB D M May bs (i + 1) = (alwB D M May bs i && decide (toldN D M May bs i = 2)) := fun i => rfl
  have hlos : ∀ i, lowN D M bs (i + 1) = lowN D M bs i + (wrongS D M bs i).1 := fun i => rfl
  have hhis : ∀ i, highN D M bs (i + 1) = highN D M bs i + (wrongS D M bs i).2 := fun i => rfl
  have hgb : ∀ i, i < bs.length → (bs.map baleP)[i]? = some [iP ((bG bs i).1 : Int), iP ((bG bs i).2.1 : Int), iP ((bG bs i).2.2 : Int)] := fun i hi => by rw [List.getElem?_map, get_someBale hi]; rfl
  clear hv hc hc2 hw hwp hpn hib hW hK hL he hD hM hM'
  unfold toldN at *
  generalize hE1 : wrongS D M bs = W at *
  generalize hE2 : fstI D M May bs = FI at *
  generalize hE3 : alwB D M May bs = AB at *
  generalize hE4 : lowN D M bs = LO at *
  generalize hE5 : highN D M bs = HI at *
  generalize hE6 : lineS D M May bs = LS at *
  generalize hE7 : allS D M bs = AS at *
  generalize hE8 : firstF (nevB D M May bs) (List.range bs.length) = FP at *
  clear hE1 hE2 hE3 hE4 hE5 hE6 hE7 hE8
  obtain ⟨TS, hT⟩ : ∃ TS : Nat → Nat, ∀ i, toldS May (W i) = TS i := ⟨_, fun _ => rfl⟩
  simp only [hT] at *
  clear hT
  by_cases hpf : (0 : Int) ≤ FI bs.length
  · simp only [hpf, if_true] at hPr
    have hLS := hlf hpf
    have hFP := hfn hpf
    clear hlf hfn
    refine fun_ok (nt := 233) (rs := [.tmp 2]) Try.func8 rfl rfl rfl (by simp) fun Z w0 => ?_; simp only [initFr, avR, List.map_cons, List.map_nil]
    refine tw ?_; try with_reducible intro QQ hQQ
    ((refine cO 30 rfl rfl rfl (hfi) Try.func30 rfl ?_); refine tu ?_; try clear hQQ QQ); refine tw ?_; try with_reducible intro QQ hQQ
    refine ti ?_; try clear hQQ QQ
    refine tw ?_; try with_reducible intro QQ hQQ
    ((refine cO 20 rfl rfl rfl (hLi) Try.func20 rfl ?_); refine tu ?_; try clear hQQ QQ); refine tw ?_; try with_reducible intro QQ hQQ
    ((refine cO 22 rfl rfl rfl (hPr) Try.func22 rfl ?_); refine tu ?_; try clear hQQ QQ); refine tw ?_; try with_reducible intro QQ hQQ
    ((refine cO 16 rfl rfl rfl (hAl) Try.func16 rfl ?_); refine tu ?_; try clear hQQ QQ); refine tw ?_; try with_reducible intro QQ hQQ
    refine ti ?_; try clear hQQ QQ
    refine tw ?_; try with_reducible intro QQ hQQ
    refine ti ?_; try clear hQQ QQ
    (repeat (first | apply aw_seq | apply aw_block | apply aw_skip | apply aw_label | apply aw_exit | ((first | refine aw_region (hideO fun QQ hQQ => ?_) | refine aw_draw mixed (hideD fun QQ hQQ => ?_)); simp (maxSteps := 400000) (disch := first | decide | omega) only [hll, hf0, ha0, hlo0, hhi0, go_sem, ↓reduceIte]; try (first | with_reducible refine unhide hQQ ?_ | refine ⟨by kernel_rfl, unhide hQQ ?_⟩); clear hQQ QQ) | with_reducible first | apply then_n | apply block_n | apply then_x | apply then_r | apply nog_n | apply nog_r | apply block_r | apply block_e (by decide) | apply block_x (by decide)))
    refine aw_weak (weak_keep [1, 3, 5, 6, 7, 9, 10, 11, 12, 83, 84] (by simp only [hll, hf0, ha0, hlo0, hhi0, go_sem, ↓reduceIte]; rfl)) ?_
    refine aw_loop_ov (ι := { i : Nat // i ≤ bs.length }) (fun i => [(9, .one (.p (iP (FI i.1)))), (10, .one (.p (.v (.bool (AB i.1))))), (11, iA (LO i.1 : Nat)), (12, iA (HI i.1 : Nat)), (84, iA i.1)]) (fun i => []) (fun i => bs.length - i.1) ⟨0, by omega⟩ (by first | rfl | (simp only [hll, hf0, ha0, hlo0, hhi0, go_sem, ↓reduceIte]; first | done | rfl | (simp; try rfl))) ?_
    rintro ⟨i, hi⟩
    simp (disch := decide) only [ov, ovL, AL.get_nil, AL.get_eq, AL.get_ne, Option.getD_some, Option.getD_none]
    by_cases hil : i < bs.length
    · have hWi := hW' i hil
      have hKi := hK' i hil
      have hei := hends i hil
      have hci := hcs i hil
      have hti := htl i
      have hbi := hbd i
      have hsi := hsum i hi
      have hgi := hgb i hil
      obtain ⟨a, b⟩ : Nat × Nat := (0, 0)
      clear hW' hK' hends hcs htl hbd hsum hgb hAl hPr hLi hfi haw
      by_cases c1 : (W i).2 ≤ May
      · have c0 : ¬ May < (W i).1 := by omega
        have hk : TS i = 2 := by exact hci.1.2 c1
        rw [hk, show ((2 : Nat) : Int) = 2 from rfl] at hKi
        have efi := hfs i
        have eab := has i
        rw [hk] at efi eab
        rw [if_neg (fun h => by cases h.1)] at efi
        rw [show decide (2 = 2) = true from rfl, Bool.and_true] at eab
        (repeat (first | apply aw_seq | apply aw_block | apply aw_skip | apply aw_label | apply aw_exit | ((first | refine aw_region (hideO fun QQ hQQ => ?_) | refine aw_draw mixed (hideD fun QQ hQQ => ?_)); simp (maxSteps := 400000) (disch := first | decide | omega) only [hll, hgi, go_sem, ↓reduceIte]; try (first | with_reducible refine unhide hQQ ?_ | refine ⟨by kernel_rfl, unhide hQQ ?_⟩); clear hQQ QQ) | with_reducible first | apply then_n | apply block_n | apply then_x | apply then_r | apply nog_n | apply nog_r | apply block_r | apply block_e (by decide) | apply block_x (by decide)))
        refine aw_cond2 (by simp (disch := first | decide | omega) only [hll, hgi, go_sem, ↓reduceIte]; rfl) ?_; first | refine .inl ⟨by first | rfl | exact decide_eq_true (by omega) | exact decide_eq_true (by assumption) | (simp (disch := first | decide | omega) only [if_pos_d, if_neg_d, decide_eq_true_eq, Bool.not_eq_true', decide_eq_false_iff_not]; omega), ?_⟩ | refine .inr ⟨by first | rfl | exact decide_eq_false (by omega) | exact decide_eq_false (by assumption) | (simp (disch := first | decide | omega) only [if_pos_d, if_neg_d, decide_eq_true_eq, Bool.not_eq_true', decide_eq_false_iff_not]; omega), ?_⟩
        (repeat (first | apply aw_seq | apply aw_block | apply aw_skip | apply aw_label | apply aw_exit | ((first | refine aw_region (hideO fun QQ hQQ => ?_) | refine aw_draw mixed (hideD fun QQ hQQ => ?_)); simp (maxSteps := 400000) (disch := first | decide | omega) only [hll, hgi, go_sem, ↓reduceIte]; try (first | with_reducible refine unhide hQQ ?_ | refine ⟨by kernel_rfl, unhide hQQ ?_⟩); clear hQQ QQ) | with_reducible first | apply then_n | apply block_n | apply then_x | apply then_r | apply nog_n | apply nog_r | apply block_r | apply block_e (by decide) | apply block_x (by decide)))
        ((refine callO_ok rfl rfl 14 true rfl (by simp (disch := first | decide | omega) only [hll, hgi, go_sem, ↓reduceIte]; try rfl) (fun _ => rfl) (hWi) Try.func14 rfl (by decide) ?_); simp (maxSteps := 400000) (disch := first | decide | omega) only [hll, hgi, go_sem, ↓reduceIte]; try (with_reducible refine unhide hQQ ?_; clear hQQ QQ)); (repeat (first | apply aw_seq | apply aw_block | apply aw_skip | apply aw_label | apply aw_exit | ((first | refine aw_region (hideO fun QQ hQQ => ?_) | refine aw_draw mixed (hideD fun QQ hQQ => ?_)); simp (maxSteps := 400000) (disch := first | decide | omega) only [hll, hgi, go_sem, ↓reduceIte]; try (first | with_reducible refine unhide hQQ ?_ | refine ⟨by kernel_rfl, unhide hQQ ?_⟩); clear hQQ QQ) | with_reducible first | apply then_n | apply block_n | apply then_x | apply then_r | apply nog_n | apply nog_r | apply block_r | apply block_e (by decide) | apply block_x (by decide)))
        ((refine callO_ok rfl rfl 18 true rfl (by simp (disch := first | decide | omega) only [hll, hgi, go_sem, ↓reduceIte]; try rfl) (fun _ => rfl) (hKi) Try.func18 rfl (by decide) ?_); simp (maxSteps := 400000) (disch := first | decide | omega) only [hll, hgi, go_sem, ↓reduceIte]; try (with_reducible refine unhide hQQ ?_; clear hQQ QQ)); (repeat (first | apply aw_seq | apply aw_block | apply aw_skip | apply aw_label | apply aw_exit | ((first | refine aw_region (hideO fun QQ hQQ => ?_) | refine aw_draw mixed (hideD fun QQ hQQ => ?_)); simp (maxSteps := 400000) (disch := first | decide | omega) only [hll, hgi, go_sem, ↓reduceIte]; try (first | with_reducible refine unhide hQQ ?_ | refine ⟨by kernel_rfl, unhide hQQ ?_⟩); clear hQQ QQ) | with_reducible first | apply then_n | apply block_n | apply then_x | apply then_r | apply nog_n | apply nog_r | apply block_r | apply block_e (by decide) | apply block_x (by decide)))
        refine aw_cond2 (by simp (disch := first | decide | omega) only [hll, hgi, go_sem, ↓reduceIte]; rfl) ?_; first | refine .inl ⟨by first | rfl | exact decide_eq_true (by omega) | exact decide_eq_true (by assumption) | (simp (disch := first | decide | omega) only [if_pos_d, if_neg_d, decide_eq_true_eq, Bool.not_eq_true', decide_eq_false_iff_not]; omega), ?_⟩ | refine .inr ⟨by first | rfl | exact decide_eq_false (by omega) | exact decide_eq_false (by assumption) | (simp (disch := first | decide | omega) only [if_pos_d, if_neg_d, decide_eq_true_eq, Bool.not_eq_true', decide_eq_false_iff_not]; omega), ?_⟩
        (repeat (first | apply aw_seq | apply aw_block | apply aw_skip | apply aw_label | apply aw_exit | ((first | refine aw_region (hideO fun QQ hQQ => ?_) | refine aw_draw mixed (hideD fun QQ hQQ => ?_)); simp (maxSteps := 400000) (disch := first | decide | omega) only [hll, hgi, go_sem, ↓reduceIte]; try (first | with_reducible refine unhide hQQ ?_ | refine ⟨by kernel_rfl, unhide hQQ ?_⟩); clear hQQ QQ) | with_reducible first | apply then_n | apply block_n | apply then_x | apply then_r | apply nog_n | apply nog_r | apply block_r | apply block_e (by decide) | apply block_x (by decide)))
        refine aw_cond2 (by simp (disch := first | decide | omega) only [hll, hgi, go_sem, ↓reduceIte]; rfl) ?_; first | refine .inl ⟨by first | rfl | exact decide_eq_true (by omega) | exact decide_eq_true (by assumption) | (simp (disch := first | decide | omega) only [if_pos_d, if_neg_d, decide_eq_true_eq, Bool.not_eq_true', decide_eq_false_iff_not]; omega), ?_⟩ | refine .inr ⟨by first | rfl | exact decide_eq_false (by omega) | exact decide_eq_false (by assumption) | (simp (disch := first | decide | omega) only [if_pos_d, if_neg_d, decide_eq_true_eq, Bool.not_eq_true', decide_eq_false_iff_not]; omega), ?_⟩
        cases hAB : AB i
        · try rw [hAB] at eab
          (repeat (first | apply aw_seq | apply aw_block | apply aw_skip | apply aw_label | apply aw_exit | ((first | refine aw_region (hideO fun QQ hQQ => ?_) | refine aw_draw mixed (hideD fun QQ hQQ => ?_)); simp (maxSteps := 400000) (disch := first | decide | omega) only [hll, hgi, go_sem, ↓reduceIte]; try (first | with_reducible refine unhide hQQ ?_ | refine ⟨by kernel_rfl, unhide hQQ ?_⟩); clear hQQ QQ) | with_reducible first | apply then_n | apply block_n | apply then_x | apply then_r | apply nog_n | apply nog_r | apply block_r | apply block_e (by decide) | apply block_x (by decide)))
          refine ⟨⟨i + 1, by omega⟩, ?_, weak_round ?_ (by first | rfl | (simp only [hll, hgi, go_sem, ↓reduceIte]))⟩
          rotate_left
          · simp only [efi, eab, hlos, hhis]
            (simp only [hll, hgi, go_sem, ↓reduceIte]; try rfl)
          · show bs.length - (i + 1) < bs.length - i
            omega
        · try rw [hAB] at eab
          (repeat (first | apply aw_seq | apply aw_block | apply aw_skip | apply aw_label | apply aw_exit | ((first | refine aw_region (hideO fun QQ hQQ => ?_) | refine aw_draw mixed (hideD fun QQ hQQ => ?_)); simp (maxSteps := 400000) (disch := first | decide | omega) only [hll, hgi, go_sem, ↓reduceIte]; try (first | with_reducible refine unhide hQQ ?_ | refine ⟨by kernel_rfl, unhide hQQ ?_⟩); clear hQQ QQ) | with_reducible first | apply then_n | apply block_n | apply then_x | apply then_r | apply nog_n | apply nog_r | apply block_r | apply block_e (by decide) | apply block_x (by decide)))
          refine ⟨⟨i + 1, by omega⟩, ?_, weak_round ?_ (by first | rfl | (simp only [hll, hgi, go_sem, ↓reduceIte]))⟩
          rotate_left
          · simp only [efi, eab, hlos, hhis]
            (simp only [hll, hgi, go_sem, ↓reduceIte]; try rfl)
          · show bs.length - (i + 1) < bs.length - i
            omega
      · by_cases c2 : May < (W i).1
        · by_cases hfn0 : FI i < 0
          · skip
            have hk : TS i = 0 := by exact hci.2.2 c2
            rw [hk, show ((0 : Nat) : Int) = 0 from rfl] at hKi
            have efi := hfs i
            have eab := has i
            rw [hk] at efi eab
            rw [if_pos ⟨rfl, hfn0⟩] at efi
            rw [show decide (0 = 2) = false from rfl, Bool.and_false] at eab
            (repeat (first | apply aw_seq | apply aw_block | apply aw_skip | apply aw_label | apply aw_exit | ((first | refine aw_region (hideO fun QQ hQQ => ?_) | refine aw_draw mixed (hideD fun QQ hQQ => ?_)); simp (maxSteps := 400000) (disch := first | decide | omega) only [hll, hgi, go_sem, ↓reduceIte]; try (first | with_reducible refine unhide hQQ ?_ | refine ⟨by kernel_rfl, unhide hQQ ?_⟩); clear hQQ QQ) | with_reducible first | apply then_n | apply block_n | apply then_x | apply then_r | apply nog_n | apply nog_r | apply block_r | apply block_e (by decide) | apply block_x (by decide)))
            refine aw_cond2 (by simp (disch := first | decide | omega) only [hll, hgi, go_sem, ↓reduceIte]; rfl) ?_; first | refine .inl ⟨by first | rfl | exact decide_eq_true (by omega) | exact decide_eq_true (by assumption) | (simp (disch := first | decide | omega) only [if_pos_d, if_neg_d, decide_eq_true_eq, Bool.not_eq_true', decide_eq_false_iff_not]; omega), ?_⟩ | refine .inr ⟨by first | rfl | exact decide_eq_false (by omega) | exact decide_eq_false (by assumption) | (simp (disch := first | decide | omega) only [if_pos_d, if_neg_d, decide_eq_true_eq, Bool.not_eq_true', decide_eq_false_iff_not]; omega), ?_⟩
            (repeat (first | apply aw_seq | apply aw_block | apply aw_skip | apply aw_label | apply aw_exit | ((first | refine aw_region (hideO fun QQ hQQ => ?_) | refine aw_draw mixed (hideD fun QQ hQQ => ?_)); simp (maxSteps := 400000) (disch := first | decide | omega) only [hll, hgi, go_sem, ↓reduceIte]; try (first | with_reducible refine unhide hQQ ?_ | refine ⟨by kernel_rfl, unhide hQQ ?_⟩); clear hQQ QQ) | with_reducible first | apply then_n | apply block_n | apply then_x | apply then_r | apply nog_n | apply nog_r | apply block_r | apply block_e (by decide) | apply block_x (by decide)))
            ((refine callO_ok rfl rfl 14 true rfl (by simp (disch := first | decide | omega) only [hll, hgi, go_sem, ↓reduceIte]; try rfl) (fun _ => rfl) (hWi) Try.func14 rfl (by decide) ?_); simp (maxSteps := 400000) (disch := first | decide | omega) only [hll, hgi, go_sem, ↓reduceIte]; try (with_reducible refine unhide hQQ ?_; clear hQQ QQ)); (repeat (first | apply aw_seq | apply aw_block | apply aw_skip | apply aw_label | apply aw_exit | ((first | refine aw_region (hideO fun QQ hQQ => ?_) | refine aw_draw mixed (hideD fun QQ hQQ => ?_)); simp (maxSteps := 400000) (disch := first | decide | omega) only [hll, hgi, go_sem, ↓reduceIte]; try (first | with_reducible refine unhide hQQ ?_ | refine ⟨by kernel_rfl, unhide hQQ ?_⟩); clear hQQ QQ) | with_reducible first | apply then_n | apply block_n | apply then_x | apply then_r | apply nog_n | apply nog_r | apply block_r | apply block_e (by decide) | apply block_x (by decide)))
            ((refine callO_ok rfl rfl 18 true rfl (by simp (disch := first | decide | omega) only [hll, hgi, go_sem, ↓reduceIte]; try rfl) (fun _ => rfl) (hKi) Try.func18 rfl (by decide) ?_); simp (maxSteps := 400000) (disch := first | decide | omega) only [hll, hgi, go_sem, ↓reduceIte]; try (with_reducible refine unhide hQQ ?_; clear hQQ QQ)); (repeat (first | apply aw_seq | apply aw_block | apply aw_skip | apply aw_label | apply aw_exit | ((first | refine aw_region (hideO fun QQ hQQ => ?_) | refine aw_draw mixed (hideD fun QQ hQQ => ?_)); simp (maxSteps := 400000) (disch := first | decide | omega) only [hll, hgi, go_sem, ↓reduceIte]; try (first | with_reducible refine unhide hQQ ?_ | refine ⟨by kernel_rfl, unhide hQQ ?_⟩); clear hQQ QQ) | with_reducible first | apply then_n | apply block_n | apply then_x | apply then_r | apply nog_n | apply nog_r | apply block_r | apply block_e (by decide) | apply block_x (by decide)))
            refine aw_cond2 (by simp (disch := first | decide | omega) only [hll, hgi, go_sem, ↓reduceIte]; rfl) ?_; first | refine .inl ⟨by first | rfl | exact decide_eq_true (by omega) | exact decide_eq_true (by assumption) | (simp (disch := first | decide | omega) only [if_pos_d, if_neg_d, decide_eq_true_eq, Bool.not_eq_true', decide_eq_false_iff_not]; omega), ?_⟩ | refine .inr ⟨by first | rfl | exact decide_eq_false (by omega) | exact decide_eq_false (by assumption) | (simp (disch := first | decide | omega) only [if_pos_d, if_neg_d, decide_eq_true_eq, Bool.not_eq_true', decide_eq_false_iff_not]; omega), ?_⟩
            (repeat (first | apply aw_seq | apply aw_block | apply aw_skip | apply aw_label | apply aw_exit | ((first | refine aw_region (hideO fun QQ hQQ => ?_) | refine aw_draw mixed (hideD fun QQ hQQ => ?_)); simp (maxSteps := 400000) (disch := first | decide | omega) only [hll, hgi, go_sem, ↓reduceIte]; try (first | with_reducible refine unhide hQQ ?_ | refine ⟨by kernel_rfl, unhide hQQ ?_⟩); clear hQQ QQ) | with_reducible first | apply then_n | apply block_n | apply then_x | apply then_r | apply nog_n | apply nog_r | apply block_r | apply block_e (by decide) | apply block_x (by decide)))
            refine aw_cond2 (by simp (disch := first | decide | omega) only [hll, hgi, go_sem, ↓reduceIte]; rfl) ?_; first | refine .inl ⟨by first | rfl | exact decide_eq_true (by omega) | exact decide_eq_true (by assumption) | (simp (disch := first | decide | omega) only [if_pos_d, if_neg_d, decide_eq_true_eq, Bool.not_eq_true', decide_eq_false_iff_not]; omega), ?_⟩ | refine .inr ⟨by first | rfl | exact decide_eq_false (by omega) | exact decide_eq_false (by assumption) | (simp (disch := first | decide | omega) only [if_pos_d, if_neg_d, decide_eq_true_eq, Bool.not_eq_true', decide_eq_false_iff_not]; omega), ?_⟩
            cases hAB : AB i
            · try rw [hAB] at eab
              (repeat (first | apply aw_seq | apply aw_block | apply aw_skip | apply aw_label | apply aw_exit | ((first | refine aw_region (hideO fun QQ hQQ => ?_) | refine aw_draw mixed (hideD fun QQ hQQ => ?_)); simp (maxSteps := 400000) (disch := first | decide | omega) only [hll, hgi, go_sem, ↓reduceIte]; try (first | with_reducible refine unhide hQQ ?_ | refine ⟨by kernel_rfl, unhide hQQ ?_⟩); clear hQQ QQ) | with_reducible first | apply then_n | apply block_n | apply then_x | apply then_r | apply nog_n | apply nog_r | apply block_r | apply block_e (by decide) | apply block_x (by decide)))
              refine ⟨⟨i + 1, by omega⟩, ?_, weak_round ?_ (by first | rfl | (simp only [hll, hgi, go_sem, ↓reduceIte]))⟩
              rotate_left
              · simp only [efi, eab, hlos, hhis]
                (simp only [hll, hgi, go_sem, ↓reduceIte]; try rfl)
              · show bs.length - (i + 1) < bs.length - i
                omega
            · try rw [hAB] at eab
              (repeat (first | apply aw_seq | apply aw_block | apply aw_skip | apply aw_label | apply aw_exit | ((first | refine aw_region (hideO fun QQ hQQ => ?_) | refine aw_draw mixed (hideD fun QQ hQQ => ?_)); simp (maxSteps := 400000) (disch := first | decide | omega) only [hll, hgi, go_sem, ↓reduceIte]; try (first | with_reducible refine unhide hQQ ?_ | refine ⟨by kernel_rfl, unhide hQQ ?_⟩); clear hQQ QQ) | with_reducible first | apply then_n | apply block_n | apply then_x | apply then_r | apply nog_n | apply nog_r | apply block_r | apply block_e (by decide) | apply block_x (by decide)))
              refine ⟨⟨i + 1, by omega⟩, ?_, weak_round ?_ (by first | rfl | (simp only [hll, hgi, go_sem, ↓reduceIte]))⟩
              rotate_left
              · simp only [efi, eab, hlos, hhis]
                (simp only [hll, hgi, go_sem, ↓reduceIte]; try rfl)
              · show bs.length - (i + 1) < bs.length - i
                omega
          · skip
            have hk : TS i = 0 := by exact hci.2.2 c2
            rw [hk, show ((0 : Nat) : Int) = 0 from rfl] at hKi
            have efi := hfs i
            have eab := has i
            rw [hk] at efi eab
            rw [if_neg (fun h => hfn0 h.2)] at efi
            rw [show decide (0 = 2) = false from rfl, Bool.and_false] at eab
            (repeat (first | apply aw_seq | apply aw_block | apply aw_skip | apply aw_label | apply aw_exit | ((first | refine aw_region (hideO fun QQ hQQ => ?_) | refine aw_draw mixed (hideD fun QQ hQQ => ?_)); simp (maxSteps := 400000) (disch := first | decide | omega) only [hll, hgi, go_sem, ↓reduceIte]; try (first | with_reducible refine unhide hQQ ?_ | refine ⟨by kernel_rfl, unhide hQQ ?_⟩); clear hQQ QQ) | with_reducible first | apply then_n | apply block_n | apply then_x | apply then_r | apply nog_n | apply nog_r | apply block_r | apply block_e (by decide) | apply block_x (by decide)))
            refine aw_cond2 (by simp (disch := first | decide | omega) only [hll, hgi, go_sem, ↓reduceIte]; rfl) ?_; first | refine .inl ⟨by first | rfl | exact decide_eq_true (by omega) | exact decide_eq_true (by assumption) | (simp (disch := first | decide | omega) only [if_pos_d, if_neg_d, decide_eq_true_eq, Bool.not_eq_true', decide_eq_false_iff_not]; omega), ?_⟩ | refine .inr ⟨by first | rfl | exact decide_eq_false (by omega) | exact decide_eq_false (by assumption) | (simp (disch := first | decide | omega) only [if_pos_d, if_neg_d, decide_eq_true_eq, Bool.not_eq_true', decide_eq_false_iff_not]; omega), ?_⟩
            (repeat (first | apply aw_seq | apply aw_block | apply aw_skip | apply aw_label | apply aw_exit | ((first | refine aw_region (hideO fun QQ hQQ => ?_) | refine aw_draw mixed (hideD fun QQ hQQ => ?_)); simp (maxSteps := 400000) (disch := first | decide | omega) only [hll, hgi, go_sem, ↓reduceIte]; try (first | with_reducible refine unhide hQQ ?_ | refine ⟨by kernel_rfl, unhide hQQ ?_⟩); clear hQQ QQ) | with_reducible first | apply then_n | apply block_n | apply then_x | apply then_r | apply nog_n | apply nog_r | apply block_r | apply block_e (by decide) | apply block_x (by decide)))
            ((refine callO_ok rfl rfl 14 true rfl (by simp (disch := first | decide | omega) only [hll, hgi, go_sem, ↓reduceIte]; try rfl) (fun _ => rfl) (hWi) Try.func14 rfl (by decide) ?_); simp (maxSteps := 400000) (disch := first | decide | omega) only [hll, hgi, go_sem, ↓reduceIte]; try (with_reducible refine unhide hQQ ?_; clear hQQ QQ)); (repeat (first | apply aw_seq | apply aw_block | apply aw_skip | apply aw_label | apply aw_exit | ((first | refine aw_region (hideO fun QQ hQQ => ?_) | refine aw_draw mixed (hideD fun QQ hQQ => ?_)); simp (maxSteps := 400000) (disch := first | decide | omega) only [hll, hgi, go_sem, ↓reduceIte]; try (first | with_reducible refine unhide hQQ ?_ | refine ⟨by kernel_rfl, unhide hQQ ?_⟩); clear hQQ QQ) | with_reducible first | apply then_n | apply block_n | apply then_x | apply then_r | apply nog_n | apply nog_r | apply block_r | apply block_e (by decide) | apply block_x (by decide)))
            ((refine callO_ok rfl rfl 18 true rfl (by simp (disch := first | decide | omega) only [hll, hgi, go_sem, ↓reduceIte]; try rfl) (fun _ => rfl) (hKi) Try.func18 rfl (by decide) ?_); simp (maxSteps := 400000) (disch := first | decide | omega) only [hll, hgi, go_sem, ↓reduceIte]; try (with_reducible refine unhide hQQ ?_; clear hQQ QQ)); (repeat (first | apply aw_seq | apply aw_block | apply aw_skip | apply aw_label | apply aw_exit | ((first | refine aw_region (hideO fun QQ hQQ => ?_) | refine aw_draw mixed (hideD fun QQ hQQ => ?_)); simp (maxSteps := 400000) (disch := first | decide | omega) only [hll, hgi, go_sem, ↓reduceIte]; try (first | with_reducible refine unhide hQQ ?_ | refine ⟨by kernel_rfl, unhide hQQ ?_⟩); clear hQQ QQ) | with_reducible first | apply then_n | apply block_n | apply then_x | apply then_r | apply nog_n | apply nog_r | apply block_r | apply block_e (by decide) | apply block_x (by decide)))
            refine aw_cond2 (by simp (disch := first | decide | omega) only [hll, hgi, go_sem, ↓reduceIte]; rfl) ?_; first | refine .inl ⟨by first | rfl | exact decide_eq_true (by omega) | exact decide_eq_true (by assumption) | (simp (disch := first | decide | omega) only [if_pos_d, if_neg_d, decide_eq_true_eq, Bool.not_eq_true', decide_eq_false_iff_not]; omega), ?_⟩ | refine .inr ⟨by first | rfl | exact decide_eq_false (by omega) | exact decide_eq_false (by assumption) | (simp (disch := first | decide | omega) only [if_pos_d, if_neg_d, decide_eq_true_eq, Bool.not_eq_true', decide_eq_false_iff_not]; omega), ?_⟩
            (repeat (first | apply aw_seq | apply aw_block | apply aw_skip | apply aw_label | apply aw_exit | ((first | refine aw_region (hideO fun QQ hQQ => ?_) | refine aw_draw mixed (hideD fun QQ hQQ => ?_)); simp (maxSteps := 400000) (disch := first | decide | omega) only [hll, hgi, go_sem, ↓reduceIte]; try (first | with_reducible refine unhide hQQ ?_ | refine ⟨by kernel_rfl, unhide hQQ ?_⟩); clear hQQ QQ) | with_reducible first | apply then_n | apply block_n | apply then_x | apply then_r | apply nog_n | apply nog_r | apply block_r | apply block_e (by decide) | apply block_x (by decide)))
            refine aw_cond2 (by simp (disch := first | decide | omega) only [hll, hgi, go_sem, ↓reduceIte]; rfl) ?_; first | refine .inl ⟨by first | rfl | exact decide_eq_true (by omega) | exact decide_eq_true (by assumption) | (simp (disch := first | decide | omega) only [if_pos_d, if_neg_d, decide_eq_true_eq, Bool.not_eq_true', decide_eq_false_iff_not]; omega), ?_⟩ | refine .inr ⟨by first | rfl | exact decide_eq_false (by omega) | exact decide_eq_false (by assumption) | (simp (disch := first | decide | omega) only [if_pos_d, if_neg_d, decide_eq_true_eq, Bool.not_eq_true', decide_eq_false_iff_not]; omega), ?_⟩
            cases hAB : AB i
            · try rw [hAB] at eab
              (repeat (first | apply aw_seq | apply aw_block | apply aw_skip | apply aw_label | apply aw_exit | ((first | refine aw_region (hideO fun QQ hQQ => ?_) | refine aw_draw mixed (hideD fun QQ hQQ => ?_)); simp (maxSteps := 400000) (disch := first | decide | omega) only [hll, hgi, go_sem, ↓reduceIte]; try (first | with_reducible refine unhide hQQ ?_ | refine ⟨by kernel_rfl, unhide hQQ ?_⟩); clear hQQ QQ) | with_reducible first | apply then_n | apply block_n | apply then_x | apply then_r | apply nog_n | apply nog_r | apply block_r | apply block_e (by decide) | apply block_x (by decide)))
              refine ⟨⟨i + 1, by omega⟩, ?_, weak_round ?_ (by first | rfl | (simp only [hll, hgi, go_sem, ↓reduceIte]))⟩
              rotate_left
              · simp only [efi, eab, hlos, hhis]
                (simp only [hll, hgi, go_sem, ↓reduceIte]; try rfl)
              · show bs.length - (i + 1) < bs.length - i
                omega
            · try rw [hAB] at eab
              (repeat (first | apply aw_seq | apply aw_block | apply aw_skip | apply aw_label | apply aw_exit | ((first | refine aw_region (hideO fun QQ hQQ => ?_) | refine aw_draw mixed (hideD fun QQ hQQ => ?_)); simp (maxSteps := 400000) (disch := first | decide | omega) only [hll, hgi, go_sem, ↓reduceIte]; try (first | with_reducible refine unhide hQQ ?_ | refine ⟨by kernel_rfl, unhide hQQ ?_⟩); clear hQQ QQ) | with_reducible first | apply then_n | apply block_n | apply then_x | apply then_r | apply nog_n | apply nog_r | apply block_r | apply block_e (by decide) | apply block_x (by decide)))
              refine ⟨⟨i + 1, by omega⟩, ?_, weak_round ?_ (by first | rfl | (simp only [hll, hgi, go_sem, ↓reduceIte]))⟩
              rotate_left
              · simp only [efi, eab, hlos, hhis]
                (simp only [hll, hgi, go_sem, ↓reduceIte]; try rfl)
              · show bs.length - (i + 1) < bs.length - i
                omega
        · skip
          have hk : TS i = 1 := by omega
          rw [hk, show ((1 : Nat) : Int) = 1 from rfl] at hKi
          have efi := hfs i
          have eab := has i
          rw [hk] at efi eab
          rw [if_neg (fun h => by cases h.1)] at efi
          rw [show decide (1 = 2) = false from rfl, Bool.and_false] at eab
          (repeat (first | apply aw_seq | apply aw_block | apply aw_skip | apply aw_label | apply aw_exit | ((first | refine aw_region (hideO fun QQ hQQ => ?_) | refine aw_draw mixed (hideD fun QQ hQQ => ?_)); simp (maxSteps := 400000) (disch := first | decide | omega) only [hll, hgi, go_sem, ↓reduceIte]; try (first | with_reducible refine unhide hQQ ?_ | refine ⟨by kernel_rfl, unhide hQQ ?_⟩); clear hQQ QQ) | with_reducible first | apply then_n | apply block_n | apply then_x | apply then_r | apply nog_n | apply nog_r | apply block_r | apply block_e (by decide) | apply block_x (by decide)))
          refine aw_cond2 (by simp (disch := first | decide | omega) only [hll, hgi, go_sem, ↓reduceIte]; rfl) ?_; first | refine .inl ⟨by first | rfl | exact decide_eq_true (by omega) | exact decide_eq_true (by assumption) | (simp (disch := first | decide | omega) only [if_pos_d, if_neg_d, decide_eq_true_eq, Bool.not_eq_true', decide_eq_false_iff_not]; omega), ?_⟩ | refine .inr ⟨by first | rfl | exact decide_eq_false (by omega) | exact decide_eq_false (by assumption) | (simp (disch := first | decide | omega) only [if_pos_d, if_neg_d, decide_eq_true_eq, Bool.not_eq_true', decide_eq_false_iff_not]; omega), ?_⟩
          (repeat (first | apply aw_seq | apply aw_block | apply aw_skip | apply aw_label | apply aw_exit | ((first | refine aw_region (hideO fun QQ hQQ => ?_) | refine aw_draw mixed (hideD fun QQ hQQ => ?_)); simp (maxSteps := 400000) (disch := first | decide | omega) only [hll, hgi, go_sem, ↓reduceIte]; try (first | with_reducible refine unhide hQQ ?_ | refine ⟨by kernel_rfl, unhide hQQ ?_⟩); clear hQQ QQ) | with_reducible first | apply then_n | apply block_n | apply then_x | apply then_r | apply nog_n | apply nog_r | apply block_r | apply block_e (by decide) | apply block_x (by decide)))
          ((refine callO_ok rfl rfl 14 true rfl (by simp (disch := first | decide | omega) only [hll, hgi, go_sem, ↓reduceIte]; try rfl) (fun _ => rfl) (hWi) Try.func14 rfl (by decide) ?_); simp (maxSteps := 400000) (disch := first | decide | omega) only [hll, hgi, go_sem, ↓reduceIte]; try (with_reducible refine unhide hQQ ?_; clear hQQ QQ)); (repeat (first | apply aw_seq | apply aw_block | apply aw_skip | apply aw_label | apply aw_exit | ((first | refine aw_region (hideO fun QQ hQQ => ?_) | refine aw_draw mixed (hideD fun QQ hQQ => ?_)); simp (maxSteps := 400000) (disch := first | decide | omega) only [hll, hgi, go_sem, ↓reduceIte]; try (first | with_reducible refine unhide hQQ ?_ | refine ⟨by kernel_rfl, unhide hQQ ?_⟩); clear hQQ QQ) | with_reducible first | apply then_n | apply block_n | apply then_x | apply then_r | apply nog_n | apply nog_r | apply block_r | apply block_e (by decide) | apply block_x (by decide)))
          ((refine callO_ok rfl rfl 18 true rfl (by simp (disch := first | decide | omega) only [hll, hgi, go_sem, ↓reduceIte]; try rfl) (fun _ => rfl) (hKi) Try.func18 rfl (by decide) ?_); simp (maxSteps := 400000) (disch := first | decide | omega) only [hll, hgi, go_sem, ↓reduceIte]; try (with_reducible refine unhide hQQ ?_; clear hQQ QQ)); (repeat (first | apply aw_seq | apply aw_block | apply aw_skip | apply aw_label | apply aw_exit | ((first | refine aw_region (hideO fun QQ hQQ => ?_) | refine aw_draw mixed (hideD fun QQ hQQ => ?_)); simp (maxSteps := 400000) (disch := first | decide | omega) only [hll, hgi, go_sem, ↓reduceIte]; try (first | with_reducible refine unhide hQQ ?_ | refine ⟨by kernel_rfl, unhide hQQ ?_⟩); clear hQQ QQ) | with_reducible first | apply then_n | apply block_n | apply then_x | apply then_r | apply nog_n | apply nog_r | apply block_r | apply block_e (by decide) | apply block_x (by decide)))
          refine aw_cond2 (by simp (disch := first | decide | omega) only [hll, hgi, go_sem, ↓reduceIte]; rfl) ?_; first | refine .inl ⟨by first | rfl | exact decide_eq_true (by omega) | exact decide_eq_true (by assumption) | (simp (disch := first | decide | omega) only [if_pos_d, if_neg_d, decide_eq_true_eq, Bool.not_eq_true', decide_eq_false_iff_not]; omega), ?_⟩ | refine .inr ⟨by first | rfl | exact decide_eq_false (by omega) | exact decide_eq_false (by assumption) | (simp (disch := first | decide | omega) only [if_pos_d, if_neg_d, decide_eq_true_eq, Bool.not_eq_true', decide_eq_false_iff_not]; omega), ?_⟩
          (repeat (first | apply aw_seq | apply aw_block | apply aw_skip | apply aw_label | apply aw_exit | ((first | refine aw_region (hideO fun QQ hQQ => ?_) | refine aw_draw mixed (hideD fun QQ hQQ => ?_)); simp (maxSteps := 400000) (disch := first | decide | omega) only [hll, hgi, go_sem, ↓reduceIte]; try (first | with_reducible refine unhide hQQ ?_ | refine ⟨by kernel_rfl, unhide hQQ ?_⟩); clear hQQ QQ) | with_reducible first | apply then_n | apply block_n | apply then_x | apply then_r | apply nog_n | apply nog_r | apply block_r | apply block_e (by decide) | apply block_x (by decide)))
          refine aw_cond2 (by simp (disch := first | decide | omega) only [hll, hgi, go_sem, ↓reduceIte]; rfl) ?_; first | refine .inl ⟨by first | rfl | exact decide_eq_true (by omega) | exact decide_eq_true (by assumption) | (simp (disch := first | decide | omega) only [if_pos_d, if_neg_d, decide_eq_true_eq, Bool.not_eq_true', decide_eq_false_iff_not]; omega), ?_⟩ | refine .inr ⟨by first | rfl | exact decide_eq_false (by omega) | exact decide_eq_false (by assumption) | (simp (disch := first | decide | omega) only [if_pos_d, if_neg_d, decide_eq_true_eq, Bool.not_eq_true', decide_eq_false_iff_not]; omega), ?_⟩
          cases hAB : AB i
          · try rw [hAB] at eab
            (repeat (first | apply aw_seq | apply aw_block | apply aw_skip | apply aw_label | apply aw_exit | ((first | refine aw_region (hideO fun QQ hQQ => ?_) | refine aw_draw mixed (hideD fun QQ hQQ => ?_)); simp (maxSteps := 400000) (disch := first | decide | omega) only [hll, hgi, go_sem, ↓reduceIte]; try (first | with_reducible refine unhide hQQ ?_ | refine ⟨by kernel_rfl, unhide hQQ ?_⟩); clear hQQ QQ) | with_reducible first | apply then_n | apply block_n | apply then_x | apply then_r | apply nog_n | apply nog_r | apply block_r | apply block_e (by decide) | apply block_x (by decide)))
            refine ⟨⟨i + 1, by omega⟩, ?_, weak_round ?_ (by first | rfl | (simp only [hll, hgi, go_sem, ↓reduceIte]))⟩
            rotate_left
            · simp only [efi, eab, hlos, hhis]
              (simp only [hll, hgi, go_sem, ↓reduceIte]; try rfl)
            · show bs.length - (i + 1) < bs.length - i
              omega
          · try rw [hAB] at eab
            (repeat (first | apply aw_seq | apply aw_block | apply aw_skip | apply aw_label | apply aw_exit | ((first | refine aw_region (hideO fun QQ hQQ => ?_) | refine aw_draw mixed (hideD fun QQ hQQ => ?_)); simp (maxSteps := 400000) (disch := first | decide | omega) only [hll, hgi, go_sem, ↓reduceIte]; try (first | with_reducible refine unhide hQQ ?_ | refine ⟨by kernel_rfl, unhide hQQ ?_⟩); clear hQQ QQ) | with_reducible first | apply then_n | apply block_n | apply then_x | apply then_r | apply nog_n | apply nog_r | apply block_r | apply block_e (by decide) | apply block_x (by decide)))
            refine ⟨⟨i + 1, by omega⟩, ?_, weak_round ?_ (by first | rfl | (simp only [hll, hgi, go_sem, ↓reduceIte]))⟩
            rotate_left
            · simp only [efi, eab, hlos, hhis]
              (simp only [hll, hgi, go_sem, ↓reduceIte]; try rfl)
            · show bs.length - (i + 1) < bs.length - i
              omega
    · have hie : i = bs.length := by omega
      subst hie
      have hle := hll2
      obtain ⟨h1, h2, h3⟩ := halls
      have hs := hsum bs.length (by omega)
      clear hW' hK' hends hcs htl hbd hsum hgb hAl hPr hLi hfi hlos hhis hfs has
      obtain ⟨A1, A2⟩ := AS
      dsimp only at h1 h2 h3
      have hab : AB bs.length = false := by rw [← hal, hLS]; rfl
      rw [← hFP, hab, hLS]
      refine tw ?_; try with_reducible intro QQ hQQ
      refine ti ?_; try clear hQQ QQ
      refine tw ?_; try with_reducible intro QQ hQQ
      refine ti ?_; try clear hQQ QQ
      refine tw ?_; try with_reducible intro QQ hQQ
      ((refine cO 13 rfl rfl rfl (haw) Try.func13 rfl ?_); refine tu ?_; try clear hQQ QQ); refine tw ?_; try with_reducible intro QQ hQQ
      refine aw_ret ?_; refine ⟨.inr rfl, ?_⟩; simp only [resA, res1, go_sem, ↓reduceIte]
  · simp only [hpf, if_false, show ((4 : Int) = 0) = False from by decide] at hPr
    clear hlf hfn
    refine fun_ok (nt := 233) (rs := [.tmp 2]) Try.func8 rfl rfl rfl (by simp) fun Z w0 => ?_; simp only [initFr, avR, List.map_cons, List.map_nil]
    refine tw ?_; try with_reducible intro QQ hQQ
    ((refine cO 30 rfl rfl rfl (hfi) Try.func30 rfl ?_); refine tu ?_; try clear hQQ QQ); refine tw ?_; try with_reducible intro QQ hQQ
    refine ti ?_; try clear hQQ QQ
    refine tw ?_; try with_reducible intro QQ hQQ
    ((refine cO 20 rfl rfl rfl (hLi) Try.func20 rfl ?_); refine tu ?_; try clear hQQ QQ); refine tw ?_; try with_reducible intro QQ hQQ
    ((refine cO 22 rfl rfl rfl (hPr) Try.func22 rfl ?_); refine tu ?_; try clear hQQ QQ); refine tw ?_; try with_reducible intro QQ hQQ
    ((refine cO 16 rfl rfl rfl (hAl) Try.func16 rfl ?_); refine tu ?_; try clear hQQ QQ); refine tw ?_; try with_reducible intro QQ hQQ
    refine ti ?_; try clear hQQ QQ
    refine tw ?_; try with_reducible intro QQ hQQ
    refine ti ?_; try clear hQQ QQ
    (repeat (first | apply aw_seq | apply aw_block | apply aw_skip | apply aw_label | apply aw_exit | ((first | refine aw_region (hideO fun QQ hQQ => ?_) | refine aw_draw mixed (hideD fun QQ hQQ => ?_)); simp (maxSteps := 400000) (disch := first | decide | omega) only [hll, hf0, ha0, hlo0, hhi0, go_sem, ↓reduceIte]; try (first | with_reducible refine unhide hQQ ?_ | refine ⟨by kernel_rfl, unhide hQQ ?_⟩); clear hQQ QQ) | with_reducible first | apply then_n | apply block_n | apply then_x | apply then_r | apply nog_n | apply nog_r | apply block_r | apply block_e (by decide) | apply block_x (by decide)))
    refine aw_weak (weak_keep [1, 3, 5, 6, 7, 9, 10, 11, 12, 83, 84] (by simp only [hll, hf0, ha0, hlo0, hhi0, go_sem, ↓reduceIte]; rfl)) ?_
    refine aw_loop_ov (ι := { i : Nat // i ≤ bs.length }) (fun i => [(9, .one (.p (iP (FI i.1)))), (10, .one (.p (.v (.bool (AB i.1))))), (11, iA (LO i.1 : Nat)), (12, iA (HI i.1 : Nat)), (84, iA i.1)]) (fun i => []) (fun i => bs.length - i.1) ⟨0, by omega⟩ (by first | rfl | (simp only [hll, hf0, ha0, hlo0, hhi0, go_sem, ↓reduceIte]; first | done | rfl | (simp; try rfl))) ?_
    rintro ⟨i, hi⟩
    simp (disch := decide) only [ov, ovL, AL.get_nil, AL.get_eq, AL.get_ne, Option.getD_some, Option.getD_none]
    by_cases hil : i < bs.length
    · have hWi := hW' i hil
      have hKi := hK' i hil
      have hei := hends i hil
      have hci := hcs i hil
      have hti := htl i
      have hbi := hbd i
      have hsi := hsum i hi
      have hgi := hgb i hil
      obtain ⟨a, b⟩ : Nat × Nat := (0, 0)
      clear hW' hK' hends hcs htl hbd hsum hgb hAl hPr hLi hfi haw
      by_cases c1 : (W i).2 ≤ May
      · have c0 : ¬ May < (W i).1 := by omega
        have hk : TS i = 2 := by exact hci.1.2 c1
        rw [hk, show ((2 : Nat) : Int) = 2 from rfl] at hKi
        have efi := hfs i
        have eab := has i
        rw [hk] at efi eab
        rw [if_neg (fun h => by cases h.1)] at efi
        rw [show decide (2 = 2) = true from rfl, Bool.and_true] at eab
        (repeat (first | apply aw_seq | apply aw_block | apply aw_skip | apply aw_label | apply aw_exit | ((first | refine aw_region (hideO fun QQ hQQ => ?_) | refine aw_draw mixed (hideD fun QQ hQQ => ?_)); simp (maxSteps := 400000) (disch := first | decide | omega) only [hll, hgi, go_sem, ↓reduceIte]; try (first | with_reducible refine unhide hQQ ?_ | refine ⟨by kernel_rfl, unhide hQQ ?_⟩); clear hQQ QQ) | with_reducible first | apply then_n | apply block_n | apply then_x | apply then_r | apply nog_n | apply nog_r | apply block_r | apply block_e (by decide) | apply block_x (by decide)))
        refine aw_cond2 (by simp (disch := first | decide | omega) only [hll, hgi, go_sem, ↓reduceIte]; rfl) ?_; first | refine .inl ⟨by first | rfl | exact decide_eq_true (by omega) | exact decide_eq_true (by assumption) | (simp (disch := first | decide | omega) only [if_pos_d, if_neg_d, decide_eq_true_eq, Bool.not_eq_true', decide_eq_false_iff_not]; omega), ?_⟩ | refine .inr ⟨by first | rfl | exact decide_eq_false (by omega) | exact decide_eq_false (by assumption) | (simp (disch := first | decide | omega) only [if_pos_d, if_neg_d, decide_eq_true_eq, Bool.not_eq_true', decide_eq_false_iff_not]; omega), ?_⟩
        (repeat (first | apply aw_seq | apply aw_block | apply aw_skip | apply aw_label | apply aw_exit | ((first | refine aw_region (hideO fun QQ hQQ => ?_) | refine aw_draw mixed (hideD fun QQ hQQ => ?_)); simp (maxSteps := 400000) (disch := first | decide | omega) only [hll, hgi, go_sem, ↓reduceIte]; try (first | with_reducible refine unhide hQQ ?_ | refine ⟨by kernel_rfl, unhide hQQ ?_⟩); clear hQQ QQ) | with_reducible first | apply then_n | apply block_n | apply then_x | apply then_r | apply nog_n | apply nog_r | apply block_r | apply block_e (by decide) | apply block_x (by decide)))
        ((refine callO_ok rfl rfl 14 true rfl (by simp (disch := first | decide | omega) only [hll, hgi, go_sem, ↓reduceIte]; try rfl) (fun _ => rfl) (hWi) Try.func14 rfl (by decide) ?_); simp (maxSteps := 400000) (disch := first | decide | omega) only [hll, hgi, go_sem, ↓reduceIte]; try (with_reducible refine unhide hQQ ?_; clear hQQ QQ)); (repeat (first | apply aw_seq | apply aw_block | apply aw_skip | apply aw_label | apply aw_exit | ((first | refine aw_region (hideO fun QQ hQQ => ?_) | refine aw_draw mixed (hideD fun QQ hQQ => ?_)); simp (maxSteps := 400000) (disch := first | decide | omega) only [hll, hgi, go_sem, ↓reduceIte]; try (first | with_reducible refine unhide hQQ ?_ | refine ⟨by kernel_rfl, unhide hQQ ?_⟩); clear hQQ QQ) | with_reducible first | apply then_n | apply block_n | apply then_x | apply then_r | apply nog_n | apply nog_r | apply block_r | apply block_e (by decide) | apply block_x (by decide)))
        ((refine callO_ok rfl rfl 18 true rfl (by simp (disch := first | decide | omega) only [hll, hgi, go_sem, ↓reduceIte]; try rfl) (fun _ => rfl) (hKi) Try.func18 rfl (by decide) ?_); simp (maxSteps := 400000) (disch := first | decide | omega) only [hll, hgi, go_sem, ↓reduceIte]; try (with_reducible refine unhide hQQ ?_; clear hQQ QQ)); (repeat (first | apply aw_seq | apply aw_block | apply aw_skip | apply aw_label | apply aw_exit | ((first | refine aw_region (hideO fun QQ hQQ => ?_) | refine aw_draw mixed (hideD fun QQ hQQ => ?_)); simp (maxSteps := 400000) (disch := first | decide | omega) only [hll, hgi, go_sem, ↓reduceIte]; try (first | with_reducible refine unhide hQQ ?_ | refine ⟨by kernel_rfl, unhide hQQ ?_⟩); clear hQQ QQ) | with_reducible first | apply then_n | apply block_n | apply then_x | apply then_r | apply nog_n | apply nog_r | apply block_r | apply block_e (by decide) | apply block_x (by decide)))
        refine aw_cond2 (by simp (disch := first | decide | omega) only [hll, hgi, go_sem, ↓reduceIte]; rfl) ?_; first | refine .inl ⟨by first | rfl | exact decide_eq_true (by omega) | exact decide_eq_true (by assumption) | (simp (disch := first | decide | omega) only [if_pos_d, if_neg_d, decide_eq_true_eq, Bool.not_eq_true', decide_eq_false_iff_not]; omega), ?_⟩ | refine .inr ⟨by first | rfl | exact decide_eq_false (by omega) | exact decide_eq_false (by assumption) | (simp (disch := first | decide | omega) only [if_pos_d, if_neg_d, decide_eq_true_eq, Bool.not_eq_true', decide_eq_false_iff_not]; omega), ?_⟩
        (repeat (first | apply aw_seq | apply aw_block | apply aw_skip | apply aw_label | apply aw_exit | ((first | refine aw_region (hideO fun QQ hQQ => ?_) | refine aw_draw mixed (hideD fun QQ hQQ => ?_)); simp (maxSteps := 400000) (disch := first | decide | omega) only [hll, hgi, go_sem, ↓reduceIte]; try (first | with_reducible refine unhide hQQ ?_ | refine ⟨by kernel_rfl, unhide hQQ ?_⟩); clear hQQ QQ) | with_reducible first | apply then_n | apply block_n | apply then_x | apply then_r | apply nog_n | apply nog_r | apply block_r | apply block_e (by decide) | apply block_x (by decide)))
        refine aw_cond2 (by simp (disch := first | decide | omega) only [hll, hgi, go_sem, ↓reduceIte]; rfl) ?_; first | refine .inl ⟨by first | rfl | exact decide_eq_true (by omega) | exact decide_eq_true (by assumption) | (simp (disch := first | decide | omega) only [if_pos_d, if_neg_d, decide_eq_true_eq, Bool.not_eq_true', decide_eq_false_iff_not]; omega), ?_⟩ | refine .inr ⟨by first | rfl | exact decide_eq_false (by omega) | exact decide_eq_false (by assumption) | (simp (disch := first | decide | omega) only [if_pos_d, if_neg_d, decide_eq_true_eq, Bool.not_eq_true', decide_eq_false_iff_not]; omega), ?_⟩
        cases hAB : AB i
        · try rw [hAB] at eab
          (repeat (first | apply aw_seq | apply aw_block | apply aw_skip | apply aw_label | apply aw_exit | ((first | refine aw_region (hideO fun QQ hQQ => ?_) | refine aw_draw mixed (hideD fun QQ hQQ => ?_)); simp (maxSteps := 400000) (disch := first | decide | omega) only [hll, hgi, go_sem, ↓reduceIte]; try (first | with_reducible refine unhide hQQ ?_ | refine ⟨by kernel_rfl, unhide hQQ ?_⟩); clear hQQ QQ) | with_reducible first | apply then_n | apply block_n | apply then_x | apply then_r | apply nog_n | apply nog_r | apply block_r | apply block_e (by decide) | apply block_x (by decide)))
          refine ⟨⟨i + 1, by omega⟩, ?_, weak_round ?_ (by first | rfl | (simp only [hll, hgi, go_sem, ↓reduceIte]))⟩
          rotate_left
          · simp only [efi, eab, hlos, hhis]
            (simp only [hll, hgi, go_sem, ↓reduceIte]; try rfl)
          · show bs.length - (i + 1) < bs.length - i
            omega
        · try rw [hAB] at eab
          (repeat (first | apply aw_seq | apply aw_block | apply aw_skip | apply aw_label | apply aw_exit | ((first | refine aw_region (hideO fun QQ hQQ => ?_) | refine aw_draw mixed (hideD fun QQ hQQ => ?_)); simp (maxSteps := 400000) (disch := first | decide | omega) only [hll, hgi, go_sem, ↓reduceIte]; try (first | with_reducible refine unhide hQQ ?_ | refine ⟨by kernel_rfl, unhide hQQ ?_⟩); clear hQQ QQ) | with_reducible first | apply then_n | apply block_n | apply then_x | apply then_r | apply nog_n | apply nog_r | apply block_r | apply block_e (by decide) | apply block_x (by decide)))
          refine ⟨⟨i + 1, by omega⟩, ?_, weak_round ?_ (by first | rfl | (simp only [hll, hgi, go_sem, ↓reduceIte]))⟩
          rotate_left
          · simp only [efi, eab, hlos, hhis]
            (simp only [hll, hgi, go_sem, ↓reduceIte]; try rfl)
          · show bs.length - (i + 1) < bs.length - i
            omega
      · by_cases c2 : May < (W i).1
        · by_cases hfn0 : FI i < 0
          · skip
            have hk : TS i = 0 := by exact hci.2.2 c2
            rw [hk, show ((0 : Nat) : Int) = 0 from rfl] at hKi
            have efi := hfs i
            have eab := has i
            rw [hk] at efi eab
            rw [if_pos ⟨rfl, hfn0⟩] at efi
            rw [show decide (0 = 2) = false from rfl, Bool.and_false] at eab
            (repeat (first | apply aw_seq | apply aw_block | apply aw_skip | apply aw_label | apply aw_exit | ((first | refine aw_region (hideO fun QQ hQQ => ?_) | refine aw_draw mixed (hideD fun QQ hQQ => ?_)); simp (maxSteps := 400000) (disch := first | decide | omega) only [hll, hgi, go_sem, ↓reduceIte]; try (first | with_reducible refine unhide hQQ ?_ | refine ⟨by kernel_rfl, unhide hQQ ?_⟩); clear hQQ QQ) | with_reducible first | apply then_n | apply block_n | apply then_x | apply then_r | apply nog_n | apply nog_r | apply block_r | apply block_e (by decide) | apply block_x (by decide)))
            refine aw_cond2 (by simp (disch := first | decide | omega) only [hll, hgi, go_sem, ↓reduceIte]; rfl) ?_; first | refine .inl ⟨by first | rfl | exact decide_eq_true (by omega) | exact decide_eq_true (by assumption) | (simp (disch := first | decide | omega) only [if_pos_d, if_neg_d, decide_eq_true_eq, Bool.not_eq_true', decide_eq_false_iff_not]; omega), ?_⟩ | refine .inr ⟨by first | rfl | exact decide_eq_false (by omega) | exact decide_eq_false (by assumption) | (simp (disch := first | decide | omega) only [if_pos_d, if_neg_d, decide_eq_true_eq, Bool.not_eq_true', decide_eq_false_iff_not]; omega), ?_⟩
            (repeat (first | apply aw_seq | apply aw_block | apply aw_skip | apply aw_label | apply aw_exit | ((first | refine aw_region (hideO fun QQ hQQ => ?_) | refine aw_draw mixed (hideD fun QQ hQQ => ?_)); simp (maxSteps := 400000) (disch := first | decide | omega) only [hll, hgi, go_sem, ↓reduceIte]; try (first | with_reducible refine unhide hQQ ?_ | refine ⟨by kernel_rfl, unhide hQQ ?_⟩); clear hQQ QQ) | with_reducible first | apply then_n | apply block_n | apply then_x | apply then_r | apply nog_n | apply nog_r | apply block_r | apply block_e (by decide) | apply block_x (by decide)))
            ((refine callO_ok rfl rfl 14 true rfl (by simp (disch := first | decide | omega) only [hll, hgi, go_sem, ↓reduceIte]; try rfl) (fun _ => rfl) (hWi) Try.func14 rfl (by decide) ?_); simp (maxSteps := 400000) (disch := first | decide | omega) only [hll, hgi, go_sem, ↓reduceIte]; try (with_reducible refine unhide hQQ ?_; clear hQQ QQ)); (repeat (first | apply aw_seq | apply aw_block | apply aw_skip | apply aw_label | apply aw_exit | ((first | refine aw_region (hideO fun QQ hQQ => ?_) | refine aw_draw mixed (hideD fun QQ hQQ => ?_)); simp (maxSteps := 400000) (disch := first | decide | omega) only [hll, hgi, go_sem, ↓reduceIte]; try (first | with_reducible refine unhide hQQ ?_ | refine ⟨by kernel_rfl, unhide hQQ ?_⟩); clear hQQ QQ) | with_reducible first | apply then_n | apply block_n | apply then_x | apply then_r | apply nog_n | apply nog_r | apply block_r | apply block_e (by decide) | apply block_x (by decide)))
            ((refine callO_ok rfl rfl 18 true rfl (by simp (disch := first | decide | omega) only [hll, hgi, go_sem, ↓reduceIte]; try rfl) (fun _ => rfl) (hKi) Try.func18 rfl (by decide) ?_); simp (maxSteps := 400000) (disch := first | decide | omega) only [hll, hgi, go_sem, ↓reduceIte]; try (with_reducible refine unhide hQQ ?_; clear hQQ QQ)); (repeat (first | apply aw_seq | apply aw_block | apply aw_skip | apply aw_label | apply aw_exit | ((first | refine aw_region (hideO fun QQ hQQ => ?_) | refine aw_draw mixed (hideD fun QQ hQQ => ?_)); simp (maxSteps := 400000) (disch := first | decide | omega) only [hll, hgi, go_sem, ↓reduceIte]; try (first | with_reducible refine unhide hQQ ?_ | refine ⟨by kernel_rfl, unhide hQQ ?_⟩); clear hQQ QQ) | with_reducible first | apply then_n | apply block_n | apply then_x | apply then_r | apply nog_n | apply nog_r | apply block_r | apply block_e (by decide) | apply block_x (by decide)))
            refine aw_cond2 (by simp (disch := first | decide | omega) only [hll, hgi, go_sem, ↓reduceIte]; rfl) ?_; first | refine .inl ⟨by first | rfl | exact decide_eq_true (by omega) | exact decide_eq_true (by assumption) | (simp (disch := first | decide | omega) only [if_pos_d, if_neg_d, decide_eq_true_eq, Bool.not_eq_true', decide_eq_false_iff_not]; omega), ?_⟩ | refine .inr ⟨by first | rfl | exact decide_eq_false (by omega) | exact decide_eq_false (by assumption) | (simp (disch := first | decide | omega) only [if_pos_d, if_neg_d, decide_eq_true_eq, Bool.not_eq_true', decide_eq_false_iff_not]; omega), ?_⟩
            (repeat (first | apply aw_seq | apply aw_block | apply aw_skip | apply aw_label | apply aw_exit | ((first | refine aw_region (hideO fun QQ hQQ => ?_) | refine aw_draw mixed (hideD fun QQ hQQ => ?_)); simp (maxSteps := 400000) (disch := first | decide | omega) only [hll, hgi, go_sem, ↓reduceIte]; try (first | with_reducible refine unhide hQQ ?_ | refine ⟨by kernel_rfl, unhide hQQ ?_⟩); clear hQQ QQ) | with_reducible first | apply then_n | apply block_n | apply then_x | apply then_r | apply nog_n | apply nog_r | apply block_r | apply block_e (by decide) | apply block_x (by decide)))
            refine aw_cond2 (by simp (disch := first | decide | omega) only [hll, hgi, go_sem, ↓reduceIte]; rfl) ?_; first | refine .inl ⟨by first | rfl | exact decide_eq_true (by omega) | exact decide_eq_true (by assumption) | (simp (disch := first | decide | omega) only [if_pos_d, if_neg_d, decide_eq_true_eq, Bool.not_eq_true', decide_eq_false_iff_not]; omega), ?_⟩ | refine .inr ⟨by first | rfl | exact decide_eq_false (by omega) | exact decide_eq_false (by assumption) | (simp (disch := first | decide | omega) only [if_pos_d, if_neg_d, decide_eq_true_eq, Bool.not_eq_true', decide_eq_false_iff_not]; omega), ?_⟩
            cases hAB : AB i
            · try rw [hAB] at eab
              (repeat (first | apply aw_seq | apply aw_block | apply aw_skip | apply aw_label | apply aw_exit | ((first | refine aw_region (hideO fun QQ hQQ => ?_) | refine aw_draw mixed (hideD fun QQ hQQ => ?_)); simp (maxSteps := 400000) (disch := first | decide | omega) only [hll, hgi, go_sem, ↓reduceIte]; try (first | with_reducible refine unhide hQQ ?_ | refine ⟨by kernel_rfl, unhide hQQ ?_⟩); clear hQQ QQ) | with_reducible first | apply then_n | apply block_n | apply then_x | apply then_r | apply nog_n | apply nog_r | apply block_r | apply block_e (by decide) | apply block_x (by decide)))
              refine ⟨⟨i + 1, by omega⟩, ?_, weak_round ?_ (by first | rfl | (simp only [hll, hgi, go_sem, ↓reduceIte]))⟩
              rotate_left
              · simp only [efi, eab, hlos, hhis]
                (simp only [hll, hgi, go_sem, ↓reduceIte]; try rfl)
              · show bs.length - (i + 1) < bs.length - i
                omega
            · try rw [hAB] at eab
              (repeat (first | apply aw_seq | apply aw_block | apply aw_skip | apply aw_label | apply aw_exit | ((first | refine aw_region (hideO fun QQ hQQ => ?_) | refine aw_draw mixed (hideD fun QQ hQQ => ?_)); simp (maxSteps := 400000) (disch := first | decide | omega) only [hll, hgi, go_sem, ↓reduceIte]; try (first | with_reducible refine unhide hQQ ?_ | refine ⟨by kernel_rfl, unhide hQQ ?_⟩); clear hQQ QQ) | with_reducible first | apply then_n | apply block_n | apply then_x | apply then_r | apply nog_n | apply nog_r | apply block_r | apply block_e (by decide) | apply block_x (by decide)))
              refine ⟨⟨i + 1, by omega⟩, ?_, weak_round ?_ (by first | rfl | (simp only [hll, hgi, go_sem, ↓reduceIte]))⟩
              rotate_left
              · simp only [efi, eab, hlos, hhis]
                (simp only [hll, hgi, go_sem, ↓reduceIte]; try rfl)
              · show bs.length - (i + 1) < bs.length - i
                omega
          · skip
            have hk : TS i = 0 := by exact hci.2.2 c2
            rw [hk, show ((0 : Nat) : Int) = 0 from rfl] at hKi
            have efi := hfs i
            have eab := has i
            rw [hk] at efi eab
            rw [if_neg (fun h => hfn0 h.2)] at efi
            rw [show decide (0 = 2) = false from rfl, Bool.and_false] at eab
            (repeat (first | apply aw_seq | apply aw_block | apply aw_skip | apply aw_label | apply aw_exit | ((first | refine aw_region (hideO fun QQ hQQ => ?_) | refine aw_draw mixed (hideD fun QQ hQQ => ?_)); simp (maxSteps := 400000) (disch := first | decide | omega) only [hll, hgi, go_sem, ↓reduceIte]; try (first | with_reducible refine unhide hQQ ?_ | refine ⟨by kernel_rfl, unhide hQQ ?_⟩); clear hQQ QQ) | with_reducible first | apply then_n | apply block_n | apply then_x | apply then_r | apply nog_n | apply nog_r | apply block_r | apply block_e (by decide) | apply block_x (by decide)))
            refine aw_cond2 (by simp (disch := first | decide | omega) only [hll, hgi, go_sem, ↓reduceIte]; rfl) ?_; first | refine .inl ⟨by first | rfl | exact decide_eq_true (by omega) | exact decide_eq_true (by assumption) | (simp (disch := first | decide | omega) only [if_pos_d, if_neg_d, decide_eq_true_eq, Bool.not_eq_true', decide_eq_false_iff_not]; omega), ?_⟩ | refine .inr ⟨by first | rfl | exact decide_eq_false (by omega) | exact decide_eq_false (by assumption) | (simp (disch := first | decide | omega) only [if_pos_d, if_neg_d, decide_eq_true_eq, Bool.not_eq_true', decide_eq_false_iff_not]; omega), ?_⟩
            (repeat (first | apply aw_seq | apply aw_block | apply aw_skip | apply aw_label | apply aw_exit | ((first | refine aw_region (hideO fun QQ hQQ => ?_) | refine aw_draw mixed (hideD fun QQ hQQ => ?_)); simp (maxSteps := 400000) (disch := first | decide | omega) only [hll, hgi, go_sem, ↓reduceIte]; try (first | with_reducible refine unhide hQQ ?_ | refine ⟨by kernel_rfl, unhide hQQ ?_⟩); clear hQQ QQ) | with_reducible first | apply then_n | apply block_n | apply then_x | apply then_r | apply nog_n | apply nog_r | apply block_r | apply block_e (by decide) | apply block_x (by decide)))
            ((refine callO_ok rfl rfl 14 true rfl (by simp (disch := first | decide | omega) only [hll, hgi, go_sem, ↓reduceIte]; try rfl) (fun _ => rfl) (hWi) Try.func14 rfl (by decide) ?_); simp (maxSteps := 400000) (disch := first | decide | omega) only [hll, hgi, go_sem, ↓reduceIte]; try (with_reducible refine unhide hQQ ?_; clear hQQ QQ)); (repeat (first | apply aw_seq | apply aw_block | apply aw_skip | apply aw_label | apply aw_exit | ((first | refine aw_region (hideO fun QQ hQQ => ?_) | refine aw_draw mixed (hideD fun QQ hQQ => ?_)); simp (maxSteps := 400000) (disch := first | decide | omega) only [hll, hgi, go_sem, ↓reduceIte]; try (first | with_reducible refine unhide hQQ ?_ | refine ⟨by kernel_rfl, unhide hQQ ?_⟩); clear hQQ QQ) | with_reducible first | apply then_n | apply block_n | apply then_x | apply then_r | apply nog_n | apply nog_r | apply block_r | apply block_e (by decide) | apply block_x (by decide)))
            ((refine callO_ok rfl rfl 18 true rfl (by simp (disch := first | decide | omega) only [hll, hgi, go_sem, ↓reduceIte]; try rfl) (fun _ => rfl) (hKi) Try.func18 rfl (by decide) ?_); simp (maxSteps := 400000) (disch := first | decide | omega) only [hll, hgi, go_sem, ↓reduceIte]; try (with_reducible refine unhide hQQ ?_; clear hQQ QQ)); (repeat (first | apply aw_seq | apply aw_block | apply aw_skip | apply aw_label | apply aw_exit | ((first | refine aw_region (hideO fun QQ hQQ => ?_) | refine aw_draw mixed (hideD fun QQ hQQ => ?_)); simp (maxSteps := 400000) (disch := first | decide | omega) only [hll, hgi, go_sem, ↓reduceIte]; try (first | with_reducible refine unhide hQQ ?_ | refine ⟨by kernel_rfl, unhide hQQ ?_⟩); clear hQQ QQ) | with_reducible first | apply then_n | apply block_n | apply then_x | apply then_r | apply nog_n | apply nog_r | apply block_r | apply block_e (by decide) | apply block_x (by decide)))
            refine aw_cond2 (by simp (disch := first | decide | omega) only [hll, hgi, go_sem, ↓reduceIte]; rfl) ?_; first | refine .inl ⟨by first | rfl | exact decide_eq_true (by omega) | exact decide_eq_true (by assumption) | (simp (disch := first | decide | omega) only [if_pos_d, if_neg_d, decide_eq_true_eq, Bool.not_eq_true', decide_eq_false_iff_not]; omega), ?_⟩ | refine .inr ⟨by first | rfl | exact decide_eq_false (by omega) | exact decide_eq_false (by assumption) | (simp (disch := first | decide | omega) only [if_pos_d, if_neg_d, decide_eq_true_eq, Bool.not_eq_true', decide_eq_false_iff_not]; omega), ?_⟩
            (repeat (first | apply aw_seq | apply aw_block | apply aw_skip | apply aw_label | apply aw_exit | ((first | refine aw_region (hideO fun QQ hQQ => ?_) | refine aw_draw mixed (hideD fun QQ hQQ => ?_)); simp (maxSteps := 400000) (disch := first | decide | omega) only [hll, hgi, go_sem, ↓reduceIte]; try (first | with_reducible refine unhide hQQ ?_ | refine ⟨by kernel_rfl, unhide hQQ ?_⟩); clear hQQ QQ) | with_reducible first | apply then_n | apply block_n | apply then_x | apply then_r | apply nog_n | apply nog_r | apply block_r | apply block_e (by decide) | apply block_x (by decide)))
            refine aw_cond2 (by simp (disch := first | decide | omega) only [hll, hgi, go_sem, ↓reduceIte]; rfl) ?_; first | refine .inl ⟨by first | rfl | exact decide_eq_true (by omega) | exact decide_eq_true (by assumption) | (simp (disch := first | decide | omega) only [if_pos_d, if_neg_d, decide_eq_true_eq, Bool.not_eq_true', decide_eq_false_iff_not]; omega), ?_⟩ | refine .inr ⟨by first | rfl | exact decide_eq_false (by omega) | exact decide_eq_false (by assumption) | (simp (disch := first | decide | omega) only [if_pos_d, if_neg_d, decide_eq_true_eq, Bool.not_eq_true', decide_eq_false_iff_not]; omega), ?_⟩
            cases hAB : AB i
            · try rw [hAB] at eab
              (repeat (first | apply aw_seq | apply aw_block | apply aw_skip | apply aw_label | apply aw_exit | ((first | refine aw_region (hideO fun QQ hQQ => ?_) | refine aw_draw mixed (hideD fun QQ hQQ => ?_)); simp (maxSteps := 400000) (disch := first | decide | omega) only [hll, hgi, go_sem, ↓reduceIte]; try (first | with_reducible refine unhide hQQ ?_ | refine ⟨by kernel_rfl, unhide hQQ ?_⟩); clear hQQ QQ) | with_reducible first | apply then_n | apply block_n | apply then_x | apply then_r | apply nog_n | apply nog_r | apply block_r | apply block_e (by decide) | apply block_x (by decide)))
              refine ⟨⟨i + 1, by omega⟩, ?_, weak_round ?_ (by first | rfl | (simp only [hll, hgi, go_sem, ↓reduceIte]))⟩
              rotate_left
              · simp only [efi, eab, hlos, hhis]
                (simp only [hll, hgi, go_sem, ↓reduceIte]; try rfl)
              · show bs.length - (i + 1) < bs.length - i
                omega
            · try rw [hAB] at eab
              (repeat (first | apply aw_seq | apply aw_block | apply aw_skip | apply aw_label | apply aw_exit | ((first | refine aw_region (hideO fun QQ hQQ => ?_) | refine aw_draw mixed (hideD fun QQ hQQ => ?_)); simp (maxSteps := 400000) (disch := first | decide | omega) only [hll, hgi, go_sem, ↓reduceIte]; try (first | with_reducible refine unhide hQQ ?_ | refine ⟨by kernel_rfl, unhide hQQ ?_⟩); clear hQQ QQ) | with_reducible first | apply then_n | apply block_n | apply then_x | apply then_r | apply nog_n | apply nog_r | apply block_r | apply block_e (by decide) | apply block_x (by decide)))
              refine ⟨⟨i + 1, by omega⟩, ?_, weak_round ?_ (by first | rfl | (simp only [hll, hgi, go_sem, ↓reduceIte]))⟩
              rotate_left
              · simp only [efi, eab, hlos, hhis]
                (simp only [hll, hgi, go_sem, ↓reduceIte]; try rfl)
              · show bs.length - (i + 1) < bs.length - i
                omega
        · skip
          have hk : TS i = 1 := by omega
          rw [hk, show ((1 : Nat) : Int) = 1 from rfl] at hKi
          have efi := hfs i
          have eab := has i
          rw [hk] at efi eab
          rw [if_neg (fun h => by cases h.1)] at efi
          rw [show decide (1 = 2) = false from rfl, Bool.and_false] at eab
          (repeat (first | apply aw_seq | apply aw_block | apply aw_skip | apply aw_label | apply aw_exit | ((first | refine aw_region (hideO fun QQ hQQ => ?_) | refine aw_draw mixed (hideD fun QQ hQQ => ?_)); simp (maxSteps := 400000) (disch := first | decide | omega) only [hll, hgi, go_sem, ↓reduceIte]; try (first | with_reducible refine unhide hQQ ?_ | refine ⟨by kernel_rfl, unhide hQQ ?_⟩); clear hQQ QQ) | with_reducible first | apply then_n | apply block_n | apply then_x | apply then_r | apply nog_n | apply nog_r | apply block_r | apply block_e (by decide) | apply block_x (by decide)))
          refine aw_cond2 (by simp (disch := first | decide | omega) only [hll, hgi, go_sem, ↓reduceIte]; rfl) ?_; first | refine .inl ⟨by first | rfl | exact decide_eq_true (by omega) | exact decide_eq_true (by assumption) | (simp (disch := first | decide | omega) only [if_pos_d, if_neg_d, decide_eq_true_eq, Bool.not_eq_true', decide_eq_false_iff_not]; omega), ?_⟩ | refine .inr ⟨by first | rfl | exact decide_eq_false (by omega) | exact decide_eq_false (by assumption) | (simp (disch := first | decide | omega) only [if_pos_d, if_neg_d, decide_eq_true_eq, Bool.not_eq_true', decide_eq_false_iff_not]; omega), ?_⟩
          (repeat (first | apply aw_seq | apply aw_block | apply aw_skip | apply aw_label | apply aw_exit | ((first | refine aw_region (hideO fun QQ hQQ => ?_) | refine aw_draw mixed (hideD fun QQ hQQ => ?_)); simp (maxSteps := 400000) (disch := first | decide | omega) only [hll, hgi, go_sem, ↓reduceIte]; try (first | with_reducible refine unhide hQQ ?_ | refine ⟨by kernel_rfl, unhide hQQ ?_⟩); clear hQQ QQ) | with_reducible first | apply then_n | apply block_n | apply then_x | apply then_r | apply nog_n | apply nog_r | apply block_r | apply block_e (by decide) | apply block_x (by decide)))
          ((refine callO_ok rfl rfl 14 true rfl (by simp (disch := first | decide | omega) only [hll, hgi, go_sem, ↓reduceIte]; try rfl) (fun _ => rfl) (hWi) Try.func14 rfl (by decide) ?_); simp (maxSteps := 400000) (disch := first | decide | omega) only [hll, hgi, go_sem, ↓reduceIte]; try (with_reducible refine unhide hQQ ?_; clear hQQ QQ)); (repeat (first | apply aw_seq | apply aw_block | apply aw_skip | apply aw_label | apply aw_exit | ((first | refine aw_region (hideO fun QQ hQQ => ?_) | refine aw_draw mixed (hideD fun QQ hQQ => ?_)); simp (maxSteps := 400000) (disch := first | decide | omega) only [hll, hgi, go_sem, ↓reduceIte]; try (first | with_reducible refine unhide hQQ ?_ | refine ⟨by kernel_rfl, unhide hQQ ?_⟩); clear hQQ QQ) | with_reducible first | apply then_n | apply block_n | apply then_x | apply then_r | apply nog_n | apply nog_r | apply block_r | apply block_e (by decide) | apply block_x (by decide)))
          ((refine callO_ok rfl rfl 18 true rfl (by simp (disch := first | decide | omega) only [hll, hgi, go_sem, ↓reduceIte]; try rfl) (fun _ => rfl) (hKi) Try.func18 rfl (by decide) ?_); simp (maxSteps := 400000) (disch := first | decide | omega) only [hll, hgi, go_sem, ↓reduceIte]; try (with_reducible refine unhide hQQ ?_; clear hQQ QQ)); (repeat (first | apply aw_seq | apply aw_block | apply aw_skip | apply aw_label | apply aw_exit | ((first | refine aw_region (hideO fun QQ hQQ => ?_) | refine aw_draw mixed (hideD fun QQ hQQ => ?_)); simp (maxSteps := 400000) (disch := first | decide | omega) only [hll, hgi, go_sem, ↓reduceIte]; try (first | with_reducible refine unhide hQQ ?_ | refine ⟨by kernel_rfl, unhide hQQ ?_⟩); clear hQQ QQ) | with_reducible first | apply then_n | apply block_n | apply then_x | apply then_r | apply nog_n | apply nog_r | apply block_r | apply block_e (by decide) | apply block_x (by decide)))
          refine aw_cond2 (by simp (disch := first | decide | omega) only [hll, hgi, go_sem, ↓reduceIte]; rfl) ?_; first | refine .inl ⟨by first | rfl | exact decide_eq_true (by omega) | exact decide_eq_true (by assumption) | (simp (disch := first | decide | omega) only [if_pos_d, if_neg_d, decide_eq_true_eq, Bool.not_eq_true', decide_eq_false_iff_not]; omega), ?_⟩ | refine .inr ⟨by first | rfl | exact decide_eq_false (by omega) | exact decide_eq_false (by assumption) | (simp (disch := first | decide | omega) only [if_pos_d, if_neg_d, decide_eq_true_eq, Bool.not_eq_true', decide_eq_false_iff_not]; omega), ?_⟩
          (repeat (first | apply aw_seq | apply aw_block | apply aw_skip | apply aw_label | apply aw_exit | ((first | refine aw_region (hideO fun QQ hQQ => ?_) | refine aw_draw mixed (hideD fun QQ hQQ => ?_)); simp (maxSteps := 400000) (disch := first | decide | omega) only [hll, hgi, go_sem, ↓reduceIte]; try (first | with_reducible refine unhide hQQ ?_ | refine ⟨by kernel_rfl, unhide hQQ ?_⟩); clear hQQ QQ) | with_reducible first | apply then_n | apply block_n | apply then_x | apply then_r | apply nog_n | apply nog_r | apply block_r | apply block_e (by decide) | apply block_x (by decide)))
          refine aw_cond2 (by simp (disch := first | decide | omega) only [hll, hgi, go_sem, ↓reduceIte]; rfl) ?_; first | refine .inl ⟨by first | rfl | exact decide_eq_true (by omega) | exact decide_eq_true (by assumption) | (simp (disch := first | decide | omega) only [if_pos_d, if_neg_d, decide_eq_true_eq, Bool.not_eq_true', decide_eq_false_iff_not]; omega), ?_⟩ | refine .inr ⟨by first | rfl | exact decide_eq_false (by omega) | exact decide_eq_false (by assumption) | (simp (disch := first | decide | omega) only [if_pos_d, if_neg_d, decide_eq_true_eq, Bool.not_eq_true', decide_eq_false_iff_not]; omega), ?_⟩
          cases hAB : AB i
          · try rw [hAB] at eab
            (repeat (first | apply aw_seq | apply aw_block | apply aw_skip | apply aw_label | apply aw_exit | ((first | refine aw_region (hideO fun QQ hQQ => ?_) | refine aw_draw mixed (hideD fun QQ hQQ => ?_)); simp (maxSteps := 400000) (disch := first | decide | omega) only [hll, hgi, go_sem, ↓reduceIte]; try (first | with_reducible refine unhide hQQ ?_ | refine ⟨by kernel_rfl, unhide hQQ ?_⟩); clear hQQ QQ) | with_reducible first | apply then_n | apply block_n | apply then_x | apply then_r | apply nog_n | apply nog_r | apply block_r | apply block_e (by decide) | apply block_x (by decide)))
            refine ⟨⟨i + 1, by omega⟩, ?_, weak_round ?_ (by first | rfl | (simp only [hll, hgi, go_sem, ↓reduceIte]))⟩
            rotate_left
            · simp only [efi, eab, hlos, hhis]
              (simp only [hll, hgi, go_sem, ↓reduceIte]; try rfl)
            · show bs.length - (i + 1) < bs.length - i
              omega
          · try rw [hAB] at eab
            (repeat (first | apply aw_seq | apply aw_block | apply aw_skip | apply aw_label | apply aw_exit | ((first | refine aw_region (hideO fun QQ hQQ => ?_) | refine aw_draw mixed (hideD fun QQ hQQ => ?_)); simp (maxSteps := 400000) (disch := first | decide | omega) only [hll, hgi, go_sem, ↓reduceIte]; try (first | with_reducible refine unhide hQQ ?_ | refine ⟨by kernel_rfl, unhide hQQ ?_⟩); clear hQQ QQ) | with_reducible first | apply then_n | apply block_n | apply then_x | apply then_r | apply nog_n | apply nog_r | apply block_r | apply block_e (by decide) | apply block_x (by decide)))
            refine ⟨⟨i + 1, by omega⟩, ?_, weak_round ?_ (by first | rfl | (simp only [hll, hgi, go_sem, ↓reduceIte]))⟩
            rotate_left
            · simp only [efi, eab, hlos, hhis]
              (simp only [hll, hgi, go_sem, ↓reduceIte]; try rfl)
            · show bs.length - (i + 1) < bs.length - i
              omega
    · have hie : i = bs.length := by omega
      subst hie
      have hle := hll2
      obtain ⟨h1, h2, h3⟩ := halls
      have hs := hsum bs.length (by omega)
      clear hW' hK' hends hcs htl hbd hsum hgb hAl hPr hLi hfi hlos hhis hfs has
      obtain ⟨A1, A2⟩ := AS
      dsimp only at h1 h2 h3
      by_cases h2L : LS = 2
      · have hab : AB bs.length = true := by rw [← hal, h2L]; rfl
        rw [hab, h2L]
        refine tw ?_; try with_reducible intro QQ hQQ
        refine ti ?_; try clear hQQ QQ
        refine tw ?_; try with_reducible intro QQ hQQ
        refine ti ?_; try clear hQQ QQ
        refine tw ?_; try with_reducible intro QQ hQQ
        ((refine cO 13 rfl rfl rfl (haw) Try.func13 rfl ?_); refine tu ?_; try clear hQQ QQ); refine tw ?_; try with_reducible intro QQ hQQ
        refine aw_ret ?_; refine ⟨.inr rfl, ?_⟩; simp only [resA, res1, go_sem, ↓reduceIte]
      · have hab : AB bs.length = false := by rw [← hal]; exact decide_eq_false h2L
        rw [hab]
        have h2L' : ¬ ((LS : Nat) : Int) = 2 := by omega
        refine tw ?_; try with_reducible intro QQ hQQ
        refine ti ?_; try clear hQQ QQ
        refine tw ?_; try with_reducible intro QQ hQQ
        refine ti ?_; try clear hQQ QQ
        refine tw ?_; try with_reducible intro QQ hQQ
        ((refine cO 13 rfl rfl rfl (haw) Try.func13 rfl ?_); refine tu ?_; try clear hQQ QQ); refine tw ?_; try with_reducible intro QQ hQQ
        refine aw_ret ?_; refine ⟨.inr rfl, ?_⟩; simp only [resA, res1, go_sem, ↓reduceIte]
end
end Go.Proofs.Ytgdhdikeicgndaa
