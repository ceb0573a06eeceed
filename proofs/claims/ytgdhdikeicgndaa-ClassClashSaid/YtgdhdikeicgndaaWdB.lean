/- THE LAW ClassClash, walked. -/
import Derived.Test.YtgdhdikeicgndaaWdA
import Derived.Test.YtgdhdikeicgndaaKwc8
set_option linter.all false
namespace Go.Proofs.Ytgdhdikeicgndaa
open Go Go.RowKit Go.Sh Go.Pv Go.Cl
set_option maxHeartbeats 8000000
set_option maxRecDepth 20000
set_option pp.maxSteps 60000
attribute [local go_sem] eql4 neq4 bne_tf bne_ft beq_tf beq_ft
section
variable {bales : List (Int × Int × Int)} {may drift mist : Int}
theorem ok_ClassClash (bits : Int) (hw : 0 ≤ bits ∧ bits ≤ 255) : FunOK Try.prog 10 [lineR bales may drift mist, .one (.v (.int .u8 bits))] (.one (.one (.v (.bool true)))) := by
  have haw := ok_awake
  have hfi := ok_fine (bales := bales) (may := may) (drift := drift) (mist := mist)
  cases hv : lineB bales may drift mist
  · rw [hv] at hfi
    clear hv
    refine fun_ok (nt := 121) (rs := [.tmp 4]) Try.func10 rfl rfl rfl (by simp) fun Z w0 => ?_; simp only [initFr, avR, List.map_cons, List.map_nil]
    simp only [lineR, List.map_cons, List.map_nil]
    refine tw ?_; try with_reducible intro QQ hQQ
    ((refine cO 30 rfl rfl rfl (hfi) Try.func30 rfl ?_); refine tu ?_; try clear hQQ QQ); refine tw ?_; try with_reducible intro QQ hQQ
    refine ti ?_; try clear hQQ QQ
    refine tw ?_; try with_reducible intro QQ hQQ
    ((refine cO 13 rfl rfl rfl (haw) Try.func13 rfl ?_); refine tu ?_; try clear hQQ QQ); refine tw ?_; try with_reducible intro QQ hQQ
    refine aw_ret ?_; refine ⟨.inr rfl, ?_⟩; simp only [resA, res1, go_sem, ↓reduceIte]
  rw [hv] at hfi
  have hLi := ok_Line (bales := bales) (may := may) (drift := drift) (mist := mist)
  have hCl := ok_Clash (bales := bales) (may := may) (drift := drift) (mist := mist)
  obtain ⟨bs, May, D, M, rfl, rfl, rfl, rfl, hL, hMay, hD, hM⟩ := line_of hv
  have hs38 := fun x hx => s_clash38 (bs := bs) (May := May) (D := D) (M := M) hL hMay hD hM x hx
  have hb6 := hL.n6
  have hp6 := pow64 hb6
  have hp0 := Nat.two_pow_pos bs.length
  have hll : (bs.map baleP).length = bs.length := List.length_map _
  have hcan : canB (bs.map castB) D M = !clP D M bs (2 ^ bs.length - 1) := by
    rw [canB_cast]
    unfold clP
    rw [← decide_not]
    exact decide_eq_decide.2 (by omega)
  have hwy : whyC (bs.map castB) May D M = if clP D M bs (2 ^ bs.length - 1) = true then 0 else 4 := by
    unfold whyC
    rw [hv, if_pos rfl, nB_cast, List.length_map, Int.toNat_natCast, Int.toNat_natCast]
  have hwl : whyL (bs.map castB) May D M true = if clP D M bs (2 ^ bs.length - 1) = true then 10 else 0 := by
    simp only [whyL, hv, if_true, hcan]
    cases clP D M bs (2 ^ bs.length - 1) <;> rfl
  rw [hwy] at hCl
  rw [hwl] at hLi
  simp only [nB_cast, Int.toNat_natCast, lineR_cast, rows_cast] at hLi hCl hfi ⊢
  have hsh : ∀ (T' : TypeId) (p q : Operand), binA Try.prog .shl T' p q (.int .i64 1) (.int .i64 (bs.length : Int)) = some (.int .i64 ((2 ^ bs.length : Nat) : Int)) := fun T' p q => bin_shl_one .i64 T' p q (by omega)
  have ecast : ((2 ^ bs.length : Nat) : Int) - 1 = ((2 ^ bs.length - 1 : Nat) : Int) := by omega
  clear hcan hwy hwl hv
  cases hf : clP D M bs (2 ^ bs.length - 1)
  · rw [hf, if_neg (by decide)] at hLi hCl
    simp only [ansN, if_true, if_false, show ((4 : Int) = 0) = False from by decide] at hLi hCl
    clear hs38 hsh ecast
    refine fun_ok (nt := 121) (rs := [.tmp 4]) Try.func10 rfl rfl rfl (by simp) fun Z w0 => ?_; simp only [initFr, avR, List.map_cons, List.map_nil]
    refine tw ?_; try with_reducible intro QQ hQQ
    ((refine cO 30 rfl rfl rfl (hfi) Try.func30 rfl ?_); refine tu ?_; try clear hQQ QQ); refine tw ?_; try with_reducible intro QQ hQQ
    refine ti ?_; try clear hQQ QQ
    refine tw ?_; try with_reducible intro QQ hQQ
    ((refine cO 28 rfl rfl rfl (hCl) Try.func28 rfl ?_); refine tu ?_; try clear hQQ QQ); refine tw ?_; try with_reducible intro QQ hQQ
    ((refine cO 20 rfl rfl rfl (hLi) Try.func20 rfl ?_); refine tu ?_; try clear hQQ QQ); refine tw ?_; try with_reducible intro QQ hQQ
    refine ti ?_; try clear hQQ QQ
    refine tw ?_; try with_reducible intro QQ hQQ
    refine ti ?_; try clear hQQ QQ
    refine tw ?_; try with_reducible intro QQ hQQ
    ((refine cO 13 rfl rfl rfl (haw) Try.func13 rfl ?_); refine tu ?_; try clear hQQ QQ); refine tw ?_; try with_reducible intro QQ hQQ
    refine aw_ret ?_; refine ⟨.inr rfl, ?_⟩; simp only [resA, res1, go_sem, ↓reduceIte]
  · rw [hf, if_pos rfl] at hLi hCl
    simp only [ansN, if_true, if_false, show ((10 : Int) = 0) = False from by decide] at hLi hCl
    obtain ⟨g1, g2, g3, g4, g5⟩ := cl_least hL hf
    obtain ⟨bt, rfl⟩ : ∃ j : Nat, bits = j := ⟨bits.toNat, by omega⟩
    have hcv := conv5_3 bt hw
    have hand : ∀ (T' : TypeId) (p q : Operand), binA Try.prog .and T' p q (.int .i64 (bt : Int)) (.int .i64 ((2 ^ bs.length - 1 : Nat) : Int)) = some (.int .i64 ((bt &&& (2 ^ bs.length - 1) : Nat) : Int)) := fun T' p q => bin_and_nat T' p q (by omega) (by omega)
    have hol : bt &&& (2 ^ bs.length - 1) ≤ 2 ^ bs.length - 1 := Nat.and_le_right
    have g6 := g5 (bt &&& (2 ^ bs.length - 1)) (by omega)
    have co := hs38 (bt &&& (2 ^ bs.length - 1)) (by omega)
    have cs := hs38 (clS D M bs) (by omega)
    rw [g3] at cs
    have hz1 := ok_Size (bt &&& (2 ^ bs.length - 1)) (by omega)
    have hz2 := ok_Size (clS D M bs) (by omega)
    have hdel : ∀ i, (clS D M bs).testBit i = true → FunS Try.prog 38 [.one (.p (iP (diffN (clS D M bs) (2 ^ i) : Nat))), .one (.box 0 0)] [(0, .box [.p (.sl (bs.map baleP)), .p (iP (May : Int)), .p (iP (D : Int)), .p (iP (M : Int))])] 1 (.one (.one (.v (.bool false)))) := fun i hi => by
      have hle := diffN_le (clS D M bs) (2 ^ i)
      have := hs38 (diffN (clS D M bs) (2 ^ i)) (by omega)
      rw [g4 i hi] at this
      exact this
    generalize clS D M bs = cl at *
    generalize bt &&& (2 ^ bs.length - 1) = own at *
    obtain ⟨bo, hbo⟩ : ∃ b, clP D M bs own = b := ⟨_, rfl⟩
    rw [hbo] at co g6
    clear hs38 g3 g4 g5 hf hL hbo
    generalize hX : 2 ^ bs.length = X at *
    clear hX
    have hpo6 := popc6 (show own < 64 by omega)
    have hpc6 := popc6 (show cl < 64 by omega)
    generalize hpo : popc own = po at *
    generalize hpc : popc cl = pc at *
    refine fun_ok (nt := 121) (rs := [.tmp 4]) Try.func10 rfl rfl rfl (by simp) fun Z w0 => ?_; simp only [initFr, avR, List.map_cons, List.map_nil]
    refine tw ?_; try with_reducible intro QQ hQQ
    ((refine cO 30 rfl rfl rfl (hfi) Try.func30 rfl ?_); refine tu ?_; try clear hQQ QQ); refine tw ?_; try with_reducible intro QQ hQQ
    refine ti ?_; try clear hQQ QQ
    refine tw ?_; try with_reducible intro QQ hQQ
    ((refine cO 28 rfl rfl rfl (hCl) Try.func28 rfl ?_); refine tu ?_; try clear hQQ QQ); refine tw ?_; try with_reducible intro QQ hQQ
    ((refine cO 20 rfl rfl rfl (hLi) Try.func20 rfl ?_); refine tu ?_; try clear hQQ QQ); refine tw ?_; try with_reducible intro QQ hQQ
    refine ti ?_; try clear hQQ QQ
    refine tw ?_; try with_reducible intro QQ hQQ
    refine ti ?_; try clear hQQ QQ
    (repeat (first | apply aw_seq | apply aw_block | apply aw_skip | apply aw_label | apply aw_exit | ((first | refine aw_region (hideO fun QQ hQQ => ?_) | refine aw_draw mixed (hideD fun QQ hQQ => ?_)); simp (maxSteps := 400000) (disch := first | decide | omega) only [hll, hsh, ecast, go_sem, ↓reduceIte]; try (first | with_reducible refine unhide hQQ ?_ | refine ⟨by kernel_rfl, unhide hQQ ?_⟩); clear hQQ QQ) | with_reducible first | apply then_n | apply block_n | apply then_x | apply then_r | apply nog_n | apply nog_r | apply block_r | apply block_e (by decide) | apply block_x (by decide)))
    (refine callO_S [0] (cs) rfl rfl (by simp (disch := first | decide | omega) only [hll, hsh, ecast, go_sem, ↓reduceIte]; try rfl) (by simp (disch := first | decide | omega) only [hll, hsh, ecast, go_sem, ↓reduceIte]; try rfl) Try.func38 rfl (by decide) (by rfl) (by repeat' (first | trivial | apply And.intro | (simp (disch := first | decide | omega) only [hll, hsh, ecast, go_sem, ↓reduceIte]; first | done | rfl))) (by decide) (by decide) (by first | rfl | (simp (disch := first | decide | omega) only [hll, hsh, ecast, go_sem, ↓reduceIte]; try rfl)) ?_); simp (maxSteps := 400000) (disch := first | decide | omega) only [hll, hsh, ecast, go_sem, ↓reduceIte]; (try (with_reducible refine unhide hQQ ?_; clear hQQ QQ; (repeat with_reducible first | apply then_n | apply block_n | apply then_x | apply then_r | apply nog_n | apply nog_r | apply block_r | apply block_e (by decide) | apply block_x (by decide))))
    (repeat (first | apply aw_seq | apply aw_block | apply aw_skip | apply aw_label | apply aw_exit | ((first | refine aw_region (hideO fun QQ hQQ => ?_) | refine aw_draw mixed (hideD fun QQ hQQ => ?_)); simp (maxSteps := 400000) (disch := first | decide | omega) only [hll, hsh, ecast, go_sem, ↓reduceIte]; try (first | with_reducible refine unhide hQQ ?_ | refine ⟨by kernel_rfl, unhide hQQ ?_⟩); clear hQQ QQ) | with_reducible first | apply then_n | apply block_n | apply then_x | apply then_r | apply nog_n | apply nog_r | apply block_r | apply block_e (by decide) | apply block_x (by decide)))
    refine aw_cond2 (by simp (disch := first | decide | omega) only [hll, hsh, ecast, go_sem, ↓reduceIte]; rfl) ?_; first | refine .inl ⟨by first | rfl | exact decide_eq_true (by omega) | exact decide_eq_true (by assumption) | (simp (disch := first | decide | omega) only [if_pos_d, if_neg_d, decide_eq_true_eq, Bool.not_eq_true', decide_eq_false_iff_not]; omega), ?_⟩ | refine .inr ⟨by first | rfl | exact decide_eq_false (by omega) | exact decide_eq_false (by assumption) | (simp (disch := first | decide | omega) only [if_pos_d, if_neg_d, decide_eq_true_eq, Bool.not_eq_true', decide_eq_false_iff_not]; omega), ?_⟩
    (repeat (first | apply aw_seq | apply aw_block | apply aw_skip | apply aw_label | apply aw_exit | ((first | refine aw_region (hideO fun QQ hQQ => ?_) | refine aw_draw mixed (hideD fun QQ hQQ => ?_)); simp (maxSteps := 400000) (disch := first | decide | omega) only [hll, hsh, ecast, go_sem, ↓reduceIte]; try (first | with_reducible refine unhide hQQ ?_ | refine ⟨by kernel_rfl, unhide hQQ ?_⟩); clear hQQ QQ) | with_reducible first | apply then_n | apply block_n | apply then_x | apply then_r | apply nog_n | apply nog_r | apply block_r | apply block_e (by decide) | apply block_x (by decide)))
    refine aw_weak (weak_keep [1, 5, 9, 10, 69, 70] (by simp only [hll, hsh, ecast, go_sem, ↓reduceIte]; rfl)) ?_
    refine aw_loop_ov (ι := { i : Nat // i ≤ bs.length }) (fun i => [(70, iA i.1)]) (fun _ => []) (fun i => bs.length - i.1) ⟨0, by omega⟩ (by first | rfl | (simp only [hll, hsh, ecast, go_sem, ↓reduceIte]; first | done | rfl | (simp; try rfl))) ?_
    rintro ⟨i, hi'⟩
    simp (disch := decide) only [ov, ovL, AL.get_nil, AL.get_eq, AL.get_ne, Option.getD_some, Option.getD_none]
    by_cases hil : i < bs.length
    · have hshr : ∀ (T : TypeId) (p q : Operand), binA Try.prog .shr T p q (.int .i64 (cl : Int)) (.int .i64 (i : Int)) = some (.int .i64 ((cl >>> i : Nat) : Int)) := fun T p q => bin_shr_nat .i64 T p q (by omega) (by omega)
      have hle : cl >>> i ≤ cl := Nat.shiftRight_le cl i
      have han : ∀ (T : TypeId) (p q : Operand), binA Try.prog .and T p q (.int .i64 ((cl >>> i : Nat) : Int)) (.int .i64 1) = some (.int .i64 ((cl >>> i &&& 1 : Nat) : Int)) := fun T p q => bin_and_nat T p q (a := cl >>> i) (b := 1) (by omega) (by omega)
      have hbit := bit_and1 cl i
      have hp5 := pow_six (b := i) (by omega)
      have hshl : ∀ (T' : TypeId) (p q : Operand), binA Try.prog .shl T' p q (.int .i64 1) (.int .i64 (i : Int)) = some (.int .i64 ((2 ^ i : Nat) : Int)) := fun T' p q => bin_shl_one .i64 T' p q (by omega)
      have hdn : ∀ (T : TypeId) (x y : Operand), binA Try.prog .andNot T x y (.int .i64 (cl : Int)) (.int .i64 ((2 ^ i : Nat) : Int)) = some (.int .i64 ((diffN cl (2 ^ i) : Nat) : Int)) := fun T x y => bin_andNot_nat T x y (by omega) (by omega)
      have hd := hdel i
      generalize diffN cl (2 ^ i) = dl at *
      generalize 2 ^ i = pi at *
      generalize cl >>> i &&& 1 = b1' at *
      generalize cl >>> i = x1 at *
      cases htb : cl.testBit i with
      | true =>
        rw [htb, if_pos rfl] at hbit
        subst hbit
        have hd := hd htb
        (repeat (first | apply aw_seq | apply aw_block | apply aw_skip | apply aw_label | apply aw_exit | ((first | refine aw_region (hideO fun QQ hQQ => ?_) | refine aw_draw mixed (hideD fun QQ hQQ => ?_)); simp (maxSteps := 400000) (disch := first | decide | omega) only [hshr, han, hshl, hdn, go_sem, ↓reduceIte]; try (first | with_reducible refine unhide hQQ ?_ | refine ⟨by kernel_rfl, unhide hQQ ?_⟩); clear hQQ QQ) | with_reducible first | apply then_n | apply block_n | apply then_x | apply then_r | apply nog_n | apply nog_r | apply block_r | apply block_e (by decide) | apply block_x (by decide)))
        refine aw_cond2 (by simp (disch := first | decide | omega) only [hshr, han, hshl, hdn, go_sem, ↓reduceIte]; rfl) ?_; first | refine .inl ⟨by first | rfl | exact decide_eq_true (by omega) | exact decide_eq_true (by assumption) | (simp (disch := first | decide | omega) only [if_pos_d, if_neg_d, decide_eq_true_eq, Bool.not_eq_true', decide_eq_false_iff_not]; omega), ?_⟩ | refine .inr ⟨by first | rfl | exact decide_eq_false (by omega) | exact decide_eq_false (by assumption) | (simp (disch := first | decide | omega) only [if_pos_d, if_neg_d, decide_eq_true_eq, Bool.not_eq_true', decide_eq_false_iff_not]; omega), ?_⟩
        (repeat (first | apply aw_seq | apply aw_block | apply aw_skip | apply aw_label | apply aw_exit | ((first | refine aw_region (hideO fun QQ hQQ => ?_) | refine aw_draw mixed (hideD fun QQ hQQ => ?_)); simp (maxSteps := 400000) (disch := first | decide | omega) only [hshr, han, hshl, hdn, go_sem, ↓reduceIte]; try (first | with_reducible refine unhide hQQ ?_ | refine ⟨by kernel_rfl, unhide hQQ ?_⟩); clear hQQ QQ) | with_reducible first | apply then_n | apply block_n | apply then_x | apply then_r | apply nog_n | apply nog_r | apply block_r | apply block_e (by decide) | apply block_x (by decide)))
        (refine callO_S [0] (hd) rfl rfl (by simp (disch := first | decide | omega) only [hshr, han, hshl, hdn, go_sem, ↓reduceIte]; try rfl) (by simp (disch := first | decide | omega) only [hshr, han, hshl, hdn, go_sem, ↓reduceIte]; try rfl) Try.func38 rfl (by decide) (by rfl) (by repeat' (first | trivial | apply And.intro | (simp (disch := first | decide | omega) only [hshr, han, hshl, hdn, go_sem, ↓reduceIte]; first | done | rfl))) (by decide) (by decide) (by first | rfl | (simp (disch := first | decide | omega) only [hshr, han, hshl, hdn, go_sem, ↓reduceIte]; try rfl)) ?_); simp (maxSteps := 400000) (disch := first | decide | omega) only [hshr, han, hshl, hdn, go_sem, ↓reduceIte]; (try (with_reducible refine unhide hQQ ?_; clear hQQ QQ; (repeat with_reducible first | apply then_n | apply block_n | apply then_x | apply then_r | apply nog_n | apply nog_r | apply block_r | apply block_e (by decide) | apply block_x (by decide))))
        (repeat (first | apply aw_seq | apply aw_block | apply aw_skip | apply aw_label | apply aw_exit | ((first | refine aw_region (hideO fun QQ hQQ => ?_) | refine aw_draw mixed (hideD fun QQ hQQ => ?_)); simp (maxSteps := 400000) (disch := first | decide | omega) only [hshr, han, hshl, hdn, go_sem, ↓reduceIte]; try (first | with_reducible refine unhide hQQ ?_ | refine ⟨by kernel_rfl, unhide hQQ ?_⟩); clear hQQ QQ) | with_reducible first | apply then_n | apply block_n | apply then_x | apply then_r | apply nog_n | apply nog_r | apply block_r | apply block_e (by decide) | apply block_x (by decide)))
        refine aw_cond2 (by simp (disch := first | decide | omega) only [hshr, han, hshl, hdn, go_sem, ↓reduceIte]; rfl) ?_; first | refine .inl ⟨by first | rfl | exact decide_eq_true (by omega) | exact decide_eq_true (by assumption) | (simp (disch := first | decide | omega) only [if_pos_d, if_neg_d, decide_eq_true_eq, Bool.not_eq_true', decide_eq_false_iff_not]; omega), ?_⟩ | refine .inr ⟨by first | rfl | exact decide_eq_false (by omega) | exact decide_eq_false (by assumption) | (simp (disch := first | decide | omega) only [if_pos_d, if_neg_d, decide_eq_true_eq, Bool.not_eq_true', decide_eq_false_iff_not]; omega), ?_⟩
        (repeat (first | apply aw_seq | apply aw_block | apply aw_skip | apply aw_label | apply aw_exit | ((first | refine aw_region (hideO fun QQ hQQ => ?_) | refine aw_draw mixed (hideD fun QQ hQQ => ?_)); simp (maxSteps := 400000) (disch := first | decide | omega) only [hshr, han, hshl, hdn, go_sem, ↓reduceIte]; try (first | with_reducible refine unhide hQQ ?_ | refine ⟨by kernel_rfl, unhide hQQ ?_⟩); clear hQQ QQ) | with_reducible first | apply then_n | apply block_n | apply then_x | apply then_r | apply nog_n | apply nog_r | apply block_r | apply block_e (by decide) | apply block_x (by decide)))
        (refine ⟨⟨i + 1, by omega⟩, ?_, weak_round (by simp only [hshr, han, hshl, hdn, go_sem, ↓reduceIte]; first | done | rfl) (by first | rfl | (simp only [hshr, han, hshl, hdn, go_sem, ↓reduceIte]))⟩; (simp only; omega))
      | false =>
        rw [htb, if_neg (by decide)] at hbit
        subst hbit
        clear hd
        (repeat (first | apply aw_seq | apply aw_block | apply aw_skip | apply aw_label | apply aw_exit | ((first | refine aw_region (hideO fun QQ hQQ => ?_) | refine aw_draw mixed (hideD fun QQ hQQ => ?_)); simp (maxSteps := 400000) (disch := first | decide | omega) only [hshr, han, hshl, hdn, go_sem, ↓reduceIte]; try (first | with_reducible refine unhide hQQ ?_ | refine ⟨by kernel_rfl, unhide hQQ ?_⟩); clear hQQ QQ) | with_reducible first | apply then_n | apply block_n | apply then_x | apply then_r | apply nog_n | apply nog_r | apply block_r | apply block_e (by decide) | apply block_x (by decide)))
        refine aw_cond2 (by simp (disch := first | decide | omega) only [hshr, han, hshl, hdn, go_sem, ↓reduceIte]; rfl) ?_; first | refine .inl ⟨by first | rfl | exact decide_eq_true (by omega) | exact decide_eq_true (by assumption) | (simp (disch := first | decide | omega) only [if_pos_d, if_neg_d, decide_eq_true_eq, Bool.not_eq_true', decide_eq_false_iff_not]; omega), ?_⟩ | refine .inr ⟨by first | rfl | exact decide_eq_false (by omega) | exact decide_eq_false (by assumption) | (simp (disch := first | decide | omega) only [if_pos_d, if_neg_d, decide_eq_true_eq, Bool.not_eq_true', decide_eq_false_iff_not]; omega), ?_⟩
        (repeat (first | apply aw_seq | apply aw_block | apply aw_skip | apply aw_label | apply aw_exit | ((first | refine aw_region (hideO fun QQ hQQ => ?_) | refine aw_draw mixed (hideD fun QQ hQQ => ?_)); simp (maxSteps := 400000) (disch := first | decide | omega) only [hshr, han, hshl, hdn, go_sem, ↓reduceIte]; try (first | with_reducible refine unhide hQQ ?_ | refine ⟨by kernel_rfl, unhide hQQ ?_⟩); clear hQQ QQ) | with_reducible first | apply then_n | apply block_n | apply then_x | apply then_r | apply nog_n | apply nog_r | apply block_r | apply block_e (by decide) | apply block_x (by decide)))
        refine aw_cond2 (by simp (disch := first | decide | omega) only [hshr, han, hshl, hdn, go_sem, ↓reduceIte]; rfl) ?_; first | refine .inl ⟨by first | rfl | exact decide_eq_true (by omega) | exact decide_eq_true (by assumption) | (simp (disch := first | decide | omega) only [if_pos_d, if_neg_d, decide_eq_true_eq, Bool.not_eq_true', decide_eq_false_iff_not]; omega), ?_⟩ | refine .inr ⟨by first | rfl | exact decide_eq_false (by omega) | exact decide_eq_false (by assumption) | (simp (disch := first | decide | omega) only [if_pos_d, if_neg_d, decide_eq_true_eq, Bool.not_eq_true', decide_eq_false_iff_not]; omega), ?_⟩
        (repeat (first | apply aw_seq | apply aw_block | apply aw_skip | apply aw_label | apply aw_exit | ((first | refine aw_region (hideO fun QQ hQQ => ?_) | refine aw_draw mixed (hideD fun QQ hQQ => ?_)); simp (maxSteps := 400000) (disch := first | decide | omega) only [hshr, han, hshl, hdn, go_sem, ↓reduceIte]; try (first | with_reducible refine unhide hQQ ?_ | refine ⟨by kernel_rfl, unhide hQQ ?_⟩); clear hQQ QQ) | with_reducible first | apply then_n | apply block_n | apply then_x | apply then_r | apply nog_n | apply nog_r | apply block_r | apply block_e (by decide) | apply block_x (by decide)))
        (refine ⟨⟨i + 1, by omega⟩, ?_, weak_round (by simp only [hshr, han, hshl, hdn, go_sem, ↓reduceIte]; first | done | rfl) (by first | rfl | (simp only [hshr, han, hshl, hdn, go_sem, ↓reduceIte]))⟩; (simp only; omega))
    · clear hdel
      (repeat (first | apply aw_seq | apply aw_block | apply aw_skip | apply aw_label | apply aw_exit | ((first | refine aw_region (hideO fun QQ hQQ => ?_) | refine aw_draw mixed (hideD fun QQ hQQ => ?_)); simp (maxSteps := 400000) (disch := first | decide | omega) only [hcv, hand, go_sem, ↓reduceIte]; try (first | with_reducible refine unhide hQQ ?_ | refine ⟨by kernel_rfl, unhide hQQ ?_⟩); clear hQQ QQ) | with_reducible first | apply then_n | apply block_n | apply then_x | apply then_r | apply nog_n | apply nog_r | apply block_r | apply block_e (by decide) | apply block_x (by decide)))
      refine aw_cond2 (by simp (disch := first | decide | omega) only [hcv, hand, go_sem, ↓reduceIte]; rfl) ?_; first | refine .inl ⟨by first | rfl | exact decide_eq_true (by omega) | exact decide_eq_true (by assumption) | (simp (disch := first | decide | omega) only [if_pos_d, if_neg_d, decide_eq_true_eq, Bool.not_eq_true', decide_eq_false_iff_not]; omega), ?_⟩ | refine .inr ⟨by first | rfl | exact decide_eq_false (by omega) | exact decide_eq_false (by assumption) | (simp (disch := first | decide | omega) only [if_pos_d, if_neg_d, decide_eq_true_eq, Bool.not_eq_true', decide_eq_false_iff_not]; omega), ?_⟩
      (repeat (first | apply aw_seq | apply aw_block | apply aw_skip | apply aw_label | apply aw_exit | ((first | refine aw_region (hideO fun QQ hQQ => ?_) | refine aw_draw mixed (hideD fun QQ hQQ => ?_)); simp (maxSteps := 400000) (disch := first | decide | omega) only [hcv, hand, go_sem, ↓reduceIte]; try (first | with_reducible refine unhide hQQ ?_ | refine ⟨by kernel_rfl, unhide hQQ ?_⟩); clear hQQ QQ) | with_reducible first | apply then_n | apply block_n | apply then_x | apply then_r | apply nog_n | apply nog_r | apply block_r | apply block_e (by decide) | apply block_x (by decide)))
      cases bo
      · (refine callO_S [0] (co) rfl rfl (by simp (disch := first | decide | omega) only [hcv, hand, go_sem, ↓reduceIte]; try rfl) (by simp (disch := first | decide | omega) only [hcv, hand, go_sem, ↓reduceIte]; try rfl) Try.func38 rfl (by decide) (by rfl) (by repeat' (first | trivial | apply And.intro | (simp (disch := first | decide | omega) only [hcv, hand, go_sem, ↓reduceIte]; first | done | rfl))) (by decide) (by decide) (by first | rfl | (simp (disch := first | decide | omega) only [hcv, hand, go_sem, ↓reduceIte]; try rfl)) ?_); simp (maxSteps := 400000) (disch := first | decide | omega) only [hcv, hand, go_sem, ↓reduceIte]; (try (with_reducible refine unhide hQQ ?_; clear hQQ QQ; (repeat with_reducible first | apply then_n | apply block_n | apply then_x | apply then_r | apply nog_n | apply nog_r | apply block_r | apply block_e (by decide) | apply block_x (by decide))))
        (repeat (first | apply aw_seq | apply aw_block | apply aw_skip | apply aw_label | apply aw_exit | ((first | refine aw_region (hideO fun QQ hQQ => ?_) | refine aw_draw mixed (hideD fun QQ hQQ => ?_)); simp (maxSteps := 400000) (disch := first | decide | omega) only [hcv, hand, go_sem, ↓reduceIte]; try (first | with_reducible refine unhide hQQ ?_ | refine ⟨by kernel_rfl, unhide hQQ ?_⟩); clear hQQ QQ) | with_reducible first | apply then_n | apply block_n | apply then_x | apply then_r | apply nog_n | apply nog_r | apply block_r | apply block_e (by decide) | apply block_x (by decide)))
        ((refine callO_ok rfl rfl 13 true rfl (by simp (disch := first | decide | omega) only [hcv, hand, go_sem, ↓reduceIte]; try rfl) (fun _ => rfl) (haw) Try.func13 rfl (by decide) ?_); simp (maxSteps := 400000) (disch := first | decide | omega) only [hcv, hand, go_sem, ↓reduceIte]; try (with_reducible refine unhide hQQ ?_; clear hQQ QQ)); (repeat (first | apply aw_seq | apply aw_block | apply aw_skip | apply aw_label | apply aw_exit | ((first | refine aw_region (hideO fun QQ hQQ => ?_) | refine aw_draw mixed (hideD fun QQ hQQ => ?_)); simp (maxSteps := 400000) (disch := first | decide | omega) only [hcv, hand, go_sem, ↓reduceIte]; try (first | with_reducible refine unhide hQQ ?_ | refine ⟨by kernel_rfl, unhide hQQ ?_⟩); clear hQQ QQ) | with_reducible first | apply then_n | apply block_n | apply then_x | apply then_r | apply nog_n | apply nog_r | apply block_r | apply block_e (by decide) | apply block_x (by decide)))
        refine aw_ret ?_; refine ⟨.inr rfl, ?_⟩; simp only [resA, res1, go_sem, ↓reduceIte]
      · have g6 := g6 rfl
        by_cases hlt : pc < po
        · (refine callO_S [0] (co) rfl rfl (by simp (disch := first | decide | omega) only [hcv, hand, go_sem, ↓reduceIte]; try rfl) (by simp (disch := first | decide | omega) only [hcv, hand, go_sem, ↓reduceIte]; try rfl) Try.func38 rfl (by decide) (by rfl) (by repeat' (first | trivial | apply And.intro | (simp (disch := first | decide | omega) only [hcv, hand, go_sem, ↓reduceIte]; first | done | rfl))) (by decide) (by decide) (by first | rfl | (simp (disch := first | decide | omega) only [hcv, hand, go_sem, ↓reduceIte]; try rfl)) ?_); simp (maxSteps := 400000) (disch := first | decide | omega) only [hcv, hand, go_sem, ↓reduceIte]; (try (with_reducible refine unhide hQQ ?_; clear hQQ QQ; (repeat with_reducible first | apply then_n | apply block_n | apply then_x | apply then_r | apply nog_n | apply nog_r | apply block_r | apply block_e (by decide) | apply block_x (by decide))))
          (refine callO_ok rfl rfl 39 true rfl (by simp (disch := first | decide | omega) only [hcv, hand, go_sem, ↓reduceIte]; try rfl) (fun _ => rfl) (hz1) Try.func39 rfl (by decide) ?_); simp (maxSteps := 400000) (disch := first | decide | omega) only [hcv, hand, go_sem, ↓reduceIte]; (try (with_reducible refine unhide hQQ ?_; clear hQQ QQ; (repeat with_reducible first | apply then_n | apply block_n | apply then_x | apply then_r | apply nog_n | apply nog_r | apply block_r | apply block_e (by decide) | apply block_x (by decide))))
          ((refine callO_ok rfl rfl 39 true rfl (by simp (disch := first | decide | omega) only [hcv, hand, go_sem, ↓reduceIte]; try rfl) (fun _ => rfl) (hz2) Try.func39 rfl (by decide) ?_); simp (maxSteps := 400000) (disch := first | decide | omega) only [hcv, hand, go_sem, ↓reduceIte]; try (with_reducible refine unhide hQQ ?_; clear hQQ QQ)); (repeat (first | apply aw_seq | apply aw_block | apply aw_skip | apply aw_label | apply aw_exit | ((first | refine aw_region (hideO fun QQ hQQ => ?_) | refine aw_draw mixed (hideD fun QQ hQQ => ?_)); simp (maxSteps := 400000) (disch := first | decide | omega) only [hcv, hand, go_sem, ↓reduceIte]; try (first | with_reducible refine unhide hQQ ?_ | refine ⟨by kernel_rfl, unhide hQQ ?_⟩); clear hQQ QQ) | with_reducible first | apply then_n | apply block_n | apply then_x | apply then_r | apply nog_n | apply nog_r | apply block_r | apply block_e (by decide) | apply block_x (by decide)))
          ((refine callO_ok rfl rfl 13 true rfl (by simp (disch := first | decide | omega) only [hcv, hand, go_sem, ↓reduceIte]; try rfl) (fun _ => rfl) (haw) Try.func13 rfl (by decide) ?_); simp (maxSteps := 400000) (disch := first | decide | omega) only [hcv, hand, go_sem, ↓reduceIte]; try (with_reducible refine unhide hQQ ?_; clear hQQ QQ)); (repeat (first | apply aw_seq | apply aw_block | apply aw_skip | apply aw_label | apply aw_exit | ((first | refine aw_region (hideO fun QQ hQQ => ?_) | refine aw_draw mixed (hideD fun QQ hQQ => ?_)); simp (maxSteps := 400000) (disch := first | decide | omega) only [hcv, hand, go_sem, ↓reduceIte]; try (first | with_reducible refine unhide hQQ ?_ | refine ⟨by kernel_rfl, unhide hQQ ?_⟩); clear hQQ QQ) | with_reducible first | apply then_n | apply block_n | apply then_x | apply then_r | apply nog_n | apply nog_r | apply block_r | apply block_e (by decide) | apply block_x (by decide)))
          refine aw_ret ?_; refine ⟨.inr rfl, ?_⟩; simp only [resA, res1, go_sem, ↓reduceIte]
        · have heq : po = pc := by omega
          have hge : cl ≤ own := by omega
          subst heq
          (refine callO_S [0] (co) rfl rfl (by simp (disch := first | decide | omega) only [hcv, hand, go_sem, ↓reduceIte]; try rfl) (by simp (disch := first | decide | omega) only [hcv, hand, go_sem, ↓reduceIte]; try rfl) Try.func38 rfl (by decide) (by rfl) (by repeat' (first | trivial | apply And.intro | (simp (disch := first | decide | omega) only [hcv, hand, go_sem, ↓reduceIte]; first | done | rfl))) (by decide) (by decide) (by first | rfl | (simp (disch := first | decide | omega) only [hcv, hand, go_sem, ↓reduceIte]; try rfl)) ?_); simp (maxSteps := 400000) (disch := first | decide | omega) only [hcv, hand, go_sem, ↓reduceIte]; (try (with_reducible refine unhide hQQ ?_; clear hQQ QQ; (repeat with_reducible first | apply then_n | apply block_n | apply then_x | apply then_r | apply nog_n | apply nog_r | apply block_r | apply block_e (by decide) | apply block_x (by decide))))
          (refine callO_ok rfl rfl 39 true rfl (by simp (disch := first | decide | omega) only [hcv, hand, go_sem, ↓reduceIte]; try rfl) (fun _ => rfl) (hz1) Try.func39 rfl (by decide) ?_); simp (maxSteps := 400000) (disch := first | decide | omega) only [hcv, hand, go_sem, ↓reduceIte]; (try (with_reducible refine unhide hQQ ?_; clear hQQ QQ; (repeat with_reducible first | apply then_n | apply block_n | apply then_x | apply then_r | apply nog_n | apply nog_r | apply block_r | apply block_e (by decide) | apply block_x (by decide))))
          (refine callO_ok rfl rfl 39 true rfl (by simp (disch := first | decide | omega) only [hcv, hand, go_sem, ↓reduceIte]; try rfl) (fun _ => rfl) (hz2) Try.func39 rfl (by decide) ?_); simp (maxSteps := 400000) (disch := first | decide | omega) only [hcv, hand, go_sem, ↓reduceIte]; (try (with_reducible refine unhide hQQ ?_; clear hQQ QQ; (repeat with_reducible first | apply then_n | apply block_n | apply then_x | apply then_r | apply nog_n | apply nog_r | apply block_r | apply block_e (by decide) | apply block_x (by decide))))
          (refine callO_ok rfl rfl 39 true rfl (by simp (disch := first | decide | omega) only [hcv, hand, go_sem, ↓reduceIte]; try rfl) (fun _ => rfl) (hz1) Try.func39 rfl (by decide) ?_); simp (maxSteps := 400000) (disch := first | decide | omega) only [hcv, hand, go_sem, ↓reduceIte]; (try (with_reducible refine unhide hQQ ?_; clear hQQ QQ; (repeat with_reducible first | apply then_n | apply block_n | apply then_x | apply then_r | apply nog_n | apply nog_r | apply block_r | apply block_e (by decide) | apply block_x (by decide))))
          ((refine callO_ok rfl rfl 39 true rfl (by simp (disch := first | decide | omega) only [hcv, hand, go_sem, ↓reduceIte]; try rfl) (fun _ => rfl) (hz2) Try.func39 rfl (by decide) ?_); simp (maxSteps := 400000) (disch := first | decide | omega) only [hcv, hand, go_sem, ↓reduceIte]; try (with_reducible refine unhide hQQ ?_; clear hQQ QQ)); (repeat (first | apply aw_seq | apply aw_block | apply aw_skip | apply aw_label | apply aw_exit | ((first | refine aw_region (hideO fun QQ hQQ => ?_) | refine aw_draw mixed (hideD fun QQ hQQ => ?_)); simp (maxSteps := 400000) (disch := first | decide | omega) only [hcv, hand, go_sem, ↓reduceIte]; try (first | with_reducible refine unhide hQQ ?_ | refine ⟨by kernel_rfl, unhide hQQ ?_⟩); clear hQQ QQ) | with_reducible first | apply then_n | apply block_n | apply then_x | apply then_r | apply nog_n | apply nog_r | apply block_r | apply block_e (by decide) | apply block_x (by decide)))
          ((refine callO_ok rfl rfl 13 true rfl (by simp (disch := first | decide | omega) only [hcv, hand, go_sem, ↓reduceIte]; try rfl) (fun _ => rfl) (haw) Try.func13 rfl (by decide) ?_); simp (maxSteps := 400000) (disch := first | decide | omega) only [hcv, hand, go_sem, ↓reduceIte]; try (with_reducible refine unhide hQQ ?_; clear hQQ QQ)); (repeat (first | apply aw_seq | apply aw_block | apply aw_skip | apply aw_label | apply aw_exit | ((first | refine aw_region (hideO fun QQ hQQ => ?_) | refine aw_draw mixed (hideD fun QQ hQQ => ?_)); simp (maxSteps := 400000) (disch := first | decide | omega) only [hcv, hand, go_sem, ↓reduceIte]; try (first | with_reducible refine unhide hQQ ?_ | refine ⟨by kernel_rfl, unhide hQQ ?_⟩); clear hQQ QQ) | with_reducible first | apply then_n | apply block_n | apply then_x | apply then_r | apply nog_n | apply nog_r | apply block_r | apply block_e (by decide) | apply block_x (by decide)))
          refine aw_ret ?_; refine ⟨.inr rfl, ?_⟩; simp only [resA, res1, go_sem, ↓reduceIte]
end
end Go.Proofs.Ytgdhdikeicgndaa
