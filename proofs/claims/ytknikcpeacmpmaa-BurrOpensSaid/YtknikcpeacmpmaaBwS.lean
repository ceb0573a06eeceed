/- burr: Open, Next and Clash of the document, walked. -/
import Derived.Test.YtknikcpeacmpmaaBwQ
import Derived.Test.YtknikcpeacmpmaaBxH
set_option linter.all false
namespace Go.Proofs.Ytknikcpeacmpmaa
open Go Go.RowKit Go.Sh Go.Pv
set_option maxHeartbeats 8000000
set_option maxRecDepth 8000
set_option pp.maxSteps 60000
section
variable {n lo hi top : Int} {bales : List (Int × Int)} {tests : List (Int × Bool)}
attribute [local go_sem] rowT get_someT
theorem ok_OpenR : FunOK Try.prog 26 [buR n lo hi top bales tests] (ansR (whyT n lo hi top bales tests) (openA n lo hi top bales tests)) := by
  have hT := ok_toldR (n := n) (lo := lo) (hi := hi) (top := top) (bales := bales) (tests := tests)
  by_cases hw : whyT n lo hi top bales tests = 0
  rotate_left
  · simp only [buR, ansR, if_neg hw] at hT ⊢
    generalize whyT n lo hi top bales tests = e at *
    generalize toldL n lo hi top bales tests = l at *
    refine fun_ok (nt := 45) (rs := [.tmp 2, .tmp 3, .tmp 4]) Try.func26 rfl rfl rfl (by simp) fun Z w0 => ?_; simp only [initFr, avR, List.map_cons, List.map_nil]
    refine tw ?_; try with_reducible intro QQ hQQ
    ((refine cB 53 rfl rfl rfl (hT) Try.func53 rfl ?_); refine tu ?_; try clear hQQ QQ); refine tw ?_; try with_reducible intro QQ hQQ
    refine ti ?_; try clear hQQ QQ
    refine tw ?_; try with_reducible intro QQ hQQ
    refine aw_ret ?_; refine ⟨.inr rfl, ?_⟩; simp only [resA, res1, go_sem, ↓reduceIte]
  · obtain ⟨hne, hv, e1⟩ := why_nil hw
    rw [e1] at hT
    rw [hw] at hT ⊢
    obtain ⟨N, L, U, T, rfl, rfl, rfl, rfl, hB⟩ := bok_of hv
    simp only [Int.toNat_natCast] at hT
    have hln := TR_len (bales := bales) (tests := tests) N L U hB.n5 hB.b6
    have hlt : ∀ x ∈ TR N L U bales tests, x.2 < 64 := fun x hx => Nat.lt_of_lt_of_le (mem_TR.1 hx).2.1 (pow64 hB.b6)
    have hTl := Nat.lt_of_lt_of_le hB.tp (pow64 hB.b6)
    have h74 := fun S hS => ok_tellsR (n := N) (lo := L) (hi := U) (bales := bales) (tests := tests) (TR N L U bales tests) hln hlt T S hTl hS
    have hoA : openA N L U T bales tests = (((popc (openS N L U T bales tests) : Nat) : Int), ((openS N L U T bales tests : Nat) : Int)) := rfl
    rw [hoA, open_min hB]
    have hf : decide (Tells (2 ^ bales.length - 1) T ((TR N L U bales tests).map (·.2))) = true := by rw [tells_TR hB]; exact tells_full hB.b6 hB.te6
    have hinv := fun s hs => minF_inv (p := fun S => decide (Tells S T ((TR N L U bales tests).map (·.2)))) hB.b6 hf s hs
    have hst : ∀ s, minF (fun S => decide (Tells S T ((TR N L U bales tests).map (·.2)))) bales.length (s + 1) = if popc s < popc (minF (fun S => decide (Tells S T ((TR N L U bales tests).map (·.2)))) bales.length s) ∧ decide (Tells s T ((TR N L U bales tests).map (·.2))) = true then s else minF (fun S => decide (Tells S T ((TR N L U bales tests).map (·.2)))) bales.length s := fun s => rfl
    have h00 : minF (fun S => decide (Tells S T ((TR N L U bales tests).map (·.2)))) bales.length 0 = 2 ^ bales.length - 1 := rfl
    have hpw := ok_power bales.length (by have := hB.b6; omega)
    have hX := pow64 hB.b6
    have hX0 := Nat.two_pow_pos bales.length
    have ecast : ((2 ^ bales.length : Nat) : Int) - 1 = ((2 ^ bales.length - 1 : Nat) : Int) := by omega
    simp only [buR, ansR, if_true] at hT h74 ⊢
    clear e1 hw hne hf hoA hlt
    generalize hml : minF (fun S => decide (Tells S T ((TR N L U bales tests).map (·.2)))) bales.length = mf at *
    generalize hpp : (fun S => decide (Tells S T ((TR N L U bales tests).map (·.2)))) = pp at *
    have h742 : ∀ S : Nat, S < 64 → FunOK Try.prog 74 [.agg [iP N, iP L, iP U, .sl (bales.map row2), iP T, .sl (tests.map rowB)], .one (.sl ((TR N L U bales tests).map rowT)), .one (iP S)] (.one (.one (.v (.bool (pp S))))) := fun S hS => by rw [← hpp]; exact h74 S hS
    have hst2 : ∀ s, mf (s + 1) = if popc s < popc (mf s) ∧ pp s = true then s else mf s := fun s => by rw [hst s, ← hpp]
    clear hst h74
    clear hpp hml
    generalize TR N L U bales tests = l at *
    generalize 2 ^ bales.length = X at *
    refine fun_ok (nt := 45) (rs := [.tmp 2, .tmp 3, .tmp 4]) Try.func26 rfl rfl rfl (by simp) fun Z w0 => ?_; simp only [initFr, avR, List.map_cons, List.map_nil]
    (repeat (first | apply aw_seq | apply aw_block | apply aw_skip | apply aw_label | apply aw_exit | ((first | refine aw_region (hideO fun QQ hQQ => ?_) | refine aw_draw mixed (hideD fun QQ hQQ => ?_)); simp (maxSteps := 400000) (disch := first | decide | omega) only [ecast, h00, go_sem, ↓reduceIte]; try (first | with_reducible refine unhide hQQ ?_ | refine ⟨by kernel_rfl, unhide hQQ ?_⟩); clear hQQ QQ) | with_reducible first | apply then_n | apply block_n | apply then_x | apply then_r | apply nog_n | apply nog_r | apply block_r | apply block_e (by decide) | apply block_x (by decide)))
    ((refine callO_ok rfl rfl 53 false rfl (by simp (disch := first | decide | omega) only [ecast, h00, go_sem, ↓reduceIte]; try rfl) (fun h => by cases h) (hT) Try.func53 rfl (by decide) ?_); simp (maxSteps := 400000) (disch := first | decide | omega) only [ecast, h00, go_sem, ↓reduceIte]; try (with_reducible refine unhide hQQ ?_; clear hQQ QQ)); (repeat (first | apply aw_seq | apply aw_block | apply aw_skip | apply aw_label | apply aw_exit | ((first | refine aw_region (hideO fun QQ hQQ => ?_) | refine aw_draw mixed (hideD fun QQ hQQ => ?_)); simp (maxSteps := 400000) (disch := first | decide | omega) only [ecast, h00, go_sem, ↓reduceIte]; try (first | with_reducible refine unhide hQQ ?_ | refine ⟨by kernel_rfl, unhide hQQ ?_⟩); clear hQQ QQ) | with_reducible first | apply then_n | apply block_n | apply then_x | apply then_r | apply nog_n | apply nog_r | apply block_r | apply block_e (by decide) | apply block_x (by decide)))
    refine aw_cond2 (by simp (disch := first | decide | omega) only [ecast, h00, go_sem, ↓reduceIte]; rfl) ?_; first | refine .inl ⟨by first | rfl | exact decide_eq_true (by omega) | exact decide_eq_true (by assumption) | (simp (disch := first | decide | omega) only [if_pos_d, if_neg_d, decide_eq_true_eq, Bool.not_eq_true', decide_eq_false_iff_not]; omega), ?_⟩ | refine .inr ⟨by first | rfl | exact decide_eq_false (by omega) | exact decide_eq_false (by assumption) | (simp (disch := first | decide | omega) only [if_pos_d, if_neg_d, decide_eq_true_eq, Bool.not_eq_true', decide_eq_false_iff_not]; omega), ?_⟩
    (repeat (first | apply aw_seq | apply aw_block | apply aw_skip | apply aw_label | apply aw_exit | ((first | refine aw_region (hideO fun QQ hQQ => ?_) | refine aw_draw mixed (hideD fun QQ hQQ => ?_)); simp (maxSteps := 400000) (disch := first | decide | omega) only [ecast, h00, go_sem, ↓reduceIte]; try (first | with_reducible refine unhide hQQ ?_ | refine ⟨by kernel_rfl, unhide hQQ ?_⟩); clear hQQ QQ) | with_reducible first | apply then_n | apply block_n | apply then_x | apply then_r | apply nog_n | apply nog_r | apply block_r | apply block_e (by decide) | apply block_x (by decide)))
    ((refine callO_ok rfl rfl 72 true rfl (by simp (disch := first | decide | omega) only [ecast, h00, go_sem, ↓reduceIte]; try rfl) (fun _ => rfl) (hpw) Try.func72 rfl (by decide) ?_); simp (maxSteps := 400000) (disch := first | decide | omega) only [ecast, h00, go_sem, ↓reduceIte]; try (with_reducible refine unhide hQQ ?_; clear hQQ QQ)); (repeat (first | apply aw_seq | apply aw_block | apply aw_skip | apply aw_label | apply aw_exit | ((first | refine aw_region (hideO fun QQ hQQ => ?_) | refine aw_draw mixed (hideD fun QQ hQQ => ?_)); simp (maxSteps := 400000) (disch := first | decide | omega) only [ecast, h00, go_sem, ↓reduceIte]; try (first | with_reducible refine unhide hQQ ?_ | refine ⟨by kernel_rfl, unhide hQQ ?_⟩); clear hQQ QQ) | with_reducible first | apply then_n | apply block_n | apply then_x | apply then_r | apply nog_n | apply nog_r | apply block_r | apply block_e (by decide) | apply block_x (by decide)))
    rw [← h00]
    refine aw_weak (weak_keep [1, 5, 7, 8] (by simp only [go_sem, ↓reduceIte]; rfl)) ?_
    refine aw_loop_ov (ι := { s : Nat // s ≤ X }) (fun s => [(8, iA s.1), (7, .one (.p (iP ((mf s.1 : Nat) : Int))))]) (fun _ => []) (fun s => X - s.1) ⟨0, by omega⟩ (by first | rfl | (simp only [go_sem, ↓reduceIte]; first | done | rfl | (simp; try rfl))) ?_
    rintro ⟨s, hs⟩
    simp (disch := decide) only [ov, ovL, AL.get_nil, AL.get_eq, AL.get_ne, Option.getD_some, Option.getD_none]
    by_cases hsl : s < X
    · have hst := hst2 s
      have hm := (hinv s (by omega)).1
      have z1 := ok_Size s (by omega)
      have z2 := ok_Size (mf s) (by omega)
      have h74 := h742 s (by omega)
      clear hinv h00
      generalize popc s = ps at *
      generalize popc (mf s) = pm at *
      generalize mf s = b at *
      by_cases hlt : ps < pm
      · cases hpv : pp s
        · rw [hpv] at h74
          rw [hpv, if_neg (by rintro ⟨_, h⟩; cases h)] at hst
          refine tw ?_; try with_reducible intro QQ hQQ
          ((refine cO 72 rfl rfl rfl (hpw) Try.func72 rfl ?_); refine tu ?_; try clear hQQ QQ); refine tw ?_; try with_reducible intro QQ hQQ
          refine ti ?_; try clear hQQ QQ
          refine tw ?_; try with_reducible intro QQ hQQ
          (refine cO 73 rfl rfl rfl (z1) Try.func73 rfl ?_); refine ts ?_; try clear hQQ QQ
          (refine cO 73 rfl rfl rfl (z2) Try.func73 rfl ?_); refine ts ?_; try clear hQQ QQ
          ((refine cO 74 rfl rfl rfl (h74) Try.func74 rfl ?_); refine tu ?_; try clear hQQ QQ); refine tw ?_; try with_reducible intro QQ hQQ
          refine ti ?_; try clear hQQ QQ
          refine tw ?_; try with_reducible intro QQ hQQ
          refine ⟨⟨s + 1, by omega⟩, ?_, weak_round ?_ (by first | rfl | (simp only [go_sem, ↓reduceIte]))⟩
          rotate_left
          · simp only [hst]
            (simp only [go_sem, ↓reduceIte]; try rfl)
          · simp only; omega
        · rw [hpv] at h74
          rw [hpv, if_pos ⟨hlt, rfl⟩] at hst
          refine tw ?_; try with_reducible intro QQ hQQ
          ((refine cO 72 rfl rfl rfl (hpw) Try.func72 rfl ?_); refine tu ?_; try clear hQQ QQ); refine tw ?_; try with_reducible intro QQ hQQ
          refine ti ?_; try clear hQQ QQ
          refine tw ?_; try with_reducible intro QQ hQQ
          (refine cO 73 rfl rfl rfl (z1) Try.func73 rfl ?_); refine ts ?_; try clear hQQ QQ
          (refine cO 73 rfl rfl rfl (z2) Try.func73 rfl ?_); refine ts ?_; try clear hQQ QQ
          ((refine cO 74 rfl rfl rfl (h74) Try.func74 rfl ?_); refine tu ?_; try clear hQQ QQ); refine tw ?_; try with_reducible intro QQ hQQ
          refine ti ?_; try clear hQQ QQ
          refine tw ?_; try with_reducible intro QQ hQQ
          refine ⟨⟨s + 1, by omega⟩, ?_, weak_round ?_ (by first | rfl | (simp only [go_sem, ↓reduceIte]))⟩
          rotate_left
          · simp only [hst]
            (simp only [go_sem, ↓reduceIte]; try rfl)
          · simp only; omega
      · rw [if_neg (fun h => hlt h.1)] at hst
        refine tw ?_; try with_reducible intro QQ hQQ
        ((refine cO 72 rfl rfl rfl (hpw) Try.func72 rfl ?_); refine tu ?_; try clear hQQ QQ); refine tw ?_; try with_reducible intro QQ hQQ
        refine ti ?_; try clear hQQ QQ
        refine tw ?_; try with_reducible intro QQ hQQ
        (refine cO 73 rfl rfl rfl (z1) Try.func73 rfl ?_); refine ts ?_; try clear hQQ QQ
        ((refine cO 73 rfl rfl rfl (z2) Try.func73 rfl ?_); refine tu ?_; try clear hQQ QQ); refine tw ?_; try with_reducible intro QQ hQQ
        refine ti ?_; try clear hQQ QQ
        refine tw ?_; try with_reducible intro QQ hQQ
        refine ⟨⟨s + 1, by omega⟩, ?_, weak_round ?_ (by first | rfl | (simp only [go_sem, ↓reduceIte]))⟩
        rotate_left
        · simp only [hst]
          (simp only [go_sem, ↓reduceIte]; try rfl)
        · simp only; omega
    · have : s = X := by omega
      subst this
      have hm := (hinv s (by omega)).1
      have z2 := ok_Size (mf s) (by omega)
      generalize popc (mf s) = pm at *
      generalize mf s = b at *
      refine tw ?_; try with_reducible intro QQ hQQ
      ((refine cO 72 rfl rfl rfl (hpw) Try.func72 rfl ?_); refine tu ?_; try clear hQQ QQ); refine tw ?_; try with_reducible intro QQ hQQ
      refine ti ?_; try clear hQQ QQ
      refine tw ?_; try with_reducible intro QQ hQQ
      ((refine cO 73 rfl rfl rfl (z2) Try.func73 rfl ?_); refine tu ?_; try clear hQQ QQ); refine tw ?_; try with_reducible intro QQ hQQ
      refine aw_ret ?_; refine ⟨.inr rfl, ?_⟩; simp only [resA, res1, go_sem, ↓reduceIte]
theorem ok_NextR : FunOK Try.prog 28 [buR n lo hi top bales tests] (ansR (whyN n lo hi top bales tests) (nextA n lo hi bales tests)) := by
  have hT := ok_toldR (n := n) (lo := lo) (hi := hi) (top := top) (bales := bales) (tests := tests)
  by_cases hw : whyT n lo hi top bales tests = 0
  rotate_left
  · have hwn : whyN n lo hi top bales tests = whyT n lo hi top bales tests := by
      unfold whyT at hw
      unfold whyN whyT
      split
      · rename_i hv
        rw [if_pos hv] at hw
        split
        · rfl
        · rename_i hc; rw [if_neg hc] at hw; exact absurd rfl hw
      · rfl
    rw [hwn]
    simp only [buR, ansR, if_neg hw] at hT ⊢
    generalize whyT n lo hi top bales tests = e at *
    generalize toldL n lo hi top bales tests = l at *
    refine fun_ok (nt := 66) (rs := [.tmp 2, .tmp 3, .tmp 4]) Try.func28 rfl rfl rfl (by simp) fun Z w0 => ?_; simp only [initFr, avR, List.map_cons, List.map_nil]
    refine tw ?_; try with_reducible intro QQ hQQ
    ((refine cB 53 rfl rfl rfl (hT) Try.func53 rfl ?_); refine tu ?_; try clear hQQ QQ); refine tw ?_; try with_reducible intro QQ hQQ
    refine ti ?_; try clear hQQ QQ
    refine tw ?_; try with_reducible intro QQ hQQ
    refine aw_ret ?_; refine ⟨.inr rfl, ?_⟩; simp only [resA, res1, go_sem, ↓reduceIte]
  · obtain ⟨hne, hv, e1⟩ := why_nil hw
    rw [e1] at hT
    rw [hw] at hT
    obtain ⟨N, L, U, T, rfl, rfl, rfl, rfl, hB⟩ := bok_of hv
    simp only [Int.toNat_natCast] at hT
    have hc0 : ¬ cntB (N : Int) (L : Int) (U : Int) bales tests = 0 := by
      unfold whyT at hw
      rw [if_pos hv] at hw
      intro h
      rw [if_pos h] at hw
      cases hw
    have hln := TR_len (bales := bales) (tests := tests) N L U hB.n5 hB.b6
    have hlt : ∀ x ∈ TR N L U bales tests, x.2 < 64 := fun x hx => Nat.lt_of_lt_of_le (mem_TR.1 hx).2.1 (pow64 hB.b6)
    by_cases hb0 : bales.length = 0
    · have hwN : whyN N L U T bales tests = 4 := by simp [whyN, hv, hc0, hb0]
      rw [hwN]
      simp only [buR, ansR, show ¬ ((4 : Int) = 0) by decide, if_false] at hT ⊢
      generalize TR N L U bales tests = l at *
      refine fun_ok (nt := 66) (rs := [.tmp 2, .tmp 3, .tmp 4]) Try.func28 rfl rfl rfl (by simp) fun Z w0 => ?_; simp only [initFr, avR, List.map_cons, List.map_nil]
      (repeat (first | apply aw_seq | apply aw_block | apply aw_skip | apply aw_label | apply aw_exit | ((first | refine aw_region (hideO fun QQ hQQ => ?_) | refine aw_draw mixed (hideD fun QQ hQQ => ?_)); simp (maxSteps := 400000) (disch := first | decide | omega) only [hb0, go_sem, ↓reduceIte]; try (first | with_reducible refine unhide hQQ ?_ | refine ⟨by kernel_rfl, unhide hQQ ?_⟩); clear hQQ QQ) | with_reducible first | apply then_n | apply block_n | apply then_x | apply then_r | apply nog_n | apply nog_r | apply block_r | apply block_e (by decide) | apply block_x (by decide)))
      ((refine callO_ok rfl rfl 53 false rfl (by simp (disch := first | decide | omega) only [hb0, go_sem, ↓reduceIte]; try rfl) (fun h => by cases h) (hT) Try.func53 rfl (by decide) ?_); simp (maxSteps := 400000) (disch := first | decide | omega) only [hb0, go_sem, ↓reduceIte]; try (with_reducible refine unhide hQQ ?_; clear hQQ QQ)); (repeat (first | apply aw_seq | apply aw_block | apply aw_skip | apply aw_label | apply aw_exit | ((first | refine aw_region (hideO fun QQ hQQ => ?_) | refine aw_draw mixed (hideD fun QQ hQQ => ?_)); simp (maxSteps := 400000) (disch := first | decide | omega) only [hb0, go_sem, ↓reduceIte]; try (first | with_reducible refine unhide hQQ ?_ | refine ⟨by kernel_rfl, unhide hQQ ?_⟩); clear hQQ QQ) | with_reducible first | apply then_n | apply block_n | apply then_x | apply then_r | apply nog_n | apply nog_r | apply block_r | apply block_e (by decide) | apply block_x (by decide)))
      refine aw_cond2 (by simp (disch := first | decide | omega) only [hb0, go_sem, ↓reduceIte]; rfl) ?_; first | refine .inl ⟨by first | rfl | exact decide_eq_true (by omega) | exact decide_eq_true (by assumption) | (simp (disch := first | decide | omega) only [if_pos_d, if_neg_d, decide_eq_true_eq, Bool.not_eq_true', decide_eq_false_iff_not]; omega), ?_⟩ | refine .inr ⟨by first | rfl | exact decide_eq_false (by omega) | exact decide_eq_false (by assumption) | (simp (disch := first | decide | omega) only [if_pos_d, if_neg_d, decide_eq_true_eq, Bool.not_eq_true', decide_eq_false_iff_not]; omega), ?_⟩
      (repeat (first | apply aw_seq | apply aw_block | apply aw_skip | apply aw_label | apply aw_exit | ((first | refine aw_region (hideO fun QQ hQQ => ?_) | refine aw_draw mixed (hideD fun QQ hQQ => ?_)); simp (maxSteps := 400000) (disch := first | decide | omega) only [hb0, go_sem, ↓reduceIte]; try (first | with_reducible refine unhide hQQ ?_ | refine ⟨by kernel_rfl, unhide hQQ ?_⟩); clear hQQ QQ) | with_reducible first | apply then_n | apply block_n | apply then_x | apply then_r | apply nog_n | apply nog_r | apply block_r | apply block_e (by decide) | apply block_x (by decide)))
      refine aw_cond2 (by simp (disch := first | decide | omega) only [hb0, go_sem, ↓reduceIte]; rfl) ?_; first | refine .inl ⟨by first | rfl | exact decide_eq_true (by omega) | exact decide_eq_true (by assumption) | (simp (disch := first | decide | omega) only [if_pos_d, if_neg_d, decide_eq_true_eq, Bool.not_eq_true', decide_eq_false_iff_not]; omega), ?_⟩ | refine .inr ⟨by first | rfl | exact decide_eq_false (by omega) | exact decide_eq_false (by assumption) | (simp (disch := first | decide | omega) only [if_pos_d, if_neg_d, decide_eq_true_eq, Bool.not_eq_true', decide_eq_false_iff_not]; omega), ?_⟩
      (repeat (first | apply aw_seq | apply aw_block | apply aw_skip | apply aw_label | apply aw_exit | ((first | refine aw_region (hideO fun QQ hQQ => ?_) | refine aw_draw mixed (hideD fun QQ hQQ => ?_)); simp (maxSteps := 400000) (disch := first | decide | omega) only [hb0, go_sem, ↓reduceIte]; try (first | with_reducible refine unhide hQQ ?_ | refine ⟨by kernel_rfl, unhide hQQ ?_⟩); clear hQQ QQ) | with_reducible first | apply then_n | apply block_n | apply then_x | apply then_r | apply nog_n | apply nog_r | apply block_r | apply block_e (by decide) | apply block_x (by decide)))
      refine aw_ret ?_; refine ⟨.inr rfl, ?_⟩; simp only [resA, res1, go_sem, ↓reduceIte]
    have hwN : whyN N L U T bales tests = 0 := by simp [whyN, hv, hc0, hb0]
    rw [hwN]
    have hnx : nextA N L U bales tests = ((((nextF N L U bales tests bales.length).1 : Nat) : Int), (((nextF N L U bales tests bales.length).2 : Nat) : Int)) := rfl
    rw [hnx, ← ref_next hB bales.length (by omega) (Nat.le_refl _)]
    have h6 := hB.b6
    simp only [buR, ansR, if_true] at hT ⊢
    clear e1 hw hne hnx hwN hc0
    generalize TR N L U bales tests = l at *
    refine fun_ok (nt := 66) (rs := [.tmp 2, .tmp 3, .tmp 4]) Try.func28 rfl rfl rfl (by simp) fun Z w0 => ?_; simp only [initFr, avR, List.map_cons, List.map_nil]
    refine tw ?_; try with_reducible intro QQ hQQ
    ((refine cB 53 rfl rfl rfl (hT) Try.func53 rfl ?_); refine tu ?_; try clear hQQ QQ); refine tw ?_; try with_reducible intro QQ hQQ
    refine ti ?_; try clear hQQ QQ
    refine tw ?_; try with_reducible intro QQ hQQ
    refine ti ?_; try clear hQQ QQ
    refine tw ?_; try with_reducible intro QQ hQQ
    refine aw_weak (weak_keep [1, 5, 7, 8, 9] (by simp only [go_sem, ↓reduceIte]; rfl)) ?_
    refine aw_loop_ov (ι := { i : Nat // i ≤ bales.length }) (fun i => [(9, iA i.1), (7, .one (.p (iP (((refN l i.1).1 : Nat) : Int)))), (8, .one (.p (iP (((refN l i.1).2 : Nat) : Int))))]) (fun _ => []) (fun i => bales.length - i.1) ⟨0, by omega⟩ (by first | rfl | (simp only [go_sem, ↓reduceIte]; first | done | rfl | (simp; try rfl))) ?_
    rintro ⟨i, hi'⟩
    simp (disch := decide) only [ov, ovL, AL.get_nil, AL.get_eq, AL.get_ne, Option.getD_some, Option.getD_none]
    by_cases hil : i < bales.length
    · have e2 : refN l (i + 1) = if max (l.countP fun x => x.2.testBit i) (l.length - l.countP fun x => x.2.testBit i) < (refN l i).2 then (i, max (l.countP fun x => x.2.testBit i) (l.length - l.countP fun x => x.2.testBit i)) else refN l i := rfl
      obtain ⟨⟨be, le⟩, hbe⟩ : ∃ q, refN l i = q := ⟨_, rfl⟩
      rw [hbe] at e2
      simp only [hbe]
      dsimp only at e2
      refine tw ?_; try with_reducible intro QQ hQQ
      refine ti ?_; try clear hQQ QQ
      refine tw ?_; try with_reducible intro QQ hQQ
      refine aw_weak (weak_keep [1, 5, 7, 8, 9, 10, 11] (by simp only [go_sem, ↓reduceIte]; rfl)) ?_
      refine aw_loop_ov (ι := { j : Nat // j ≤ l.length }) (fun j => [(11, iA j.1), (10, .one (.p (iP (((l.take j.1).countP (fun x => x.2.testBit i) : Nat) : Int))))]) (fun _ => []) (fun j => l.length - j.1) ⟨0, by omega⟩ (by first | rfl | (simp only [go_sem, ↓reduceIte]; first | done | rfl | (simp; try rfl))) ?_
      rintro ⟨j, hj⟩
      simp (disch := decide) only [ov, ovL, AL.get_nil, AL.get_eq, AL.get_ne, Option.getD_some, Option.getD_none]
      by_cases hjl : j < l.length
      · have hm := hlt _ (mem_of_getD (d := (0, 0)) hjl)
        have e1 : (l.take (j + 1)).countP (fun x => x.2.testBit i) = (l.take j).countP (fun x => x.2.testBit i) + if (l.getD j (0, 0)).2.testBit i = true then 1 else 0 := by
          rw [List.take_succ, List.getElem?_eq_getElem hjl, List.countP_append, show l.getD j (0, 0) = l[j] by simp [List.getD, hjl]]
          cases hb : (l[j]).2.testBit i <;> simp [hb]
        have hcl : (l.take j).countP (fun x => x.2.testBit i) ≤ (l.take j).length := List.countP_le_length
        rw [List.length_take] at hcl
        generalize (l.take j).countP (fun x => x.2.testBit i) = c at *
        obtain ⟨⟨a, b⟩, hab⟩ : ∃ q, l.getD j (0, 0) = q := ⟨_, rfl⟩
        rw [hab] at hm e1
        dsimp only at hm e1
        have hh := ok_has b i (by omega) (by omega)
        clear e2 hbe
        cases hb : b.testBit i
        · rw [hb] at hh
          rw [hb, if_neg (by decide), Nat.add_zero] at e1
          (repeat (first | apply aw_seq | apply aw_block | apply aw_skip | apply aw_label | apply aw_exit | ((first | refine aw_region (hideO fun QQ hQQ => ?_) | refine aw_draw mixed (hideD fun QQ hQQ => ?_)); simp (maxSteps := 400000) (disch := first | decide | omega) only [hab, go_sem, ↓reduceIte]; try (first | with_reducible refine unhide hQQ ?_ | refine ⟨by kernel_rfl, unhide hQQ ?_⟩); clear hQQ QQ) | with_reducible first | apply then_n | apply block_n | apply then_x | apply then_r | apply nog_n | apply nog_r | apply block_r | apply block_e (by decide) | apply block_x (by decide)))
          refine aw_cond2 (by simp (disch := first | decide | omega) only [hab, go_sem, ↓reduceIte]; rfl) ?_; first | refine .inl ⟨by first | rfl | exact decide_eq_true (by omega) | exact decide_eq_true (by assumption) | (simp (disch := first | decide | omega) only [if_pos_d, if_neg_d, decide_eq_true_eq, Bool.not_eq_true', decide_eq_false_iff_not]; omega), ?_⟩ | refine .inr ⟨by first | rfl | exact decide_eq_false (by omega) | exact decide_eq_false (by assumption) | (simp (disch := first | decide | omega) only [if_pos_d, if_neg_d, decide_eq_true_eq, Bool.not_eq_true', decide_eq_false_iff_not]; omega), ?_⟩
          (repeat (first | apply aw_seq | apply aw_block | apply aw_skip | apply aw_label | apply aw_exit | ((first | refine aw_region (hideO fun QQ hQQ => ?_) | refine aw_draw mixed (hideD fun QQ hQQ => ?_)); simp (maxSteps := 400000) (disch := first | decide | omega) only [hab, go_sem, ↓reduceIte]; try (first | with_reducible refine unhide hQQ ?_ | refine ⟨by kernel_rfl, unhide hQQ ?_⟩); clear hQQ QQ) | with_reducible first | apply then_n | apply block_n | apply then_x | apply then_r | apply nog_n | apply nog_r | apply block_r | apply block_e (by decide) | apply block_x (by decide)))
          ((refine callO_ok rfl rfl 78 true rfl (by simp (disch := first | decide | omega) only [hab, go_sem, ↓reduceIte]; try rfl) (fun _ => rfl) (hh) Try.func78 rfl (by decide) ?_); simp (maxSteps := 400000) (disch := first | decide | omega) only [hab, go_sem, ↓reduceIte]; try (with_reducible refine unhide hQQ ?_; clear hQQ QQ)); (repeat (first | apply aw_seq | apply aw_block | apply aw_skip | apply aw_label | apply aw_exit | ((first | refine aw_region (hideO fun QQ hQQ => ?_) | refine aw_draw mixed (hideD fun QQ hQQ => ?_)); simp (maxSteps := 400000) (disch := first | decide | omega) only [hab, go_sem, ↓reduceIte]; try (first | with_reducible refine unhide hQQ ?_ | refine ⟨by kernel_rfl, unhide hQQ ?_⟩); clear hQQ QQ) | with_reducible first | apply then_n | apply block_n | apply then_x | apply then_r | apply nog_n | apply nog_r | apply block_r | apply block_e (by decide) | apply block_x (by decide)))
          refine aw_cond2 (by simp (disch := first | decide | omega) only [hab, go_sem, ↓reduceIte]; rfl) ?_; first | refine .inl ⟨by first | rfl | exact decide_eq_true (by omega) | exact decide_eq_true (by assumption) | (simp (disch := first | decide | omega) only [if_pos_d, if_neg_d, decide_eq_true_eq, Bool.not_eq_true', decide_eq_false_iff_not]; omega), ?_⟩ | refine .inr ⟨by first | rfl | exact decide_eq_false (by omega) | exact decide_eq_false (by assumption) | (simp (disch := first | decide | omega) only [if_pos_d, if_neg_d, decide_eq_true_eq, Bool.not_eq_true', decide_eq_false_iff_not]; omega), ?_⟩
          (repeat (first | apply aw_seq | apply aw_block | apply aw_skip | apply aw_label | apply aw_exit | ((first | refine aw_region (hideO fun QQ hQQ => ?_) | refine aw_draw mixed (hideD fun QQ hQQ => ?_)); simp (maxSteps := 400000) (disch := first | decide | omega) only [hab, go_sem, ↓reduceIte]; try (first | with_reducible refine unhide hQQ ?_ | refine ⟨by kernel_rfl, unhide hQQ ?_⟩); clear hQQ QQ) | with_reducible first | apply then_n | apply block_n | apply then_x | apply then_r | apply nog_n | apply nog_r | apply block_r | apply block_e (by decide) | apply block_x (by decide)))
          refine ⟨⟨j + 1, by omega⟩, ?_, weak_round ?_ (by first | rfl | (simp only [hab, go_sem, ↓reduceIte]))⟩
          rotate_left
          · simp only [e1]
            (simp only [hab, go_sem, ↓reduceIte]; try rfl)
          · simp only; omega
        · rw [hb] at hh
          rw [hb, if_pos rfl] at e1
          (repeat (first | apply aw_seq | apply aw_block | apply aw_skip | apply aw_label | apply aw_exit | ((first | refine aw_region (hideO fun QQ hQQ => ?_) | refine aw_draw mixed (hideD fun QQ hQQ => ?_)); simp (maxSteps := 400000) (disch := first | decide | omega) only [hab, go_sem, ↓reduceIte]; try (first | with_reducible refine unhide hQQ ?_ | refine ⟨by kernel_rfl, unhide hQQ ?_⟩); clear hQQ QQ) | with_reducible first | apply then_n | apply block_n | apply then_x | apply then_r | apply nog_n | apply nog_r | apply block_r | apply block_e (by decide) | apply block_x (by decide)))
          refine aw_cond2 (by simp (disch := first | decide | omega) only [hab, go_sem, ↓reduceIte]; rfl) ?_; first | refine .inl ⟨by first | rfl | exact decide_eq_true (by omega) | exact decide_eq_true (by assumption) | (simp (disch := first | decide | omega) only [if_pos_d, if_neg_d, decide_eq_true_eq, Bool.not_eq_true', decide_eq_false_iff_not]; omega), ?_⟩ | refine .inr ⟨by first | rfl | exact decide_eq_false (by omega) | exact decide_eq_false (by assumption) | (simp (disch := first | decide | omega) only [if_pos_d, if_neg_d, decide_eq_true_eq, Bool.not_eq_true', decide_eq_false_iff_not]; omega), ?_⟩
          (repeat (first | apply aw_seq | apply aw_block | apply aw_skip | apply aw_label | apply aw_exit | ((first | refine aw_region (hideO fun QQ hQQ => ?_) | refine aw_draw mixed (hideD fun QQ hQQ => ?_)); simp (maxSteps := 400000) (disch := first | decide | omega) only [hab, go_sem, ↓reduceIte]; try (first | with_reducible refine unhide hQQ ?_ | refine ⟨by kernel_rfl, unhide hQQ ?_⟩); clear hQQ QQ) | with_reducible first | apply then_n | apply block_n | apply then_x | apply then_r | apply nog_n | apply nog_r | apply block_r | apply block_e (by decide) | apply block_x (by decide)))
          ((refine callO_ok rfl rfl 78 true rfl (by simp (disch := first | decide | omega) only [hab, go_sem, ↓reduceIte]; try rfl) (fun _ => rfl) (hh) Try.func78 rfl (by decide) ?_); simp (maxSteps := 400000) (disch := first | decide | omega) only [hab, go_sem, ↓reduceIte]; try (with_reducible refine unhide hQQ ?_; clear hQQ QQ)); (repeat (first | apply aw_seq | apply aw_block | apply aw_skip | apply aw_label | apply aw_exit | ((first | refine aw_region (hideO fun QQ hQQ => ?_) | refine aw_draw mixed (hideD fun QQ hQQ => ?_)); simp (maxSteps := 400000) (disch := first | decide | omega) only [hab, go_sem, ↓reduceIte]; try (first | with_reducible refine unhide hQQ ?_ | refine ⟨by kernel_rfl, unhide hQQ ?_⟩); clear hQQ QQ) | with_reducible first | apply then_n | apply block_n | apply then_x | apply then_r | apply nog_n | apply nog_r | apply block_r | apply block_e (by decide) | apply block_x (by decide)))
          refine aw_cond2 (by simp (disch := first | decide | omega) only [hab, go_sem, ↓reduceIte]; rfl) ?_; first | refine .inl ⟨by first | rfl | exact decide_eq_true (by omega) | exact decide_eq_true (by assumption) | (simp (disch := first | decide | omega) only [if_pos_d, if_neg_d, decide_eq_true_eq, Bool.not_eq_true', decide_eq_false_iff_not]; omega), ?_⟩ | refine .inr ⟨by first | rfl | exact decide_eq_false (by omega) | exact decide_eq_false (by assumption) | (simp (disch := first | decide | omega) only [if_pos_d, if_neg_d, decide_eq_true_eq, Bool.not_eq_true', decide_eq_false_iff_not]; omega), ?_⟩
          (repeat (first | apply aw_seq | apply aw_block | apply aw_skip | apply aw_label | apply aw_exit | ((first | refine aw_region (hideO fun QQ hQQ => ?_) | refine aw_draw mixed (hideD fun QQ hQQ => ?_)); simp (maxSteps := 400000) (disch := first | decide | omega) only [hab, go_sem, ↓reduceIte]; try (first | with_reducible refine unhide hQQ ?_ | refine ⟨by kernel_rfl, unhide hQQ ?_⟩); clear hQQ QQ) | with_reducible first | apply then_n | apply block_n | apply then_x | apply then_r | apply nog_n | apply nog_r | apply block_r | apply block_e (by decide) | apply block_x (by decide)))
          refine ⟨⟨j + 1, by omega⟩, ?_, weak_round ?_ (by first | rfl | (simp only [hab, go_sem, ↓reduceIte]))⟩
          rotate_left
          · simp only [e1]
            (simp only [hab, go_sem, ↓reduceIte]; try rfl)
          · simp only; omega
      · have : j = l.length := by omega
        subst this
        rw [List.take_length]
        have hcl : l.countP (fun x => x.2.testBit i) ≤ l.length := List.countP_le_length
        generalize l.countP (fun x => x.2.testBit i) = c at *
        have esub : (l.length : Int) - (c : Int) = ((l.length - c : Nat) : Int) := by omega
        have emax : (if ((l.length - c : Nat) : Int) > (c : Int) then ((l.length - c : Nat) : Int) else (c : Int)) = ((max c (l.length - c) : Nat) : Int) := by split <;> omega
        have hd : l.length - c ≤ l.length := Nat.sub_le _ _
        generalize l.length - c = d at *
        generalize max c d = mx at *
        by_cases hmx : mx < le
        · rw [if_pos hmx] at e2
          (repeat (first | apply aw_seq | apply aw_block | apply aw_skip | apply aw_label | apply aw_exit | ((first | refine aw_region (hideO fun QQ hQQ => ?_) | refine aw_draw mixed (hideD fun QQ hQQ => ?_)); simp (maxSteps := 400000) (disch := first | decide | omega) only [esub, emax, go_sem, ↓reduceIte]; try (first | with_reducible refine unhide hQQ ?_ | refine ⟨by kernel_rfl, unhide hQQ ?_⟩); clear hQQ QQ) | with_reducible first | apply then_n | apply block_n | apply then_x | apply then_r | apply nog_n | apply nog_r | apply block_r | apply block_e (by decide) | apply block_x (by decide)))
          refine aw_cond2 (by simp (disch := first | decide | omega) only [esub, emax, go_sem, ↓reduceIte]; rfl) ?_; first | refine .inl ⟨by first | rfl | exact decide_eq_true (by omega) | exact decide_eq_true (by assumption) | (simp (disch := first | decide | omega) only [if_pos_d, if_neg_d, decide_eq_true_eq, Bool.not_eq_true', decide_eq_false_iff_not]; omega), ?_⟩ | refine .inr ⟨by first | rfl | exact decide_eq_false (by omega) | exact decide_eq_false (by assumption) | (simp (disch := first | decide | omega) only [if_pos_d, if_neg_d, decide_eq_true_eq, Bool.not_eq_true', decide_eq_false_iff_not]; omega), ?_⟩
          (repeat (first | apply aw_seq | apply aw_block | apply aw_skip | apply aw_label | apply aw_exit | ((first | refine aw_region (hideO fun QQ hQQ => ?_) | refine aw_draw mixed (hideD fun QQ hQQ => ?_)); simp (maxSteps := 400000) (disch := first | decide | omega) only [esub, emax, go_sem, ↓reduceIte]; try (first | with_reducible refine unhide hQQ ?_ | refine ⟨by kernel_rfl, unhide hQQ ?_⟩); clear hQQ QQ) | with_reducible first | apply then_n | apply block_n | apply then_x | apply then_r | apply nog_n | apply nog_r | apply block_r | apply block_e (by decide) | apply block_x (by decide)))
          refine aw_cond2 (by simp (disch := first | decide | omega) only [esub, emax, go_sem, ↓reduceIte]; rfl) ?_; first | refine .inl ⟨by first | rfl | exact decide_eq_true (by omega) | exact decide_eq_true (by assumption) | (simp (disch := first | decide | omega) only [if_pos_d, if_neg_d, decide_eq_true_eq, Bool.not_eq_true', decide_eq_false_iff_not]; omega), ?_⟩ | refine .inr ⟨by first | rfl | exact decide_eq_false (by omega) | exact decide_eq_false (by assumption) | (simp (disch := first | decide | omega) only [if_pos_d, if_neg_d, decide_eq_true_eq, Bool.not_eq_true', decide_eq_false_iff_not]; omega), ?_⟩
          (repeat (first | apply aw_seq | apply aw_block | apply aw_skip | apply aw_label | apply aw_exit | ((first | refine aw_region (hideO fun QQ hQQ => ?_) | refine aw_draw mixed (hideD fun QQ hQQ => ?_)); simp (maxSteps := 400000) (disch := first | decide | omega) only [esub, emax, go_sem, ↓reduceIte]; try (first | with_reducible refine unhide hQQ ?_ | refine ⟨by kernel_rfl, unhide hQQ ?_⟩); clear hQQ QQ) | with_reducible first | apply then_n | apply block_n | apply then_x | apply then_r | apply nog_n | apply nog_r | apply block_r | apply block_e (by decide) | apply block_x (by decide)))
          refine ⟨⟨i + 1, by omega⟩, ?_, weak_round ?_ (by first | rfl | (simp only [esub, emax, go_sem, ↓reduceIte]))⟩
          rotate_left
          · simp only [e2]
            (simp only [esub, emax, go_sem, ↓reduceIte]; try rfl)
          · simp only; omega
        · rw [if_neg hmx] at e2
          (repeat (first | apply aw_seq | apply aw_block | apply aw_skip | apply aw_label | apply aw_exit | ((first | refine aw_region (hideO fun QQ hQQ => ?_) | refine aw_draw mixed (hideD fun QQ hQQ => ?_)); simp (maxSteps := 400000) (disch := first | decide | omega) only [esub, emax, go_sem, ↓reduceIte]; try (first | with_reducible refine unhide hQQ ?_ | refine ⟨by kernel_rfl, unhide hQQ ?_⟩); clear hQQ QQ) | with_reducible first | apply then_n | apply block_n | apply then_x | apply then_r | apply nog_n | apply nog_r | apply block_r | apply block_e (by decide) | apply block_x (by decide)))
          refine aw_cond2 (by simp (disch := first | decide | omega) only [esub, emax, go_sem, ↓reduceIte]; rfl) ?_; first | refine .inl ⟨by first | rfl | exact decide_eq_true (by omega) | exact decide_eq_true (by assumption) | (simp (disch := first | decide | omega) only [if_pos_d, if_neg_d, decide_eq_true_eq, Bool.not_eq_true', decide_eq_false_iff_not]; omega), ?_⟩ | refine .inr ⟨by first | rfl | exact decide_eq_false (by omega) | exact decide_eq_false (by assumption) | (simp (disch := first | decide | omega) only [if_pos_d, if_neg_d, decide_eq_true_eq, Bool.not_eq_true', decide_eq_false_iff_not]; omega), ?_⟩
          (repeat (first | apply aw_seq | apply aw_block | apply aw_skip | apply aw_label | apply aw_exit | ((first | refine aw_region (hideO fun QQ hQQ => ?_) | refine aw_draw mixed (hideD fun QQ hQQ => ?_)); simp (maxSteps := 400000) (disch := first | decide | omega) only [esub, emax, go_sem, ↓reduceIte]; try (first | with_reducible refine unhide hQQ ?_ | refine ⟨by kernel_rfl, unhide hQQ ?_⟩); clear hQQ QQ) | with_reducible first | apply then_n | apply block_n | apply then_x | apply then_r | apply nog_n | apply nog_r | apply block_r | apply block_e (by decide) | apply block_x (by decide)))
          refine aw_cond2 (by simp (disch := first | decide | omega) only [esub, emax, go_sem, ↓reduceIte]; rfl) ?_; first | refine .inl ⟨by first | rfl | exact decide_eq_true (by omega) | exact decide_eq_true (by assumption) | (simp (disch := first | decide | omega) only [if_pos_d, if_neg_d, decide_eq_true_eq, Bool.not_eq_true', decide_eq_false_iff_not]; omega), ?_⟩ | refine .inr ⟨by first | rfl | exact decide_eq_false (by omega) | exact decide_eq_false (by assumption) | (simp (disch := first | decide | omega) only [if_pos_d, if_neg_d, decide_eq_true_eq, Bool.not_eq_true', decide_eq_false_iff_not]; omega), ?_⟩
          (repeat (first | apply aw_seq | apply aw_block | apply aw_skip | apply aw_label | apply aw_exit | ((first | refine aw_region (hideO fun QQ hQQ => ?_) | refine aw_draw mixed (hideD fun QQ hQQ => ?_)); simp (maxSteps := 400000) (disch := first | decide | omega) only [esub, emax, go_sem, ↓reduceIte]; try (first | with_reducible refine unhide hQQ ?_ | refine ⟨by kernel_rfl, unhide hQQ ?_⟩); clear hQQ QQ) | with_reducible first | apply then_n | apply block_n | apply then_x | apply then_r | apply nog_n | apply nog_r | apply block_r | apply block_e (by decide) | apply block_x (by decide)))
          refine ⟨⟨i + 1, by omega⟩, ?_, weak_round ?_ (by first | rfl | (simp only [esub, emax, go_sem, ↓reduceIte]))⟩
          rotate_left
          · simp only [e2]
            (simp only [esub, emax, go_sem, ↓reduceIte]; try rfl)
          · simp only; omega
    · have : i = bales.length := by omega
      subst this
      generalize refN l bales.length = q at *
      refine tw ?_; try with_reducible intro QQ hQQ
      refine ti ?_; try clear hQQ QQ
      refine tw ?_; try with_reducible intro QQ hQQ
      refine aw_ret ?_; refine ⟨.inr rfl, ?_⟩; simp only [resA, res1, go_sem, ↓reduceIte]
end
end Go.Proofs.Ytknikcpeacmpmaa
