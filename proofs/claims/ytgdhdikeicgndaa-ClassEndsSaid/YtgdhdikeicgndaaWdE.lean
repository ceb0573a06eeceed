/- classer: a line of one bale of which all is known, walked. -/
import Derived.Test.YtgdhdikeicgndaaWdA
import Derived.Test.YtgdhdikeicgndaaKwc8
set_option linter.all false
namespace Go.Proofs.Ytgdhdikeicgndaa
open Go Go.RowKit Go.Sh Go.Pv Go.Cl
set_option maxHeartbeats 2000000
set_option maxRecDepth 20000
set_option pp.maxSteps 60000
section
variable {Z : Zn} {w0 : World} {cap : Nat → Prop} {nt : Nat} {rd : Option Nat} {pan : List PanicEntry → St → Prop} {df : Option Nat} {dk : List Nat} {rg : Bool} {fr : List (Nat × AV)} {hp : List (Nat × Obj')} {nx : Nat}
variable {bs : List (Nat × Nat × Nat)} {may drift mist : Int}
theorem c_copyI (h : LOK bs) : CallF ⟨Try.prog, Z, w0, cap, nt, rd, pan, df, dk, rg⟩ 37 [.agg [.p (.sl (bs.map baleP)), .p (iP may), .p (iP drift), .p (iP mist)]] ⟨fr, hp, nx⟩ fun st' av =>
    st' = ⟨fr, (nx, .arr 44 3 (bs.map baleP) false) :: hp, nx + 1⟩ ∧ av = .agg [.own nx bs.length, .p (iP may), .p (iP drift), .p (iP mist)] := by
  have := h.n6
  have hc := c_copied (Z := Z) (w0 := w0) (cap := cap) (nt := nt) (rd := rd) (pan := pan) (df := df) (dk := dk) (rg := rg) (fr := fr) (hp := hp) (nx := nx) (bales := bs.map castB) (may := may) (drift := drift) (mist := mist) (by rw [List.length_map]; omega)
  rw [rows_cast, List.length_map] at hc
  exact hc
/-- Can so many fleeces of a bale be wrong by its looks? -/
def pinB (bs : List (Nat × Nat × Nat)) (j n : Nat) : Bool := decide (costB (bG bs j) n = 0)
def pinL (bs : List (Nat × Nat × Nat)) (j n : Nat) : List (Nat × Nat × Nat) := if pinB bs j n = true then bs.set j ((bG bs j).1, (bG bs j).1, n) else bs
theorem ok_pinned (h : LOK bs) {j n : Nat} (hj : j < bs.length) (hn : n ≤ (bG bs j).1) :
    FunOK Try.prog 35 [.agg [.sl (bs.map baleP), iP may, iP drift, iP mist], .one (iP (j : Int)), .one (iP (n : Int))] (.tup [.agg [.sl ((pinL bs j n).map baleP), iP may, iP drift, iP mist], .one (.v (.bool (pinB bs j n)))]) := by
  have hba := h.ba j hj
  have hb6 := h.n6
  have hll : (bs.map baleP).length = bs.length := List.length_map _
  have hg : (bs.map baleP)[j]? = some [iP ((bG bs j).1 : Int), iP ((bG bs j).2.1 : Int), iP ((bG bs j).2.2 : Int)] := by rw [List.getElem?_map, get_someBale hj]; rfl
  have hz := cost_zero (F := (bG bs j).1) (K := (bG bs j).2.1) (W := (bG bs j).2.2) (w := n) (by omega) (by omega) hn
  have hz : costB (bG bs j) n = 0 ↔ _ := hz
  have hgs : ∀ r : List PV, ((bs.map baleP).set j r)[j]? = some r := fun r => by rw [List.getElem?_set_self (by rw [hll]; exact hj)]
  have hrow : (bs.map baleP).set j [iP ((bG bs j).1 : Int), iP ((bG bs j).1 : Int), iP (n : Int)] = (bs.set j ((bG bs j).1, (bG bs j).1, n)).map baleP := by rw [List.map_set]; rfl
  by_cases hc : costB (bG bs j) n = 0
  · have hB : pinB bs j n = true := decide_eq_true hc
    have hP : pinL bs j n = bs.set j ((bG bs j).1, (bG bs j).1, n) := by unfold pinL; rw [if_pos hB]
    have htk : ((bs.set j ((bG bs j).1, (bG bs j).1, n)).map baleP).take bs.length = (bs.set j ((bG bs j).1, (bG bs j).1, n)).map baleP := List.take_of_length_le (by simp)
    have hl2 : ((bs.set j ((bG bs j).1, (bG bs j).1, n)).map baleP).length = bs.length := by simp
    obtain ⟨h1, h2⟩ := hz.1 hc
    rw [hB, hP]
    clear hz hB hP
    refine fun_ok (nt := 75) (rs := [.cell 6 24, .tmp 7]) Try.func35 rfl rfl rfl (by simp) fun Z w0 => ?_; simp only [initFr, avR, List.map_cons, List.map_nil]
    refine tw ?_; try with_reducible intro QQ hQQ
    refine callS_ok rfl rfl 37 (by simp (disch := first | decide | omega) only [go_sem, ↓reduceIte]; try rfl) (by simp (disch := first | decide | omega) only [go_sem, ↓reduceIte]; try rfl) Try.func37 rfl (by decide) (CallF.mono (c_copyI h) ?_); rintro _ _ ⟨rfl, rfl⟩; refine ts ?_; try clear hQQ QQ
    clear hc
    generalize (bG bs j).1 = F at *
    generalize (bG bs j).2.1 = K at *
    generalize (bG bs j).2.2 = W at *
    (repeat (first | apply aw_seq | apply aw_block | apply aw_skip | apply aw_label | apply aw_exit | ((first | refine aw_region (hideO fun QQ hQQ => ?_) | refine aw_draw mixed (hideD fun QQ hQQ => ?_)); simp (maxSteps := 400000) (disch := first | decide | omega) only [hll, hg, hgs, hrow, htk, hl2, List.length_set, List.set_set, go_sem, ↓reduceIte]; try (first | with_reducible refine unhide hQQ ?_ | refine ⟨by kernel_rfl, unhide hQQ ?_⟩); clear hQQ QQ) | with_reducible first | apply then_n | apply block_n | apply then_x | apply then_r | apply nog_n | apply nog_r | apply block_r | apply block_e (by decide) | apply block_x (by decide)))
    refine aw_cond2 (by simp (disch := first | decide | omega) only [hll, hg, hgs, hrow, htk, hl2, List.length_set, List.set_set, go_sem, ↓reduceIte]; rfl) ?_; first | refine .inl ⟨by first | rfl | exact decide_eq_true (by omega) | exact decide_eq_true (by assumption) | (simp (disch := first | decide | omega) only [if_pos_d, if_neg_d, decide_eq_true_eq, Bool.not_eq_true', decide_eq_false_iff_not]; omega), ?_⟩ | refine .inr ⟨by first | rfl | exact decide_eq_false (by omega) | exact decide_eq_false (by assumption) | (simp (disch := first | decide | omega) only [if_pos_d, if_neg_d, decide_eq_true_eq, Bool.not_eq_true', decide_eq_false_iff_not]; omega), ?_⟩
    (repeat (first | apply aw_seq | apply aw_block | apply aw_skip | apply aw_label | apply aw_exit | ((first | refine aw_region (hideO fun QQ hQQ => ?_) | refine aw_draw mixed (hideD fun QQ hQQ => ?_)); simp (maxSteps := 400000) (disch := first | decide | omega) only [hll, hg, hgs, hrow, htk, hl2, List.length_set, List.set_set, go_sem, ↓reduceIte]; try (first | with_reducible refine unhide hQQ ?_ | refine ⟨by kernel_rfl, unhide hQQ ?_⟩); clear hQQ QQ) | with_reducible first | apply then_n | apply block_n | apply then_x | apply then_r | apply nog_n | apply nog_r | apply block_r | apply block_e (by decide) | apply block_x (by decide)))
    refine aw_weak (weak_share 2 (by rfl)) ?_
    refine aw_weak (weak_restrict [6, 7] [2, 1] 4 (by simp only [hll, hg, hgs, hrow, htk, hl2, List.length_set, List.set_set, go_sem, ↓reduceIte]; rfl)) ?_
    refine aw_ret ?_; refine ⟨.inr rfl, ?_⟩; simp only [resA, res1, go_sem, ↓reduceIte]
    simp only [or_self, if_true, htk]; rfl
  · have hB : pinB bs j n = false := decide_eq_false hc
    have hP : pinL bs j n = bs := by unfold pinL; rw [if_neg (by rw [hB]; decide)]
    have htk : (bs.map baleP).take bs.length = bs.map baleP := List.take_of_length_le (by simp)
    rw [hB, hP]
    clear hB hP
    by_cases h1 : n - ((bG bs j).1 - (bG bs j).2.1) ≤ (bG bs j).2.2
    · have h2 : ¬ (bG bs j).2.2 ≤ min (bG bs j).2.1 n := fun e => hc (hz.2 ⟨h1, e⟩)
      clear hz
      refine fun_ok (nt := 75) (rs := [.cell 6 24, .tmp 7]) Try.func35 rfl rfl rfl (by simp) fun Z w0 => ?_; simp only [initFr, avR, List.map_cons, List.map_nil]
      refine tw ?_; try with_reducible intro QQ hQQ
      refine callS_ok rfl rfl 37 (by simp (disch := first | decide | omega) only [go_sem, ↓reduceIte]; try rfl) (by simp (disch := first | decide | omega) only [go_sem, ↓reduceIte]; try rfl) Try.func37 rfl (by decide) (CallF.mono (c_copyI h) ?_); rintro _ _ ⟨rfl, rfl⟩; refine ts ?_; try clear hQQ QQ
      clear hc
      generalize (bG bs j).1 = F at *
      generalize (bG bs j).2.1 = K at *
      generalize (bG bs j).2.2 = W at *
      (repeat (first | apply aw_seq | apply aw_block | apply aw_skip | apply aw_label | apply aw_exit | ((first | refine aw_region (hideO fun QQ hQQ => ?_) | refine aw_draw mixed (hideD fun QQ hQQ => ?_)); simp (maxSteps := 400000) (disch := first | decide | omega) only [hll, hg, htk, go_sem, ↓reduceIte]; try (first | with_reducible refine unhide hQQ ?_ | refine ⟨by kernel_rfl, unhide hQQ ?_⟩); clear hQQ QQ) | with_reducible first | apply then_n | apply block_n | apply then_x | apply then_r | apply nog_n | apply nog_r | apply block_r | apply block_e (by decide) | apply block_x (by decide)))
      refine aw_cond2 (by simp (disch := first | decide | omega) only [hll, hg, htk, go_sem, ↓reduceIte]; rfl) ?_; first | refine .inl ⟨by first | rfl | exact decide_eq_true (by omega) | exact decide_eq_true (by assumption) | (simp (disch := first | decide | omega) only [if_pos_d, if_neg_d, decide_eq_true_eq, Bool.not_eq_true', decide_eq_false_iff_not]; omega), ?_⟩ | refine .inr ⟨by first | rfl | exact decide_eq_false (by omega) | exact decide_eq_false (by assumption) | (simp (disch := first | decide | omega) only [if_pos_d, if_neg_d, decide_eq_true_eq, Bool.not_eq_true', decide_eq_false_iff_not]; omega), ?_⟩
      (repeat (first | apply aw_seq | apply aw_block | apply aw_skip | apply aw_label | apply aw_exit | ((first | refine aw_region (hideO fun QQ hQQ => ?_) | refine aw_draw mixed (hideD fun QQ hQQ => ?_)); simp (maxSteps := 400000) (disch := first | decide | omega) only [hll, hg, htk, go_sem, ↓reduceIte]; try (first | with_reducible refine unhide hQQ ?_ | refine ⟨by kernel_rfl, unhide hQQ ?_⟩); clear hQQ QQ) | with_reducible first | apply then_n | apply block_n | apply then_x | apply then_r | apply nog_n | apply nog_r | apply block_r | apply block_e (by decide) | apply block_x (by decide)))
      refine aw_weak (weak_share 2 (by rfl)) ?_
      refine aw_weak (weak_restrict [6, 7] [2, 1] 4 (by simp only [hll, hg, htk, go_sem, ↓reduceIte]; rfl)) ?_
      refine aw_ret ?_; refine ⟨.inr rfl, ?_⟩; simp only [resA, res1, go_sem, ↓reduceIte]
      simp only [or_self, if_true, htk]; rfl
    · clear hz
      refine fun_ok (nt := 75) (rs := [.cell 6 24, .tmp 7]) Try.func35 rfl rfl rfl (by simp) fun Z w0 => ?_; simp only [initFr, avR, List.map_cons, List.map_nil]
      refine tw ?_; try with_reducible intro QQ hQQ
      refine callS_ok rfl rfl 37 (by simp (disch := first | decide | omega) only [go_sem, ↓reduceIte]; try rfl) (by simp (disch := first | decide | omega) only [go_sem, ↓reduceIte]; try rfl) Try.func37 rfl (by decide) (CallF.mono (c_copyI h) ?_); rintro _ _ ⟨rfl, rfl⟩; refine ts ?_; try clear hQQ QQ
      clear hc
      generalize (bG bs j).1 = F at *
      generalize (bG bs j).2.1 = K at *
      generalize (bG bs j).2.2 = W at *
      (repeat (first | apply aw_seq | apply aw_block | apply aw_skip | apply aw_label | apply aw_exit | ((first | refine aw_region (hideO fun QQ hQQ => ?_) | refine aw_draw mixed (hideD fun QQ hQQ => ?_)); simp (maxSteps := 400000) (disch := first | decide | omega) only [hll, hg, htk, go_sem, ↓reduceIte]; try (first | with_reducible refine unhide hQQ ?_ | refine ⟨by kernel_rfl, unhide hQQ ?_⟩); clear hQQ QQ) | with_reducible first | apply then_n | apply block_n | apply then_x | apply then_r | apply nog_n | apply nog_r | apply block_r | apply block_e (by decide) | apply block_x (by decide)))
      refine aw_cond2 (by simp (disch := first | decide | omega) only [hll, hg, htk, go_sem, ↓reduceIte]; rfl) ?_; first | refine .inl ⟨by first | rfl | exact decide_eq_true (by omega) | exact decide_eq_true (by assumption) | (simp (disch := first | decide | omega) only [if_pos_d, if_neg_d, decide_eq_true_eq, Bool.not_eq_true', decide_eq_false_iff_not]; omega), ?_⟩ | refine .inr ⟨by first | rfl | exact decide_eq_false (by omega) | exact decide_eq_false (by assumption) | (simp (disch := first | decide | omega) only [if_pos_d, if_neg_d, decide_eq_true_eq, Bool.not_eq_true', decide_eq_false_iff_not]; omega), ?_⟩
      (repeat (first | apply aw_seq | apply aw_block | apply aw_skip | apply aw_label | apply aw_exit | ((first | refine aw_region (hideO fun QQ hQQ => ?_) | refine aw_draw mixed (hideD fun QQ hQQ => ?_)); simp (maxSteps := 400000) (disch := first | decide | omega) only [hll, hg, htk, go_sem, ↓reduceIte]; try (first | with_reducible refine unhide hQQ ?_ | refine ⟨by kernel_rfl, unhide hQQ ?_⟩); clear hQQ QQ) | with_reducible first | apply then_n | apply block_n | apply then_x | apply then_r | apply nog_n | apply nog_r | apply block_r | apply block_e (by decide) | apply block_x (by decide)))
      refine aw_weak (weak_share 2 (by rfl)) ?_
      refine aw_weak (weak_restrict [6, 7] [2, 1] 4 (by simp only [hll, hg, htk, go_sem, ↓reduceIte]; rfl)) ?_
      refine aw_ret ?_; refine ⟨.inr rfl, ?_⟩; simp only [resA, res1, go_sem, ↓reduceIte]
      simp only [or_self, if_true, htk]; rfl
end
end Go.Proofs.Ytgdhdikeicgndaa
