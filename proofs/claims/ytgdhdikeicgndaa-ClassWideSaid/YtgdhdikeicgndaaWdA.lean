/- classer: the law's closure that asks whether looks at some bales clash. -/
import Derived.Test.YtgdhdikeicgndaaKwc22
import Derived.Test.YtgdhdikeicgndaaKcx18
import Derived.Test.YtgdhdikeicgndaaKwa20
set_option linter.all false
namespace Go.Proofs.Ytgdhdikeicgndaa
open Go Go.RowKit Go.Sh Go.Pv Go.Cl
set_option maxHeartbeats 2000000
set_option maxRecDepth 20000
set_option pp.maxSteps 60000
theorem bit_and1 (x i : Nat) : (x >>> i &&& 1 : Nat) = if x.testBit i = true then 1 else 0 := by
  rw [Nat.testBit_eq_decide_div_mod_eq, Nat.and_one_is_mod, Nat.shiftRight_eq_div_pow]
  by_cases h : x / 2 ^ i % 2 = 1
  · rw [h]; simp
  · rw [if_neg (by simpa using h)]; omega
theorem pow_six {b : Nat} (h : b < 6) : 2 ^ b ≤ 32 := by
  calc 2 ^ b ≤ 2 ^ 5 := Nat.pow_le_pow_right (by decide) (by omega)
    _ = 32 := by decide
theorem conv5_3 (a : Int) (h : 0 ≤ a ∧ a ≤ 255) : convA Try.prog 5 3 (.int .u8 a) = some (.int .i64 a) := by
  rw [conv_int (d := .int .u8) (by kernel_rfl) (by kernel_rfl) .u8 a, show a = ((a.toNat : Nat) : Int) by omega, wrap_nat (by omega)]
theorem ofn_blank (x k : Nat) {bs : List (Nat × Nat × Nat)} (hk : k < bs.length) : blank bs x (k + 1) = if x.testBit k = true then blank bs x k else (blank bs x k).set k ((bG bs k).1, 0, 0) := rfl
section
variable {Z : Zn} {w0 : World} {cap : Nat → Prop} {nt : Nat} {rd : Option Nat} {pan : List PanicEntry → St → Prop} {df : Option Nat} {dk : List Nat} {rg : Bool} {fr : List (Nat × AV)} {hp : List (Nat × Obj')} {nx : Nat}
variable {bs : List (Nat × Nat × Nat)} {May D M : Nat}
theorem c_copyN (h : LOK bs) : CallF ⟨Try.prog, Z, w0, cap, nt, rd, pan, df, dk, rg⟩ 37 [.agg [.p (.sl (bs.map baleP)), .p (iP (May : Int)), .p (iP (D : Int)), .p (iP (M : Int))]] ⟨fr, hp, nx⟩ fun st' av =>
    st' = ⟨fr, (nx, .arr 44 3 (bs.map baleP) false) :: hp, nx + 1⟩ ∧ av = .agg [.own nx bs.length, .p (iP (May : Int)), .p (iP (D : Int)), .p (iP (M : Int))] := by
  have := h.n6
  have hc := c_copied (Z := Z) (w0 := w0) (cap := cap) (nt := nt) (rd := rd) (pan := pan) (df := df) (dk := dk) (rg := rg) (fr := fr) (hp := hp) (nx := nx) (bales := bs.map castB) (may := May) (drift := D) (mist := M) (by rw [List.length_map]; omega)
  rw [rows_cast, List.length_map] at hc
  exact hc
theorem mist_bl (h : LOK bs) (hMay : May ≤ 30) (hD : D ≤ 30) (hM : M ≤ 6) (x : Nat) : FunOK Try.prog 24 [.agg [.sl ((blank bs x bs.length).map baleP), iP (May : Int), iP (D : Int), iP (M : Int)]] (.tup [.one (iP ((Go.Cl.mist D bs x : Nat) : Int)), .one (iP 0)]) := by
  have hb := blank_ok h x
  have hm := ok_Mistaken (bales := (blank bs x bs.length).map castB) (may := May) (drift := D) (mist := M)
  rw [line_to hb hMay hD hM, if_pos rfl, lineR_cast, nB_cast, List.length_map, Int.toNat_natCast, mist_blank h] at hm
  simp only [ansN, if_true] at hm
  exact hm
theorem s_clash38 (h : LOK bs) (hMay : May ≤ 30) (hD : D ≤ 30) (hM : M ≤ 6) (x : Nat) (hx : x < 64) :
    FunS Try.prog 38 [.one (.p (iP (x : Int))), .one (.box 0 0)] [(0, .box [.p (.sl (bs.map baleP)), .p (iP (May : Int)), .p (iP (D : Int)), .p (iP (M : Int))])] 1 (.one (.one (.v (.bool (clP D M bs x))))) := by
  have hm := mist_bl (May := May) (D := D) (M := M) h hMay hD hM x
  have hb6 := h.n6
  have hbl := fun k => blank_len (bs := bs) x k
  have hb0 : blank bs x 0 = bs := rfl
  have hbs := fun k (hk : k < bs.length) => ofn_blank x k hk
  have hat := fun k (hk : k < bs.length) => blank_at (bs := bs) x k k (by omega) hk
  unfold clP
  generalize Go.Cl.mist D bs x = mi at *
  generalize hB : blank bs x = B at *
  have hll : (bs.map baleP).length = bs.length := List.length_map _
  refine funS_ok (nt := 45) (rs := [.tmp 3]) Try.func38 rfl rfl rfl (by simp) fun Z w0 cap pan dk tm => ?_; simp only [initV, pins, pinOf, List.map_cons, List.map_nil]
  refine tw ?_; try with_reducible intro QQ hQQ
  refine callS_ok rfl rfl 37 (by simp (disch := first | decide | omega) only [go_sem, ↓reduceIte]; try rfl) (by simp (disch := first | decide | omega) only [go_sem, ↓reduceIte]; try rfl) Try.func37 rfl (by decide) (CallF.mono (c_copyN h) ?_); rintro _ _ ⟨rfl, rfl⟩; refine ts ?_; try clear hQQ QQ
  refine tw ?_; try with_reducible intro QQ hQQ
  refine aw_weak (weak_keepA [0, 1, 4, 12, 13] (by simp only [hb0, go_sem, ↓reduceIte]; rfl)) ?_
  refine aw_loop_ov (ι := { k : Nat // k ≤ bs.length }) (fun k => [(13, iA k.1)]) (fun k => [(2, .arr 44 3 ((B k.1).map baleP) false)]) (fun k => bs.length - k.1) ⟨0, by omega⟩ (by first | rfl | (simp only [hb0, go_sem, ↓reduceIte]; first | done | rfl | (simp; try rfl))) ?_
  rintro ⟨k, hk⟩
  simp (disch := decide) only [ov, ovL, AL.get_nil, AL.get_eq, AL.get_ne, Option.getD_some, Option.getD_none]
  have hlk : ((B k).map baleP).length = bs.length := by rw [List.length_map, hbl]
  by_cases hkl : k < bs.length
  · have hsh : ∀ (T : TypeId) (p q : Operand), binA Try.prog .shr T p q (.int .i64 (x : Int)) (.int .i64 (k : Int)) = some (.int .i64 ((x >>> k : Nat) : Int)) := fun T p q => bin_shr_nat .i64 T p q (by omega) (by omega)
    have hle : x >>> k ≤ x := Nat.shiftRight_le x k
    have han : ∀ (T : TypeId) (p q : Operand), binA Try.prog .and T p q (.int .i64 ((x >>> k : Nat) : Int)) (.int .i64 1) = some (.int .i64 ((x >>> k &&& 1 : Nat) : Int)) := fun T p q => bin_and_nat T p q (a := x >>> k) (b := 1) (by omega) (by omega)
    have hbit := bit_and1 x k
    have e1 := hbs k hkl
    have e2 := hat k hkl
    rw [if_neg (by omega)] at e2
    have hg : ((B k).map baleP)[k]? = some [iP ((bG bs k).1 : Int), iP ((bG bs k).2.1 : Int), iP ((bG bs k).2.2 : Int)] := by
      rw [List.getElem?_map, get_someBale (by rw [hbl]; exact hkl), e2]; rfl
    have hgs : ∀ r : List PV, (((B k).map baleP).set k r)[k]? = some r := fun r => by rw [List.getElem?_set_self (by rw [hlk]; exact hkl)]
    have hrow : ((B k).map baleP).set k [iP ((bG bs k).1 : Int), iP 0, iP 0] = ((B k).set k ((bG bs k).1, 0, 0)).map baleP := by rw [List.map_set]; rfl
    generalize x >>> k &&& 1 = b1 at *
    generalize x >>> k = x1 at *
    cases htb : x.testBit k with
    | true =>
      rw [htb, if_pos rfl] at hbit e1
      subst hbit
      (repeat (first | apply aw_seq | apply aw_block | apply aw_skip | apply aw_label | apply aw_exit | ((first | refine aw_region (hideO fun QQ hQQ => ?_) | refine aw_draw mixed (hideD fun QQ hQQ => ?_)); simp (maxSteps := 400000) (disch := first | decide | omega) only [hsh, han, hlk, go_sem, ↓reduceIte]; try (first | with_reducible refine unhide hQQ ?_ | refine ⟨by kernel_rfl, unhide hQQ ?_⟩); clear hQQ QQ) | with_reducible first | apply then_n | apply block_n | apply then_x | apply then_r | apply nog_n | apply nog_r | apply block_r | apply block_e (by decide) | apply block_x (by decide)))
      refine aw_cond2 (by simp (disch := first | decide | omega) only [hsh, han, hlk, go_sem, ↓reduceIte]; rfl) ?_; first | refine .inl ⟨by first | rfl | exact decide_eq_true (by omega) | exact decide_eq_true (by assumption) | (simp (disch := first | decide | omega) only [if_pos_d, if_neg_d, decide_eq_true_eq, Bool.not_eq_true', decide_eq_false_iff_not]; omega), ?_⟩ | refine .inr ⟨by first | rfl | exact decide_eq_false (by omega) | exact decide_eq_false (by assumption) | (simp (disch := first | decide | omega) only [if_pos_d, if_neg_d, decide_eq_true_eq, Bool.not_eq_true', decide_eq_false_iff_not]; omega), ?_⟩
      (repeat (first | apply aw_seq | apply aw_block | apply aw_skip | apply aw_label | apply aw_exit | ((first | refine aw_region (hideO fun QQ hQQ => ?_) | refine aw_draw mixed (hideD fun QQ hQQ => ?_)); simp (maxSteps := 400000) (disch := first | decide | omega) only [hsh, han, hlk, go_sem, ↓reduceIte]; try (first | with_reducible refine unhide hQQ ?_ | refine ⟨by kernel_rfl, unhide hQQ ?_⟩); clear hQQ QQ) | with_reducible first | apply then_n | apply block_n | apply then_x | apply then_r | apply nog_n | apply nog_r | apply block_r | apply block_e (by decide) | apply block_x (by decide)))
      refine aw_cond2 (by simp (disch := first | decide | omega) only [hsh, han, hlk, go_sem, ↓reduceIte]; rfl) ?_; first | refine .inl ⟨by first | rfl | exact decide_eq_true (by omega) | exact decide_eq_true (by assumption) | (simp (disch := first | decide | omega) only [if_pos_d, if_neg_d, decide_eq_true_eq, Bool.not_eq_true', decide_eq_false_iff_not]; omega), ?_⟩ | refine .inr ⟨by first | rfl | exact decide_eq_false (by omega) | exact decide_eq_false (by assumption) | (simp (disch := first | decide | omega) only [if_pos_d, if_neg_d, decide_eq_true_eq, Bool.not_eq_true', decide_eq_false_iff_not]; omega), ?_⟩
      (repeat (first | apply aw_seq | apply aw_block | apply aw_skip | apply aw_label | apply aw_exit | ((first | refine aw_region (hideO fun QQ hQQ => ?_) | refine aw_draw mixed (hideD fun QQ hQQ => ?_)); simp (maxSteps := 400000) (disch := first | decide | omega) only [hsh, han, hlk, go_sem, ↓reduceIte]; try (first | with_reducible refine unhide hQQ ?_ | refine ⟨by kernel_rfl, unhide hQQ ?_⟩); clear hQQ QQ) | with_reducible first | apply then_n | apply block_n | apply then_x | apply then_r | apply nog_n | apply nog_r | apply block_r | apply block_e (by decide) | apply block_x (by decide)))
      refine ⟨⟨k + 1, by omega⟩, ?_, weak_round ?_ (by first | rfl | (simp only [hsh, han, hlk, go_sem, ↓reduceIte]))⟩
      rotate_left
      · simp only [e1]
        (simp only [hsh, han, hlk, go_sem, ↓reduceIte]; try rfl)
      · simp only; omega
    | false =>
      rw [htb, if_neg (by decide)] at hbit e1
      subst hbit
      (repeat (first | apply aw_seq | apply aw_block | apply aw_skip | apply aw_label | apply aw_exit | ((first | refine aw_region (hideO fun QQ hQQ => ?_) | refine aw_draw mixed (hideD fun QQ hQQ => ?_)); simp (maxSteps := 400000) (disch := first | decide | omega) only [hsh, han, hlk, hg, hgs, List.length_set, List.set_set, go_sem, ↓reduceIte]; try (first | with_reducible refine unhide hQQ ?_ | refine ⟨by kernel_rfl, unhide hQQ ?_⟩); clear hQQ QQ) | with_reducible first | apply then_n | apply block_n | apply then_x | apply then_r | apply nog_n | apply nog_r | apply block_r | apply block_e (by decide) | apply block_x (by decide)))
      refine aw_cond2 (by simp (disch := first | decide | omega) only [hsh, han, hlk, hg, hgs, List.length_set, List.set_set, go_sem, ↓reduceIte]; rfl) ?_; first | refine .inl ⟨by first | rfl | exact decide_eq_true (by omega) | exact decide_eq_true (by assumption) | (simp (disch := first | decide | omega) only [if_pos_d, if_neg_d, decide_eq_true_eq, Bool.not_eq_true', decide_eq_false_iff_not]; omega), ?_⟩ | refine .inr ⟨by first | rfl | exact decide_eq_false (by omega) | exact decide_eq_false (by assumption) | (simp (disch := first | decide | omega) only [if_pos_d, if_neg_d, decide_eq_true_eq, Bool.not_eq_true', decide_eq_false_iff_not]; omega), ?_⟩
      (repeat (first | apply aw_seq | apply aw_block | apply aw_skip | apply aw_label | apply aw_exit | ((first | refine aw_region (hideO fun QQ hQQ => ?_) | refine aw_draw mixed (hideD fun QQ hQQ => ?_)); simp (maxSteps := 400000) (disch := first | decide | omega) only [hsh, han, hlk, hg, hgs, List.length_set, List.set_set, go_sem, ↓reduceIte]; try (first | with_reducible refine unhide hQQ ?_ | refine ⟨by kernel_rfl, unhide hQQ ?_⟩); clear hQQ QQ) | with_reducible first | apply then_n | apply block_n | apply then_x | apply then_r | apply nog_n | apply nog_r | apply block_r | apply block_e (by decide) | apply block_x (by decide)))
      refine aw_cond2 (by simp (disch := first | decide | omega) only [hsh, han, hlk, hg, hgs, List.length_set, List.set_set, go_sem, ↓reduceIte]; rfl) ?_; first | refine .inl ⟨by first | rfl | exact decide_eq_true (by omega) | exact decide_eq_true (by assumption) | (simp (disch := first | decide | omega) only [if_pos_d, if_neg_d, decide_eq_true_eq, Bool.not_eq_true', decide_eq_false_iff_not]; omega), ?_⟩ | refine .inr ⟨by first | rfl | exact decide_eq_false (by omega) | exact decide_eq_false (by assumption) | (simp (disch := first | decide | omega) only [if_pos_d, if_neg_d, decide_eq_true_eq, Bool.not_eq_true', decide_eq_false_iff_not]; omega), ?_⟩
      (repeat (first | apply aw_seq | apply aw_block | apply aw_skip | apply aw_label | apply aw_exit | ((first | refine aw_region (hideO fun QQ hQQ => ?_) | refine aw_draw mixed (hideD fun QQ hQQ => ?_)); simp (maxSteps := 400000) (disch := first | decide | omega) only [hsh, han, hlk, hg, hgs, List.length_set, List.set_set, go_sem, ↓reduceIte]; try (first | with_reducible refine unhide hQQ ?_ | refine ⟨by kernel_rfl, unhide hQQ ?_⟩); clear hQQ QQ) | with_reducible first | apply then_n | apply block_n | apply then_x | apply then_r | apply nog_n | apply nog_r | apply block_r | apply block_e (by decide) | apply block_x (by decide)))
      refine ⟨⟨k + 1, by omega⟩, ?_, weak_round ?_ (by first | rfl | (simp only [hsh, han, hlk, hg, hgs, List.length_set, List.set_set, go_sem, ↓reduceIte]))⟩
      rotate_left
      · simp only [e1, ← hrow]
        (simp only [hsh, han, hlk, hg, hgs, List.length_set, List.set_set, go_sem, ↓reduceIte]; try rfl)
      · simp only; omega
  · have hke : k = bs.length := by omega
    subst hke
    have htk : ((B bs.length).map baleP).take bs.length = (B bs.length).map baleP := List.take_of_length_le (by rw [hlk]; exact Nat.le_refl _)
    generalize B bs.length = bs2 at *
    by_cases hmi : M < mi
    · rw [decide_eq_true hmi]
      (repeat (first | apply aw_seq | apply aw_block | apply aw_skip | apply aw_label | apply aw_exit | ((first | refine aw_region (hideO fun QQ hQQ => ?_) | refine aw_draw mixed (hideD fun QQ hQQ => ?_)); simp (maxSteps := 400000) (disch := first | decide | omega) only [htk, hlk, go_sem, ↓reduceIte]; try (first | with_reducible refine unhide hQQ ?_ | refine ⟨by kernel_rfl, unhide hQQ ?_⟩); clear hQQ QQ) | with_reducible first | apply then_n | apply block_n | apply then_x | apply then_r | apply nog_n | apply nog_r | apply block_r | apply block_e (by decide) | apply block_x (by decide)))
      refine aw_cond2 (by simp (disch := first | decide | omega) only [htk, hlk, go_sem, ↓reduceIte]; rfl) ?_; first | refine .inl ⟨by first | rfl | exact decide_eq_true (by omega) | exact decide_eq_true (by assumption) | (simp (disch := first | decide | omega) only [if_pos_d, if_neg_d, decide_eq_true_eq, Bool.not_eq_true', decide_eq_false_iff_not]; omega), ?_⟩ | refine .inr ⟨by first | rfl | exact decide_eq_false (by omega) | exact decide_eq_false (by assumption) | (simp (disch := first | decide | omega) only [if_pos_d, if_neg_d, decide_eq_true_eq, Bool.not_eq_true', decide_eq_false_iff_not]; omega), ?_⟩
      (repeat (first | apply aw_seq | apply aw_block | apply aw_skip | apply aw_label | apply aw_exit | ((first | refine aw_region (hideO fun QQ hQQ => ?_) | refine aw_draw mixed (hideD fun QQ hQQ => ?_)); simp (maxSteps := 400000) (disch := first | decide | omega) only [htk, hlk, go_sem, ↓reduceIte]; try (first | with_reducible refine unhide hQQ ?_ | refine ⟨by kernel_rfl, unhide hQQ ?_⟩); clear hQQ QQ) | with_reducible first | apply then_n | apply block_n | apply then_x | apply then_r | apply nog_n | apply nog_r | apply block_r | apply block_e (by decide) | apply block_x (by decide)))
      ((refine callO_ok rfl rfl 24 true rfl (by simp (disch := first | decide | omega) only [htk, hlk, go_sem, ↓reduceIte]; try rfl) (fun _ => rfl) (hm) Try.func24 rfl (by decide) ?_); simp (maxSteps := 400000) (disch := first | decide | omega) only [htk, hlk, go_sem, ↓reduceIte]; try (with_reducible refine unhide hQQ ?_; clear hQQ QQ)); (repeat (first | apply aw_seq | apply aw_block | apply aw_skip | apply aw_label | apply aw_exit | ((first | refine aw_region (hideO fun QQ hQQ => ?_) | refine aw_draw mixed (hideD fun QQ hQQ => ?_)); simp (maxSteps := 400000) (disch := first | decide | omega) only [htk, hlk, go_sem, ↓reduceIte]; try (first | with_reducible refine unhide hQQ ?_ | refine ⟨by kernel_rfl, unhide hQQ ?_⟩); clear hQQ QQ) | with_reducible first | apply then_n | apply block_n | apply then_x | apply then_r | apply nog_n | apply nog_r | apply block_r | apply block_e (by decide) | apply block_x (by decide)))
      (refine aw_ret ⟨.inr rfl, (by simp (maxSteps := 400000) (disch := first | decide | omega) only [htk, hlk, go_sem, ↓reduceIte]; try rfl), (by simp (maxSteps := 400000) (disch := first | decide | omega) only [htk, hlk, go_sem, ↓reduceIte]; try rfl), (by simp only [List.mem_cons, List.mem_nil_iff, forall_eq_or_imp, forall_eq, false_imp_iff, implies_true, or_false, and_true]; simp (maxSteps := 400000) (disch := first | decide | omega) only [htk, hlk, go_sem, ↓reduceIte]; try exact ⟨rfl, rfl⟩)⟩)
    · rw [decide_eq_false hmi]
      (repeat (first | apply aw_seq | apply aw_block | apply aw_skip | apply aw_label | apply aw_exit | ((first | refine aw_region (hideO fun QQ hQQ => ?_) | refine aw_draw mixed (hideD fun QQ hQQ => ?_)); simp (maxSteps := 400000) (disch := first | decide | omega) only [htk, hlk, go_sem, ↓reduceIte]; try (first | with_reducible refine unhide hQQ ?_ | refine ⟨by kernel_rfl, unhide hQQ ?_⟩); clear hQQ QQ) | with_reducible first | apply then_n | apply block_n | apply then_x | apply then_r | apply nog_n | apply nog_r | apply block_r | apply block_e (by decide) | apply block_x (by decide)))
      refine aw_cond2 (by simp (disch := first | decide | omega) only [htk, hlk, go_sem, ↓reduceIte]; rfl) ?_; first | refine .inl ⟨by first | rfl | exact decide_eq_true (by omega) | exact decide_eq_true (by assumption) | (simp (disch := first | decide | omega) only [if_pos_d, if_neg_d, decide_eq_true_eq, Bool.not_eq_true', decide_eq_false_iff_not]; omega), ?_⟩ | refine .inr ⟨by first | rfl | exact decide_eq_false (by omega) | exact decide_eq_false (by assumption) | (simp (disch := first | decide | omega) only [if_pos_d, if_neg_d, decide_eq_true_eq, Bool.not_eq_true', decide_eq_false_iff_not]; omega), ?_⟩
      (repeat (first | apply aw_seq | apply aw_block | apply aw_skip | apply aw_label | apply aw_exit | ((first | refine aw_region (hideO fun QQ hQQ => ?_) | refine aw_draw mixed (hideD fun QQ hQQ => ?_)); simp (maxSteps := 400000) (disch := first | decide | omega) only [htk, hlk, go_sem, ↓reduceIte]; try (first | with_reducible refine unhide hQQ ?_ | refine ⟨by kernel_rfl, unhide hQQ ?_⟩); clear hQQ QQ) | with_reducible first | apply then_n | apply block_n | apply then_x | apply then_r | apply nog_n | apply nog_r | apply block_r | apply block_e (by decide) | apply block_x (by decide)))
      ((refine callO_ok rfl rfl 24 true rfl (by simp (disch := first | decide | omega) only [htk, hlk, go_sem, ↓reduceIte]; try rfl) (fun _ => rfl) (hm) Try.func24 rfl (by decide) ?_); simp (maxSteps := 400000) (disch := first | decide | omega) only [htk, hlk, go_sem, ↓reduceIte]; try (with_reducible refine unhide hQQ ?_; clear hQQ QQ)); (repeat (first | apply aw_seq | apply aw_block | apply aw_skip | apply aw_label | apply aw_exit | ((first | refine aw_region (hideO fun QQ hQQ => ?_) | refine aw_draw mixed (hideD fun QQ hQQ => ?_)); simp (maxSteps := 400000) (disch := first | decide | omega) only [htk, hlk, go_sem, ↓reduceIte]; try (first | with_reducible refine unhide hQQ ?_ | refine ⟨by kernel_rfl, unhide hQQ ?_⟩); clear hQQ QQ) | with_reducible first | apply then_n | apply block_n | apply then_x | apply then_r | apply nog_n | apply nog_r | apply block_r | apply block_e (by decide) | apply block_x (by decide)))
      (refine aw_ret ⟨.inr rfl, (by simp (maxSteps := 400000) (disch := first | decide | omega) only [htk, hlk, go_sem, ↓reduceIte]; try rfl), (by simp (maxSteps := 400000) (disch := first | decide | omega) only [htk, hlk, go_sem, ↓reduceIte]; try rfl), (by simp only [List.mem_cons, List.mem_nil_iff, forall_eq_or_imp, forall_eq, false_imp_iff, implies_true, or_false, and_true]; simp (maxSteps := 400000) (disch := first | decide | omega) only [htk, hlk, go_sem, ↓reduceIte]; try exact ⟨rfl, rfl⟩)⟩)
end
end Go.Proofs.Ytgdhdikeicgndaa
