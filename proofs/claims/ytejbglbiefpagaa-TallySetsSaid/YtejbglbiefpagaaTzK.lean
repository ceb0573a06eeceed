/- tally: in how many ways all can be. -/
import Derived.Test.YtejbglbiefpagaaKi
set_option linter.all false
namespace Go.Proofs.Ytejbglbiefpagaa
open Go Go.RowKit Go.Sh Go.Pv
set_option maxHeartbeats 4000000
set_option maxRecDepth 8000
/-- The product of how many numbers there are in each of the first spans. -/
def wS (l : List (Int × Int)) : Nat → Nat
  | 0 => 1
  | k + 1 => wS l k * ((l.getD k (0, 0)).2 - (l.getD k (0, 0)).1 + 1).toNat
theorem wS_ways (l : List (Int × Int)) : ∀ n k, wS l k * waysF l n k = wS l (k + n)
  | 0, k => by unfold waysF; rw [Nat.mul_one]; rfl
  | n + 1, k => by
    unfold waysF
    rw [← Nat.mul_assoc]
    show wS l (k + 1) * waysF l n (k + 1) = _
    rw [wS_ways l n (k + 1), show k + 1 + n = k + (n + 1) by omega]
theorem ways_wS (l : List (Int × Int)) : waysF l l.length 0 = wS l l.length := by
  have := wS_ways l l.length 0
  rw [show wS l 0 = 1 from rfl, Nat.one_mul, Nat.zero_add] at this
  exact this
theorem wS_rep {N : Nat} {most : Int} : ∀ k, k ≤ N → wS (List.replicate N (0, most)) k = (most + 1).toNat ^ k
  | 0, _ => rfl
  | k + 1, h => by
    unfold wS
    rw [wS_rep k (by omega), rep_getD (by omega), Nat.pow_succ]
    dsimp only
    rw [show most - 0 + 1 = most + 1 by omega]
def pS (x0 : Nat) (l : List (Int × Int)) : Nat → Nat
  | 0 => x0
  | k + 1 => pS x0 l k * ((l.getD k (0, 0)).2 - (l.getD k (0, 0)).1 + 1).toNat
theorem pS_eq (x0 : Nat) (l : List (Int × Int)) : ∀ k, pS x0 l k = x0 * wS l k
  | 0 => by show x0 = x0 * 1; omega
  | k + 1 => by unfold pS wS; rw [pS_eq x0 l k, Nat.mul_assoc]
/-- In how many ways all can be. -/
def waysN (N : Nat) (most : Int) (strays : List (Int × Int)) : Nat := (most + 1).toNat ^ N * wS strays strays.length
section
variable {N : Nat} {most : Int} {strays : List (Int × Int)} {calls : List (Int × Int × Int × Int)}
theorem pow_bd (h : TOK N most strays calls) {i : Nat} (hi : i ≤ 5) : 1 ≤ (most + 1).toNat ^ i ∧ (most + 1).toNat ^ i ≤ 844596301 := by
  have m0 := h.m0
  have m60 := h.m60
  refine ⟨Nat.pos_of_ne_zero fun h0 => ?_, ?_⟩
  · have := Nat.pow_eq_zero.1 h0; omega
  · calc (most + 1).toNat ^ i ≤ 61 ^ i := Nat.pow_le_pow_left (by omega) i
      _ ≤ 61 ^ 5 := Nat.pow_le_pow_right (by decide) hi
      _ = 844596301 := by decide
theorem wS_bd (h : TOK N most strays calls) : ∀ k, k ≤ strays.length → 1 ≤ wS strays k ∧ wS strays k ≤ 7 ^ k
  | 0, _ => ⟨Nat.le_refl _, Nat.le_refl _⟩
  | k + 1, hk => by
    have ih := wS_bd h k (by omega)
    have hs := span_of (h.st k (by omega))
    unfold wS
    rw [Nat.pow_succ]
    refine ⟨Nat.mul_pos ih.1 (by omega), Nat.mul_le_mul ih.2 (by omega)⟩
theorem ways_ok (h : TOK N most strays calls) (hw : waysN N most strays ≤ 100000) : Ways N most strays := by
  have hp := pow_bd h (i := N) h.n5
  have hs := wS_bd h strays.length (Nat.le_refl _)
  have e1 : (listsA (List.replicate N (0, most))).length = (most + 1).toNat ^ N := by
    rw [listsA_len, ways_wS, List.length_replicate, wS_rep N (Nat.le_refl _)]
  have e2 : (listsA strays).length = wS strays strays.length := by rw [listsA_len, ways_wS]
  unfold waysN at hw
  refine ⟨?_, ?_, by rw [e1, e2]; exact hw⟩
  · rw [e1]; exact Nat.le_trans (Nat.le_mul_of_pos_right _ hs.1) hw
  · rw [e2]; exact Nat.le_trans (Nat.le_mul_of_pos_left _ hp.1) hw
attribute [local go_sem] row4 get_some4 rowsK_nil' rowsK_cons' not_isEmpty_nil Bool.false_or
theorem heavy_long {n : Int} (w : Int) (hl : longB strays calls = true) : FunOK Try.prog 12 [tyR n most strays calls, .one (iP w)] (.one (.one (.v (.bool true)))) := by
  have h1 := ok_long n most strays calls
  rw [hl] at h1
  simp only [tyR] at h1
  refine fun_ok (nt := 46) (rs := [.tmp 4]) Try.func12 rfl rfl rfl (by simp) fun Z w0 => ?_; simp only [initFr, avR, List.map_cons, List.map_nil]
  simp only [tyR, List.map_cons, List.map_nil]
  refine tw ?_; try with_reducible intro QQ hQQ
  ((refine cO 35 rfl rfl rfl (h1) Try.func35 rfl ?_); refine tu ?_; try clear hQQ QQ); refine tw ?_; try with_reducible intro QQ hQQ
  refine ti ?_; try clear hQQ QQ
  refine tw ?_; try with_reducible intro QQ hQQ
  ((refine cO 35 rfl rfl rfl (h1) Try.func35 rfl ?_); refine tu ?_; try clear hQQ QQ); refine tw ?_; try with_reducible intro QQ hQQ
  refine aw_ret ?_; refine ⟨.inr rfl, ?_⟩; simp only [resA, res1, go_sem, ↓reduceIte]
theorem heavy_arg {n : Int} (w : Int) (hl : longB strays calls = false) (hv : validB n most strays calls = false) : FunOK Try.prog 12 [tyR n most strays calls, .one (iP w)] (.one (.one (.v (.bool false)))) := by
  have h1 := ok_long n most strays calls
  have h2 := ok_Tally36 n most strays calls
  rw [hl] at h1
  rw [hv] at h2
  simp only [tyR] at h1 h2
  refine fun_ok (nt := 46) (rs := [.tmp 4]) Try.func12 rfl rfl rfl (by simp) fun Z w0 => ?_; simp only [initFr, avR, List.map_cons, List.map_nil]
  simp only [tyR, List.map_cons, List.map_nil]
  refine tw ?_; try with_reducible intro QQ hQQ
  (refine cO 35 rfl rfl rfl (h1) Try.func35 rfl ?_); refine ts ?_; try clear hQQ QQ
  ((refine cO 36 rfl rfl rfl (h2) Try.func36 rfl ?_); refine tu ?_; try clear hQQ QQ); refine tw ?_; try with_reducible intro QQ hQQ
  refine ti ?_; try clear hQQ QQ
  refine tw ?_; try with_reducible intro QQ hQQ
  ((refine cO 35 rfl rfl rfl (h1) Try.func35 rfl ?_); refine tu ?_; try clear hQQ QQ); refine tw ?_; try with_reducible intro QQ hQQ
  refine aw_ret ?_; refine ⟨.inr rfl, ?_⟩; simp only [resA, res1, go_sem, ↓reduceIte]
theorem heavy_ok (w : Nat) (h : TOK N most strays calls) : FunOK Try.prog 12 [tyR N most strays calls, .one (iP w)] (.one (.one (.v (.bool (decide (w < waysN N most strays)))))) := by
  have h1 := ok_long N most strays calls
  have h2 := ok_Tally36 N most strays calls
  have hlb : longB strays calls = false := by have := h.sl; have := h.n5; have := h.cl; unfold longB; simp; omega
  rw [hlb] at h1
  rw [tok_to h] at h2
  simp only [tyR] at h1 h2
  have n5 := h.n5
  have sl := h.sl
  have m0 := h.m0
  have m60 := h.m60
  obtain ⟨m1, hm1⟩ : ∃ m1 : Nat, (most + 1).toNat = m1 := ⟨_, rfl⟩
  have hm1' : most + 1 = (m1 : Int) := by omega
  have hpw := fun i (hi : i ≤ 5) => pow_bd h hi
  unfold waysN
  rw [hm1] at hpw ⊢
  refine fun_ok (nt := 46) (rs := [.tmp 4]) Try.func12 rfl rfl rfl (by simp) fun Z w0 => ?_; simp only [initFr, avR, List.map_cons, List.map_nil]
  simp only [tyR, List.map_cons, List.map_nil]
  refine tw ?_; try with_reducible intro QQ hQQ
  (refine cO 35 rfl rfl rfl (h1) Try.func35 rfl ?_); refine ts ?_; try clear hQQ QQ
  ((refine cO 36 rfl rfl rfl (h2) Try.func36 rfl ?_); refine tu ?_; try clear hQQ QQ); refine tw ?_; try with_reducible intro QQ hQQ
  refine ti ?_; try clear hQQ QQ
  refine tw ?_; try with_reducible intro QQ hQQ
  refine aw_weak (weak_keep [1, 2, 5, 18, 19] (by simp only [go_sem, ↓reduceIte]; rfl)) ?_
  refine aw_loop_ov (ι := { i : Nat // i ≤ N }) (fun i => [(19, iA i.1), (5, .one (.p (.v (.int .i64 ((m1 ^ i.1 : Nat) : Int)))))]) (fun _ => []) (fun i => N - i.1) ⟨0, by omega⟩ (by first | rfl | (simp only [go_sem, ↓reduceIte]; first | done | rfl | (simp; try rfl))) ?_
  rintro ⟨i, hi⟩
  simp (disch := decide) only [ov, ovL, AL.get_nil, AL.get_eq, AL.get_ne, Option.getD_some, Option.getD_none]
  by_cases hiN : i < N
  · have b1 := hpw i (by omega)
    have b2 := hpw (i + 1) (by omega)
    have e1 : m1 ^ (i + 1) = m1 ^ i * m1 := Nat.pow_succ _ _
    have e2 : ((m1 ^ i : Nat) : Int) * (m1 : Int) = ((m1 ^ (i + 1) : Nat) : Int) := by rw [e1]; push_cast; rfl
    obtain ⟨y, hy⟩ : ∃ y, m1 ^ (i + 1) = y := ⟨_, rfl⟩
    rw [hy] at b2 e2
    clear e1
    generalize m1 ^ i = x at *
    (repeat (first | apply aw_seq | apply aw_block | apply aw_skip | apply aw_label | apply aw_exit | ((first | refine aw_region (hideO fun QQ hQQ => ?_) | refine aw_draw mixed (hideD fun QQ hQQ => ?_)); simp (maxSteps := 400000) (disch := first | decide | omega) only [hm1', e2, go_sem, ↓reduceIte]; try (first | with_reducible refine unhide hQQ ?_ | refine ⟨by kernel_rfl, unhide hQQ ?_⟩); clear hQQ QQ) | with_reducible first | apply then_n | apply block_n | apply then_x | apply then_r | apply nog_n | apply nog_r | apply block_r | apply block_e (by decide) | apply block_x (by decide)))
    refine aw_cond2 (by simp (disch := first | decide | omega) only [hm1', e2, go_sem, ↓reduceIte]; rfl) ?_; first | refine .inl ⟨by first | rfl | exact decide_eq_true (by omega) | exact decide_eq_true (by assumption) | (simp (disch := first | decide | omega) only [if_pos_d, if_neg_d, decide_eq_true_eq, Bool.not_eq_true', decide_eq_false_iff_not]; omega), ?_⟩ | refine .inr ⟨by first | rfl | exact decide_eq_false (by omega) | exact decide_eq_false (by assumption) | (simp (disch := first | decide | omega) only [if_pos_d, if_neg_d, decide_eq_true_eq, Bool.not_eq_true', decide_eq_false_iff_not]; omega), ?_⟩
    (repeat (first | apply aw_seq | apply aw_block | apply aw_skip | apply aw_label | apply aw_exit | ((first | refine aw_region (hideO fun QQ hQQ => ?_) | refine aw_draw mixed (hideD fun QQ hQQ => ?_)); simp (maxSteps := 400000) (disch := first | decide | omega) only [hm1', e2, go_sem, ↓reduceIte]; try (first | with_reducible refine unhide hQQ ?_ | refine ⟨by kernel_rfl, unhide hQQ ?_⟩); clear hQQ QQ) | with_reducible first | apply then_n | apply block_n | apply then_x | apply then_r | apply nog_n | apply nog_r | apply block_r | apply block_e (by decide) | apply block_x (by decide)))
    refine ⟨⟨i + 1, by omega⟩, ?_, weak_round ?_ (by first | rfl | (simp only [hm1', e2, go_sem, ↓reduceIte]))⟩
    rotate_left
    · simp only [hy]
      (simp only [hm1', e2, go_sem, ↓reduceIte]; try rfl)
    · simp only; omega
  have hie : i = N := by omega
  subst hie
  have b0 := hpw i n5
  refine tw ?_; try with_reducible intro QQ hQQ
  refine ti ?_; try clear hQQ QQ
  refine tw ?_; try with_reducible intro QQ hQQ
  generalize m1 ^ i = x0 at *
  have hpS : ∀ k, k ≤ strays.length → 1 ≤ pS x0 strays k ∧ pS x0 strays k ≤ 844596301 * 2401 := fun k hk => by
    have := wS_bd h k hk
    rw [pS_eq]
    refine ⟨Nat.mul_pos b0.1 this.1, Nat.mul_le_mul b0.2 (Nat.le_trans this.2 ?_)⟩
    calc 7 ^ k ≤ 7 ^ 4 := Nat.pow_le_pow_right (by decide) (by omega)
      _ = 2401 := by decide
  rw [← pS_eq]
  refine aw_weak (weak_keep [1, 5, 28, 29, 30] (by simp only [go_sem, ↓reduceIte]; rfl)) ?_
  refine aw_loop_ov (ι := { k : Nat // k ≤ strays.length }) (fun k => [(30, iA k.1), (5, .one (.p (.v (.int .i64 ((pS x0 strays k.1 : Nat) : Int)))))]) (fun _ => []) (fun k => strays.length - k.1) ⟨0, by omega⟩ (by first | rfl | (simp only [go_sem, ↓reduceIte]; first | done | rfl | (simp; try rfl))) ?_
  rintro ⟨k, hk⟩
  simp (disch := decide) only [ov, ovL, AL.get_nil, AL.get_eq, AL.get_ne, Option.getD_some, Option.getD_none]
  have b1 := hpS k hk
  by_cases hkl : k < strays.length
  · have b2 := hpS (k + 1) hkl
    have hs := span_of (h.st k hkl)
    obtain ⟨⟨lo, hi⟩, hg⟩ : ∃ x, strays.getD k (0, 0) = x := ⟨_, rfl⟩
    rw [hg] at hs
    dsimp only at hs
    obtain ⟨m, hm⟩ : ∃ m : Nat, (hi - lo + 1).toNat = m := ⟨_, rfl⟩
    have hm' : hi - lo + 1 = (m : Int) := by omega
    have e1 : pS x0 strays (k + 1) = pS x0 strays k * m := by
      show pS x0 strays k * ((strays.getD k (0, 0)).2 - (strays.getD k (0, 0)).1 + 1).toNat = _
      rw [hg, hm]
    have e2 : ((pS x0 strays k : Nat) : Int) * (m : Int) = ((pS x0 strays (k + 1) : Nat) : Int) := by rw [e1]; push_cast; rfl
    obtain ⟨y, hy⟩ : ∃ y, pS x0 strays (k + 1) = y := ⟨_, rfl⟩
    rw [hy] at b2 e2
    clear e1 hpS
    generalize pS x0 strays k = x at *
    (repeat (first | apply aw_seq | apply aw_block | apply aw_skip | apply aw_label | apply aw_exit | ((first | refine aw_region (hideO fun QQ hQQ => ?_) | refine aw_draw mixed (hideD fun QQ hQQ => ?_)); simp (maxSteps := 400000) (disch := first | decide | omega) only [hg, hm', e2, go_sem, ↓reduceIte]; try (first | with_reducible refine unhide hQQ ?_ | refine ⟨by kernel_rfl, unhide hQQ ?_⟩); clear hQQ QQ) | with_reducible first | apply then_n | apply block_n | apply then_x | apply then_r | apply nog_n | apply nog_r | apply block_r | apply block_e (by decide) | apply block_x (by decide)))
    refine aw_cond2 (by simp (disch := first | decide | omega) only [hg, hm', e2, go_sem, ↓reduceIte]; rfl) ?_; first | refine .inl ⟨by first | rfl | exact decide_eq_true (by omega) | exact decide_eq_true (by assumption) | (simp (disch := first | decide | omega) only [if_pos_d, if_neg_d, decide_eq_true_eq, Bool.not_eq_true', decide_eq_false_iff_not]; omega), ?_⟩ | refine .inr ⟨by first | rfl | exact decide_eq_false (by omega) | exact decide_eq_false (by assumption) | (simp (disch := first | decide | omega) only [if_pos_d, if_neg_d, decide_eq_true_eq, Bool.not_eq_true', decide_eq_false_iff_not]; omega), ?_⟩
    (repeat (first | apply aw_seq | apply aw_block | apply aw_skip | apply aw_label | apply aw_exit | ((first | refine aw_region (hideO fun QQ hQQ => ?_) | refine aw_draw mixed (hideD fun QQ hQQ => ?_)); simp (maxSteps := 400000) (disch := first | decide | omega) only [hg, hm', e2, go_sem, ↓reduceIte]; try (first | with_reducible refine unhide hQQ ?_ | refine ⟨by kernel_rfl, unhide hQQ ?_⟩); clear hQQ QQ) | with_reducible first | apply then_n | apply block_n | apply then_x | apply then_r | apply nog_n | apply nog_r | apply block_r | apply block_e (by decide) | apply block_x (by decide)))
    refine ⟨⟨k + 1, by omega⟩, ?_, weak_round ?_ (by first | rfl | (simp only [hg, hm', e2, go_sem, ↓reduceIte]))⟩
    rotate_left
    · simp only [hy]
      (simp only [hg, hm', e2, go_sem, ↓reduceIte]; try rfl)
    · simp only; omega
  · have hke : k = strays.length := by omega
    subst hke
    generalize pS x0 strays strays.length = x at *
    refine tw ?_; try with_reducible intro QQ hQQ
    refine ti ?_; try clear hQQ QQ
    refine tw ?_; try with_reducible intro QQ hQQ
    refine aw_ret ?_; refine ⟨.inr rfl, ?_⟩; simp only [resA, res1, go_sem, ↓reduceIte]
    try simp
end
end Go.Proofs.Ytejbglbiefpagaa
