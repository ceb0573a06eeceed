/- burr: the document's sets: power, Has, Both, Size; the law's size. -/
import Derived.Test.YtknikcpeacmpmaaBwC
set_option linter.all false
namespace Go.Proofs.Ytknikcpeacmpmaa
open Go Go.RowKit Go.Sh Go.Pv
set_option maxHeartbeats 4000000
set_option maxRecDepth 8000
theorem bin_rem_two (T : TypeId) (x y : Operand) (s : Nat) : binA Try.prog .rem T x y (.int .i64 (s : Int)) (.int .i64 2) = some (.int .i64 ((s % 2 : Nat) : Int)) := by
  rw [bin_rem _ _ _ _ _ _ (by decide), Int.tmod_eq_emod_of_nonneg (by omega)]
  rfl
theorem bin_quo_nat (T : TypeId) (x y : Operand) {s d : Nat} (h : s < 2 ^ 62) (hd : 0 < d) : binA Try.prog .quo T x y (.int .i64 (s : Int)) (.int .i64 (d : Int)) = some (.int .i64 ((s / d : Nat) : Int)) := by
  have := Nat.div_le_self s d
  rw [bin_quo _ _ _ _ _ _ (by omega), Int.tdiv_eq_ediv_of_nonneg (by omega), ← Int.natCast_ediv, wrap_nat (by omega)]
theorem bin_quo_two (T : TypeId) (x y : Operand) {s : Nat} (h : s < 2 ^ 62) : binA Try.prog .quo T x y (.int .i64 (s : Int)) (.int .i64 2) = some (.int .i64 ((s / 2 : Nat) : Int)) := bin_quo_nat T x y (d := 2) h (by decide)
theorem ok_in (a b c : Int) : FunOK Try.prog 84 [.one (iP a), .one (iP b), .one (iP c)] (.one (.one (.v (.bool (inB a b c))))) := by
  refine fun_ok (nt := 15) (rs := [.tmp 6]) Try.func84 rfl rfl rfl (by simp) fun Z w0 => ?_; simp only [initFr, avR, List.map_cons, List.map_nil]
  by_cases h : b ≤ a
  · refine tw ?_; try with_reducible intro QQ hQQ
    refine aw_ret ?_; refine ⟨.inr rfl, ?_⟩; simp only [resA, res1, go_sem, ↓reduceIte]
    simp [inB, h]
  · refine tw ?_; try with_reducible intro QQ hQQ
    refine aw_ret ?_; refine ⟨.inr rfl, ?_⟩; simp only [resA, res1, go_sem, ↓reduceIte]
    simp [inB, h]
theorem ok_power (n : Nat) (hn : n ≤ 40) : FunOK Try.prog 72 [.one (iP n)] (.one (.one (iP ((2 ^ n : Nat) : Int)))) := by
  refine fun_ok (nt := 13) (rs := [.tmp 2]) Try.func72 rfl rfl rfl (by simp) fun Z w0 => ?_; simp only [initFr, avR, List.map_cons, List.map_nil]
  refine tw ?_; try with_reducible intro QQ hQQ
  refine aw_weak (weak_keep [0, 3, 4] (by simp only [go_sem, ↓reduceIte]; rfl)) ?_
  refine aw_loop_ov (ι := { i : Nat // i ≤ n }) (fun i => [(3, .one (.p (iP ((2 ^ i.1 : Nat) : Int)))), (4, iA i.1)]) (fun _ => []) (fun i => n - i.1) ⟨0, by omega⟩ (by first | rfl | (simp only [go_sem, ↓reduceIte]; first | done | rfl | (simp; try rfl))) ?_
  rintro ⟨i, hi⟩
  simp (disch := decide) only [ov, ovL, AL.get_nil, AL.get_eq, AL.get_ne, Option.getD_some, Option.getD_none]
  have hp : 2 ^ (i + 1) = 2 * 2 ^ i := by rw [Nat.pow_succ]; omega
  have hb : 2 ^ i ≤ 2 ^ 40 := Nat.pow_le_pow_right (by decide) (by omega)
  generalize hq : 2 ^ i = q at *
  by_cases hil : i < n
  · refine tw ?_; try with_reducible intro QQ hQQ
    refine ti ?_; try clear hQQ QQ
    refine tw ?_; try with_reducible intro QQ hQQ
    refine ⟨⟨i + 1, by omega⟩, ?_, weak_round ?_ (by first | rfl | (simp only [go_sem, ↓reduceIte]))⟩
    rotate_left
    · simp only [hp]
      (simp only [go_sem, ↓reduceIte]; try rfl)
      try (push_cast; rfl)
    · simp only; omega
  · have : i = n := by omega
    subst this
    rw [hq]
    refine tw ?_; try with_reducible intro QQ hQQ
    refine ti ?_; try clear hQQ QQ
    refine tw ?_; try with_reducible intro QQ hQQ
    refine aw_ret ?_; refine ⟨.inr rfl, ?_⟩; simp only [resA, res1, go_sem, ↓reduceIte]
theorem half_bit (s i : Nat) : ((((s / 2 ^ i % 2 : Nat) : Int) == 1)) = s.testBit i := by
  rw [Nat.testBit_eq_decide_div_mod_eq]
  show decide (((s / 2 ^ i % 2 : Nat) : Int) = 1) = _
  by_cases h : s / 2 ^ i % 2 = 1
  · rw [h]; rfl
  · rw [decide_eq_false h, decide_eq_false (by omega)]
theorem ok_has (s i : Nat) (hs : s < 2 ^ 62) (hi : i ≤ 40) : FunOK Try.prog 78 [.one (iP s), .one (iP i)] (.one (.one (.v (.bool (s.testBit i))))) := by
  have hp := ok_power i hi
  have hbit := half_bit s i
  have hp0 := Nat.two_pow_pos i
  have hb : 2 ^ i ≤ 2 ^ 40 := Nat.pow_le_pow_right (by decide) hi
  rw [← hbit]
  clear hbit
  have hq := fun T x y => bin_quo_nat T x y (s := s) (d := 2 ^ i) hs hp0
  have hr := fun T x y => bin_rem_two T x y (s / 2 ^ i)
  generalize s / 2 ^ i % 2 = m at *
  generalize s / 2 ^ i = k at *
  generalize 2 ^ i = d at *
  refine fun_ok (nt := 11) (rs := [.tmp 4]) Try.func78 rfl rfl rfl (by simp) fun Z w0 => ?_; simp only [initFr, avR, List.map_cons, List.map_nil]
  (repeat (first | apply aw_seq | apply aw_block | apply aw_skip | apply aw_label | apply aw_exit | ((first | refine aw_region (hideO fun QQ hQQ => ?_) | refine aw_draw mixed (hideD fun QQ hQQ => ?_)); simp (maxSteps := 400000) (disch := first | decide | omega) only [hq, hr, go_sem, ↓reduceIte]; try (first | with_reducible refine unhide hQQ ?_ | refine ⟨by kernel_rfl, unhide hQQ ?_⟩); clear hQQ QQ) | with_reducible first | apply then_n | apply block_n | apply then_x | apply then_r | apply nog_n | apply nog_r | apply block_r | apply block_e (by decide) | apply block_x (by decide)))
  ((refine callO_ok rfl rfl 72 true rfl (by simp (disch := first | decide | omega) only [hq, hr, go_sem, ↓reduceIte]; try rfl) (fun _ => rfl) (hp) Try.func72 rfl (by decide) ?_); simp (maxSteps := 400000) (disch := first | decide | omega) only [hq, hr, go_sem, ↓reduceIte]; try (with_reducible refine unhide hQQ ?_; clear hQQ QQ)); (repeat (first | apply aw_seq | apply aw_block | apply aw_skip | apply aw_label | apply aw_exit | ((first | refine aw_region (hideO fun QQ hQQ => ?_) | refine aw_draw mixed (hideD fun QQ hQQ => ?_)); simp (maxSteps := 400000) (disch := first | decide | omega) only [hq, hr, go_sem, ↓reduceIte]; try (first | with_reducible refine unhide hQQ ?_ | refine ⟨by kernel_rfl, unhide hQQ ?_⟩); clear hQQ QQ) | with_reducible first | apply then_n | apply block_n | apply then_x | apply then_r | apply nog_n | apply nog_r | apply block_r | apply block_e (by decide) | apply block_x (by decide)))
  refine aw_ret ?_; refine ⟨.inr rfl, ?_⟩; simp only [resA, res1, go_sem, ↓reduceIte]
theorem mod_succ (x i : Nat) : x % 2 ^ (i + 1) = x % 2 ^ i + if x.testBit i = true then 2 ^ i else 0 := by
  rw [Nat.mod_pow_succ, Nat.testBit_eq_decide_div_mod_eq]
  congr 1
  by_cases h : x / 2 ^ i % 2 = 1
  · rw [h, if_pos (by simp), Nat.mul_one]
  · rw [if_neg (by simpa using h), show x / 2 ^ i % 2 = 0 by omega, Nat.mul_zero]
theorem ok_both (a b : Nat) (ha : a < 64) (hb : b < 64) : FunOK Try.prog 62 [.one (iP a), .one (iP b)] (.one (.one (iP ((a &&& b : Nat) : Int)))) := by
  have hab : a &&& b < 64 := Nat.lt_of_le_of_lt Nat.and_le_left ha
  have hfin : (a &&& b) % 2 ^ 6 = a &&& b := Nat.mod_eq_of_lt hab
  have hbits : ∀ i, (a &&& b).testBit i = (a.testBit i && b.testBit i) := fun i => Nat.testBit_and a b i
  have hsucc := mod_succ (a &&& b)
  generalize a &&& b = c at *
  refine fun_ok (nt := 24) (rs := [.tmp 4]) Try.func62 rfl rfl rfl (by simp) fun Z w0 => ?_; simp only [initFr, avR, List.map_cons, List.map_nil]
  refine tw ?_; try with_reducible intro QQ hQQ
  refine aw_weak (weak_keep [0, 1, 5, 6] (by simp only [go_sem, ↓reduceIte]; rfl)) ?_
  refine aw_loop_ov (ι := { i : Nat // i ≤ 6 }) (fun i => [(5, .one (.p (iP ((c % 2 ^ i.1 : Nat) : Int)))), (6, iA i.1)]) (fun _ => []) (fun i => 6 - i.1) ⟨0, by omega⟩ (by first | rfl | (simp only [go_sem, ↓reduceIte]; first | done | rfl | (simp; try rfl))) ?_
  rintro ⟨i, hi⟩
  simp (disch := decide) only [ov, ovL, AL.get_nil, AL.get_eq, AL.get_ne, Option.getD_some, Option.getD_none]
  by_cases hil : i < 6
  · have h1 := ok_has a i (by omega) (by omega)
    have h2 := ok_has b i (by omega) (by omega)
    have h3 := ok_power i (by omega)
    have e1 := hsucc i
    rw [hbits i] at e1
    have hp := pow_six hil
    have hml : c % 2 ^ i ≤ c := Nat.mod_le _ _
    clear hsucc hbits hfin
    generalize 2 ^ i = q at *
    generalize c % q = m at *
    cases ba : a.testBit i
    · rw [ba] at h1
      rw [ba, Bool.false_and, if_neg (by decide), Nat.add_zero] at e1
      refine tw ?_; try with_reducible intro QQ hQQ
      refine ti ?_; try clear hQQ QQ
      refine tw ?_; try with_reducible intro QQ hQQ
      ((refine cO 78 rfl rfl rfl (h1) Try.func78 rfl ?_); refine tu ?_; try clear hQQ QQ); refine tw ?_; try with_reducible intro QQ hQQ
      refine ti ?_; try clear hQQ QQ
      refine tw ?_; try with_reducible intro QQ hQQ
      refine ⟨⟨i + 1, by omega⟩, ?_, weak_round ?_ (by first | rfl | (simp only [go_sem, ↓reduceIte]))⟩
      rotate_left
      · simp only [e1]
        (simp only [go_sem, ↓reduceIte]; try rfl)
      · simp only; omega
    · rw [ba] at h1
      cases bb : b.testBit i
      · rw [bb] at h2
        rw [ba, bb, Bool.true_and, if_neg (by decide), Nat.add_zero] at e1
        refine tw ?_; try with_reducible intro QQ hQQ
        refine ti ?_; try clear hQQ QQ
        refine tw ?_; try with_reducible intro QQ hQQ
        (refine cO 78 rfl rfl rfl (h1) Try.func78 rfl ?_); refine ts ?_; try clear hQQ QQ
        ((refine cO 78 rfl rfl rfl (h2) Try.func78 rfl ?_); refine tu ?_; try clear hQQ QQ); refine tw ?_; try with_reducible intro QQ hQQ
        refine ti ?_; try clear hQQ QQ
        refine tw ?_; try with_reducible intro QQ hQQ
        refine ⟨⟨i + 1, by omega⟩, ?_, weak_round ?_ (by first | rfl | (simp only [go_sem, ↓reduceIte]))⟩
        rotate_left
        · simp only [e1]
          (simp only [go_sem, ↓reduceIte]; try rfl)
        · simp only; omega
      · rw [bb] at h2
        rw [ba, bb, Bool.true_and, if_pos rfl] at e1
        refine tw ?_; try with_reducible intro QQ hQQ
        refine ti ?_; try clear hQQ QQ
        refine tw ?_; try with_reducible intro QQ hQQ
        (refine cO 78 rfl rfl rfl (h1) Try.func78 rfl ?_); refine ts ?_; try clear hQQ QQ
        ((refine cO 78 rfl rfl rfl (h2) Try.func78 rfl ?_); refine tu ?_; try clear hQQ QQ); refine tw ?_; try with_reducible intro QQ hQQ
        refine ti ?_; try clear hQQ QQ
        refine tw ?_; try with_reducible intro QQ hQQ
        ((refine cO 72 rfl rfl rfl (h3) Try.func72 rfl ?_); refine tu ?_; try clear hQQ QQ); refine tw ?_; try with_reducible intro QQ hQQ
        refine ⟨⟨i + 1, by omega⟩, ?_, weak_round ?_ (by first | rfl | (simp only [go_sem, ↓reduceIte]))⟩
        rotate_left
        · simp only [e1]
          (simp only [go_sem, ↓reduceIte]; try rfl)
        · simp only; omega
  · have : i = 6 := by omega
    subst this
    rw [hfin]
    refine tw ?_; try with_reducible intro QQ hQQ
    refine ti ?_; try clear hQQ QQ
    refine tw ?_; try with_reducible intro QQ hQQ
    refine aw_ret ?_; refine ⟨.inr rfl, ?_⟩; simp only [resA, res1, go_sem, ↓reduceIte]
theorem popc_half_all : (List.range 64).all (fun x => Nat.beq (popc x) (x % 2 + popc (x / 2))) = true := by decide +kernel
theorem popc_half {x : Nat} (h : x < 64) : popc x = x % 2 + popc (x / 2) := Nat.eq_of_beq_eq_true (List.all_eq_true.1 popc_half_all x (List.mem_range.2 h))
theorem popc_zero : popc 0 = 0 := by decide +kernel
theorem ok_size37 (s : Nat) (hs : s < 64) : FunOK Try.prog 37 [.one (iP s)] (.one (.one (iP (popc s : Nat)))) := by
  refine fun_ok (nt := 12) (rs := [.tmp 2]) Try.func37 rfl rfl rfl (by simp) fun Z w0 => ?_; simp only [initFr, avR, List.map_cons, List.map_nil]
  refine tw ?_; try with_reducible intro QQ hQQ
  refine aw_weak (weak_keep [0, 2] (by simp only [go_sem, ↓reduceIte]; rfl)) ?_
  refine aw_loop_ov (ι := { p : Nat × Nat // p.1 < 64 ∧ p.2 + popc p.1 = popc s ∧ p.2 ≤ 6 }) (fun p => [(0, iA p.1.1), (2, iA p.1.2)]) (fun _ => []) (fun p => p.1.1) ⟨(s, 0), hs, by simp, by dsimp only; omega⟩ (by first | rfl | (simp only [go_sem, ↓reduceIte]; first | done | rfl | (simp; try rfl))) ?_
  rintro ⟨⟨x, k⟩, hx, he, hk⟩
  simp (disch := decide) only [ov, ovL, AL.get_nil, AL.get_eq, AL.get_ne, Option.getD_some, Option.getD_none]
  dsimp only at hx he hk
  by_cases h0 : 0 < x
  · have hh := popc_half hx
    have h6 := popc6 hs
    have hq := fun T a b => bin_quo_two (s := x) T a b (by omega)
    have hr := fun T a b => bin_rem_two T a b x
    have hm : x % 2 < 2 := Nat.mod_lt _ (by decide)
    have hle : x / 2 < x := Nat.div_lt_self h0 (by decide)
    generalize x / 2 = y at *
    generalize x % 2 = m at *
    (repeat (first | apply aw_seq | apply aw_block | apply aw_skip | apply aw_label | apply aw_exit | ((first | refine aw_region (hideO fun QQ hQQ => ?_) | refine aw_draw mixed (hideD fun QQ hQQ => ?_)); simp (maxSteps := 400000) (disch := first | decide | omega) only [hq, hr, go_sem, ↓reduceIte]; try (first | with_reducible refine unhide hQQ ?_ | refine ⟨by kernel_rfl, unhide hQQ ?_⟩); clear hQQ QQ) | with_reducible first | apply then_n | apply block_n | apply then_x | apply then_r | apply nog_n | apply nog_r | apply block_r | apply block_e (by decide) | apply block_x (by decide)))
    refine aw_cond2 (by simp (disch := first | decide | omega) only [hq, hr, go_sem, ↓reduceIte]; rfl) ?_; first | refine .inl ⟨by first | rfl | exact decide_eq_true (by omega) | exact decide_eq_true (by assumption) | (simp (disch := first | decide | omega) only [if_pos_d, if_neg_d, decide_eq_true_eq, Bool.not_eq_true', decide_eq_false_iff_not]; omega), ?_⟩ | refine .inr ⟨by first | rfl | exact decide_eq_false (by omega) | exact decide_eq_false (by assumption) | (simp (disch := first | decide | omega) only [if_pos_d, if_neg_d, decide_eq_true_eq, Bool.not_eq_true', decide_eq_false_iff_not]; omega), ?_⟩
    (repeat (first | apply aw_seq | apply aw_block | apply aw_skip | apply aw_label | apply aw_exit | ((first | refine aw_region (hideO fun QQ hQQ => ?_) | refine aw_draw mixed (hideD fun QQ hQQ => ?_)); simp (maxSteps := 400000) (disch := first | decide | omega) only [hq, hr, go_sem, ↓reduceIte]; try (first | with_reducible refine unhide hQQ ?_ | refine ⟨by kernel_rfl, unhide hQQ ?_⟩); clear hQQ QQ) | with_reducible first | apply then_n | apply block_n | apply then_x | apply then_r | apply nog_n | apply nog_r | apply block_r | apply block_e (by decide) | apply block_x (by decide)))
    refine ⟨⟨(y, k + m), by dsimp only; omega, by dsimp only; omega, by dsimp only; omega⟩, ?_, weak_round ?_ (by first | rfl | (simp only [hq, hr, go_sem, ↓reduceIte]))⟩
    rotate_left
    · (simp only [hq, hr, go_sem, ↓reduceIte]; try rfl)
    · simp only; omega
  · have : x = 0 := by omega
    subst this
    rw [popc_zero] at he
    rw [← he, Nat.add_zero]
    refine tw ?_; try with_reducible intro QQ hQQ
    refine ti ?_; try clear hQQ QQ
    refine tw ?_; try with_reducible intro QQ hQQ
    refine aw_ret ?_; refine ⟨.inr rfl, ?_⟩; simp only [resA, res1, go_sem, ↓reduceIte]
theorem ok_long (n lo hi top : Int) (bales : List (Int × Int)) (tests : List (Int × Bool)) : FunOK Try.prog 12 [buR n lo hi top bales tests] (.one (.one (.v (.bool (decide (40 < max bales.length tests.length)))))) := by
  have e : decide (40 < max bales.length tests.length) = decide ((if (tests.length : Int) > (bales.length : Int) then (tests.length : Int) else (bales.length : Int)) > 40) := by
    congr 1
    apply propext
    split <;> omega
  rw [e]
  refine fun_ok (nt := 11) (rs := [.tmp 2]) Try.func12 rfl rfl rfl (by simp) fun Z w0 => ?_; simp only [initFr, avR, List.map_cons, List.map_nil]
  simp only [buR, List.map_cons, List.map_nil]
  refine tw ?_; try with_reducible intro QQ hQQ
  refine aw_ret ?_; refine ⟨.inr rfl, ?_⟩; simp only [resA, res1, go_sem, ↓reduceIte]
end Go.Proofs.Ytknikcpeacmpmaa
