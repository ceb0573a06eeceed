/- tally, the document's functions: powers, sets, sums, what a call counts, what is right. -/
import Derived.Test.YtejbglbiefpagaaTzA
import Derived.Test.YtejbglbiefpagaaTxC
import Derived.Test.YtejbglbiefpagaaTxD
set_option linter.all false
namespace Go.Proofs.Ytejbglbiefpagaa
open Go Go.RowKit Go.Sh Go.Pv
set_option maxHeartbeats 8000000
set_option maxRecDepth 8000
set_option pp.maxSteps 60000
theorem pow_le40 {n : Nat} (h : n ≤ 40) : 2 ^ n ≤ 2 ^ 40 := Nat.pow_le_pow_right (by decide) h
theorem ok_power87 {n : Nat} (hn : n ≤ 40) : FunOK Try.prog 87 [.one (iP n)] (.one (.one (iP ((2 ^ n : Nat) : Int)))) := by
  refine fun_ok (nt := 13) (rs := [.tmp 2]) Try.func87 rfl rfl rfl (by simp) fun Z w0 => ?_; simp only [initFr, avR, List.map_cons, List.map_nil]
  refine tw ?_; try with_reducible intro QQ hQQ
  refine aw_weak (weak_keep [0, 3, 4] (by simp only [go_sem, ↓reduceIte]; rfl)) ?_
  refine aw_loop_ov (ι := { i : Nat // i ≤ n }) (fun i => [(4, iA i.1), (3, .one (.p (.v (.int .i64 ((2 ^ i.1 : Nat) : Int)))))]) (fun _ => []) (fun i => n - i.1) ⟨0, by omega⟩ (by first | rfl | (simp only [go_sem, ↓reduceIte]; first | done | rfl | (simp; try rfl))) ?_
  rintro ⟨i, hi⟩
  simp (disch := decide) only [ov, ovL, AL.get_nil, AL.get_eq, AL.get_ne, Option.getD_some, Option.getD_none]
  have hp := pow_le40 (n := i) (by omega)
  have e1 : 2 ^ (i + 1) = 2 * 2 ^ i := by rw [Nat.pow_succ]; omega
  by_cases hin : i < n
  · generalize hx : 2 ^ i = x at *
    refine tw ?_; try with_reducible intro QQ hQQ
    refine ti ?_; try clear hQQ QQ
    refine tw ?_; try with_reducible intro QQ hQQ
    refine ⟨⟨i + 1, by omega⟩, ?_, weak_round ?_ (by first | rfl | (simp only [go_sem, ↓reduceIte]))⟩
    rotate_left
    · simp only [e1]
      (simp only [go_sem, ↓reduceIte]; try rfl)
      try simp
    · simp only; omega
  · have : i = n := by omega
    subst this
    refine tw ?_; try with_reducible intro QQ hQQ
    refine ti ?_; try clear hQQ QQ
    refine tw ?_; try with_reducible intro QQ hQQ
    refine aw_ret ?_; refine ⟨.inr rfl, ?_⟩; simp only [resA, res1, go_sem, ↓reduceIte]
theorem div_pow_bit (s n : Nat) : (s / 2 ^ n) % 2 = (s.testBit n).toNat := by
  rw [← Nat.shiftRight_eq_div_pow, sh_bits]
theorem ok_Has86 {s n : Nat} (hs : s < 256) (hn : n ≤ 40) : FunOK Try.prog 86 [.one (iP s), .one (iP n)] (.one (.one (.v (.bool (s.testBit n))))) := by
  have hp := ok_power87 hn
  have h0 : 0 < 2 ^ n := Nat.two_pow_pos n
  have hq : ((s : Int).tdiv ((2 ^ n : Nat) : Int)) = ((s / 2 ^ n : Nat) : Int) := by rw [Int.tdiv_eq_ediv_of_nonneg (by omega)]; rfl
  have hb := div_pow_bit s n
  have hle : s / 2 ^ n ≤ s := Nat.div_le_self _ _
  generalize 2 ^ n = x at *
  generalize hy : s / x = y at *
  have hqq : ∀ (T : TypeId) (a b : Operand), binA Try.prog .quo T a b (.int .i64 (s : Int)) (.int .i64 (x : Int)) = some (.int .i64 (y : Int)) := fun T a b => by
    rw [bin_quo _ _ _ _ _ _ (by omega), hq, wrap_nat (by omega)]
  have hm : ((y : Int).tmod 2) = ((y % 2 : Nat) : Int) := by rw [Int.tmod_eq_emod_of_nonneg (by omega)]; rfl
  have hmm : ∀ (T : TypeId) (a b : Operand), binA Try.prog .rem T a b (.int .i64 (y : Int)) (.int .i64 2) = some (.int .i64 ((y % 2 : Nat) : Int)) := fun T a b => by rw [bin_rem _ _ _ _ _ _ (by decide), hm]
  refine fun_ok (nt := 11) (rs := [.tmp 4]) Try.func86 rfl rfl rfl (by simp) fun Z w0 => ?_; simp only [initFr, avR, List.map_cons, List.map_nil]
  (repeat (first | apply aw_seq | apply aw_block | apply aw_skip | apply aw_label | apply aw_exit | ((first | refine aw_region (hideO fun QQ hQQ => ?_) | refine aw_draw mixed (hideD fun QQ hQQ => ?_)); simp (maxSteps := 400000) (disch := first | decide | omega) only [hqq, hmm, go_sem, ↓reduceIte]; try (first | with_reducible refine unhide hQQ ?_ | refine ⟨by kernel_rfl, unhide hQQ ?_⟩); clear hQQ QQ) | with_reducible first | apply then_n | apply block_n | apply then_x | apply then_r | apply nog_n | apply nog_r | apply block_r | apply block_e (by decide) | apply block_x (by decide)))
  ((refine callO_ok rfl rfl 87 true rfl (by simp (disch := first | decide | omega) only [hqq, hmm, go_sem, ↓reduceIte]; try rfl) (fun _ => rfl) (hp) Try.func87 rfl (by decide) ?_); simp (maxSteps := 400000) (disch := first | decide | omega) only [hqq, hmm, go_sem, ↓reduceIte]; try (with_reducible refine unhide hQQ ?_; clear hQQ QQ)); (repeat (first | apply aw_seq | apply aw_block | apply aw_skip | apply aw_label | apply aw_exit | ((first | refine aw_region (hideO fun QQ hQQ => ?_) | refine aw_draw mixed (hideD fun QQ hQQ => ?_)); simp (maxSteps := 400000) (disch := first | decide | omega) only [hqq, hmm, go_sem, ↓reduceIte]; try (first | with_reducible refine unhide hQQ ?_ | refine ⟨by kernel_rfl, unhide hQQ ?_⟩); clear hQQ QQ) | with_reducible first | apply then_n | apply block_n | apply then_x | apply then_r | apply nog_n | apply nog_r | apply block_r | apply block_e (by decide) | apply block_x (by decide)))
  refine aw_ret ?_; refine ⟨.inr rfl, ?_⟩; simp only [resA, res1, go_sem, ↓reduceIte]
  rw [hb]
  cases s.testBit n <;> rfl
end Go.Proofs.Ytejbglbiefpagaa
