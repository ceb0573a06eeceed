/- The specification's small functions. -/
import Derived.Test.YtojbkpnkcpcioaaStN2
set_option linter.all false
namespace Go.Proofs.Ytojbkpnkcpcioaa
open Go.RowKit Go.Sh Go.Sh.Stand Go.Shelf

set_option maxHeartbeats 400000 in
theorem in_any (a b c : Int) (w : World) :
    Calls Try.prog 76 #[.int .i64 a, .int .i64 b, .int .i64 c] w fun e w' => e = .returned (.bool (inB a b c)) ∧ w = w' := by
  go_enter Try.func76, Try.ntmps76
  go_wp2
  all_goals (go_ret; exact ⟨retB (by simp [inB]; omega), rfl⟩)

set_option maxHeartbeats 400000 in
theorem span_any (lo hi b c : Int) (w : World) :
    Calls Try.prog 75 #[.agg #[.int .i64 lo, .int .i64 hi], .int .i64 b, .int .i64 c] w fun e w' => e = .returned (.bool (spanB lo hi b c)) ∧ Below w.heap.size w w' := by
  go_enter Try.func75, Try.ntmps75
  go_wp2
  all_goals (go_ret; exact ⟨retB (by simp [spanB]; omega), box_below _ _⟩)

set_option maxHeartbeats 400000 in
theorem kindR_any (a : Int) (w : World) : Calls Try.prog 56 #[.int .i64 a] w fun e w' => e = .returned (.bool (inB a 0 2)) ∧ w = w' := by
  go_enter Try.func56, Try.ntmps56
  go_wp2_with (go_at_call 76; refine (in_any _ _ _ _).mono ?_; rintro e w' ⟨rfl, rfl⟩)
  go_ret
  exact ⟨rfl, rfl⟩
set_option maxHeartbeats 400000 in
theorem minuteR_any (a : Int) (w : World) : Calls Try.prog 50 #[.int .i64 a] w fun e w' => e = .returned (.bool (inB a 0 999)) ∧ w = w' := by
  go_enter Try.func50, Try.ntmps50
  go_wp2_with (go_at_call 76; refine (in_any _ _ _ _).mono ?_; rintro e w' ⟨rfl, rfl⟩)
  go_ret
  exact ⟨rfl, rfl⟩
set_option maxHeartbeats 400000 in
theorem sheepR_any (c0 c1 c2 c3 c4 c5 rv lv : Value) (ao : Option Addr) (n cap : Nat) (k : Int) (w : World) (hn : n ≤ 9223372036854775807) :
    Calls Try.prog 46 #[.agg #[c0, c1, c2, c3, c4, c5, rv, .slice ao n cap, lv], .int .i64 k] w fun e w' => e = .returned (.bool (inB k 0 (n - 1))) ∧ Below w.heap.size w w' := by
  go_enter Try.func46, Try.ntmps46
  go_wp2_with (go_at_call 76; refine (in_any _ _ _ _).mono ?_; rintro e w' ⟨rfl, rfl⟩)
  go_ret
  exact ⟨rfl, box_below _ _⟩
set_option maxHeartbeats 400000 in
theorem runR_any (c0 c1 c2 c3 c4 c5 sv lv : Value) (ao : Option Addr) (n cap : Nat) (k : Int) (w : World) (hn : n ≤ 9223372036854775807) :
    Calls Try.prog 59 #[.agg #[c0, c1, c2, c3, c4, c5, .slice ao n cap, sv, lv], .int .i64 k] w fun e w' => e = .returned (.bool (inB k 0 (n - 1))) ∧ Below w.heap.size w w' := by
  go_enter Try.func59, Try.ntmps59
  go_wp2_with (go_at_call 76; refine (in_any _ _ _ _).mono ?_; rintro e w' ⟨rfl, rfl⟩)
  go_ret
  exact ⟨rfl, box_below _ _⟩

set_option maxHeartbeats 400000 in
theorem power_any (n : Nat) (w : World) (hn : n ≤ 60) : Calls Try.prog 91 #[.int .i64 n] w fun e w' => e = .returned (.int .i64 ((2 ^ n : Nat) : Int)) ∧ w = w' := by
  go_enter Try.func91, Try.ntmps91
  go_wp2
  go_loopw [3, 4] (fun o i wr => ∃ k : Nat, k ≤ n ∧ i = .int .i64 k ∧ o = .int .i64 ((2 ^ k : Nat) : Int) ∧ w = wr) (fun _ i _ => n - (intOf i).toNat)
  case atStart => exact ⟨0, by omega, rfl, rfl, rfl⟩
  case round =>
    obtain ⟨k, hk, rfl, rfl, rfl⟩ := hrel
    have hp : (2 ^ k : Nat) ≤ 2 ^ 60 := Nat.pow_le_pow_right (by decide) (by omega)
    obtain ⟨q, hq⟩ : ∃ q, (2 ^ k : Nat) = q := ⟨_, rfl⟩
    have hs : (2 ^ (k + 1) : Nat) = 2 * q := by rw [Nat.pow_succ, hq, Nat.mul_comm]
    have HSQ := Lib.hid hs
    have HQ := Lib.hid hq
    rw [hq] at hp ⊢
    clear hs hq
    by_cases hlt : k < n
    · have cl : ((k : Nat) : Int) < ((n : Nat) : Int) := by omega
      go_wp2
      go_roundw
      case rel => exact ⟨k + 1, by omega, by go_num, by rw [HSQ.out]; go_num, trivial⟩
      case measure => simp [intOf]; omega
    · have cl : ¬ ((k : Nat) : Int) < ((n : Nat) : Int) := by omega
      go_wp2
      go_ret
      have hkn : k = n := by omega
      subst hkn
      exact ⟨retI (by rw [← HQ.out]; simp), rfl⟩
end Go.Proofs.Ytojbkpnkcpcioaa
