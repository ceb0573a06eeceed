/- Kf: texts joined (PvB PvK). -/
import Derived.Test.YtejbglbiefpagaaKd
set_option linter.all false
/- The logic of plain data: sets as bits. Seat-independent. -/
namespace Go.Pv
open Go Go.RowKit Go.Sh
variable {P : Program}
theorem wrap_nat {n : Nat} (h : n < 2 ^ 63) : IntKind.i64.wrap (n : Int) = n := wrap_id (by omega) (by omega)
theorem ofInt_nat {n : Nat} (h : n < 2 ^ 63) : (BitVec.ofInt 64 (n : Int)).toNat = n := by
  rw [BitVec.toNat_ofInt]; omega
theorem and_lt {a b : Nat} (h : a < 2 ^ 63) : a &&& b < 2 ^ 63 := Nat.lt_of_le_of_lt Nat.and_le_left h
theorem bin_and_nat (T : TypeId) (x y : Operand) {a b : Nat} (ha : a < 2 ^ 63) (hb : b < 2 ^ 63) : binA P .and T x y (.int .i64 (a : Int)) (.int .i64 (b : Int)) = some (.int .i64 ((a &&& b : Nat) : Int)) := by
  rw [bin_and]
  have : (BitVec.ofInt IntKind.i64.bits (a : Int) &&& BitVec.ofInt IntKind.i64.bits (b : Int)).toNat = a &&& b := by
    show (BitVec.ofInt 64 (a : Int) &&& BitVec.ofInt 64 (b : Int)).toNat = a &&& b
    rw [BitVec.toNat_and, ofInt_nat ha, ofInt_nat hb]
  rw [this, wrap_nat (and_lt ha)]
theorem bin_and_one (T : TypeId) (x y : Operand) {a : Nat} (ha : a < 2 ^ 63) : binA P .and T x y (.int .i64 (a : Int)) (.int .i64 1) = some (.int .i64 ((a % 2 : Nat) : Int)) := by
  have := bin_and_nat (P := P) T x y (a := a) (b := 1) ha (by decide)
  rw [Nat.and_one_is_mod] at this
  exact this
theorem bin_shr_nat (k' : IntKind) (T : TypeId) (x y : Operand) {a n : Nat} (ha : a < 2 ^ 63) (hn : n < 64) : binA P .shr T x y (.int .i64 (a : Int)) (.int k' (n : Int)) = some (.int .i64 ((a >>> n : Nat) : Int)) := by
  rw [bin_shr _ _ _ _ _ _ _ (by omega)]
  have e : min (Int.toNat (n : Int)) IntKind.i64.bits = n := by
    show min (Int.toNat (n : Int)) 64 = n
    rw [Int.toNat_natCast]; omega
  have e2 : (a : Int).fdiv (2 ^ n) = ((a >>> n : Nat) : Int) := by
    rw [Nat.shiftRight_eq_div_pow, Int.fdiv_eq_ediv_of_nonneg _ (by exact_mod_cast Nat.zero_le (2 ^ n))]
    norm_cast
  rw [e, e2]
theorem bin_shl_one (k' : IntKind) (T : TypeId) (x y : Operand) {n : Nat} (hn : n < 62) : binA P .shl T x y (.int .i64 1) (.int k' (n : Int)) = some (.int .i64 ((2 ^ n : Nat) : Int)) := by
  rw [bin_shl _ _ _ _ _ _ _ (by omega)]
  have e : min (Int.toNat (n : Int)) IntKind.i64.bits = n := by
    show min (Int.toNat (n : Int)) 64 = n
    rw [Int.toNat_natCast]; omega
  have e2 : (1 : Int) * 2 ^ n = ((2 ^ n : Nat) : Int) := by rw [Int.one_mul]; norm_cast
  rw [e, e2, wrap_nat]
  exact Nat.pow_lt_pow_right (by decide) (by omega)
/-- A set without another one. -/
def diffN (a b : Nat) : Nat := a ^^^ (a &&& b)
theorem diffN_testBit (a b i : Nat) : (diffN a b).testBit i = (a.testBit i && !b.testBit i) := by
  unfold diffN
  rw [Nat.testBit_xor, Nat.testBit_and]
  cases a.testBit i <;> cases b.testBit i <;> rfl
theorem diffN_le (a b : Nat) : diffN a b ≤ a := by
  have h : diffN a b = a &&& diffN a b := by
    apply Nat.eq_of_testBit_eq
    intro i
    rw [Nat.testBit_and, diffN_testBit]
    cases a.testBit i <;> rfl
  rw [h]; exact Nat.and_le_left
theorem bin_andNot_nat (T : TypeId) (x y : Operand) {a b : Nat} (ha : a < 2 ^ 63) (hb : b < 2 ^ 63) : binA P .andNot T x y (.int .i64 (a : Int)) (.int .i64 (b : Int)) = some (.int .i64 ((diffN a b : Nat) : Int)) := by
  rw [bin_andNot]
  have : (BitVec.ofInt IntKind.i64.bits (a : Int) &&& ~~~ BitVec.ofInt IntKind.i64.bits (b : Int)).toNat = diffN a b := by
    show (BitVec.ofInt 64 (a : Int) &&& ~~~ BitVec.ofInt 64 (b : Int)).toNat = diffN a b
    apply Nat.eq_of_testBit_eq
    intro i
    rw [diffN_testBit, ← BitVec.getLsbD, BitVec.getLsbD_and, BitVec.getLsbD_not]
    have e1 : (BitVec.ofInt 64 (a : Int)).getLsbD i = a.testBit i := by rw [BitVec.getLsbD, ofInt_nat ha]
    have e2 : (BitVec.ofInt 64 (b : Int)).getLsbD i = b.testBit i := by rw [BitVec.getLsbD, ofInt_nat hb]
    rw [e1, e2]
    by_cases hi : i < 64
    · simp [hi]
    · have : a.testBit i = false := Nat.testBit_lt_two_pow (Nat.lt_of_lt_of_le ha (Nat.pow_le_pow_right (by decide) (by omega)))
      simp [this]
  rw [this, wrap_nat (Nat.lt_of_le_of_lt (diffN_le a b) ha)]
theorem bit_is (a n : Nat) : (((a >>> n % 2 : Nat) : Int) == 1) = a.testBit n := by
  rw [Nat.testBit_eq_decide_div_mod_eq, Nat.shiftRight_eq_div_pow, Bool.eq_iff_iff]
  simp only [beq_iff_eq, decide_eq_true_eq]
  generalize a / 2 ^ n % 2 = z
  omega
end Go.Pv
/- The logic of plain data: sets as bits of an unsigned word. Seat-independent. -/
namespace Go.Pv
open Go Go.RowKit Go.Sh
variable {P : Program}
theorem wrapu_nat {n : Nat} (h : n < 2 ^ 64) : IntKind.u64.wrap (n : Int) = n := wrap_u64 (by omega) (by omega)
theorem ofInt_natu {n : Nat} (h : n < 2 ^ 64) : (BitVec.ofInt 64 (n : Int)).toNat = n := by
  rw [BitVec.toNat_ofInt]; omega
theorem andu_lt {a b : Nat} (h : a < 2 ^ 64) : a &&& b < 2 ^ 64 := Nat.lt_of_le_of_lt Nat.and_le_left h
theorem binu_and (T : TypeId) (x y : Operand) {a b : Nat} (ha : a < 2 ^ 64) (hb : b < 2 ^ 64) : binA P .and T x y (.int .u64 (a : Int)) (.int .u64 (b : Int)) = some (.int .u64 ((a &&& b : Nat) : Int)) := by
  rw [bin_and]
  have : (BitVec.ofInt IntKind.u64.bits (a : Int) &&& BitVec.ofInt IntKind.u64.bits (b : Int)).toNat = a &&& b := by
    show (BitVec.ofInt 64 (a : Int) &&& BitVec.ofInt 64 (b : Int)).toNat = a &&& b
    rw [BitVec.toNat_and, ofInt_natu ha, ofInt_natu hb]
  rw [this, wrapu_nat (andu_lt ha)]
theorem binu_or (T : TypeId) (x y : Operand) {a b : Nat} (ha : a < 2 ^ 64) (hb : b < 2 ^ 64) : binA P .or T x y (.int .u64 (a : Int)) (.int .u64 (b : Int)) = some (.int .u64 ((a ||| b : Nat) : Int)) := by
  rw [bin_or]
  have : (BitVec.ofInt IntKind.u64.bits (a : Int) ||| BitVec.ofInt IntKind.u64.bits (b : Int)).toNat = a ||| b := by
    show (BitVec.ofInt 64 (a : Int) ||| BitVec.ofInt 64 (b : Int)).toNat = a ||| b
    rw [BitVec.toNat_or, ofInt_natu ha, ofInt_natu hb]
  rw [this, wrapu_nat (Nat.or_lt_two_pow ha hb)]
theorem binu_and_one (T : TypeId) (x y : Operand) {a : Nat} (ha : a < 2 ^ 64) : binA P .and T x y (.int .u64 (a : Int)) (.int .u64 1) = some (.int .u64 ((a % 2 : Nat) : Int)) := by
  have := binu_and (P := P) T x y (a := a) (b := 1) ha (by decide)
  rw [Nat.and_one_is_mod] at this
  exact this
theorem binu_shr (k' : IntKind) (T : TypeId) (x y : Operand) {a n : Nat} (hn : n < 64) : binA P .shr T x y (.int .u64 (a : Int)) (.int k' (n : Int)) = some (.int .u64 ((a >>> n : Nat) : Int)) := by
  rw [bin_shr _ _ _ _ _ _ _ (by omega)]
  have e : min (Int.toNat (n : Int)) IntKind.u64.bits = n := by
    show min (Int.toNat (n : Int)) 64 = n
    rw [Int.toNat_natCast]; omega
  have e2 : (a : Int).fdiv (2 ^ n) = ((a >>> n : Nat) : Int) := by
    rw [Nat.shiftRight_eq_div_pow, Int.fdiv_eq_ediv_of_nonneg _ (by exact_mod_cast Nat.zero_le (2 ^ n))]
    norm_cast
  rw [e, e2]
theorem binu_shl_one (k' : IntKind) (T : TypeId) (x y : Operand) {n : Nat} (hn : n < 64) : binA P .shl T x y (.int .u64 1) (.int k' (n : Int)) = some (.int .u64 ((2 ^ n : Nat) : Int)) := by
  rw [bin_shl _ _ _ _ _ _ _ (by omega)]
  have e : min (Int.toNat (n : Int)) IntKind.u64.bits = n := by
    show min (Int.toNat (n : Int)) 64 = n
    rw [Int.toNat_natCast]; omega
  have e2 : (1 : Int) * 2 ^ n = ((2 ^ n : Nat) : Int) := by rw [Int.one_mul]; norm_cast
  rw [e, e2, wrapu_nat]
  exact Nat.pow_lt_pow_right (by decide) (by omega)
theorem binu_andNot (T : TypeId) (x y : Operand) {a b : Nat} (ha : a < 2 ^ 64) (hb : b < 2 ^ 64) : binA P .andNot T x y (.int .u64 (a : Int)) (.int .u64 (b : Int)) = some (.int .u64 ((diffN a b : Nat) : Int)) := by
  rw [bin_andNot]
  have : (BitVec.ofInt IntKind.u64.bits (a : Int) &&& ~~~ BitVec.ofInt IntKind.u64.bits (b : Int)).toNat = diffN a b := by
    show (BitVec.ofInt 64 (a : Int) &&& ~~~ BitVec.ofInt 64 (b : Int)).toNat = diffN a b
    apply Nat.eq_of_testBit_eq
    intro i
    rw [diffN_testBit, ← BitVec.getLsbD, BitVec.getLsbD_and, BitVec.getLsbD_not]
    have e1 : (BitVec.ofInt 64 (a : Int)).getLsbD i = a.testBit i := by rw [BitVec.getLsbD, ofInt_natu ha]
    have e2 : (BitVec.ofInt 64 (b : Int)).getLsbD i = b.testBit i := by rw [BitVec.getLsbD, ofInt_natu hb]
    rw [e1, e2]
    by_cases hi : i < 64
    · simp [hi]
    · have : a.testBit i = false := Nat.testBit_lt_two_pow (Nat.lt_of_lt_of_le ha (Nat.pow_le_pow_right (by decide) (by omega)))
      simp [this]
  rw [this, wrapu_nat (Nat.lt_of_le_of_lt (diffN_le a b) ha)]
/-- A bit that is there, or is not. -/
theorem bit_t {a n : Nat} (h : a.testBit n = true) : a >>> n % 2 = 1 := by
  rw [Nat.testBit_eq_decide_div_mod_eq, decide_eq_true_eq] at h
  rw [Nat.shiftRight_eq_div_pow]; exact h
theorem bit_f {a n : Nat} (h : a.testBit n = false) : a >>> n % 2 = 0 := by
  rw [Nat.testBit_eq_decide_div_mod_eq, decide_eq_false_iff_not] at h
  rw [Nat.shiftRight_eq_div_pow]; omega
end Go.Pv
