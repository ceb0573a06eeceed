/- tally: bits, counted. -/
import Derived.Test.YtejbglbiefpagaaTvC
import Derived.Test.YtejbglbiefpagaaTvM
import Derived.Test.YtejbglbiefpagaaKf
set_option linter.all false
namespace Go.Proofs.Ytejbglbiefpagaa
open Go Go.RowKit Go.Sh Go.Pv
set_option maxHeartbeats 4000000
set_option maxRecDepth 8000
attribute [local go_sem] uP
theorem conv130_3 (a : Nat) (h : a < 2 ^ 63) : convA Try.prog 130 3 (.int .u64 (a : Int)) = some (.int .i64 (a : Int)) := by
  rw [conv_int (Try.underlying130) (Try.underlying3)]
  rw [wrap_nat h]
theorem conv104_3 (a : Nat) (h : a < 2 ^ 63) : convA Try.prog 104 3 (.int .u64 (a : Int)) = some (.int .i64 (a : Int)) := by
  rw [conv_int (Try.underlying104) (Try.underlying3)]
  rw [wrap_nat h]
theorem conv3_104 (a : Nat) (h : a < 2 ^ 63) : convA Try.prog 3 104 (.int .i64 (a : Int)) = some (.int .u64 (a : Int)) := by
  rw [conv_int (Try.underlying3) (Try.underlying104)]
  rw [wrapu_nat (by omega)]
theorem nadd (a b : Nat) : (a : Int) + (b : Int) = ((a + b : Nat) : Int) := rfl
theorem binu_add {P : Program} (T : TypeId) (x y : Operand) {a b : Nat} (h : a + b < 2 ^ 64) : binA P .add T x y (.int .u64 (a : Int)) (.int .u64 (b : Int)) = some (.int .u64 ((a + b : Nat) : Int)) := by
  rw [bin_add]
  rw [nadd, wrapu_nat h]
def y1 (x : Nat) : Nat := (x >>> 1 &&& 6148914691236517205) + (x &&& 6148914691236517205)
def y2 (x : Nat) : Nat := (y1 x >>> 2 &&& 3689348814741910323) + (y1 x &&& 3689348814741910323)
def y4 (x : Nat) : Nat := y2 x >>> 4 + y2 x &&& 1085102592571150095
def y8 (x : Nat) : Nat := y4 x + y4 x >>> 8
def y16 (x : Nat) : Nat := y8 x + y8 x >>> 16
def y32 (x : Nat) : Nat := y16 x + y16 x >>> 32
theorem y_all : ∀ x, x < 256 → ((x >>> 1 &&& 6148914691236517205) ≤ 255 ∧ (x &&& 6148914691236517205) ≤ 255 ∧ y1 x ≤ 255) ∧ ((y1 x >>> 2 &&& 3689348814741910323) ≤ 255 ∧ (y1 x &&& 3689348814741910323) ≤ 255 ∧ y2 x ≤ 255) ∧ (y2 x >>> 4 ≤ 255 ∧ y4 x ≤ 255) ∧ (y4 x >>> 8 ≤ 255 ∧ y8 x ≤ 255) ∧ (y8 x >>> 16 ≤ 255 ∧ y16 x ≤ 255) ∧ (y16 x >>> 32 ≤ 255 ∧ y32 x ≤ 255) ∧ y32 x &&& 127 = popc x ∧ popc x ≤ 8 := by
  decide +kernel
theorem shr_1 {P : Program} (T : TypeId) (x y : Operand) (a : Nat) : binA P .shr T x y (.int .u64 (a : Int)) (.int .u64 1) = some (.int .u64 ((a >>> 1 : Nat) : Int)) := binu_shr .u64 T x y (a := a) (n := 1) (by decide)
theorem shr_2 {P : Program} (T : TypeId) (x y : Operand) (a : Nat) : binA P .shr T x y (.int .u64 (a : Int)) (.int .u64 2) = some (.int .u64 ((a >>> 2 : Nat) : Int)) := binu_shr .u64 T x y (a := a) (n := 2) (by decide)
theorem shr_4 {P : Program} (T : TypeId) (x y : Operand) (a : Nat) : binA P .shr T x y (.int .u64 (a : Int)) (.int .u64 4) = some (.int .u64 ((a >>> 4 : Nat) : Int)) := binu_shr .u64 T x y (a := a) (n := 4) (by decide)
theorem shr_8 {P : Program} (T : TypeId) (x y : Operand) (a : Nat) : binA P .shr T x y (.int .u64 (a : Int)) (.int .u64 8) = some (.int .u64 ((a >>> 8 : Nat) : Int)) := binu_shr .u64 T x y (a := a) (n := 8) (by decide)
theorem shr_16 {P : Program} (T : TypeId) (x y : Operand) (a : Nat) : binA P .shr T x y (.int .u64 (a : Int)) (.int .u64 16) = some (.int .u64 ((a >>> 16 : Nat) : Int)) := binu_shr .u64 T x y (a := a) (n := 16) (by decide)
theorem shr_32 {P : Program} (T : TypeId) (x y : Operand) (a : Nat) : binA P .shr T x y (.int .u64 (a : Int)) (.int .u64 32) = some (.int .u64 ((a >>> 32 : Nat) : Int)) := binu_shr .u64 T x y (a := a) (n := 32) (by decide)
theorem and_6148914691236517205 {P : Program} (T : TypeId) (x y : Operand) {a : Nat} (h : a < 2 ^ 64) : binA P .and T x y (.int .u64 (a : Int)) (.int .u64 6148914691236517205) = some (.int .u64 ((a &&& 6148914691236517205 : Nat) : Int)) := binu_and T x y (b := 6148914691236517205) h (by decide)
theorem and_3689348814741910323 {P : Program} (T : TypeId) (x y : Operand) {a : Nat} (h : a < 2 ^ 64) : binA P .and T x y (.int .u64 (a : Int)) (.int .u64 3689348814741910323) = some (.int .u64 ((a &&& 3689348814741910323 : Nat) : Int)) := binu_and T x y (b := 3689348814741910323) h (by decide)
theorem and_1085102592571150095 {P : Program} (T : TypeId) (x y : Operand) {a : Nat} (h : a < 2 ^ 64) : binA P .and T x y (.int .u64 (a : Int)) (.int .u64 1085102592571150095) = some (.int .u64 ((a &&& 1085102592571150095 : Nat) : Int)) := binu_and T x y (b := 1085102592571150095) h (by decide)
theorem and_127 {P : Program} (T : TypeId) (x y : Operand) {a : Nat} (h : a < 2 ^ 63) : binA P .and T x y (.int .i64 (a : Int)) (.int .i64 127) = some (.int .i64 ((a &&& 127 : Nat) : Int)) := bin_and_nat T x y (b := 127) h (by decide)
theorem ok_bits64 (x : Nat) (h : x < 256) : FunOK Try.prog 101 [.one (uP x)] (.one (.one (iP (popc x)))) := by
  obtain ⟨⟨a1, a2, a3⟩, ⟨b1, b2, b3⟩, ⟨c1, c2⟩, ⟨d1, d2⟩, ⟨e1, e2⟩, ⟨f1, f2⟩, g1, g2⟩ := y_all x h
  have h1 : x >>> 1 < 2 ^ 64 := Nat.lt_of_le_of_lt (Nat.shiftRight_le _ _) (by omega)
  have h2 : y1 x >>> 2 < 2 ^ 64 := Nat.lt_of_le_of_lt (Nat.shiftRight_le _ _) (by omega)
  have v0 : ∀ (T : TypeId) (x' y' : Operand), binA Try.prog .shr T x' y' (.int .u64 ((x : Nat) : Int)) (.int .u64 1) = some (.int .u64 ((x >>> 1 : Nat) : Int)) := fun T x' y' => shr_1 T x' y' _
  have v1 : ∀ (T : TypeId) (x' y' : Operand), binA Try.prog .and T x' y' (.int .u64 ((x >>> 1 : Nat) : Int)) (.int .u64 6148914691236517205) = some (.int .u64 ((x >>> 1 &&& 6148914691236517205 : Nat) : Int)) := fun T x' y' => and_6148914691236517205 T x' y' (by omega)
  have v2 : ∀ (T : TypeId) (x' y' : Operand), binA Try.prog .and T x' y' (.int .u64 ((x : Nat) : Int)) (.int .u64 6148914691236517205) = some (.int .u64 ((x &&& 6148914691236517205 : Nat) : Int)) := fun T x' y' => and_6148914691236517205 T x' y' (by omega)
  have v3 : ∀ (T : TypeId) (x' y' : Operand), binA Try.prog .add T x' y' (.int .u64 ((x >>> 1 &&& 6148914691236517205 : Nat) : Int)) (.int .u64 ((x &&& 6148914691236517205 : Nat) : Int)) = some (.int .u64 ((y1 x : Nat) : Int)) := fun T x' y' => binu_add T x' y' (by omega)
  have v4 : ∀ (T : TypeId) (x' y' : Operand), binA Try.prog .shr T x' y' (.int .u64 ((y1 x : Nat) : Int)) (.int .u64 2) = some (.int .u64 ((y1 x >>> 2 : Nat) : Int)) := fun T x' y' => shr_2 T x' y' _
  have v5 : ∀ (T : TypeId) (x' y' : Operand), binA Try.prog .and T x' y' (.int .u64 ((y1 x >>> 2 : Nat) : Int)) (.int .u64 3689348814741910323) = some (.int .u64 ((y1 x >>> 2 &&& 3689348814741910323 : Nat) : Int)) := fun T x' y' => and_3689348814741910323 T x' y' (by omega)
  have v6 : ∀ (T : TypeId) (x' y' : Operand), binA Try.prog .and T x' y' (.int .u64 ((y1 x : Nat) : Int)) (.int .u64 3689348814741910323) = some (.int .u64 ((y1 x &&& 3689348814741910323 : Nat) : Int)) := fun T x' y' => and_3689348814741910323 T x' y' (by omega)
  have v7 : ∀ (T : TypeId) (x' y' : Operand), binA Try.prog .add T x' y' (.int .u64 ((y1 x >>> 2 &&& 3689348814741910323 : Nat) : Int)) (.int .u64 ((y1 x &&& 3689348814741910323 : Nat) : Int)) = some (.int .u64 ((y2 x : Nat) : Int)) := fun T x' y' => binu_add T x' y' (by omega)
  have v8 : ∀ (T : TypeId) (x' y' : Operand), binA Try.prog .shr T x' y' (.int .u64 ((y2 x : Nat) : Int)) (.int .u64 4) = some (.int .u64 ((y2 x >>> 4 : Nat) : Int)) := fun T x' y' => shr_4 T x' y' _
  have v9 : ∀ (T : TypeId) (x' y' : Operand), binA Try.prog .add T x' y' (.int .u64 ((y2 x >>> 4 : Nat) : Int)) (.int .u64 ((y2 x : Nat) : Int)) = some (.int .u64 ((y2 x >>> 4 + y2 x : Nat) : Int)) := fun T x' y' => binu_add T x' y' (by omega)
  have v10 : ∀ (T : TypeId) (x' y' : Operand), binA Try.prog .and T x' y' (.int .u64 ((y2 x >>> 4 + y2 x : Nat) : Int)) (.int .u64 1085102592571150095) = some (.int .u64 ((y2 x >>> 4 + y2 x &&& 1085102592571150095 : Nat) : Int)) := fun T x' y' => and_1085102592571150095 T x' y' (by omega)
  have v11 : ∀ (T : TypeId) (x' y' : Operand), binA Try.prog .shr T x' y' (.int .u64 ((y4 x : Nat) : Int)) (.int .u64 8) = some (.int .u64 ((y4 x >>> 8 : Nat) : Int)) := fun T x' y' => shr_8 T x' y' _
  have v12 : ∀ (T : TypeId) (x' y' : Operand), binA Try.prog .add T x' y' (.int .u64 ((y4 x : Nat) : Int)) (.int .u64 ((y4 x >>> 8 : Nat) : Int)) = some (.int .u64 ((y8 x : Nat) : Int)) := fun T x' y' => binu_add T x' y' (by omega)
  have v13 : ∀ (T : TypeId) (x' y' : Operand), binA Try.prog .shr T x' y' (.int .u64 ((y8 x : Nat) : Int)) (.int .u64 16) = some (.int .u64 ((y8 x >>> 16 : Nat) : Int)) := fun T x' y' => shr_16 T x' y' _
  have v14 : ∀ (T : TypeId) (x' y' : Operand), binA Try.prog .add T x' y' (.int .u64 ((y8 x : Nat) : Int)) (.int .u64 ((y8 x >>> 16 : Nat) : Int)) = some (.int .u64 ((y16 x : Nat) : Int)) := fun T x' y' => binu_add T x' y' (by omega)
  have v15 : ∀ (T : TypeId) (x' y' : Operand), binA Try.prog .shr T x' y' (.int .u64 ((y16 x : Nat) : Int)) (.int .u64 32) = some (.int .u64 ((y16 x >>> 32 : Nat) : Int)) := fun T x' y' => shr_32 T x' y' _
  have v16 : ∀ (T : TypeId) (x' y' : Operand), binA Try.prog .add T x' y' (.int .u64 ((y16 x : Nat) : Int)) (.int .u64 ((y16 x >>> 32 : Nat) : Int)) = some (.int .u64 ((y32 x : Nat) : Int)) := fun T x' y' => binu_add T x' y' (by omega)
  have w1 : convA Try.prog 130 3 (.int .u64 ((y32 x : Nat) : Int)) = some (.int .i64 ((y32 x : Nat) : Int)) := conv130_3 _ (by omega)
  have w2 : ∀ (T : TypeId) (x' y' : Operand), binA Try.prog .and T x' y' (.int .i64 ((y32 x : Nat) : Int)) (.int .i64 127) = some (.int .i64 ((popc x : Nat) : Int)) := fun T x' y' => by rw [and_127 T x' y' (by omega), g1]
  clear h1 h2 a1 a2 a3 b1 b2 b3 c1 c2 d1 d2 e1 e2 f1 f2 g1 g2 h
  rw [show y2 x >>> 4 + y2 x &&& 1085102592571150095 = y4 x from rfl] at v10
  refine fun_ok (nt := 35) (rs := [.tmp 2]) Try.func101 rfl rfl rfl (by simp) fun Z w0 => ?_; simp only [initFr, avR, List.map_cons, List.map_nil]
  (repeat (first | apply aw_seq | apply aw_block | apply aw_skip | apply aw_label | apply aw_exit | ((first | refine aw_region (hideO fun QQ hQQ => ?_) | refine aw_draw mixed (hideD fun QQ hQQ => ?_)); simp (maxSteps := 400000) (disch := first | decide | omega) only [v0, v1, v2, v3, v4, v5, v6, v7, v8, v9, v10, v11, v12, v13, v14, v15, v16, w1, w2, go_sem, ↓reduceIte]; try (first | with_reducible refine unhide hQQ ?_ | refine ⟨by kernel_rfl, unhide hQQ ?_⟩); clear hQQ QQ) | with_reducible first | apply then_n | apply block_n | apply then_x | apply then_r | apply nog_n | apply nog_r | apply block_r | apply block_e (by decide) | apply block_x (by decide)))
  refine aw_ret ?_; refine ⟨.inr rfl, ?_⟩; simp only [resA, res1, go_sem, ↓reduceIte]
theorem ok_bits (x : Nat) (h : x < 256) : FunOK Try.prog 78 [.one (uP x)] (.one (.one (iP (popc x)))) := by
  have hb := ok_bits64 x h
  refine fun_ok (nt := 8) (rs := [.tmp 2]) Try.func78 rfl rfl rfl (by simp) fun Z w0 => ?_; simp only [initFr, avR, List.map_cons, List.map_nil]
  refine tw ?_; try with_reducible intro QQ hQQ
  refine ti ?_; try clear hQQ QQ
  refine tw ?_; try with_reducible intro QQ hQQ
  ((refine cO 101 rfl rfl rfl (hb) Try.func101 rfl ?_); refine tu ?_; try clear hQQ QQ); refine tw ?_; try with_reducible intro QQ hQQ
  refine aw_ret ?_; refine ⟨.inr rfl, ?_⟩; simp only [resA, res1, go_sem, ↓reduceIte]
theorem ok_cmp (x y : Nat) (hx : x < 256) (hy : y < 256) : FunOK Try.prog 103 [.one (uP x), .one (uP y)] (.one (.one (iP ((popc x : Int) - popc y)))) := by
  obtain ⟨_, _, _, _, _, _, _, g1⟩ := y_all x hx
  obtain ⟨_, _, _, _, _, _, _, g2⟩ := y_all y hy
  have h1 := ok_bits x hx
  have h2 := ok_bits y hy
  refine fun_ok (nt := 10) (rs := [.tmp 4]) Try.func103 rfl rfl rfl (by simp) fun Z w0 => ?_; simp only [initFr, avR, List.map_cons, List.map_nil]
  refine tw ?_; try with_reducible intro QQ hQQ
  (refine cO 78 rfl rfl rfl (h1) Try.func78 rfl ?_); refine ts ?_; try clear hQQ QQ
  ((refine cO 78 rfl rfl rfl (h2) Try.func78 rfl ?_); refine tu ?_; try clear hQQ QQ); refine tw ?_; try with_reducible intro QQ hQQ
  refine aw_ret ?_; refine ⟨.inr rfl, ?_⟩; simp only [resA, res1, go_sem, ↓reduceIte]
end Go.Proofs.Ytejbglbiefpagaa
