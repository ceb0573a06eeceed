/- Kwb15: texts joined (WbN WbO). -/
import Derived.Test.YtgdhdikeicgndaaKwa6
import Derived.Test.YtgdhdikeicgndaaCvM
import Derived.Test.YtgdhdikeicgndaaKpv3
import Derived.Test.YtgdhdikeicgndaaKpv12
set_option linter.all false
/- classer: bits, counted. -/
namespace Go.Proofs.Ytgdhdikeicgndaa
open Go Go.RowKit Go.Sh Go.Pv
set_option maxHeartbeats 4000000
set_option maxRecDepth 8000
theorem conv125_3 (a : Nat) (h : a < 2 ^ 63) : convA Try.prog 125 3 (.int .u64 (a : Int)) = some (.int .i64 (a : Int)) := by
  rw [conv_int (Try.underlying125) (Try.underlying3)]
  rw [wrap_nat h]
theorem conv71_3 (a : Nat) (h : a < 2 ^ 63) : convA Try.prog 71 3 (.int .u64 (a : Int)) = some (.int .i64 (a : Int)) := by
  rw [conv_int (Try.underlying71) (Try.underlying3)]
  rw [wrap_nat h]
theorem conv3_71 (a : Nat) (h : a < 2 ^ 63) : convA Try.prog 3 71 (.int .i64 (a : Int)) = some (.int .u64 (a : Int)) := by
  rw [conv_int (Try.underlying3) (Try.underlying71)]
  rw [wrapu_nat (by omega)]
theorem nadd (a b : Nat) : (a : Int) + (b : Int) = ((a + b : Nat) : Int) := rfl
theorem binu_add {P : Program} (T : TypeId) (x y : Operand) {a b : Nat} (h : a + b < 2 ^ 64) : binA P .add T x y (.int .u64 (a : Int)) (.int .u64 (b : Int)) = some (.int .u64 ((a + b : Nat) : Int)) := by
  rw [bin_add]
  rw [nadd, wrapu_nat h]
def y1 (x : Nat) : Nat := (x >>> 1 &&& 6148914691236517205) + (x &&& 6148914691236517205)
def y2 (x : Nat) : Nat := (y1 x >>> 2 &&& 3689348814741910323) + (y1 x &&& 3689348814741910323)
def y4 (x : Nat) : Nat := y2 x >>> 4 + y2 x &&& 1085102592571150095
def y8 (x : Nat) : Nat := y4 x + y4 x >>> 8
def y16 (x : Nat) : Nat := y8 x + y8 x >>> 16
def y32 (x : Nat) : Nat := y16 x + y16 x >>> 32
theorem y_all : ∀ x, x < 256 → ((x >>> 1 &&& 6148914691236517205) ≤ 255 ∧ (x &&& 6148914691236517205) ≤ 255 ∧ y1 x ≤ 255) ∧ ((y1 x >>> 2 &&& 3689348814741910323) ≤ 255 ∧ (y1 x &&& 3689348814741910323) ≤ 255 ∧ y2 x ≤ 255) ∧ (y2 x >>> 4 ≤ 255 ∧ y4 x ≤ 255) ∧ (y4 x >>> 8 ≤ 255 ∧ y8 x ≤ 255) ∧ (y8 x >>> 16 ≤ 255 ∧ y16 x ≤ 255) ∧ (y16 x >>> 32 ≤ 255 ∧ y32 x ≤ 255) ∧ y32 x &&& 127 = popc x ∧ popc x ≤ 8 := by
  decide +kernel
theorem shr_1 {P : Program} (T : TypeId) (x y : Operand) (a : Nat) : binA P .shr T x y (.int .u64 (a : Int)) (.int .u64 1) = some (.int .u64 ((a >>> 1 : Nat) : Int)) := binu_shr .u64 T x y (a := a) (n := 1) (by decide)
theorem shr_2 {P : Program} (T : TypeId) (x y : Operand) (a : Nat) : binA P .shr T x y (.int .u64 (a : Int)) (.int .u64 2) = some (.int .u64 ((a >>> 2 : Nat) : Int)) := binu_shr .u64 T x y (a := a) (n := 2) (by decide)
theorem shr_4 {P : Program} (T : TypeId) (x y : Operand) (a : Nat) : binA P .shr T x y (.int .u64 (a : Int)) (.int .u64 4) = some (.int .u64 ((a >>> 4 : Nat) : Int)) := binu_shr .u64 T x y (a := a) (n := 4) (by decide)
theorem shr_8 {P : Program} (T : TypeId) (x y : Operand) (a : Nat) : binA P .shr T x y (.int .u64 (a : Int)) (.int .u64 8) = some (.int .u64 ((a >>> 8 : Nat) : Int)) := binu_shr .u64 T x y (a := a) (n := 8) (by decide)
theorem shr_16 {P : Program} (T : TypeId) (x y : Operand) (a : Nat) : binA P .shr T x y (.int .u64 (a : Int)) (.int .u64 16) = some (.int .u64 ((a >>> 16 : Nat) : Int)) := binu_shr .u64 T x y (a := a) (n := 16) (by decide)
theorem shr_32 {P : Program} (T : TypeId) (x y : Operand) (a : Nat) : binA P .shr T x y (.int .u64 (a : Int)) (.int .u64 32) = some (.int .u64 ((a >>> 32 : Nat) : Int)) := binu_shr .u64 T x y (a := a) (n := 32) (by decide)
theorem and_6148914691236517205 {P : Program} (T : TypeId) (x y : Operand) {a : Nat} (h : a < 2 ^ 64) : binA P .and T x y (.int .u64 (a : Int)) (.int .u64 6148914691236517205) = some (.int .u64 ((a &&& 6148914691236517205 : Nat) : Int)) := binu_and T x y (b := 6148914691236517205) h (by decide)
theorem and_3689348814741910323 {P : Program} (T : TypeId) (x y : Operand) {a : Nat} (h : a < 2 ^ 64) : binA P .and T x y (.int .u64 (a : Int)) (.int .u64 3689348814741910323) = some (.int .u64 ((a &&& 3689348814741910323 : Nat) : Int)) := binu_and T x y (b := 3689348814741910323) h (by decide)
theorem and_1085102592571150095 {P : Program} (T : TypeId) (x y : Operand) {a : Nat} (h : a < 2 ^ 64) : binA P .and T x y (.int .u64 (a : Int)) (.int .u64 1085102592571150095) = some (.int .u64 ((a &&& 1085102592571150095 : Nat) : Int)) := binu_and T x y (b := 1085102592571150095) h (by decide)
theorem and_127 {P : Program} (T : TypeId) (x y : Operand) {a : Nat} (h : a < 2 ^ 63) : binA P .and T x y (.int .i64 (a : Int)) (.int .i64 127) = some (.int .i64 ((a &&& 127 : Nat) : Int)) := bin_and_nat T x y (b := 127) h (by decide)
theorem ok_bits64 (x : Nat) (h : x < 256) : FunOK Try.prog 92 [.one (uP x)] (.one (.one (iP (popc x)))) := by
  obtain ⟨⟨a1, a2, a3⟩, ⟨b1, b2, b3⟩, ⟨c1, c2⟩, ⟨d1, d2⟩, ⟨e1, e2⟩, ⟨f1, f2⟩, g1, g2⟩ := y_all x h
  have h1 : x >>> 1 < 2 ^ 64 := Nat.lt_of_le_of_lt (Nat.shiftRight_le _ _) (by omega)
  have h2 : y1 x >>> 2 < 2 ^ 64 := Nat.lt_of_le_of_lt (Nat.shiftRight_le _ _) (by omega)
  have v0 : ∀ (T : TypeId) (x' y' : Operand), binA Try.prog .shr T x' y' (.int .u64 ((x : Nat) : Int)) (.int .u64 1) = some (.int .u64 ((x >>> 1 : Nat) : Int)) := fun T x' y' => shr_1 T x' y' _
  have v1 : ∀ (T : TypeId) (x' y' : Operand), binA Try.prog .and T x' y' (.int .u64 ((x >>> 1 : Nat) : Int)) (.int .u64 6148914691236517205) = some (.int .u64 ((x >>> 1 &&& 6148914691236517205 : Nat) : Int)) := fun T x' y' => and_6148914691236517205 T x' y' (by omega)
  have v2 : ∀ (T : TypeId) (x' y' : Operand), binA Try.prog .and T x' y' (.int .u64 ((x : Nat) : Int)) (.int .u64 6148914691236517205) = some (.int .u64 ((x &&& 6148914691236517205 : Nat) : Int)) := fun T x' y' => and_6148914691236517205 T x' y' (by omega)
  have v3 : ∀ (T : TypeId) (x' y' : Operand), binA Try.prog .add T x' y' (.int .u64 ((x >>> 1 &&& 6148914691236517205 : Nat) : Int)) (.int .u64 ((x &&& 6148914691236517205 : Nat) : Int)) = some (.int .u64 ((y1 x : Nat) : Int)) := fun T x' y' => binu_add T x' y' (by omega)
  have v4 : ∀ (T : TypeId) (x' y' : Operand), binA Try.prog .shr T x' y' (.int .u64 ((y1 x : Nat) : Int)) (.int .u64 2) = some (.int .u64 ((y1 x >>> 2 : Nat) : Int)) := fun T x' y' => shr_2 T x' y' _
  have v5 : ∀ (T : TypeId) (x' y' : Operand), binA Try.prog .and T x' y' (.int .u64 ((y1 x >>> 2 : Nat) : Int)) (.int .u64 3689348814741910323) = some (.int .u64 ((y1 x >>> 2 &&& 3689348814741910323 : Nat) : Int)) := fun T x' y' => and_3689348814741910323 T x' y' (by omega)
  have v6 : ∀ (T : TypeId) (x' y' : Operand), binA Try.prog .and T x' y' (.int .u64 ((y1 x : Nat) : Int)) (.int .u64 3689348814741910323) = some (.int .u64 ((y1 x &&& 3689348814741910323 : Nat) : Int)) := fun T x' y' => and_3689348814741910323 T x' y' (by omega)
  have v7 : ∀ (T : TypeId) (x' y' : Operand), binA Try.prog .add T x' y' (.int .u64 ((y1 x >>> 2 &&& 3689348814741910323 : Nat) : Int)) (.int .u64 ((y1 x &&& 3689348814741910323 : Nat) : Int)) = some (.int .u64 ((y2 x : Nat) : Int)) := fun T x' y' => binu_add T x' y' (by omega)
  have v8 : ∀ (T : TypeId) (x' y' : Operand), binA Try.prog .shr T x' y' (.int .u64 ((y2 x : Nat) : Int)) (.int .u64 4) = some (.int .u64 ((y2 x >>> 4 : Nat) : Int)) := fun T x' y' => shr_4 T x' y' _
  have v9 : ∀ (T : TypeId) (x' y' : Operand), binA Try.prog .add T x' y' (.int .u64 ((y2 x >>> 4 : Nat) : Int)) (.int .u64 ((y2 x : Nat) : Int)) = some (.int .u64 ((y2 x >>> 4 + y2 x : Nat) : Int)) := fun T x' y' => binu_add T x' y' (by omega)
  have v10 : ∀ (T : TypeId) (x' y' : Operand), binA Try.prog .and T x' y' (.int .u64 ((y2 x >>> 4 + y2 x : Nat) : Int)) (.int .u64 1085102592571150095) = some (.int .u64 ((y2 x >>> 4 + y2 x &&& 1085102592571150095 : Nat) : Int)) := fun T x' y' => and_1085102592571150095 T x' y' (by omega)
  have v11 : ∀ (T : TypeId) (x' y' : Operand), binA Try.prog .shr T x' y' (.int .u64 ((y4 x : Nat) : Int)) (.int .u64 8) = some (.int .u64 ((y4 x >>> 8 : Nat) : Int)) := fun T x' y' => shr_8 T x' y' _
  have v12 : ∀ (T : TypeId) (x' y' : Operand), binA Try.prog .add T x' y' (.int .u64 ((y4 x : Nat) : Int)) (.int .u64 ((y4 x >>> 8 : Nat) : Int)) = some (.int .u64 ((y8 x : Nat) : Int)) := fun T x' y' => binu_add T x' y' (by omega)
  have v13 : ∀ (T : TypeId) (x' y' : Operand), binA Try.prog .shr T x' y' (.int .u64 ((y8 x : Nat) : Int)) (.int .u64 16) = some (.int .u64 ((y8 x >>> 16 : Nat) : Int)) := fun T x' y' => shr_16 T x' y' _
  have v14 : ∀ (T : TypeId) (x' y' : Operand), binA Try.prog .add T x' y' (.int .u64 ((y8 x : Nat) : Int)) (.int .u64 ((y8 x >>> 16 : Nat) : Int)) = some (.int .u64 ((y16 x : Nat) : Int)) := fun T x' y' => binu_add T x' y' (by omega)
  have v15 : ∀ (T : TypeId) (x' y' : Operand), binA Try.prog .shr T x' y' (.int .u64 ((y16 x : Nat) : Int)) (.int .u64 32) = some (.int .u64 ((y16 x >>> 32 : Nat) : Int)) := fun T x' y' => shr_32 T x' y' _
  have v16 : ∀ (T : TypeId) (x' y' : Operand), binA Try.prog .add T x' y' (.int .u64 ((y16 x : Nat) : Int)) (.int .u64 ((y16 x >>> 32 : Nat) : Int)) = some (.int .u64 ((y32 x : Nat) : Int)) := fun T x' y' => binu_add T x' y' (by omega)
  have w1 : convA Try.prog 125 3 (.int .u64 ((y32 x : Nat) : Int)) = some (.int .i64 ((y32 x : Nat) : Int)) := conv125_3 _ (by omega)
  have w2 : ∀ (T : TypeId) (x' y' : Operand), binA Try.prog .and T x' y' (.int .i64 ((y32 x : Nat) : Int)) (.int .i64 127) = some (.int .i64 ((popc x : Nat) : Int)) := fun T x' y' => by rw [and_127 T x' y' (by omega), g1]
  clear h1 h2 a1 a2 a3 b1 b2 b3 c1 c2 d1 d2 e1 e2 f1 f2 g1 g2 h
  rw [show y2 x >>> 4 + y2 x &&& 1085102592571150095 = y4 x from rfl] at v10
  refine fun_ok (nt := 35) (rs := [.tmp 2]) Try.func92 rfl rfl rfl (by simp) fun Z w0 => ?_; simp only [initFr, avR, List.map_cons, List.map_nil]
  (repeat (first | apply aw_seq | apply aw_block | apply aw_skip | apply aw_label | apply aw_exit | ((first | refine aw_region (hideO fun QQ hQQ => ?_) | refine aw_draw mixed (hideD fun QQ hQQ => ?_)); simp (maxSteps := 400000) (disch := first | decide | omega) only [v0, v1, v2, v3, v4, v5, v6, v7, v8, v9, v10, v11, v12, v13, v14, v15, v16, w1, w2, go_sem, ↓reduceIte]; try (first | with_reducible refine unhide hQQ ?_ | refine ⟨by kernel_rfl, unhide hQQ ?_⟩); clear hQQ QQ) | with_reducible first | apply then_n | apply block_n | apply then_x | apply then_r | apply nog_n | apply nog_r | apply block_r | apply block_e (by decide) | apply block_x (by decide)))
  refine aw_ret ?_; refine ⟨.inr rfl, ?_⟩; simp only [resA, res1, go_sem, ↓reduceIte]
theorem ok_bits (x : Nat) (h : x < 256) : FunOK Try.prog 71 [.one (uP x)] (.one (.one (iP (popc x)))) := by
  have hb := ok_bits64 x h
  refine fun_ok (nt := 8) (rs := [.tmp 2]) Try.func71 rfl rfl rfl (by simp) fun Z w0 => ?_; simp only [initFr, avR, List.map_cons, List.map_nil]
  refine tw ?_; try with_reducible intro QQ hQQ
  refine ti ?_; try clear hQQ QQ
  refine tw ?_; try with_reducible intro QQ hQQ
  ((refine cO 92 rfl rfl rfl (hb) Try.func92 rfl ?_); refine tu ?_; try clear hQQ QQ); refine tw ?_; try with_reducible intro QQ hQQ
  refine aw_ret ?_; refine ⟨.inr rfl, ?_⟩; simp only [resA, res1, go_sem, ↓reduceIte]
theorem ok_cmp (x y : Nat) (hx : x < 256) (hy : y < 256) : FunOK Try.prog 70 [.one (uP x), .one (uP y)] (.one (.one (iP ((popc x : Int) - popc y)))) := by
  obtain ⟨_, _, _, _, _, _, _, g1⟩ := y_all x hx
  obtain ⟨_, _, _, _, _, _, _, g2⟩ := y_all y hy
  have h1 := ok_bits x hx
  have h2 := ok_bits y hy
  refine fun_ok (nt := 10) (rs := [.tmp 4]) Try.func70 rfl rfl rfl (by simp) fun Z w0 => ?_; simp only [initFr, avR, List.map_cons, List.map_nil]
  refine tw ?_; try with_reducible intro QQ hQQ
  (refine cO 71 rfl rfl rfl (h1) Try.func71 rfl ?_); refine ts ?_; try clear hQQ QQ
  ((refine cO 71 rfl rfl rfl (h2) Try.func71 rfl ?_); refine tu ?_; try clear hQQ QQ); refine tw ?_; try with_reducible intro QQ hQQ
  refine aw_ret ?_; refine ⟨.inr rfl, ?_⟩; simp only [resA, res1, go_sem, ↓reduceIte]
end Go.Proofs.Ytgdhdikeicgndaa
/- classer: the stable sort, walked: exchanges. -/
namespace Go.Proofs.Ytgdhdikeicgndaa
open Go Go.RowKit Go.Sh Go.Pv
set_option maxHeartbeats 4000000
set_option maxRecDepth 8000
def rowsF (f : Nat → Nat) (len : Nat) : List (List PV) := (List.range len).map fun i => [.v (.int .u64 (f i : Int))]
def arrS (s len : Nat) : Obj' := .arr 71 1 (rowsF (gt s) len) false
def updN (f : Nat → Nat) (i v : Nat) : Nat → Nat := fun k => if k = i then v else f k
theorem rowsF_len (f : Nat → Nat) (len : Nat) : (rowsF f len).length = len := by simp [rowsF]
theorem rowsF_get (f : Nat → Nat) {len i : Nat} (h : i < len) : (rowsF f len)[i]? = some [.v (.int .u64 (f i : Int))] := by simp [rowsF, h]
theorem rowsF_set (f : Nat → Nat) {len i : Nat} (h : i < len) (v : Nat) : (rowsF f len).set i [.v (.int .u64 (v : Int))] = rowsF (updN f i v) len := by
  apply List.ext_getElem?
  intro k
  rw [List.getElem?_set, rowsF_len]
  by_cases hk : k < len
  · rw [rowsF_get _ hk]
    by_cases he : i = k
    · subst he
      rw [if_pos rfl, if_pos h, rowsF_get _ hk]
      simp [updN]
    · rw [if_neg he, rowsF_get _ hk]
      simp [updN, Ne.symm he]
  · have e : ∀ g, (rowsF g len)[k]? = none := fun g => List.getElem?_eq_none (by rw [rowsF_len]; omega)
    rw [e, e, if_neg (by omega)]
theorem upd_swp (s i j : Nat) : updN (updN (gt s) i (gt s j)) j (gt s i) = gt (swp s i j) := by
  funext k
  rw [gt_swp]
  unfold updN
  by_cases h1 : k = j
  · rw [if_pos h1]
    by_cases h2 : k = i
    · rw [if_pos h2, ← h1, ← h2]
    · rw [if_neg h2, if_pos h1]
  · rw [if_neg h1]
    by_cases h2 : k = i
    · rw [if_pos h2, if_pos h2]
    · rw [if_neg h2, if_neg h2, if_neg h1]
theorem nadd1 (a : Nat) : (a : Int) + 1 = ((a + 1 : Nat) : Int) := rfl
theorem nsub {a b : Nat} (h : b ≤ a) : (a : Int) - (b : Int) = ((a - b : Nat) : Int) := by omega
theorem nsub1 {a : Nat} (h : 1 ≤ a) : (a : Int) - 1 = ((a - 1 : Nat) : Int) := by omega
attribute [go_sem] rowsF_len rowsF_get rowsF_set upd_swp nadd nadd1 nsub nsub1
/-- What is kept through a function that turns a slice of its caller. -/
def SF (fr : List (Nat × AV)) (tm : Nat → Value) (hp : List (Nat × Obj')) (nx t len s : Nat) (hpX : List (Nat × Obj')) (nxX : Nat) : Prop :=
  nx < nxX ∧ AL.get hpX nx = some (.kept fr tm) ∧ AL.get hpX t = some (arrS s len) ∧ ∀ id o, id < nx → id ≠ t → AL.get hp id = some o → AL.get hpX id = some o
theorem sf_start {fr : List (Nat × AV)} {tm : Nat → Value} {hp : List (Nat × Obj')} {nx t len s : Nat} (hcl : Closed ⟨fr, hp, nx⟩) (ht : AL.get hp t = some (arrS s len)) : SF fr tm hp nx t len s ((nx, .kept fr tm) :: hp) (nx + 1) := by
  have hl := hcl.lt t _ ht
  refine ⟨Nat.lt_succ_self _, AL.get_eq _ _ _, ?_, fun id o h1 h2 h3 => ?_⟩
  · rw [AL.get_ne _ _ (by dsimp only at hl; omega)]; exact ht
  · rw [AL.get_ne _ _ (by omega)]; exact h3
theorem sf_set {fr : List (Nat × AV)} {tm : Nat → Value} {hp hpX : List (Nat × Obj')} {nx nxX t len s : Nat} (s' : Nat) (htn : t < nx) (h : SF fr tm hp nx t len s hpX nxX) : SF fr tm hp nx t len s' ((t, arrS s' len) :: hpX) nxX := by
  obtain ⟨h1, h2, h3, h4⟩ := h
  refine ⟨h1, ?_, AL.get_eq _ _ _, fun id o g1 g2 g3 => ?_⟩
  · rw [AL.get_ne _ _ (by omega)]; exact h2
  · rw [AL.get_ne _ _ g2]; exact h4 id o g1 g2 g3
theorem sf_set2 {fr : List (Nat × AV)} {tm : Nat → Value} {hp hpX : List (Nat × Obj')} {nx nxX t len s : Nat} (s' : Nat) (o : Obj') (htn : t < nx) (h : SF fr tm hp nx t len s hpX nxX) : SF fr tm hp nx t len s' ((t, arrS s' len) :: (t, o) :: hpX) nxX := by
  obtain ⟨h1, h2, h3, h4⟩ := h
  refine ⟨h1, ?_, AL.get_eq _ _ _, fun id o g1 g2 g3 => ?_⟩
  · rw [AL.get_ne _ _ (by omega), AL.get_ne _ _ (by omega)]; exact h2
  · rw [AL.get_ne _ _ g2, AL.get_ne _ _ g2]; exact h4 id o g1 g2 g3
theorem sf_end {fr : List (Nat × AV)} {tm : Nat → Value} {hp hpX : List (Nat × Obj')} {nx nxX t len s0 s : Nat} (hcl : Closed ⟨fr, hp, nx⟩) (ht : AL.get hp t = some (arrS s0 len)) (h : SF fr tm hp nx t len s hpX nxX) {Q : St → AV → Prop} (hq : Q ⟨fr, AL.set hp t (arrS s len), nx⟩ (.tup [])) :
    ∃ av, some (AV.tup []) = some av ∧ AL.get hpX nx = some (.kept fr tm) ∧ ∃ T : St, T.fr = fr ∧ Closed T ∧ (∀ id o, AL.get T.hp id = some o → AL.get hpX id = some o) ∧ There (AL.get T.hp) (refsV av) ∧ Q T av := by
  obtain ⟨h1, h2, h3, h4⟩ := h
  refine ⟨_, rfl, h2, ⟨fr, AL.set hp t (arrS s len), nx⟩, rfl, hcl.set ht (fun _ _ h => by cases h) (fun i hi => by cases hi), fun id o ho => ?_, fun i hi => (by cases hi), hq⟩
  have ho : AL.get (AL.set hp t (arrS s len)) id = some o := ho
  rw [AL.get_set] at ho
  split at ho
  · rename_i e; rw [e]; rw [← ho]; exact h3
  · rename_i e; exact h4 id o (hcl.lt id o ho) e ho
section
variable {Z : Zn} {w0 : World} {cap : Nat → Prop} {nt : Nat} {rd : Option Nat} {pan : List PanicEntry → St → Prop} {df : Option Nat} {dk : List Nat} {rg : Bool} {fr : List (Nat × AV)} {hp : List (Nat × Obj')} {nx t len : Nat}
theorem c_swr (hl : len ≤ 256) (a b n s : Nat) (ht : AL.get hp t = some (arrS s len)) (ha : a + n ≤ len) (hb : b + n ≤ len) :
    CallF ⟨Try.prog, Z, w0, cap, nt, rd, pan, df, dk, rg⟩ 105 [.one (.own t len), iA a, iA b, iA n, .one (.fn 70 [])] ⟨fr, hp, nx⟩ fun st' av => st' = ⟨fr, AL.set hp t (arrS (swr a b n 0 s) len), nx⟩ ∧ av = .tup [] := by
  (refine callF_to (nt := 38) (rs := []) Try.func105 rfl rfl rfl (by simp) fun hcl tm Ds => ?_); simp only [initV]
  have htn := hcl.lt t _ ht
  dsimp only [Kx.calleeT] at htn ⊢
  generalize hR : swr a b n 0 s = R
  refine tw ?_; try with_reducible intro QQ hQQ
  refine aw_weak (weak_thr [0, 1, 2, 3, 10] (by simp only [go_sem, ↓reduceIte]; rfl)) ?_
  refine aw_loop_hp (ι := { p : Nat × Nat // p.1 ≤ n ∧ swr a b (n - p.1) p.1 p.2 = R }) (fun p => [(10, iA p.1.1)]) (fun p => SF fr tm hp nx t len p.1.2) (fun p => n - p.1.1) ⟨(0, s), by omega, hR⟩ (by first | rfl | (simp only [go_sem, ↓reduceIte]; rfl)) (sf_start hcl ht) ?_
  rintro ⟨⟨k, s⟩, hk, hs⟩ hpX nxX hSF
  simp (disch := decide) only [ov, ovL, AL.get_nil, AL.get_eq, AL.get_ne, Option.getD_some, Option.getD_none]
  obtain ⟨f0, f1, f2, f3⟩ := id hSF
  dsimp only at hk hs f2
  unfold arrS at f2
  try clear hF
  have hF := And.intro f1 (f2)
  by_cases hkn : k < n
  · refine twF ?_; try with_reducible intro QQ hQQ
    refine tiF ?_; try clear hQQ QQ
    refine twF ?_; try with_reducible intro QQ hQQ
    refine ⟨⟨(k + 1, swp s (a + k) (b + k)), by omega, ?_⟩, ?_, ?_, ?_⟩
    · rw [← hs, show n - k = (n - (k + 1)) + 1 by omega]
      show _ = force _ _
      rw [force_eq]
    · simp only; omega
    · exact sf_set2 _ _ htn hSF
    · first | rfl | (simp only [hF, go_sem, ↓reduceIte]; rfl)
  · have : k = n := by omega
    subst this
    refine twF ?_; try with_reducible intro QQ hQQ
    refine tiF ?_; try clear hQQ QQ
    refine twF ?_; try with_reducible intro QQ hQQ
    have hsR : s = R := by rw [← hs, Nat.sub_self]; rfl
    exact ⟨.inl rfl, sf_end hcl ht (by rw [← hsR]; exact hSF) ⟨rfl, rfl⟩⟩
theorem c_rot (hl : len ≤ 256) (f a m b s : Nat) (ht : AL.get hp t = some (arrS s len)) (ham : a < m) (hmb : m < b) (hb : b ≤ len) (hf : b - a ≤ f) :
    CallF ⟨Try.prog, Z, w0, cap, nt, rd, pan, df, dk, rg⟩ 104 [.one (.own t len), iA a, iA m, iA b, .one (.fn 70 [])] ⟨fr, hp, nx⟩ fun st' av => st' = ⟨fr, AL.set hp t (arrS (rotL m f (m - a) (b - m) s) len), nx⟩ ∧ av = .tup [] := by
  (refine callF_to (nt := 58) (rs := []) Try.func104 rfl rfl rfl (by simp) fun hcl tm Ds => ?_); simp only [initV]
  have htn := hcl.lt t _ ht
  dsimp only [Kx.calleeT] at htn ⊢
  generalize hR : rotL m f (m - a) (b - m) s = R
  refine tw ?_; try with_reducible intro QQ hQQ
  refine aw_weak (weak_thr [0, 2, 4, 10, 11] (by simp only [go_sem, ↓reduceIte]; rfl)) ?_
  refine aw_loop_hp (ι := { p : Nat × Nat × Nat × Nat // (0 < p.2.1 ∧ 0 < p.2.2.1 ∧ p.2.1 ≤ m ∧ m + p.2.2.1 ≤ len ∧ p.2.1 + p.2.2.1 ≤ p.1) ∧ rotL m p.1 p.2.1 p.2.2.1 p.2.2.2 = R }) (fun p => [(10, iA p.1.2.1), (11, iA p.1.2.2.1)]) (fun p => SF fr tm hp nx t len p.1.2.2.2) (fun p => p.1.2.1 + p.1.2.2.1) ⟨(f, m - a, b - m, s), by dsimp only; omega, hR⟩ (by first | rfl | (simp only [go_sem, ↓reduceIte]; rfl)) (sf_start hcl ht) ?_
  rintro ⟨⟨g, i, j, s⟩, hij, hs⟩ hpX nxX hSF
  simp (disch := decide) only [ov, ovL, AL.get_nil, AL.get_eq, AL.get_ne, Option.getD_some, Option.getD_none]
  obtain ⟨f0, f1, f2, f3⟩ := id hSF
  dsimp only at hij hs f2
  obtain ⟨i0, j0, im, jm, hg⟩ := hij
  obtain ⟨g, rfl⟩ : ∃ g', g = g' + 1 := ⟨g - 1, by omega⟩
  unfold rotL at hs
  by_cases hd : i = j
  · rw [show Nat.beq i j = true from by rw [Nat.beq_eq]; exact hd] at hs
    refine tw ?_; try with_reducible intro QQ hQQ
    refine ti ?_; try clear hQQ QQ
    refine tw ?_; try with_reducible intro QQ hQQ
    (refine callS_ok rfl rfl 105 (by simp (disch := first | decide | omega) only [go_sem, ↓reduceIte]; try rfl) (by simp (disch := first | decide | omega) only [go_sem, ↓reduceIte]; try rfl) Try.func105 rfl (by decide) ((c_swr hl (m - i) m i s f2 (by omega) (by omega)).mono ?_)); rintro _ _ ⟨rfl, rfl⟩; refine ts ?_; try clear hQQ QQ
    refine tw ?_; try with_reducible intro QQ hQQ
    exact ⟨.inl rfl, sf_end hcl ht (by rw [← hs]; exact sf_set _ htn hSF) ⟨rfl, rfl⟩⟩
  · rw [show Nat.beq i j = false from by rw [← Bool.not_eq_true, Nat.beq_eq]; exact hd] at hs
    by_cases hlt : j < i
    · rw [show Nat.blt j i = true from by rw [Nat.blt_eq]; exact hlt] at hs
      simp only [cond_true, cond_false, force_eq] at hs
      refine tw ?_; try with_reducible intro QQ hQQ
      refine ti ?_; try clear hQQ QQ
      refine tw ?_; try with_reducible intro QQ hQQ
      refine ti ?_; try clear hQQ QQ
      refine tw ?_; try with_reducible intro QQ hQQ
      (refine callS_ok rfl rfl 105 (by simp (disch := first | decide | omega) only [go_sem, ↓reduceIte]; try rfl) (by simp (disch := first | decide | omega) only [go_sem, ↓reduceIte]; try rfl) Try.func105 rfl (by decide) ((c_swr hl (m - i) m j s f2 (by omega) (by omega)).mono ?_)); rintro _ _ ⟨rfl, rfl⟩; refine ts ?_; try clear hQQ QQ
      refine tw ?_; try with_reducible intro QQ hQQ
      exact ⟨⟨(g, i - j, j, _), by dsimp only; omega, hs⟩, by dsimp only; omega, sf_set _ htn hSF, by first | rfl | (simp only [go_sem, ↓reduceIte]; rfl)⟩
    · rw [show Nat.blt j i = false from by rw [← Bool.not_eq_true, Nat.blt_eq]; exact hlt] at hs
      simp only [cond_true, cond_false, force_eq] at hs
      refine tw ?_; try with_reducible intro QQ hQQ
      refine ti ?_; try clear hQQ QQ
      refine tw ?_; try with_reducible intro QQ hQQ
      refine ti ?_; try clear hQQ QQ
      refine tw ?_; try with_reducible intro QQ hQQ
      (refine callS_ok rfl rfl 105 (by simp (disch := first | decide | omega) only [go_sem, ↓reduceIte]; try rfl) (by simp (disch := first | decide | omega) only [go_sem, ↓reduceIte]; try rfl) Try.func105 rfl (by decide) ((c_swr hl (m - i) (m + j - i) i s f2 (by omega) (by omega)).mono ?_)); rintro _ _ ⟨rfl, rfl⟩; refine ts ?_; try clear hQQ QQ
      refine tw ?_; try with_reducible intro QQ hQQ
      exact ⟨⟨(g, i, j - i, _), by dsimp only; omega, hs⟩, by dsimp only; omega, sf_set _ htn hSF, by first | rfl | (simp only [go_sem, ↓reduceIte]; rfl)⟩
theorem insIn_t {a j s : Nat} (h1 : a < j + 1) (h2 : popc (gt s (j + 1)) < popc (gt s j)) : insIn a (j + 1) s = insIn a j (swp s (j + 1) j) := by
  show cond _ _ _ = _
  rw [show Nat.blt a (j + 1) = true by rw [Nat.blt_eq]; exact h1, show Nat.blt (popc (gt s (j + 1))) (popc (gt s j)) = true by rw [Nat.blt_eq]; exact h2]
  exact force_eq _ _
theorem insIn_f {a j s : Nat} (h : ¬ (a < j + 1 ∧ popc (gt s (j + 1)) < popc (gt s j))) : insIn a (j + 1) s = s := by
  show cond _ _ _ = _
  rw [show (Nat.blt a (j + 1) && Nat.blt (popc (gt s (j + 1))) (popc (gt s j))) = false by
    rw [← Bool.not_eq_true, Bool.and_eq_true, Nat.blt_eq, Nat.blt_eq]; exact h]
  rfl
theorem c_ins (hl : len ≤ 256) (a b s : Nat) (ht : AL.get hp t = some (arrS s len)) (hb : b ≤ len) (ha : a ≤ len) :
    CallF ⟨Try.prog, Z, w0, cap, nt, rd, pan, df, dk, rg⟩ 101 [.one (.own t len), iA a, iA b, .one (.fn 70 [])] ⟨fr, hp, nx⟩ fun st' av => st' = ⟨fr, AL.set hp t (arrS (insS a b s) len), nx⟩ ∧ av = .tup [] := by
  (refine callF_to (nt := 53) (rs := []) Try.func101 rfl rfl rfl (by simp) fun hcl tm Ds => ?_); simp only [initV]
  have htn := hcl.lt t _ ht
  dsimp only [Kx.calleeT] at htn ⊢
  generalize hR : insS a b s = R
  refine tw ?_; try with_reducible intro QQ hQQ
  refine aw_weak (weak_thr [0, 1, 2, 3, 8] (by simp only [go_sem, ↓reduceIte]; rfl)) ?_
  refine aw_loop_hp (ι := { p : Nat × Nat // (a + 1 ≤ p.1 ∧ p.1 ≤ max (a + 1) b) ∧ insOut a (b - p.1) p.1 p.2 = R }) (fun p => [(8, iA p.1.1)]) (fun p => SF fr tm hp nx t len p.1.2) (fun p => b - p.1.1) ⟨(a + 1, s), by dsimp only; omega, hR⟩ (by first | rfl | (simp only [go_sem, ↓reduceIte]; rfl)) (sf_start hcl ht) ?_
  rintro ⟨⟨i, s⟩, hi, hs⟩ hpX nxX hSF
  simp (disch := decide) only [ov, ovL, AL.get_nil, AL.get_eq, AL.get_ne, Option.getD_some, Option.getD_none]
  dsimp only at hi hs hSF
  by_cases hib : i < b
  · rw [show b - i = (b - (i + 1)) + 1 by omega] at hs
    have hs : force (insIn a i s) (insOut a (b - (i + 1)) (i + 1)) = R := hs
    rw [force_eq] at hs
    refine tw ?_; try with_reducible intro QQ hQQ
    refine ti ?_; try clear hQQ QQ
    refine tw ?_; try with_reducible intro QQ hQQ
    generalize hJ : insIn a i s = J at hs
    refine aw_weak (weak_thr [0, 1, 2, 3, 8, 9] (by simp only [go_sem, ↓reduceIte]; rfl)) ?_
    refine aw_loop_hp (ι := { p : Nat × Nat // p.1 ≤ i ∧ insIn a p.1 p.2 = J }) (fun p => [(9, iA p.1.1)]) (fun p => SF fr tm hp nx t len p.1.2) (fun p => p.1.1) ⟨(i, s), by dsimp only; omega, hJ⟩ (by first | rfl | (simp only [go_sem, ↓reduceIte]; rfl)) hSF ?_
    clear hSF
    rintro ⟨⟨j, s⟩, hj, hq⟩ hpX2 nxX2 hSF
    simp (disch := decide) only [ov, ovL, AL.get_nil, AL.get_eq, AL.get_ne, Option.getD_some, Option.getD_none]
    obtain ⟨f0, f1, f2, f3⟩ := id hSF
    dsimp only at hj hq f2 hSF
    unfold arrS at f2
    try clear hF
    have hF := And.intro f1 (f2)
    by_cases haj : a < j
    · obtain ⟨j, rfl⟩ : ∃ j', j = j' + 1 := ⟨j - 1, by omega⟩
      have hcmp := ok_cmp (gt s (j + 1)) (gt s j) (gt_lt _ _) (gt_lt _ _)
      skip
      have hjj : j + 1 - 1 = j := rfl
      try clear hF
      have hF := And.intro f1 (And.intro f2 (hjj))
      by_cases hp : popc (gt s (j + 1)) < popc (gt s j)
      · rw [insIn_t haj hp] at hq
        refine twF ?_; try with_reducible intro QQ hQQ
        (refine cDF 70 rfl rfl rfl (hcmp) Try.func70 rfl ?_); refine tdF ?_; try clear hQQ QQ
        refine twF ?_; try with_reducible intro QQ hQQ
        refine tiF ?_; try clear hQQ QQ
        refine twF ?_; try with_reducible intro QQ hQQ
        exact ⟨⟨(j, swp s (j + 1) j), by dsimp only; omega, hq⟩, by dsimp only; omega, sf_set2 _ _ htn hSF, by first | rfl | (simp only [hF, go_sem, ↓reduceIte]; rfl)⟩
      · rw [insIn_f (by omega)] at hq
        subst hq
        refine twF ?_; try with_reducible intro QQ hQQ
        (refine cDF 70 rfl rfl rfl (hcmp) Try.func70 rfl ?_); refine tdF ?_; try clear hQQ QQ
        refine twF ?_; try with_reducible intro QQ hQQ
        refine tiF ?_; try clear hQQ QQ
        refine twF ?_; try with_reducible intro QQ hQQ
        exact ⟨⟨(i + 1, s), by dsimp only; omega, hs⟩, by dsimp only; omega, hSF, by first | rfl | (simp only [hF, go_sem, ↓reduceIte]; rfl)⟩
    · have hq : s = J := by
        rw [← hq]
        cases j with
        | zero => rfl
        | succ j => exact (insIn_f (by omega)).symm
      subst hq
      try clear hF
      have hF := And.intro f1 (f2)
      refine twF ?_; try with_reducible intro QQ hQQ
      refine tiF ?_; try clear hQQ QQ
      refine twF ?_; try with_reducible intro QQ hQQ
      exact ⟨⟨(i + 1, s), by dsimp only; omega, hs⟩, by dsimp only; omega, hSF, by first | rfl | (simp only [hF, go_sem, ↓reduceIte]; rfl)⟩
  · have hsR : s = R := by rw [← hs, show b - i = 0 by omega]; rfl
    refine tw ?_; try with_reducible intro QQ hQQ
    refine ti ?_; try clear hQQ QQ
    refine tw ?_; try with_reducible intro QQ hQQ
    exact ⟨.inl rfl, sf_end hcl ht (by rw [← hsR]; exact hSF) ⟨rfl, rfl⟩⟩
end
end Go.Proofs.Ytgdhdikeicgndaa
