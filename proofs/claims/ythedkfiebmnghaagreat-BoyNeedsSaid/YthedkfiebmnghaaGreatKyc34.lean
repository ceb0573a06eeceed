/- Texts of the proof, joined. -/
import Derived.Test.YthedkfiebmnghaaGreatKyc25
set_option linter.all false
set_option maxHeartbeats 16000000
set_option maxRecDepth 20000
namespace Go.Proofs.YthedkfiebmnghaaGreat
open Go Go.RowKit Go.Sh Go.Pv Go.By
section
variable {ss : List SD} {first : List Int} {trip load : Int}
theorem ok_Trips (i : Int) : FunOK Tryz.prog 16 [boyR ss first trip load, .one (iP i)] (ansN (whyI (boyB ss first trip load) (inB i 0 ((ss.length : Int) - 1)) true 0) ((yOf ss first trip load).n i.toNat : Nat)) := by
 cases hv : boyB ss first trip load
 ·generalize ((yOf ss first trip load).n i.toNat) = n
  rw [show ansN (whyI false (inB i 0 ((ss.length : Int) - 1)) true 0) (n : Int) = .tup [.one (iP 0), .one (iP 1)] from rfl]
  refine fun_expA (l := []) (od := _) (nt := 12) (t := 5) (eb := 2) (rs := [.tmp 4, .cell 5 28]) ans41 Tryz.func16 rfl rfl rfl (by simp) rfl rfl rfl ansFid_eq Tryz.func41 rfl (by decide) fun Z w0 => ?_; refine tI ?_
  simp only [boyR, List.map_cons, List.map_nil]
  refine tw ?_
  refine ⟨rfl, ?_⟩
  (refine ts ?_)
  refine tw fun QQ hQQ => ?_
  refine callD_FX rfl rfl qN qN Tryz.func42 rfl (by decide) ?_ ?_; rotate_left; ((repeat (first | refine evDead_skip (by rfl) ?_ | (refine evDead_step (by rfl) qMN qMN ?_; simp (maxSteps := 400000) (disch := first | decide | omega) only [go_sem, ↓reduceIte]))); (try (show okDraw _ _ = true)); kernel_rfl); intro fr hk; refine c_open_arg hv Tryz.func50 rfl (by decide) ?_ ?_; exact qHN
  (have k5 := hk 5 (by rfl); have k4 := hk 4 (by rfl); have k5 := hk 5 (by rfl); simp (disch := first | decide | omega) only [go_sem, ↓reduceIte] at k5 k4; exact ⟨1, 0, rfl, k5, qN, by simp (disch := first | decide | omega) only [k4, k5, resA, res1, go_sem, ↓reduceIte]; try rfl⟩)
 obtain ⟨y, h, hy, rfl, rfl, rfl, rfl⟩ := boy_yOf hv
 rw [hy]
 have hSl : y.ss.length = y.S := rfl
 rw [hSl]
 have hS := fun bb o => s_isT (b := bb) (o := o) h i
 unfold boyR
 rw [castR]
 cases b1 : inB i 0 ((y.S : Int) - 1)
 ·have hS : ∀ bb o, _ := fun bb o => by have := hS bb o; rw [b1] at this; exact this
  generalize y.n i.toNat = n
  rw [show ansN (whyI true false true 0) (n : Int) = .tup [.one (iP 0), .one (iP 2)] from rfl]
  refine fun_expA (l := []) (od := _) (nt := 12) (t := 5) (eb := 2) (rs := [.tmp 4, .cell 5 28]) ans41 Tryz.func16 rfl rfl rfl (by simp) rfl rfl rfl ansFid_eq Tryz.func41 rfl (by decide) fun Z w0 => ?_; refine tI ?_
  refine tw ?_
  refine ⟨rfl, ?_⟩
  (refine ts ?_)
  refine tw fun QQ hQQ => ?_
  refine callD_FX rfl rfl qN qN Tryz.func42 rfl (by decide) ?_ ?_; rotate_left; ((repeat (first | refine evDead_skip (by rfl) ?_ | (refine evDead_step (by rfl) qMN qMN ?_; simp (maxSteps := 400000) (disch := first | decide | omega) only [go_sem, ↓reduceIte]))); (try (show okDraw _ _ = true)); kernel_rfl); intro fr hk; refine c_open_ran hv h Tryz.func50 rfl (by decide) ?_ ?_ ?_; exact qHN; (exact is_box1 (c := 1) hS (by rfl) (by first | decide | (dsimp only; omega)))
  (have k5 := hk 5 (by rfl); have k4 := hk 4 (by rfl); have k5 := hk 5 (by rfl); simp (disch := first | decide | omega) only [go_sem, ↓reduceIte] at k5 k4; exact ⟨2, 0, rfl, k5, qN, by simp (disch := first | decide | omega) only [k4, k5, resA, res1, go_sem, ↓reduceIte]; try rfl⟩)
 ·have hS : ∀ bb o, _ := fun bb o => by have := hS bb o; rw [b1] at this; exact this
  have hi : 0 ≤ i ∧ i ≤ (y.S : Int) - 1 := by simpa [inB] using b1
  obtain ⟨k, rfl⟩ : ∃ k : Nat, i = k := ⟨i.toNat, by omega⟩
  have hk : k < y.S := by omega
  have h3 := h.n3
  have h1 := fun bb => s_left (b := bb) h
  have hP : (arrP 3 fun s => ((if s < y.S then y.n s else 0 : Nat) : Int))[k]? = some (iP (y.n k : Int)) := by unfold arrP; rw [List.getElem?_map, List.getElem?_range (by omega)]; simp [hk]
  have hPl : (arrP 3 fun s => ((if s < y.S then y.n s else 0 : Nat) : Int)).length = 3 := arrP_len _ _
  generalize (arrP 3 fun s => ((if s < y.S then y.n s else 0 : Nat) : Int)) = P3 at *
  rw [Int.toNat_natCast]
  rw [show ansN (whyI true true true 0) (y.n k : Int) = .tup [.one (iP (y.n k : Int)), .one (iP 0)] from rfl]
  refine fun_expA (l := []) (od := _) (nt := 12) (t := 5) (eb := 2) (rs := [.tmp 4, .cell 5 28]) ans41 Tryz.func16 rfl rfl rfl (by simp) rfl rfl rfl ansFid_eq Tryz.func41 rfl (by decide) fun Z w0 => ?_; refine tI ?_
  refine tw ?_
  refine ⟨rfl, ?_⟩
  (refine ts ?_)
  (repeat (first | apply aw_seq | apply aw_block))
  try clear hF
  have hF := And.intro hP (hPl)
  refine aw_any mixed ?_
  refine evAny_three (i := 0) (j := 1) (k := 4) (by kernel_rfl) rfl rfl rfl ?_ ?_ ?_
  ·refine hideO fun QQ hQQ => ?_
   (refine tsF ?_; clear hQQ QQ)
   (try refine unhide hQQ ?_)
   (skip)
   refine evAny_two (i := 1) (j := 4) (by kernel_rfl) rfl rfl ?_ ?_
   ·refine hideO fun QQ hQQ => ?_
    (refine tsF ?_; clear hQQ QQ)
    (try refine unhide hQQ ?_)
    (skip)
    refine evAny_two (i := 2) (j := 4) (by kernel_rfl) rfl rfl ?_ ?_
    ·refine hideO fun QQ hQQ => ?_
     (refine tsF ?_)
     refine callS_ok rfl rfl 42 qF qF Tryz.func42 rfl (by decide) (CallF.mono (c_open_ok hv h Tryz.func50 rfl (by decide) ?_ ?_) ?_); exact qHF; (exact is_box1 (c := 1) hS (by rfl) (by first | decide | (dsimp only; omega))); rintro _ _ ⟨bb, rfl, rfl⟩; refine tsF ?_; clear hQQ QQ
     unfold YD.cells YD.mapO
     (try refine unhide hQQ ?_)
     (skip)
     refine evAny_two (i := 3) (j := 4) (by kernel_rfl) rfl rfl ?_ ?_
     ·refine hideO fun QQ hQQ => ?_
      (refine tsF ?_)
      have h1 := h1 bb
      unfold YF YH at h1
      (refine callO_S [6, 5] (h1) rfl rfl qF qF Tryz.func51 rfl (by decide) (by rfl) qAF (by decide) (by decide) qCF ?_); refine tsF ?_; clear hQQ QQ
      (try refine unhide hQQ ?_)
      (skip)
      refine evAny_one (i := 4) (by kernel_rfl) rfl ?_
      refine hideO fun QQ hQQ => ?_
      (refine tsF ?_; clear hQQ QQ)
      (try refine unhide hQQ ?_)
      (skip)
      refine evAny_one (i := 5) (by kernel_rfl) rfl ?_
      refine hideO fun QQ hQQ => ?_
      (refine tsF ?_; clear hQQ QQ)
      (try refine unhide hQQ ?_)
      (skip)
      refine evAny_one (i := 6) (by kernel_rfl) rfl ?_
      refine hideO fun QQ hQQ => ?_
      (refine tsF ?_; clear hQQ QQ)
      (try refine unhide hQQ ?_)
      (skip)
      refine evAny_one (i := 7) (by kernel_rfl) rfl ?_
      refine hideO fun QQ hQQ => ?_
      (refine tsF ?_; clear hQQ QQ)
      (try refine unhide hQQ ?_)
      (skip)
      refine evAny_end (by kernel_rfl) ?_ _
      (repeat with_reducible first | apply then_n | apply block_n)
      refine twF ?_
      (refine aw_ret ⟨.inr rfl, qF, qSN⟩)
     ·refine hideO fun QQ hQQ => ?_
      (refine tsF ?_; clear hQQ QQ)
      (try refine unhide hQQ ?_)
      (skip)
      refine evAny_one (i := 3) (by kernel_rfl) rfl ?_
      refine hideO fun QQ hQQ => ?_
      (refine tsF ?_)
      have h1 := h1 bb
      unfold YF YH at h1
      (refine callO_S [6, 5] (h1) rfl rfl qF qF Tryz.func51 rfl (by decide) (by rfl) qAF (by decide) (by decide) qCF ?_); refine tsF ?_; clear hQQ QQ
      (try refine unhide hQQ ?_)
      (skip)
      refine evAny_one (i := 5) (by kernel_rfl) rfl ?_
      refine hideO fun QQ hQQ => ?_
      (refine tsF ?_; clear hQQ QQ)
      (try refine unhide hQQ ?_)
      (skip)
      refine evAny_one (i := 6) (by kernel_rfl) rfl ?_
      refine hideO fun QQ hQQ => ?_
      (refine tsF ?_; clear hQQ QQ)
      (try refine unhide hQQ ?_)
      (skip)
      refine evAny_one (i := 7) (by kernel_rfl) rfl ?_
      refine hideO fun QQ hQQ => ?_
      (refine tsF ?_; clear hQQ QQ)
      (try refine unhide hQQ ?_)
      (skip)
      refine evAny_end (by kernel_rfl) ?_ _
      (repeat with_reducible first | apply then_n | apply block_n)
      refine twF ?_
      (refine aw_ret ⟨.inr rfl, qF, qSN⟩)
    ·refine hideO fun QQ hQQ => ?_
     (refine tsF ?_; clear hQQ QQ)
     (try refine unhide hQQ ?_)
     (skip)
     refine evAny_one (i := 2) (by kernel_rfl) rfl ?_
     refine hideO fun QQ hQQ => ?_
     (refine tsF ?_)
     refine callS_ok rfl rfl 42 qF qF Tryz.func42 rfl (by decide) (CallF.mono (c_open_ok hv h Tryz.func50 rfl (by decide) ?_ ?_) ?_); exact qHF; (exact is_box1 (c := 1) hS (by rfl) (by first | decide | (dsimp only; omega))); rintro _ _ ⟨bb, rfl, rfl⟩; refine tsF ?_; clear hQQ QQ
     unfold YD.cells YD.mapO
     (try refine unhide hQQ ?_)
     (skip)
     refine evAny_one (i := 3) (by kernel_rfl) rfl ?_
     refine hideO fun QQ hQQ => ?_
     (refine tsF ?_)
     have h1 := h1 bb
     unfold YF YH at h1
     (refine callO_S [6, 5] (h1) rfl rfl qF qF Tryz.func51 rfl (by decide) (by rfl) qAF (by decide) (by decide) qCF ?_); refine tsF ?_; clear hQQ QQ
     (try refine unhide hQQ ?_)
     (skip)
     refine evAny_one (i := 5) (by kernel_rfl) rfl ?_
     refine hideO fun QQ hQQ => ?_
     (refine tsF ?_; clear hQQ QQ)
     (try refine unhide hQQ ?_)
     (skip)
     refine evAny_one (i := 6) (by kernel_rfl) rfl ?_
     refine hideO fun QQ hQQ => ?_
     (refine tsF ?_; clear hQQ QQ)
     (try refine unhide hQQ ?_)
     (skip)
     refine evAny_one (i := 7) (by kernel_rfl) rfl ?_
     refine hideO fun QQ hQQ => ?_
     (refine tsF ?_; clear hQQ QQ)
     (try refine unhide hQQ ?_)
     (skip)
     refine evAny_end (by kernel_rfl) ?_ _
     (repeat with_reducible first | apply then_n | apply block_n)
     refine twF ?_
     (refine aw_ret ⟨.inr rfl, qF, qSN⟩)
   ·refine hideO fun QQ hQQ => ?_
    (refine tsF ?_; clear hQQ QQ)
    (try refine unhide hQQ ?_)
    (skip)
    refine evAny_one (i := 1) (by kernel_rfl) rfl ?_
    refine hideO fun QQ hQQ => ?_
    (refine tsF ?_; clear hQQ QQ)
    (try refine unhide hQQ ?_)
    (skip)
    refine evAny_one (i := 2) (by kernel_rfl) rfl ?_
    refine hideO fun QQ hQQ => ?_
    (refine tsF ?_)
    refine callS_ok rfl rfl 42 qF qF Tryz.func42 rfl (by decide) (CallF.mono (c_open_ok hv h Tryz.func50 rfl (by decide) ?_ ?_) ?_); exact qHF; (exact is_box1 (c := 1) hS (by rfl) (by first | decide | (dsimp only; omega))); rintro _ _ ⟨bb, rfl, rfl⟩; refine tsF ?_; clear hQQ QQ
    unfold YD.cells YD.mapO
    (try refine unhide hQQ ?_)
    (skip)
    refine evAny_one (i := 3) (by kernel_rfl) rfl ?_
    refine hideO fun QQ hQQ => ?_
    (refine tsF ?_)
    have h1 := h1 bb
    unfold YF YH at h1
    (refine callO_S [6, 5] (h1) rfl rfl qF qF Tryz.func51 rfl (by decide) (by rfl) qAF (by decide) (by decide) qCF ?_); refine tsF ?_; clear hQQ QQ
    (try refine unhide hQQ ?_)
    (skip)
    refine evAny_one (i := 5) (by kernel_rfl) rfl ?_
    refine hideO fun QQ hQQ => ?_
    (refine tsF ?_; clear hQQ QQ)
    (try refine unhide hQQ ?_)
    (skip)
    refine evAny_one (i := 6) (by kernel_rfl) rfl ?_
    refine hideO fun QQ hQQ => ?_
    (refine tsF ?_; clear hQQ QQ)
    (try refine unhide hQQ ?_)
    (skip)
    refine evAny_one (i := 7) (by kernel_rfl) rfl ?_
    refine hideO fun QQ hQQ => ?_
    (refine tsF ?_; clear hQQ QQ)
    (try refine unhide hQQ ?_)
    (skip)
    refine evAny_end (by kernel_rfl) ?_ _
    (repeat with_reducible first | apply then_n | apply block_n)
    refine twF ?_
    (refine aw_ret ⟨.inr rfl, qF, qSN⟩)
  ·refine hideO fun QQ hQQ => ?_
   (refine tsF ?_; clear hQQ QQ)
   (try refine unhide hQQ ?_)
   (skip)
   refine evAny_two (i := 0) (j := 4) (by kernel_rfl) rfl rfl ?_ ?_
   ·refine hideO fun QQ hQQ => ?_
    (refine tsF ?_; clear hQQ QQ)
    (try refine unhide hQQ ?_)
    (skip)
    refine evAny_two (i := 2) (j := 4) (by kernel_rfl) rfl rfl ?_ ?_
    ·refine hideO fun QQ hQQ => ?_
     (refine tsF ?_)
     refine callS_ok rfl rfl 42 qF qF Tryz.func42 rfl (by decide) (CallF.mono (c_open_ok hv h Tryz.func50 rfl (by decide) ?_ ?_) ?_); exact qHF; (exact is_box1 (c := 1) hS (by rfl) (by first | decide | (dsimp only; omega))); rintro _ _ ⟨bb, rfl, rfl⟩; refine tsF ?_; clear hQQ QQ
     unfold YD.cells YD.mapO
     (try refine unhide hQQ ?_)
     (skip)
     refine evAny_two (i := 3) (j := 4) (by kernel_rfl) rfl rfl ?_ ?_
     ·refine hideO fun QQ hQQ => ?_
      (refine tsF ?_)
      have h1 := h1 bb
      unfold YF YH at h1
      (refine callO_S [6, 5] (h1) rfl rfl qF qF Tryz.func51 rfl (by decide) (by rfl) qAF (by decide) (by decide) qCF ?_); refine tsF ?_; clear hQQ QQ
      (try refine unhide hQQ ?_)
      (skip)
      refine evAny_one (i := 4) (by kernel_rfl) rfl ?_
      refine hideO fun QQ hQQ => ?_
      (refine tsF ?_; clear hQQ QQ)
      (try refine unhide hQQ ?_)
      (skip)
      refine evAny_one (i := 5) (by kernel_rfl) rfl ?_
      refine hideO fun QQ hQQ => ?_
      (refine tsF ?_; clear hQQ QQ)
      (try refine unhide hQQ ?_)
      (skip)
      refine evAny_one (i := 6) (by kernel_rfl) rfl ?_
      refine hideO fun QQ hQQ => ?_
      (refine tsF ?_; clear hQQ QQ)
      (try refine unhide hQQ ?_)
      (skip)
      refine evAny_one (i := 7) (by kernel_rfl) rfl ?_
      refine hideO fun QQ hQQ => ?_
      (refine tsF ?_; clear hQQ QQ)
      (try refine unhide hQQ ?_)
      (skip)
      refine evAny_end (by kernel_rfl) ?_ _
      (repeat with_reducible first | apply then_n | apply block_n)
      refine twF ?_
      (refine aw_ret ⟨.inr rfl, qF, qSN⟩)
     ·refine hideO fun QQ hQQ => ?_
      (refine tsF ?_; clear hQQ QQ)
      (try refine unhide hQQ ?_)
      (skip)
      refine evAny_one (i := 3) (by kernel_rfl) rfl ?_
      refine hideO fun QQ hQQ => ?_
      (refine tsF ?_)
      have h1 := h1 bb
      unfold YF YH at h1
      (refine callO_S [6, 5] (h1) rfl rfl qF qF Tryz.func51 rfl (by decide) (by rfl) qAF (by decide) (by decide) qCF ?_); refine tsF ?_; clear hQQ QQ
      (try refine unhide hQQ ?_)
      (skip)
      refine evAny_one (i := 5) (by kernel_rfl) rfl ?_
      refine hideO fun QQ hQQ => ?_
      (refine tsF ?_; clear hQQ QQ)
      (try refine unhide hQQ ?_)
      (skip)
      refine evAny_one (i := 6) (by kernel_rfl) rfl ?_
      refine hideO fun QQ hQQ => ?_
      (refine tsF ?_; clear hQQ QQ)
      (try refine unhide hQQ ?_)
      (skip)
      refine evAny_one (i := 7) (by kernel_rfl) rfl ?_
      refine hideO fun QQ hQQ => ?_
      (refine tsF ?_; clear hQQ QQ)
      (try refine unhide hQQ ?_)
      (skip)
      refine evAny_end (by kernel_rfl) ?_ _
      (repeat with_reducible first | apply then_n | apply block_n)
      refine twF ?_
      (refine aw_ret ⟨.inr rfl, qF, qSN⟩)
    ·refine hideO fun QQ hQQ => ?_
     (refine tsF ?_; clear hQQ QQ)
     (try refine unhide hQQ ?_)
     (skip)
     refine evAny_one (i := 2) (by kernel_rfl) rfl ?_
     refine hideO fun QQ hQQ => ?_
     (refine tsF ?_)
     refine callS_ok rfl rfl 42 qF qF Tryz.func42 rfl (by decide) (CallF.mono (c_open_ok hv h Tryz.func50 rfl (by decide) ?_ ?_) ?_); exact qHF; (exact is_box1 (c := 1) hS (by rfl) (by first | decide | (dsimp only; omega))); rintro _ _ ⟨bb, rfl, rfl⟩; refine tsF ?_; clear hQQ QQ
     unfold YD.cells YD.mapO
     (try refine unhide hQQ ?_)
     (skip)
     refine evAny_one (i := 3) (by kernel_rfl) rfl ?_
     refine hideO fun QQ hQQ => ?_
     (refine tsF ?_)
     have h1 := h1 bb
     unfold YF YH at h1
     (refine callO_S [6, 5] (h1) rfl rfl qF qF Tryz.func51 rfl (by decide) (by rfl) qAF (by decide) (by decide) qCF ?_); refine tsF ?_; clear hQQ QQ
     (try refine unhide hQQ ?_)
     (skip)
     refine evAny_one (i := 5) (by kernel_rfl) rfl ?_
     refine hideO fun QQ hQQ => ?_
     (refine tsF ?_; clear hQQ QQ)
     (try refine unhide hQQ ?_)
     (skip)
     refine evAny_one (i := 6) (by kernel_rfl) rfl ?_
     refine hideO fun QQ hQQ => ?_
     (refine tsF ?_; clear hQQ QQ)
     (try refine unhide hQQ ?_)
     (skip)
     refine evAny_one (i := 7) (by kernel_rfl) rfl ?_
     refine hideO fun QQ hQQ => ?_
     (refine tsF ?_; clear hQQ QQ)
     (try refine unhide hQQ ?_)
     (skip)
     refine evAny_end (by kernel_rfl) ?_ _
     (repeat with_reducible first | apply then_n | apply block_n)
     refine twF ?_
     (refine aw_ret ⟨.inr rfl, qF, qSN⟩)
   ·refine hideO fun QQ hQQ => ?_
    (refine tsF ?_; clear hQQ QQ)
    (try refine unhide hQQ ?_)
    (skip)
    refine evAny_one (i := 0) (by kernel_rfl) rfl ?_
    refine hideO fun QQ hQQ => ?_
    (refine tsF ?_; clear hQQ QQ)
    (try refine unhide hQQ ?_)
    (skip)
    refine evAny_one (i := 2) (by kernel_rfl) rfl ?_
    refine hideO fun QQ hQQ => ?_
    (refine tsF ?_)
    refine callS_ok rfl rfl 42 qF qF Tryz.func42 rfl (by decide) (CallF.mono (c_open_ok hv h Tryz.func50 rfl (by decide) ?_ ?_) ?_); exact qHF; (exact is_box1 (c := 1) hS (by rfl) (by first | decide | (dsimp only; omega))); rintro _ _ ⟨bb, rfl, rfl⟩; refine tsF ?_; clear hQQ QQ
    unfold YD.cells YD.mapO
    (try refine unhide hQQ ?_)
    (skip)
    refine evAny_one (i := 3) (by kernel_rfl) rfl ?_
    refine hideO fun QQ hQQ => ?_
    (refine tsF ?_)
    have h1 := h1 bb
    unfold YF YH at h1
    (refine callO_S [6, 5] (h1) rfl rfl qF qF Tryz.func51 rfl (by decide) (by rfl) qAF (by decide) (by decide) qCF ?_); refine tsF ?_; clear hQQ QQ
    (try refine unhide hQQ ?_)
    (skip)
    refine evAny_one (i := 5) (by kernel_rfl) rfl ?_
    refine hideO fun QQ hQQ => ?_
    (refine tsF ?_; clear hQQ QQ)
    (try refine unhide hQQ ?_)
    (skip)
    refine evAny_one (i := 6) (by kernel_rfl) rfl ?_
    refine hideO fun QQ hQQ => ?_
    (refine tsF ?_; clear hQQ QQ)
    (try refine unhide hQQ ?_)
    (skip)
    refine evAny_one (i := 7) (by kernel_rfl) rfl ?_
    refine hideO fun QQ hQQ => ?_
    (refine tsF ?_; clear hQQ QQ)
    (try refine unhide hQQ ?_)
    (skip)
    refine evAny_end (by kernel_rfl) ?_ _
    (repeat with_reducible first | apply then_n | apply block_n)
    refine twF ?_
    (refine aw_ret ⟨.inr rfl, qF, qSN⟩)
  ·refine hideO fun QQ hQQ => ?_
   (refine tsF ?_; clear hQQ QQ)
   (try refine unhide hQQ ?_)
   (skip)
   refine evAny_two (i := 0) (j := 1) (by kernel_rfl) rfl rfl ?_ ?_
   ·refine hideO fun QQ hQQ => ?_
    (refine tsF ?_; clear hQQ QQ)
    (try refine unhide hQQ ?_)
    (skip)
    refine evAny_one (i := 1) (by kernel_rfl) rfl ?_
    refine hideO fun QQ hQQ => ?_
    (refine tsF ?_; clear hQQ QQ)
    (try refine unhide hQQ ?_)
    (skip)
    refine evAny_one (i := 2) (by kernel_rfl) rfl ?_
    refine hideO fun QQ hQQ => ?_
    (refine tsF ?_)
    refine callS_ok rfl rfl 42 qF qF Tryz.func42 rfl (by decide) (CallF.mono (c_open_ok hv h Tryz.func50 rfl (by decide) ?_ ?_) ?_); exact qHF; (exact is_box1 (c := 1) hS (by rfl) (by first | decide | (dsimp only; omega))); rintro _ _ ⟨bb, rfl, rfl⟩; refine tsF ?_; clear hQQ QQ
    unfold YD.cells YD.mapO
    (try refine unhide hQQ ?_)
    (skip)
    refine evAny_one (i := 3) (by kernel_rfl) rfl ?_
    refine hideO fun QQ hQQ => ?_
    (refine tsF ?_)
    have h1 := h1 bb
    unfold YF YH at h1
    (refine callO_S [6, 5] (h1) rfl rfl qF qF Tryz.func51 rfl (by decide) (by rfl) qAF (by decide) (by decide) qCF ?_); refine tsF ?_; clear hQQ QQ
    (try refine unhide hQQ ?_)
    (skip)
    refine evAny_one (i := 5) (by kernel_rfl) rfl ?_
    refine hideO fun QQ hQQ => ?_
    (refine tsF ?_; clear hQQ QQ)
    (try refine unhide hQQ ?_)
    (skip)
    refine evAny_one (i := 6) (by kernel_rfl) rfl ?_
    refine hideO fun QQ hQQ => ?_
    (refine tsF ?_; clear hQQ QQ)
    (try refine unhide hQQ ?_)
    (skip)
    refine evAny_one (i := 7) (by kernel_rfl) rfl ?_
    refine hideO fun QQ hQQ => ?_
    (refine tsF ?_; clear hQQ QQ)
    (try refine unhide hQQ ?_)
    (skip)
    refine evAny_end (by kernel_rfl) ?_ _
    (repeat with_reducible first | apply then_n | apply block_n)
    refine twF ?_
    (refine aw_ret ⟨.inr rfl, qF, qSN⟩)
   ·refine hideO fun QQ hQQ => ?_
    (refine tsF ?_; clear hQQ QQ)
    (try refine unhide hQQ ?_)
    (skip)
    refine evAny_one (i := 0) (by kernel_rfl) rfl ?_
    refine hideO fun QQ hQQ => ?_
    (refine tsF ?_; clear hQQ QQ)
    (try refine unhide hQQ ?_)
    (skip)
    refine evAny_one (i := 2) (by kernel_rfl) rfl ?_
    refine hideO fun QQ hQQ => ?_
    (refine tsF ?_)
    refine callS_ok rfl rfl 42 qF qF Tryz.func42 rfl (by decide) (CallF.mono (c_open_ok hv h Tryz.func50 rfl (by decide) ?_ ?_) ?_); exact qHF; (exact is_box1 (c := 1) hS (by rfl) (by first | decide | (dsimp only; omega))); rintro _ _ ⟨bb, rfl, rfl⟩; refine tsF ?_; clear hQQ QQ
    unfold YD.cells YD.mapO
    (try refine unhide hQQ ?_)
    (skip)
    refine evAny_one (i := 3) (by kernel_rfl) rfl ?_
    refine hideO fun QQ hQQ => ?_
    (refine tsF ?_)
    have h1 := h1 bb
    unfold YF YH at h1
    (refine callO_S [6, 5] (h1) rfl rfl qF qF Tryz.func51 rfl (by decide) (by rfl) qAF (by decide) (by decide) qCF ?_); refine tsF ?_; clear hQQ QQ
    (try refine unhide hQQ ?_)
    (skip)
    refine evAny_one (i := 5) (by kernel_rfl) rfl ?_
    refine hideO fun QQ hQQ => ?_
    (refine tsF ?_; clear hQQ QQ)
    (try refine unhide hQQ ?_)
    (skip)
    refine evAny_one (i := 6) (by kernel_rfl) rfl ?_
    refine hideO fun QQ hQQ => ?_
    (refine tsF ?_; clear hQQ QQ)
    (try refine unhide hQQ ?_)
    (skip)
    refine evAny_one (i := 7) (by kernel_rfl) rfl ?_
    refine hideO fun QQ hQQ => ?_
    (refine tsF ?_; clear hQQ QQ)
    (try refine unhide hQQ ?_)
    (skip)
    refine evAny_end (by kernel_rfl) ?_ _
    (repeat with_reducible first | apply then_n | apply block_n)
    refine twF ?_
    (refine aw_ret ⟨.inr rfl, qF, qSN⟩)
end
section
variable {y : YD} {b : Nat} {o : Obj}
theorem s_isN (h : YOK y) (i k : Int) : FunS Tryz.prog 43 [.one (.box 0 0), .one (.box 2 0), .one (.box 3 0)] ((2, .box [.p (iP i)]) :: (3, .box [.p (iP k)]) :: YH y .nil b o) 4 (.one (.one (.v (.bool (inB i 0 ((y.S : Int) - 1) && inB k 0 (((y.sd i.toNat).sheep.length : Int) - 1)))))) := by
 have ht := s_isStand (c := .nil) (b := b) (o := o) h i
 unfold YH at ht ⊢
 cases b1 : inB i 0 ((y.S : Int) - 1)
 ·rw [b1] at ht
  rw [Bool.false_and]
  refine funS_ok (nt := 23) (rs := [.tmp 4]) Tryz.func43 rfl rfl rfl (by simp) fun Z w0 cap pan dk tm => ?_; refine tV ?_
  refine tw fun QQ hQQ => ?_
  (refine callD_R [0, 1] (ht) rfl rfl qN qN Tryz.func44 rfl (by decide) (by rfl) qAN (by decide) (by decide) qCN ?_); refine td ?_; clear hQQ QQ
  refine tw ?_
  (refine aw_ret ⟨.inr rfl, qMN, qMN, qVN⟩)
 ·rw [b1] at ht
  rw [Bool.true_and]
  have hi : 0 ≤ i ∧ i ≤ (y.S : Int) - 1 := by simpa [inB] using b1
  obtain ⟨j, rfl⟩ : ∃ j : Nat, i = j := ⟨i.toNat, by omega⟩
  rw [Int.toNat_natCast]
  have hj : j < y.S := by omega
  have hg := sd_mem hj
  have hl2 : y.ss.length = y.S := rfl
  have hsl : ((y.sd j).sheep.map row1).length = (y.sd j).sheep.length := List.length_map _
  have hs16 := sheep_16 (h.ok j hj)
  have hw := ok_within k 0 (((y.sd j).sheep.length : Int) - 1)
  have hrw : SD.row (y.sd j) = [iP (y.sd j).m0.1, iP (y.sd j).m0.2, iP (y.sd j).m1.1, iP (y.sd j).m1.2, iP (y.sd j).m2.1, iP (y.sd j).m2.2, .sl ((y.sd j).runs.map row2), .sl ((y.sd j).sheep.map row1), .sl ((y.sd j).looks.map row3)] := rfl
  generalize y.sd j = s at *
  refine funS_ok (nt := 23) (rs := [.tmp 4]) Tryz.func43 rfl rfl rfl (by simp) fun Z w0 cap pan dk tm => ?_; refine tV ?_
  refine tw fun QQ hQQ => ?_
  try clear hF
  have hF := And.intro hg (And.intro hl2 (And.intro hsl (hrw)))
  (refine callD_R [0, 1] (ht) rfl rfl qF qF Tryz.func44 rfl (by decide) (by rfl) qAF (by decide) (by decide) qCF ?_); refine tdF ?_
  refine twF ?_
  (refine cDF 45 rfl rfl rfl (hw) Tryz.func45 rfl ?_); refine tdF ?_; clear hQQ QQ
  refine twF ?_
  (refine aw_ret ⟨.inr rfl, qMF, qMF, qVF⟩)
end
theorem brought_take {load : Nat} {T m : Int} {i : Nat} {p : List Nat} {k : Nat} (hk : k < p.length) : broughtF load T i m 0 (p.take (k + 1)) = broughtF load T i m 0 (p.take k) + (if p.getD k 0 = i ∧ ((k + 1 : Nat) : Int) * T ≤ m then load else 0) := by
 have e : p.take (k + 1) = p.take k ++ [p.getD k 0] := by
  rw [List.take_succ, getD_some (d := 0) hk]; rfl
 have hl : (p.take k).length = k := by rw [List.length_take]; omega
 rw [e, brought_split, hl, Nat.zero_add]
 rfl
theorem brought_rng {load : Nat} {T m : Int} {i : Nat} {p : List Nat} (hl : load ≤ 5) (hp : p.length ≤ 48) (k : Nat) : broughtF load T i m 0 (p.take k) ≤ 240 := by
 have h1 := brought_le (load := load) (T := T) (m := m) (i := i) (p.take k) 0
 have h2 : (p.take k).count i ≤ 48 := by
  have := List.count_le_length (a := i) (l := p.take k)
  rw [List.length_take] at this
  omega
 have : (p.take k).count i * load ≤ 48 * 5 := Nat.mul_le_mul h2 hl
 omega
section
variable {ss : List SD} {first : List Int} {trip load : Int}
theorem ok_Brought (l : List Int) (hl : l.length ≤ 100000) (i m : Int) : FunOK Tryz.prog 20 [boyR ss first trip load, .one (.sl (l.map row1)), .one (iP i), .one (iP m)] (ansN (whyL (boyB ss first trip load) (yOf ss first trip load) l (inB i 0 (((yOf ss first trip load).S : Int) - 1) && inB m 0 999)) (((yOf ss first trip load).f i.toNat + broughtF (yOf ss first trip load).L ((yOf ss first trip load).T : Int) i.toNat m 0 (l.map Int.toNat) : Nat) : Int)) := by
 cases hv : boyB ss first trip load
 ·generalize (((yOf ss first trip load).f i.toNat + broughtF (yOf ss first trip load).L ((yOf ss first trip load).T : Int) i.toNat m 0 (l.map Int.toNat) : Nat) : Int) = n
  rw [show ansN (whyL false (yOf ss first trip load) l (inB i 0 (((yOf ss first trip load).S : Int) - 1) && inB m 0 999)) n = .tup [.one (iP 0), .one (iP 1)] from rfl]
  refine fun_expA (l := []) (od := _) (nt := 45) (t := 9) (eb := 4) (rs := [.tmp 8, .cell 9 28]) ans41 Tryz.func20 rfl rfl rfl (by simp) rfl rfl rfl ansFid_eq Tryz.func41 rfl (by decide) fun Z w0 => ?_; refine tI ?_
  simp only [boyR, List.map_cons, List.map_nil]
  refine tw ?_
  refine ⟨rfl, ?_⟩
  (refine ts ?_)
  refine tw fun QQ hQQ => ?_
  refine callS_ok rfl rfl 42 qN qN Tryz.func42 rfl (by decide) (CallF.mono (c_open_arg hv Tryz.func60 rfl (by decide) ?_ ?_) fun _ _ h => False.elim h); exact qHN
  exact ⟨1, 0, rfl, qN, qN, qSN⟩
 ·obtain ⟨y, h, hy, rfl, rfl, rfl, rfl⟩ := boy_yOf hv
  rw [hy]
  have hS := fun bb o => s_isB (b := bb) (o := o) h l hl i m
  unfold boyR
  rw [castR]
  cases b1 : ((l.all fun x => inB x 0 ((y.S : Int) - 1)) && inB i 0 ((y.S : Int) - 1) && inB m 0 999)
  ·have hS : ∀ bb o, _ := fun bb o => by have := hS bb o; rw [b1] at this; exact this
   rw [Bool.and_assoc] at b1
   generalize ((y.f i.toNat + broughtF y.L (y.T : Int) i.toNat m 0 (l.map Int.toNat) : Nat) : Int) = n
   rw [show ansN (whyL true y l (inB i 0 ((y.S : Int) - 1) && inB m 0 999)) n = .tup [.one (iP 0), .one (iP 2)] by unfold whyL; rw [b1]; rfl]
   refine fun_expA (l := []) (od := _) (nt := 45) (t := 9) (eb := 4) (rs := [.tmp 8, .cell 9 28]) ans41 Tryz.func20 rfl rfl rfl (by simp) rfl rfl rfl ansFid_eq Tryz.func41 rfl (by decide) fun Z w0 => ?_; refine tI ?_
   refine tw ?_
   refine ⟨rfl, ?_⟩
   (refine ts ?_)
   refine tw fun QQ hQQ => ?_
   refine callS_ok rfl rfl 42 qN qN Tryz.func42 rfl (by decide) (CallF.mono (c_open_ran hv h Tryz.func60 rfl (by decide) ?_ ?_ ?_) fun _ _ h => False.elim h); exact qHN; (exact is_box3 (c := 1) (d := 2) (e := 3) hS (by rfl) (by rfl) (by rfl) (by first | decide | (dsimp only; omega)) (by first | decide | (dsimp only; omega)) (by first | decide | (dsimp only; omega)) (by decide))
   exact ⟨2, 0, rfl, qN, qN, qSN⟩
  ·have hS : ∀ bb o, _ := fun bb o => by have := hS bb o; rw [b1] at this; exact this
   rw [Bool.and_assoc] at b1
   have b2 : (l.all fun x => inB x 0 ((y.S : Int) - 1)) = true ∧ inB i 0 ((y.S : Int) - 1) = true ∧ inB m 0 999 = true := by simpa using b1
   obtain ⟨c1, c2, c3⟩ := b2
   obtain ⟨hle, hlt⟩ := stands_of c1
   have hw : whyL true y l (inB i 0 ((y.S : Int) - 1) && inB m 0 999) = if IsPlan y.S y.n (l.map Int.toNat) then 0 else 6 := by
    unfold whyL; rw [b1]
    by_cases hp : IsPlan y.S y.n (l.map Int.toNat)
    ·rw [if_pos hp]; unfold whyI; simp [hp]
    ·rw [if_neg hp]; unfold whyI; simp [hp]
   rw [hw]
   have hi : 0 ≤ i ∧ i ≤ (y.S : Int) - 1 := by simpa [inB] using c2
   have hm : 0 ≤ m ∧ m ≤ 999 := by simpa [inB] using c3
   obtain ⟨k, rfl⟩ : ∃ k : Nat, i = k := ⟨i.toNat, by omega⟩
   clear hw b1 c1 c2 c3
   rw [Int.toNat_natCast]
   have hlen : (l.map Int.toNat).length ≤ 100000 := by rw [List.length_map]; exact hl
   generalize l.map Int.toNat = p at *
   subst hle
   rw [castR] at hS ⊢
   by_cases hp : IsPlan y.S y.n p
   ·rw [if_pos hp]
    have h1 := fun bb => s_planned (b := bb) h hlt hlen hp
    have h2 := fun bb => s_pace (b := bb) h
    have hpl := plan_len h hp
    have hkS : k < y.S := by omega
    have hgF : (y.F)[k]? = some (y.f k) := getD_some (by rw [h.fl]; exact hkS)
    have hFl : y.F.length = y.S := h.fl
    have hf16 := h.f16 k hkS
    have hrow : ∀ x, rowN x = [iP (x : Int)] := fun _ => rfl
    rw [show ∀ n : Int, ansN 0 n = .tup [.one (iP n), .one (iP 0)] from fun n => rfl]
    refine fun_expA (l := []) (od := _) (nt := 45) (t := 9) (eb := 4) (rs := [.tmp 8, .cell 9 28]) ans41 Tryz.func20 rfl rfl rfl (by simp) rfl rfl rfl ansFid_eq Tryz.func41 rfl (by decide) fun Z w0 => ?_; refine tI ?_
    refine tw ?_
    refine ⟨rfl, ?_⟩
    (refine ts ?_)
    refine tw fun QQ hQQ => ?_
    refine callS_ok rfl rfl 42 qN qN Tryz.func42 rfl (by decide) (CallF.mono (c_open_ok hv h Tryz.func60 rfl (by decide) ?_ ?_) ?_); exact qHN; (exact is_box3 (c := 1) (d := 2) (e := 3) hS (by rfl) (by rfl) (by rfl) (by first | decide | (dsimp only; omega)) (by first | decide | (dsimp only; omega)) (by first | decide | (dsimp only; omega)) (by decide)); rintro _ _ ⟨bb, rfl, rfl⟩; refine ts ?_; clear hQQ QQ
    have h1 := h1 bb
    have h2 := h2 bb
    unfold YF YH at h1 h2
    unfold YD.cells YD.mapO
    try clear hF
    have hF := And.intro hgF (And.intro hFl (hrow))
    refine twF fun QQ hQQ => ?_
    (refine callO_S [8, 7] (h1) rfl rfl qF qF Tryz.func56 rfl (by decide) (by rfl) qAF (by decide) (by decide) qCF ?_); refine tsF ?_
    refine callS_ok rfl rfl 61 qF qF Tryz.func61 rfl (by decide) (CallF.mono c_trips ?_)
    rintro _ _ ⟨rfl, rfl⟩
    (refine tsF ?_; clear hQQ QQ)
    refine twF ?_
    refine aw_weak (weak_restrict [4, 6, 7, 8, 9, 10, 11, 25] [12, 10, 9, 8, 7, 4, 3, 2, 0] 13 (by simp only [go_sem, ↓reduceIte]; rfl)) ?_
    refine aw_rangeFunc (nt := 29) rfl rfl (by simp (disch := first | decide | omega) only [go_sem, ↓reduceIte]; rfl) Tryz.func95 rfl (by decide) rfl rfl (by decide) fun r bb2 tm2 Ds2 hr1 hr1p hr2 hr3 hr4 hr5 hr6 hr7 => ?_
    dsimp only [Kx.iter] at hr5 hr7 ⊢
    refine aw_scope rfl ?_
    refine tw ?_
    rw [arr3]
    have hz0 : arrA 3 (fun _ => 0) = arrA 3 fun s => ((cntP p 0 s : Nat) : Int) := arrA_congr fun i _ => by simp [cntP]
    rw [hz0]
    have hb0 : (y.f k : Int) = ((y.f k + broughtF y.L (y.T : Int) k m 0 (p.take 0) : Nat) : Int) := by simp [broughtF]
    rw [hb0]
    have hmem : ∀ i, i < p.length → p.getD i 0 < 3 := fun i hi => by
     have h1 := hlt _ (mem_of_getD (d := 0) hi)
     have := h.n3
     omega
    have hll : (p.map rowN).length = p.length := List.length_map _
    have hcl : ∀ i s, i ≤ p.length → cntP p i s ≤ 100000 := fun i s hi => by
     have : cntP p i s ≤ (p.take i).length := List.count_le_length
     rw [List.length_take] at this
     omega
    have hbr := brought_rng (T := (y.T : Int)) (m := m) (i := k) h.l5 hpl
    have haf := fun i (hi : i ≤ 48) => ok_after170 y.T (by have := h.t60; omega) m (by omega) i (by omega)
    have hT60 := h.t60
    have hL5 := h.l5
    refine aw_weak (weak_restrict [0, 3, 7, 8, 9] [15, 14, 13, 12, 10, 9, 8, 7, 4, 3, 2, 0] 16 (by simp only [go_sem, ↓reduceIte]; rfl)) ?_
    refine aw_loop_ov (ι := { i : Nat // i ≤ p.length }) (fun i => [(9, iA i.1)]) (fun i => [(15, .box (arrA 3 fun s => ((cntP p i.1 s : Nat) : Int))), (10, .box [.p (iP ((y.f k + broughtF y.L (y.T : Int) k m 0 (p.take i.1) : Nat) : Int))])]) (fun i => p.length - i.1) ⟨0, by omega⟩ (by first | rfl | (simp only [go_sem, ↓reduceIte]; first | done | rfl | (simp; try rfl))) ?_
    rintro ⟨i, hi⟩
    refine tO ?_
    by_cases hil : i < p.length
    ·have hg := rowN_get hil
     have m3 := hmem i hil
     have hcs := fun s => cntP_succ hil s
     have hkc := hcl i (p.getD i 0) hi
     have hup : updF (fun s => ((cntP p i s : Nat) : Int)) (p.getD i 0) (((cntP p i (p.getD i 0) : Nat) : Int) + 1) = fun s => ((cntP p (i + 1) s : Nat) : Int) := by
      funext s
      unfold updF
      rw [hcs s]
      by_cases e : s = p.getD i 0
      ·rw [if_pos e, if_pos e, e]; rfl
      ·rw [if_neg e, if_neg e]; rfl
     have hbt := brought_take (load := y.L) (T := (y.T : Int)) (m := m) (i := k) hil
     have hb1 := hbr i
     have haf := haf i (by omega)
     clear hcs hcl hmem
     generalize hsd : p.getD i 0 = sd at *
     generalize hkd : cntP p i sd = kd at *
     generalize broughtF y.L (y.T : Int) k m 0 (p.take i) = B at *
     have hup2 : updF (fun s => ((cntP p i s : Nat) : Int)) sd ((kd + 1 : Nat) : Int) = fun s => ((cntP p (i + 1) s : Nat) : Int) := by rw [← hup]; push_cast; rfl
     try clear hF
     have hF := And.intro hg (And.intro hll (And.intro hkd (hup)))
     refine twF ?_
     refine tiF ?_
     refine twF fun QQ hQQ => ?_
     refine ⟨rfl, .inr ⟨rfl, callS_yield (L := 14) (C := 13) (avs := [.one (.p (iP (i : Int))), .agg [.p (iP (sd : Int)), .p (iP (kd : Int))]]) rfl rfl qF qF qF hr1 qF hr6 (by rw [hr5]; exact fun t av ht => hr7 t av ht |> fun h => by rw [hr5] at h; exact h) (by rw [hr2]; rfl) ?_ fun Ds tmi => ?_⟩⟩
     ·intro t ht
      rw [hr2] at ht
      rw [hr5]
      simp only [List.mem_cons, List.mem_nil_iff, or_false] at ht
      rcases ht with rfl | rfl <;> decide
     obtain ⟨rB, hrB⟩ : ∃ rB, ({ r with state := .busy } : Loop) = rB := ⟨_, rfl⟩
     rw [hrB, hr2, hr3, hr4, hr5]
     have hrr : ({ rB with state := .ready, pending := none } : Loop) = r := by
      rw [← hrB]
      cases r
      dsimp only at hr1 hr1p
      subst hr1 hr1p
      rfl
     have hin : (none : Option Code).isNone = true := rfl
     simp only [Kx.round, setPs]
     by_cases hsk : sd = k
     ·have esk : (((sd : Nat) : Int) == ((k : Nat) : Int)) = true := by rw [hsk]; simp
      try clear hF
      have hF := And.intro hg (And.intro hll (And.intro hkd (And.intro hup (And.intro hup2 (And.intro esk (And.intro hin (hrr)))))))
      refine twF ?_
      refine ⟨rfl, by simp (disch := first | decide | omega) only [hF, go_sem, ↓reduceIte], ?_⟩
      refine twF fun QQ hQQ => ?_
      (refine callD_R [8, 7] (h2) rfl rfl qF qF Tryz.func62 rfl (by decide) (by rfl) qAF (by decide) (by decide) qCF ?_); refine tdF ?_
      unfold paceV
      refine callD_turn rfl rfl [] _ _ _ (turns_invoke (any := true) rfl rfl qF 170 (fun _ => by kernel_rfl) relR_pace qF Tryz.func170 rfl (by decide) (fun _ => rfl) haf) ?_
      (refine tdF ?_; clear hQQ QQ)
      by_cases hle : ((i + 1 : Nat) : Int) * (y.T : Int) ≤ m
      ·have e2 : ((y.f k + broughtF y.L (y.T : Int) k m 0 (p.take (i + 1)) : Nat) : Int) = ((y.f k + B : Nat) : Int) + (y.L : Int) := by rw [hbt, if_pos ⟨hsk, hle⟩]; push_cast; omega
       have hd : ((i + 1 : Nat) : Int) * (y.T : Int) - m ≤ 0 := by omega
       generalize ((i + 1 : Nat) : Int) * (y.T : Int) - m = dlt at *
       refine twF ?_
       refine tiF ?_
       refine twF ?_
       refine ⟨qF, none, .inl ⟨rfl, rfl⟩, rB, qF, ?_⟩
       (refine tsF ?_; clear hQQ QQ)
       refine twF ?_
       refine tiF ?_
       refine twF ?_
       refine ⟨⟨i + 1, by omega⟩, ?_, weak_round ?_ (by first | rfl | (simp only [hF, go_sem, ↓reduceIte]))⟩
       rotate_left
       ·simp only [e2]
        (simp only [hF, go_sem, ↓reduceIte]; try rfl)
       ·simp only; omega
      ·have e2 : ((y.f k + broughtF y.L (y.T : Int) k m 0 (p.take (i + 1)) : Nat) : Int) = ((y.f k + B : Nat) : Int) := by rw [hbt, if_neg (fun hh => hle hh.2)]; rfl
       have hd : ¬ ((i + 1 : Nat) : Int) * (y.T : Int) - m ≤ 0 := by omega
       generalize ((i + 1 : Nat) : Int) * (y.T : Int) - m = dlt at *
       try clear hF
       have hF := And.intro hg (And.intro hll (And.intro hkd (And.intro hup (And.intro hup2 (And.intro esk (And.intro hin (hrr)))))))
       refine twF ?_
       refine tiF ?_
       refine twF ?_
       refine ⟨qF, none, .inl ⟨rfl, rfl⟩, rB, qF, ?_⟩
       (refine tsF ?_; clear hQQ QQ)
       refine twF ?_
       refine tiF ?_
       refine twF ?_
       refine ⟨⟨i + 1, by omega⟩, ?_, weak_round ?_ (by first | rfl | (simp only [hF, go_sem, ↓reduceIte]))⟩
       rotate_left
       ·simp only [e2]
        (simp only [hF, go_sem, ↓reduceIte]; try rfl)
       ·simp only; omega
     ·have esk : (((sd : Nat) : Int) == ((k : Nat) : Int)) = false := by simp; omega
      have e2 : ((y.f k + broughtF y.L (y.T : Int) k m 0 (p.take (i + 1)) : Nat) : Int) = ((y.f k + B : Nat) : Int) := by rw [hbt, if_neg (fun hh => hsk hh.1)]; rfl
      try clear hF
      have hF := And.intro hg (And.intro hll (And.intro hkd (And.intro hup (And.intro hup2 (And.intro esk (And.intro hin (hrr)))))))
      refine twF ?_
      refine ⟨rfl, by simp (disch := first | decide | omega) only [hF, go_sem, ↓reduceIte], ?_⟩
      refine twF ?_
      refine tiF ?_
      refine twF ?_
      refine ⟨qF, none, .inl ⟨rfl, rfl⟩, rB, qF, ?_⟩
      (refine tsF ?_; clear hQQ QQ)
      refine twF ?_
      refine tiF ?_
      refine twF ?_
      refine ⟨⟨i + 1, by omega⟩, ?_, weak_round ?_ (by first | rfl | (simp only [hF, go_sem, ↓reduceIte]))⟩
      rotate_left
      ·simp only [e2]
       (simp only [hF, go_sem, ↓reduceIte]; try rfl)
      ·simp only; omega
    ·have hie : i = p.length := by omega
     subst hie
     rw [List.take_length]
     try clear hF
     have hF := hll
     refine twF ?_
     refine tiF ?_
     refine twF ?_
     refine ⟨.inl rfl, qF, r, qF, by rw [hr1]; decide, ?_⟩
     rw [hr1p]
     (repeat (first | with_reducible refine then_n ?_ | with_reducible refine block_n ?_))
     refine twF ?_
     (refine aw_ret ⟨.inr rfl, qF, qSN⟩)
   ·rw [if_neg hp]
    have h1 := fun bb => sx_planned (b := bb) h hlt hlen hp
    rw [show ∀ n : Int, ansN 6 n = .tup [.one (iP 0), .one (iP 6)] from fun n => rfl]
    have hkS : k < y.S := by omega
    have hgF : (y.F)[k]? = some (y.f k) := getD_some (by rw [h.fl]; exact hkS)
    have hFl : y.F.length = y.S := h.fl
    have hrow : ∀ x, rowN x = [iP (x : Int)] := fun _ => rfl
    refine fun_expA (l := []) (od := _) (nt := 45) (t := 9) (eb := 4) (rs := [.tmp 8, .cell 9 28]) ans41 Tryz.func20 rfl rfl rfl (by simp) rfl rfl rfl ansFid_eq Tryz.func41 rfl (by decide) fun Z w0 => ?_; refine tI ?_
    refine tw ?_
    refine ⟨rfl, ?_⟩
    (refine ts ?_)
    refine tw fun QQ hQQ => ?_
    refine callS_ok rfl rfl 42 qN qN Tryz.func42 rfl (by decide) (CallF.mono (c_open_ok hv h Tryz.func60 rfl (by decide) ?_ ?_) ?_); exact qHN; (exact is_box3 (c := 1) (d := 2) (e := 3) hS (by rfl) (by rfl) (by rfl) (by first | decide | (dsimp only; omega)) (by first | decide | (dsimp only; omega)) (by first | decide | (dsimp only; omega)) (by decide)); rintro _ _ ⟨bb, rfl, rfl⟩; refine ts ?_; clear hQQ QQ
    have h1 := h1 bb
    unfold YF YH at h1
    unfold YD.cells YD.mapO
    try clear hF
    have hF := And.intro hgF (And.intro hFl (hrow))
    refine twF fun QQ hQQ => ?_
    refine callO_SX [8, 7] (h1) rfl rfl qF qF Tryz.func56 rfl (by decide) (by rfl) qAF (by decide) (by decide) qCF ?_
    exact ⟨6, 0, rfl, qF, qF, qSN⟩
end
end Go.Proofs.YthedkfiebmnghaaGreat
