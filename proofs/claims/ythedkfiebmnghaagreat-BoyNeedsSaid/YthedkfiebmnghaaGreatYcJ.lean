/- Texts of the proof, joined. -/
import Derived.Test.YthedkfiebmnghaaGreatKyc34
set_option linter.all false
set_option maxHeartbeats 16000000
set_option maxRecDepth 20000
namespace Go.Proofs.YthedkfiebmnghaaGreat
open Go Go.RowKit Go.Sh Go.Pv Go.By
theorem ndR_get {y : YD} {S k : Nat} (hk : k < S) : (y.ndR S)[k]? = some [PV.sl ((y.need k).map row1)] := by
 unfold YD.ndR
 rw [List.getElem?_map, List.getElem?_range hk]; rfl
section
variable {ss : List SD} {first : List Int} {trip load : Int}
theorem ok_Need (i k : Int) : FunOK Tryz.prog 14 [boyR ss first trip load, .one (iP i), .one (iP k)] (ansN (whyI (boyB ss first trip load) (inB i 0 (((yOf ss first trip load).S : Int) - 1) && inB k 0 ((((yOf ss first trip load).sd i.toNat).sheep.length : Int) - 1)) (decide (k.toNat < ((yOf ss first trip load).need i.toNat).length)) 4) (((yOf ss first trip load).need i.toNat).getD k.toNat 0)) := by
 cases hv : boyB ss first trip load
 ·generalize ((yOf ss first trip load).need i.toNat).getD k.toNat 0 = n
  rw [show ansN (whyI false (inB i 0 (((yOf ss first trip load).S : Int) - 1) && inB k 0 ((((yOf ss first trip load).sd i.toNat).sheep.length : Int) - 1)) (decide (k.toNat < ((yOf ss first trip load).need i.toNat).length)) 4) n = .tup [.one (iP 0), .one (iP 1)] from rfl]
  refine fun_expA (l := []) (od := _) (nt := 33) (t := 7) (eb := 3) (rs := [.tmp 6, .cell 7 28]) ans41 Tryz.func14 rfl rfl rfl (by simp) rfl rfl rfl ansFid_eq Tryz.func41 rfl (by decide) fun Z w0 => ?_; refine tI ?_
  simp only [boyR, List.map_cons, List.map_nil]
  refine tw ?_
  refine ⟨rfl, ?_⟩
  (refine ts ?_)
  refine tw fun QQ hQQ => ?_
  refine callS_ok rfl rfl 42 qN qN Tryz.func42 rfl (by decide) (CallF.mono (c_open_arg hv Tryz.func43 rfl (by decide) ?_ ?_) fun _ _ h => False.elim h); exact qHN
  exact ⟨1, 0, rfl, qN, qN, qSN⟩
 ·obtain ⟨y, h, hy, rfl, rfl, rfl, rfl⟩ := boy_yOf hv
  rw [hy]
  have hS := fun bb o => s_isN (b := bb) (o := o) h i k
  unfold boyR
  rw [castR]
  cases b1 : (inB i 0 ((y.S : Int) - 1) && inB k 0 (((y.sd i.toNat).sheep.length : Int) - 1))
  ·have hS : ∀ bb o, _ := fun bb o => by have := hS bb o; rw [b1] at this; exact this
   generalize (y.need i.toNat).getD k.toNat 0 = n
   rw [show ansN (whyI true false (decide (k.toNat < (y.need i.toNat).length)) 4) n = .tup [.one (iP 0), .one (iP 2)] from rfl]
   refine fun_expA (l := []) (od := _) (nt := 33) (t := 7) (eb := 3) (rs := [.tmp 6, .cell 7 28]) ans41 Tryz.func14 rfl rfl rfl (by simp) rfl rfl rfl ansFid_eq Tryz.func41 rfl (by decide) fun Z w0 => ?_; refine tI ?_
   refine tw ?_
   refine ⟨rfl, ?_⟩
   (refine ts ?_)
   refine tw fun QQ hQQ => ?_
   refine callS_ok rfl rfl 42 qN qN Tryz.func42 rfl (by decide) (CallF.mono (c_open_ran hv h Tryz.func43 rfl (by decide) ?_ ?_ ?_) fun _ _ h => False.elim h); exact qHN; (exact is_box2 (c := 1) (d := 2) hS (by rfl) (by rfl) (by first | decide | (dsimp only; omega)) (by first | decide | (dsimp only; omega)) (by decide))
   exact ⟨2, 0, rfl, qN, qN, qSN⟩
  ·have hS : ∀ bb o, _ := fun bb o => by have := hS bb o; rw [b1] at this; exact this
   have b2 : inB i 0 ((y.S : Int) - 1) = true ∧ inB k 0 (((y.sd i.toNat).sheep.length : Int) - 1) = true := by simpa using b1
   obtain ⟨c1, c2⟩ := b2
   have hi : 0 ≤ i ∧ i ≤ (y.S : Int) - 1 := by simpa [inB] using c1
   have hk : 0 ≤ k ∧ k ≤ ((y.sd i.toNat).sheep.length : Int) - 1 := by simpa [inB] using c2
   clear b1 c1 c2
   obtain ⟨s, rfl⟩ : ∃ s : Nat, i = s := ⟨i.toNat, by omega⟩
   obtain ⟨j, rfl⟩ : ∃ j : Nat, k = j := ⟨k.toNat, by omega⟩
   rw [Int.toNat_natCast, Int.toNat_natCast]
   have hsS : s < y.S := by omega
   have hg := ndR_get (y := y) hsS
   have hnl := ndR_len y y.S
   have hlen : ((y.need s).map row1).length = (y.need s).length := List.length_map _
   by_cases hj : j < (y.need s).length
   ·have hm := ok_ask 4
    have hgj : ((y.need s).map row1)[j]? = some [iP ((y.need s).getD j 0)] := by rw [List.getElem?_map, get_some1' hj]; rfl
    have hgj2 : (y.need s)[j]? = some ((y.need s).getD j 0) := get_some1' hj
    have hr1 : ∀ x, row1 x = [iP x] := fun _ => rfl
    generalize (y.need s).getD j 0 = n at *
    rw [show ansN (whyI true true (decide (j < (y.need s).length)) 4) n = .tup [.one (iP n), .one (iP 0)] by rw [decide_eq_true hj]; rfl]
    refine fun_expA (l := []) (od := _) (nt := 33) (t := 7) (eb := 3) (rs := [.tmp 6, .cell 7 28]) ans41 Tryz.func14 rfl rfl rfl (by simp) rfl rfl rfl ansFid_eq Tryz.func41 rfl (by decide) fun Z w0 => ?_; refine tI ?_
    refine tw ?_
    refine ⟨rfl, ?_⟩
    (refine ts ?_)
    refine tw fun QQ hQQ => ?_
    refine callS_ok rfl rfl 42 qN qN Tryz.func42 rfl (by decide) (CallF.mono (c_open_ok hv h Tryz.func43 rfl (by decide) ?_ ?_) ?_); exact qHN; (exact is_box2 (c := 1) (d := 2) hS (by rfl) (by rfl) (by first | decide | (dsimp only; omega)) (by first | decide | (dsimp only; omega)) (by decide)); rintro _ _ ⟨bb, rfl, rfl⟩; refine ts ?_; clear hQQ QQ
    unfold YD.cells YD.mapO
    generalize y.need s = nd at *
    generalize y.ndR y.S = ndl at *
    try clear hF
    have hF := And.intro hg (And.intro hnl (And.intro hlen (And.intro hgj (And.intro hgj2 (hr1)))))
    refine twF fun QQ hQQ => ?_
    (refine cDF 46 rfl rfl rfl (hm) Tryz.func46 rfl ?_); refine tdF ?_; clear hQQ QQ
    refine twF ?_
    (refine aw_ret ⟨.inr rfl, qF, qSN⟩)
   ·rw [show ansN (whyI true true (decide (j < (y.need s).length)) 4) ((y.need s).getD j 0) = .tup [.one (iP 0), .one (iP 4)] by rw [decide_eq_false hj]; rfl]
    refine fun_expA (l := []) (od := _) (nt := 33) (t := 7) (eb := 3) (rs := [.tmp 6, .cell 7 28]) ans41 Tryz.func14 rfl rfl rfl (by simp) rfl rfl rfl ansFid_eq Tryz.func41 rfl (by decide) fun Z w0 => ?_; refine tI ?_
    refine tw ?_
    refine ⟨rfl, ?_⟩
    (refine ts ?_)
    refine tw fun QQ hQQ => ?_
    refine callS_ok rfl rfl 42 qN qN Tryz.func42 rfl (by decide) (CallF.mono (c_open_ok hv h Tryz.func43 rfl (by decide) ?_ ?_) ?_); exact qHN; (exact is_box2 (c := 1) (d := 2) hS (by rfl) (by rfl) (by first | decide | (dsimp only; omega)) (by first | decide | (dsimp only; omega)) (by decide)); rintro _ _ ⟨bb, rfl, rfl⟩; refine ts ?_; clear hQQ QQ
    unfold YD.cells YD.mapO
    generalize y.need s = nd at *
    generalize y.ndR y.S = ndl at *
    try clear hF
    have hF := And.intro hg (And.intro hnl (hlen))
    refine twF fun QQ hQQ => ?_
    refine callD_X rfl rfl 46 qF qF Tryz.func46 rfl (by decide) (x_ask 4) ?_ ?_; rotate_left; ((repeat (first | refine evDead_skip (by rfl) ?_ | (refine evDead_step (by rfl) qMF qMF ?_; simp (maxSteps := 400000) (disch := first | decide | omega) only [hF, go_sem, ↓reduceIte]))); (try (show okDraw _ _ = true)); kernel_rfl); intro fr hk
    (have k7 := hk 7 (by rfl); have k6 := hk 6 (by rfl); have k7 := hk 7 (by rfl); simp (disch := first | decide | omega) only [hF, go_sem, ↓reduceIte] at k7 k6; exact ⟨4, 0, rfl, k7, qF, by simp (disch := first | decide | omega) only [k6, k7, resA, res1, go_sem, ↓reduceIte]; try rfl⟩)
end
end Go.Proofs.YthedkfiebmnghaaGreat
