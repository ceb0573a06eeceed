/- Texts of the proof, joined. -/
import Derived.Test.YthedkfiebmnghaaGreatYfA
import Derived.Test.YthedkfiebmnghaaGreatYgA
set_option linter.all false
set_option maxHeartbeats 16000000
set_option maxRecDepth 20000
namespace Go.Proofs.YthedkfiebmnghaaGreat
open Go Go.RowKit Go.Sh Go.Sh.Stand Go.Pv Go.By
section
variable {y : YD}
theorem ok_NeedAt (h : YOK y) {i k : Nat} (hi : i < y.S) (hk : k < (y.sd i).sheep.length) : FunOK Tryz.prog 14 [boyP y, .one (iP (i : Int)), .one (iP (k : Int))] (.tup [.one (iP (if k < (y.need i).length then (y.need i).getD k 0 else 0)), .one (iP (if k < (y.need i).length then 0 else 4))]) := by
 have hN := ok_Need (ss := y.ss) (first := y.F.map fun x : Nat => (x : Int)) (trip := y.T) (load := y.L) (i : Int) (k : Int)
 rw [boyB_y h, yOf_y, Int.toNat_natCast, Int.toNat_natCast] at hN
 have e1 : (inB (i : Int) 0 ((y.S : Int) - 1) && inB (k : Int) 0 (((y.sd i).sheep.length : Int) - 1)) = true := by
  simp only [inB, Bool.and_eq_true, decide_eq_true_eq]; omega
 rw [e1] at hN
 unfold boyR at hN
 rw [castR] at hN
 by_cases hc : k < (y.need i).length
 ·rw [decide_eq_true hc] at hN
  rw [if_pos hc, if_pos hc]
  exact hN
 ·rw [decide_eq_false hc] at hN
  rw [if_neg hc, if_neg hc]
  exact hN
theorem ok_NeedX (h : YOK y) {i k : Int} (hb : (inB i 0 ((y.S : Int) - 1) && inB k 0 (((y.sd i.toNat).sheep.length : Int) - 1)) = false) : FunOK Tryz.prog 14 [boyP y, .one (iP i), .one (iP k)] (.tup [.one (iP 0), .one (iP 2)]) := by
 have hN := ok_Need (ss := y.ss) (first := y.F.map fun x : Nat => (x : Int)) (trip := y.T) (load := y.L) i k
 rw [boyB_y h, yOf_y, hb] at hN
 unfold boyR at hN
 rw [castR] at hN
 exact hN
theorem ok_NeedX1 (h : YOK y) : FunOK Tryz.prog 14 [boyP y, .one (iP (y.S : Int)), .one (iP 0)] (.tup [.one (iP 0), .one (iP 2)]) :=
 ok_NeedX h (by rw [show inB (y.S : Int) 0 ((y.S : Int) - 1) = false by simp [inB]; omega]; rfl)
theorem ok_NeedX2 (h : YOK y) {i : Nat} (hi : i < y.S) : FunOK Tryz.prog 14 [boyP y, .one (iP (i : Int)), .one (iP ((y.sd i).sheep.length : Int))] (.tup [.one (iP 0), .one (iP 2)]) :=
 ok_NeedX h (by rw [Int.toNat_natCast, show inB ((y.sd i).sheep.length : Int) 0 (((y.sd i).sheep.length : Int) - 1) = false by simp [inB]; omega, Bool.and_false])
theorem ok_TripsX (h : YOK y) : FunOK Tryz.prog 16 [boyP y, .one (iP (-1))] (.tup [.one (iP 0), .one (iP 2)]) := by
 have hw := ok_Trips (ss := y.ss) (first := y.F.map fun x : Nat => (x : Int)) (trip := y.T) (load := y.L) (-1)
 rw [boyB_y h, yOf_y, show inB (-1) 0 ((y.ss.length : Int) - 1) = false by simp [inB]] at hw
 unfold boyR at hw
 rw [castR] at hw
 exact hw
theorem ok_WaitsX (h : YOK y) : FunOK Tryz.prog 18 [boyP y, .one (.sl [[iP (y.S : Int)]])] (.tup [.one (iP 0), .one (iP 2)]) := by
 have hw := ok_Waits (ss := y.ss) (first := y.F.map fun x : Nat => (x : Int)) (trip := y.T) (load := y.L) [(y.S : Int)] (by simp)
 have e : whyL true y [(y.S : Int)] true = 2 := by
  unfold whyL
  rw [show ([(y.S : Int)].all fun x => inB x 0 ((y.S : Int) - 1)) = false by simp [inB]; omega]
  rfl
 rw [boyB_y h, yOf_y, e] at hw
 unfold boyR at hw
 rw [castR] at hw
 exact hw
theorem ok_BroughtX (h : YOK y) {p : List Nat} (hl : p.length ≤ 1000) {i : Nat} : FunOK Tryz.prog 20 [boyP y, .one (.sl (p.map rowN)), .one (iP (i : Int)), .one (iP 1000)] (.tup [.one (iP 0), .one (iP 2)]) := by
 have hw := ok_Brought (ss := y.ss) (first := y.F.map fun x : Nat => (x : Int)) (trip := y.T) (load := y.L) (p.map fun x : Nat => (x : Int)) (by rw [List.length_map]; omega) (i : Int) 1000
 have e : whyL true y (p.map fun x : Nat => (x : Int)) (inB (i : Int) 0 ((y.S : Int) - 1) && inB 1000 0 999) = 2 := by
  unfold whyL
  rw [show inB 1000 0 999 = false by decide, Bool.and_false, Bool.and_false]
  rfl
 rw [boyB_y h, yOf_y, e] at hw
 unfold boyR at hw
 rw [castR, castR] at hw
 exact hw
def slowSD (s : SD) : SD := ⟨(s.m0.2, s.m0.2), (s.m1.2, s.m1.2), (s.m2.2, s.m2.2), s.runs, s.sheep, s.looks⟩
def slowY (y : YD) (i : Nat) : YD := ⟨y.ss.set i (slowSD (y.sd i)), y.F, y.T, y.L⟩
theorem slow_ok {s : SD} (h : s.ok = true) : (slowSD s).ok = true := by
 have hm := (ok_fit h).minb
 have h0 := hm s.m0 (by simp [SD.st])
 have h1 := hm s.m1 (by simp [SD.st])
 have h2 := hm s.m2 (by simp [SD.st])
 unfold SD.ok at h ⊢
 simp only [Bool.and_eq_true, decide_eq_true_eq] at h ⊢
 refine ⟨?_, h.2⟩
 have hv := h.1
 unfold validB at hv ⊢
 simp only [Bool.and_eq_true] at hv ⊢
 refine ⟨?_, hv.2⟩
 have e : ∀ m : Int × Int, 1 ≤ m.1 → m.1 ≤ m.2 → m.2 ≤ 40 → minB (m.2, m.2) = true := fun m a b c => by
  simp [minB, spanB]; omega
 simp only [slowSD, SD.st, List.all_cons, List.all_nil, Bool.and_true, Bool.and_eq_true]
 exact ⟨e _ h0.1 h0.2.1 h0.2.2.1, e _ h1.1 h1.2.1 h1.2.2.1, e _ h2.1 h2.2.1 h2.2.2.1⟩
theorem slowY_S (i : Nat) : (slowY y i).S = y.S := List.length_set
theorem slowY_sd {i : Nat} (hi : i < y.S) (j : Nat) : (slowY y i).sd j = if j = i then slowSD (y.sd i) else y.sd j := by
 unfold YD.sd slowY
 rw [List.getD_eq_getElem?_getD, List.getElem?_set]
 by_cases e : i = j
 ·subst e
  rw [if_pos rfl, if_pos rfl, if_pos (by exact hi)]; rfl
 ·rw [if_neg e, if_neg (fun h => e h.symm)]
  exact (List.getD_eq_getElem?_getD ..).symm
theorem slowY_ok (h : YOK y) {i : Nat} (hi : i < y.S) : YOK (slowY y i) := by
 have hS := slowY_S (y := y) i
 refine ⟨by rw [hS]; exact h.n1, by rw [hS]; exact h.n3, by rw [hS]; exact h.fl, h.t1, h.t60, h.l1, h.l5, fun j hj => ?_, fun j hj => h.f16 j (by rw [hS] at hj; exact hj)⟩
 rw [hS] at hj
 rw [slowY_sd hi]
 split
 ·exact slow_ok (h.ok i hi)
 ·exact h.ok j hj
theorem slow_need (h : YOK y) {i : Nat} (hi : i < y.S) {k : Nat} (hk : k < ((slowY y i).need i).length) : k < (y.need i).length ∧ (y.need i).getD k 0 ≤ ((slowY y i).need i).getD k 0 := by
 have hok := h.ok i hi
 have e : (slowY y i).need i = begL (y.sd i).runs (slowSD (y.sd i)).quick (y.sd i).sheep 0 0 := by
  unfold YD.need SD.needL
  rw [slowY_sd hi, if_pos rfl]; rfl
 rw [e] at hk ⊢
 have hm := (ok_fit hok).minb
 have h0 := hm (y.sd i).m0 (by simp [SD.st])
 have h1 := hm (y.sd i).m1 (by simp [SD.st])
 have h2 := hm (y.sd i).m2 (by simp [SD.st])
 have hq : ∀ k, tkN (y.sd i).quick k ≤ tkN (slowSD (y.sd i)).quick k := fun k => by
  have hmem : (slowSD (y.sd i)).quick ∈ allSh (y.sd i).st := by
   rw [mem_sh]
   exact ⟨⟨h0.2.1, Int.le_refl _⟩, ⟨h1.2.1, Int.le_refl _⟩, h2.2.1, Int.le_refl _⟩
  exact (tk_rng hok hmem (k : Int)).2.2
 have hg : (begL (y.sd i).runs (slowSD (y.sd i)).quick (y.sd i).sheep 0 0)[k]? = some ((begL (y.sd i).runs (slowSD (y.sd i)).quick (y.sd i).sheep 0 0).getD k 0) := getD_some hk
 obtain ⟨a, ha, hle⟩ := goL_slow (R := runF (y.sd i).runs) (n := (y.sd i).runs.length) (runs_next hok) (runs_wide hok) (tq := tkN (y.sd i).quick) (ts := tkN (slowSD (y.sd i)).quick) hq (ksN (y.sd i).sheep) 0 0 0 0 (Nat.le_refl _) (Int.le_refl _) k _ hg
 have ha : (y.need i)[k]? = some a := ha
 refine ⟨(List.getElem?_eq_some_iff.1 ha).1, ?_⟩
 rw [List.getD_eq_getElem?_getD, ha]
 exact hle
theorem tripN_rest {n first load : Nat} (hl : 1 ≤ load) : ¬ tripN n first load * load < n - first ∧ (0 < tripN n first load → ¬ (tripN n first load - 1) * load ≥ n - first) := by
 have h1 := tripN_up (n := n) (first := first) hl
 exact ⟨by omega, fun h => by
  have := (tripN_lt (n := n) (first := first) (k := tripN n first load - 1) hl).1 (by omega)
  omega⟩
end
end Go.Proofs.YthedkfiebmnghaaGreat
namespace Go.Proofs.YthedkfiebmnghaaGreat
open Go Go.RowKit Go.Sh Go.Sh.Stand Go.Pv Go.By
theorem conv5n (a : Int) : convA Tryz.prog 5 3 (.int .u8 a) = some (.int .i64 (IntKind.i64.wrap a)) := conv_int (d := .int .u8) (by kernel_rfl) (by kernel_rfl) .u8 a
abbrev QT6 : Exit → St → Prop := fun e st => (e = .normal ∨ e = .ret) ∧ resA Tryz.prog st [.tmp 6] = some (.one (.one (.v (.bool true))))
theorem set_getD {α : Type} {l : List α} {i : Nat} {d : α} (h : i < l.length) : l.set i (l.getD i d) = l := by
 rw [List.getD_eq_getElem?_getD, List.getElem?_eq_getElem h]
 exact List.set_getElem_self h
def slowN (s : SD) (n : Nat) : SD := ⟨if 0 < n then (s.m0.2, s.m0.2) else s.m0, if 1 < n then (s.m1.2, s.m1.2) else s.m1, if 2 < n then (s.m2.2, s.m2.2) else s.m2, s.runs, s.sheep, s.looks⟩
theorem slowN_row {s : SD} {n : Nat} (hn : n < 3) : List.take (n * 2) (SD.row (slowN s n)) ++ [iP (mnS s n).2, iP (mnS s n).2] ++ List.drop (n * 2 + 2) (SD.row (slowN s n)) = SD.row (slowN s (n + 1)) := by
 rcases (show n = 0 ∨ n = 1 ∨ n = 2 by omega) with rfl | rfl | rfl <;> rfl
theorem row_len (s : SD) : (SD.row s).length = 9 := rfl
def rowsN (y : YD) (i n : Nat) : List (List PV) := if n = 0 then y.ss.map SD.row else (y.ss.set i (slowN (y.sd i) n)).map SD.row
theorem rowsN_eq {y : YD} {i : Nat} (hi : i < y.S) (n : Nat) : rowsN y i n = (y.ss.map SD.row).set i (SD.row (slowN (y.sd i) n)) := by
 unfold rowsN
 split
 ·rename_i h0
  subst h0
  have : slowN (y.sd i) 0 = y.sd i := rfl
  rw [this, ← List.map_set]
  congr 1
  exact (set_getD (by exact hi)).symm
 ·exact List.map_set
theorem rowsN_len {y : YD} {i : Nat} (hi : i < y.S) (n : Nat) : (rowsN y i n).length = y.S := by rw [rowsN_eq hi, List.length_set, List.length_map]; rfl
theorem rowsN_get {y : YD} {i : Nat} (hi : i < y.S) (n : Nat) : (rowsN y i n)[i]? = some (SD.row (slowN (y.sd i) n)) := by
 rw [rowsN_eq hi, List.getElem?_set_self (by rw [List.length_map]; exact hi)]
theorem rowsN_set {y : YD} {i : Nat} (hi : i < y.S) (n : Nat) : (rowsN y i n).set i (SD.row (slowN (y.sd i) (n + 1))) = rowsN y i (n + 1) := by
 rw [rowsN_eq hi, rowsN_eq hi, List.set_set]
theorem rowsN_3 {y : YD} {i : Nat} : rowsN y i 3 = (slowY y i).ss.map SD.row := rfl
section
variable {y : YD}
attribute [local go_sem] conv5n bin_rem eql4 neq4 bne_tf bne_ft beq_tf beq_ft
theorem needs_tail (h : YOK y) {i o : Nat} (hi : i < y.S) (ho : o ≤ 255) (hn0 : (y.sd i).sheep.length = 0 → y.n i = 0) (Z : Zn) (w0 : World) :
  AW ⟨Tryz.prog, Z, w0, fun _ => False, 319, none, noPan, none, [], true⟩ (rgtN 16 (fnCode Tryz.f6)) QT6 ⟨[(2, .one (.p (.v (.int .u8 (o : Int))))), (3, .one (.box 0 0)), (12, .one (.p (iP (i : Int)))), (13, .one (.box 1 0)), (31, .one (.p (iP (y.n i : Int))))], [(0, .box [.p (.sl (y.ss.map SD.row)), .p (.sl (y.F.map rowN)), .p (iP (y.T : Int)), .p (iP (y.L : Int))]), (1, .box [.p (iP (y.sd i).m0.1), .p (iP (y.sd i).m0.2), .p (iP (y.sd i).m1.1), .p (iP (y.sd i).m1.2), .p (iP (y.sd i).m2.1), .p (iP (y.sd i).m2.2), .p (.sl ((y.sd i).runs.map row2)), .p (.sl ((y.sd i).sheep.map row1)), .p (.sl ((y.sd i).looks.map row3))])], 2⟩ := by
 have haw := ok_awake
 have hSl : (y.ss.map SD.row).length = y.S := List.length_map _
 have hS3 := h.n3
 have hsl : ((y.sd i).sheep.map row1).length = (y.sd i).sheep.length := List.length_map _
 have hs16 := sheep_16 (h.ok i hi)
 conv => arg 2; whnf
 try simp only [List.append_eq, List.cons_append, List.nil_append]
 by_cases hs0 : (y.sd i).sheep.length = 0
 ·have hni := hn0 hs0
  rw [hni]
  have e0 : (((y.sd i).sheep.length : Int) == 0) = true := by simp [hs0]
  try clear hF
  have hF := And.intro hsl (e0)
  refine twF ?_; try with_reducible intro QQ hQQ
  refine tiF ?_; try clear hQQ QQ
  refine twF ?_; try with_reducible intro QQ hQQ
  ((refine cOF 13 rfl rfl rfl (haw) Tryz.func13 rfl ?_); refine tuF ?_; try clear hQQ QQ); refine twF ?_; try with_reducible intro QQ hQQ
  refine aw_ret ?_; refine ⟨.inr rfl, ?_⟩; simp only [resA, res1, go_sem, ↓reduceIte]
 ·have e0 : (((y.sd i).sheep.length : Int) == 0) = false := by rw [beq_eq_false_iff_ne]; omega
  have hk9 := rowsK_SD y.ss
  have hkb : y.S * 72 ≤ 140737488355328 := by omega
  try clear hF
  have hF := And.intro hsl (And.intro e0 (And.intro hSl (And.intro hk9 (hkb))))
  refine twF ?_; try with_reducible intro QQ hQQ
  refine tiF ?_; try clear hQQ QQ
  refine twF ?_; try with_reducible intro QQ hQQ
  rw [show (!([] : List (List PV)).isEmpty) = false from rfl]
  rw [show List.map SD.row y.ss = rowsN y i 0 from rfl]
  refine aw_weak (weak_restrict [2, 3, 12, 13, 34, 267, 268] [3, 2, 1, 0] 4 (by simp only [go_sem, ↓reduceIte]; rfl)) ?_
  refine aw_loop_ov (ι := { n : Nat // n ≤ 3 }) (fun n => [(268, iA n.1)]) (fun n => [(3, .arr 50 9 (rowsN y i n.1) false)]) (fun n => 3 - n.1) ⟨0, by omega⟩ (by first | rfl | (simp only [go_sem, ↓reduceIte]; first | done | rfl | (simp; try rfl))) ?_
  rintro ⟨n, hn⟩
  refine tO ?_
  by_cases hn3 : n < 3
  ·have hmc := mn_cells (s := y.sd i) hn3
   have hrl := rowsN_len hi n
   have hrg := rowsN_get hi n
   have hrs := rowsN_set hi n
   have hrw := slowN_row (s := y.sd i) hn3
   have hr9 := row_len (slowN (y.sd i) n)
   have hsp := ok_span34 (mnS (y.sd i) n).2 (mnS (y.sd i) n).2
   generalize (mnS (y.sd i) n).1 = lo at *
   generalize (mnS (y.sd i) n).2 = hh at *
   try clear hF
   have hF := And.intro hmc (And.intro hrl (And.intro hrg (And.intro hrs (And.intro hrw (hr9)))))
   refine twF ?_; try with_reducible intro QQ hQQ
   refine tiF ?_; try clear hQQ QQ
   refine twF ?_; try with_reducible intro QQ hQQ
   (refine cDF 34 rfl rfl rfl (hsp) Tryz.func34 rfl ?_); refine tdF ?_; try clear hQQ QQ
   refine twF ?_; try with_reducible intro QQ hQQ
   refine ⟨⟨n + 1, by omega⟩, ?_, weak_round ?_ (by first | rfl | (simp only [hF, go_sem, ↓reduceIte]))⟩
   rotate_left
   ·(simp only [hF, go_sem, ↓reduceIte]; try rfl)
   ·simp only; omega
  ·have hne : n = 3 := by omega
   subst hne
   rw [rowsN_3, show rowsN y i 0 = y.ss.map SD.row from rfl]
   obtain ⟨kk, hke⟩ : ∃ kk, o % (y.sd i).sheep.length = kk := ⟨_, rfl⟩
   have hkk : kk < (y.sd i).sheep.length := by rw [← hke]; exact Nat.mod_lt _ (by omega)
   have hk1 : ((o : Nat) : Int).tmod (((y.sd i).sheep.length : Nat) : Int) = (kk : Int) := by rw [← hke]; exact (Int.ofNat_tmod _ _).symm
   have hNa := ok_NeedAt h hi hkk
   have hsd : ((slowY y i).sd i).sheep.length = (y.sd i).sheep.length := by rw [slowY_sd hi, if_pos rfl]; rfl
   have hNb := ok_NeedAt (slowY_ok h hi) (i := i) (k := kk) (by rw [slowY_S]; exact hi) (by rw [hsd]; exact hkk)
   have hsn := slow_need h hi (k := kk)
   have hyb : boyP (slowY y i) = .agg [.sl ((slowY y i).ss.map SD.row), .sl (y.F.map rowN), iP (y.T : Int), iP (y.L : Int)] := rfl
   rw [hyb] at hNb
   have htk : List.take y.S ((slowY y i).ss.map SD.row) = (slowY y i).ss.map SD.row := List.take_of_length_le (by rw [List.length_map]; exact Nat.le_of_eq (slowY_S i))
   generalize (slowY y i).ss.map SD.row = R' at *
   refine aw_weak (weak_share 3 (E := 50) (k := 9) (rows := R') (sh := _) qN) ?_
   refine aw_weak (weak_dataB 2 0 qN qN qN) ?_
   rw [htk]
   dsimp only [AL.set, List.set, Nat.reduceEqDiff, ↓reduceIte]
   by_cases hc : kk < ((slowY y i).need i).length
   ·obtain ⟨c1, c2⟩ := hsn hc
    rw [if_pos hc, if_pos hc] at hNb
    rw [if_pos c1, if_pos c1] at hNa
    generalize (y.need i).getD kk 0 = a at *
    generalize ((slowY y i).need i).getD kk 0 = c at *
    try clear hF
    have hF := And.intro hsl (hk1)
    refine twF ?_; try with_reducible intro QQ hQQ
    refine tiF ?_; try clear hQQ QQ
    refine twF ?_; try with_reducible intro QQ hQQ
    ((refine cOF 14 rfl rfl rfl (hNa) Tryz.func14 rfl ?_); refine tuF ?_; try clear hQQ QQ); refine twF ?_; try with_reducible intro QQ hQQ
    ((refine cOF 14 rfl rfl rfl (hNb) Tryz.func14 rfl ?_); refine tuF ?_; try clear hQQ QQ); refine twF ?_; try with_reducible intro QQ hQQ
    ((refine cOF 13 rfl rfl rfl (haw) Tryz.func13 rfl ?_); refine tuF ?_; try clear hQQ QQ); refine twF ?_; try with_reducible intro QQ hQQ
    refine aw_ret ?_; refine ⟨.inr rfl, ?_⟩; simp only [resA, res1, go_sem, ↓reduceIte]
   ·rw [if_neg hc, if_neg hc] at hNb
    generalize (if kk < (y.need i).length then (y.need i).getD kk 0 else 0) = a at *
    generalize (if kk < (y.need i).length then (0 : Int) else 4) = e at *
    try clear hF
    have hF := And.intro hsl (hk1)
    refine twF ?_; try with_reducible intro QQ hQQ
    refine tiF ?_; try clear hQQ QQ
    refine twF ?_; try with_reducible intro QQ hQQ
    ((refine cOF 14 rfl rfl rfl (hNa) Tryz.func14 rfl ?_); refine tuF ?_; try clear hQQ QQ); refine twF ?_; try with_reducible intro QQ hQQ
    ((refine cOF 14 rfl rfl rfl (hNb) Tryz.func14 rfl ?_); refine tuF ?_; try clear hQQ QQ); refine twF ?_; try with_reducible intro QQ hQQ
    ((refine cOF 13 rfl rfl rfl (haw) Tryz.func13 rfl ?_); refine tuF ?_; try clear hQQ QQ); refine twF ?_; try with_reducible intro QQ hQQ
    refine aw_ret ?_; refine ⟨.inr rfl, ?_⟩; simp only [resA, res1, go_sem, ↓reduceIte]
end
end Go.Proofs.YthedkfiebmnghaaGreat
namespace Go.Proofs.YthedkfiebmnghaaGreat
open Go Go.RowKit Go.Sh Go.Sh.Stand Go.Pv Go.By
section
variable {ss : List SD} {first : List Int} {trip load : Int}
attribute [local go_sem] conv5n bin_rem eql4 neq4 bne_tf bne_ft beq_tf beq_ft
theorem ok_BoyNeeds {w o : Nat} (hw : w ≤ 255) (ho : o ≤ 255) : FunOK Tryz.prog 6 [boyR ss first trip load, .one (.v (.int .u8 (w : Int))), .one (.v (.int .u8 (o : Int)))] (.one (.one (.v (.bool true)))) := by
 refine fun_len fun hl => fun_len2 fun hl2 => ?_
 rw [List.length_map] at hl hl2
 have h1 := ok_far (ss := ss) (first := first) (trip := trip) (load := load) [] hl hl2 (by simp)
 rw [List.length_nil] at h1
 have h2 := ok_BoyR (ss := ss) (first := first) (trip := trip) (load := load)
 have haw := ok_awake
 cases e1 : farB ss first 0
 rotate_left
 ·rw [e1] at h1
  unfold boyR at h1
  refine fun_ok (nt := 319) (rs := [.tmp 6]) Tryz.func6 rfl rfl rfl (by simp) fun Z w0 => ?_; refine tI ?_
  refine tw ?_; try with_reducible intro QQ hQQ
  ((refine cO 12 rfl rfl rfl (h1) Tryz.func12 rfl ?_); refine tu ?_; try clear hQQ QQ); refine tw ?_; try with_reducible intro QQ hQQ
  refine ti ?_; try clear hQQ QQ
  refine tw ?_; try with_reducible intro QQ hQQ
  ((refine cO 13 rfl rfl rfl (haw) Tryz.func13 rfl ?_); refine tu ?_; try clear hQQ QQ); refine tw ?_; try with_reducible intro QQ hQQ
  refine aw_ret ?_; refine ⟨.inr rfl, ?_⟩; simp only [resA, res1, go_sem, ↓reduceIte]
 ·have hs : ∀ s ∈ ss, bigS s = false := by
   unfold farB at e1
   rw [Bool.or_eq_false_iff] at e1
   exact fun s hs => by simpa using List.any_eq_false.1 e1.1 s hs
  have h2 := h2 hs
  rw [e1] at h1
  clear e1 hs hl hl2
  cases hv : boyB ss first trip load
  ·rw [hv] at h2
   have hT := ok_Trips (ss := ss) (first := first) (trip := trip) (load := load) 0
   have hB := ok_Best (ss := ss) (first := first) (trip := trip) (load := load)
   rw [hv] at hT hB
   generalize (yOf ss first trip load).n (0 : Int).toNat = q1 at *
   generalize bestY (yOf ss first trip load) = q2 at *
   generalize waitsS (yOf ss first trip load).D ((yOf ss first trip load).T : Int) (soonY (yOf ss first trip load)) = q3 at *
   have hT : FunOK Tryz.prog 16 [boyR ss first trip load, .one (iP 0)] (.tup [.one (iP 0), .one (iP 1)]) := hT
   have hB : FunOK Tryz.prog 23 [boyR ss first trip load] (.tup [.one (.sl []), .one (iP 0), .one (iP 1)]) := hB
   unfold boyR at h1 h2 hT hB
   refine fun_ok (nt := 319) (rs := [.tmp 6]) Tryz.func6 rfl rfl rfl (by simp) fun Z w0 => ?_; refine tI ?_
   refine tw ?_; try with_reducible intro QQ hQQ
   ((refine cO 12 rfl rfl rfl (h1) Tryz.func12 rfl ?_); refine tu ?_; try clear hQQ QQ); refine tw ?_; try with_reducible intro QQ hQQ
   refine ti ?_; try clear hQQ QQ
   refine tw ?_; try with_reducible intro QQ hQQ
   ((refine cO 32 rfl rfl rfl (h2) Tryz.func32 rfl ?_); refine tu ?_; try clear hQQ QQ); refine tw ?_; try with_reducible intro QQ hQQ
   refine ti ?_; try clear hQQ QQ
   refine tw ?_; try with_reducible intro QQ hQQ
   ((refine cO 16 rfl rfl rfl (hT) Tryz.func16 rfl ?_); refine tu ?_; try clear hQQ QQ); refine tw ?_; try with_reducible intro QQ hQQ
   ((refine cB 23 rfl rfl rfl (hB) Tryz.func23 rfl ?_); refine tu ?_; try clear hQQ QQ); refine tw ?_; try with_reducible intro QQ hQQ
   ((refine cO 13 rfl rfl rfl (haw) Tryz.func13 rfl ?_); refine tu ?_; try clear hQQ QQ); refine tw ?_; try with_reducible intro QQ hQQ
   refine aw_ret ?_; refine ⟨.inr rfl, ?_⟩; simp only [resA, res1, go_sem, ↓reduceIte]
  ·rw [hv] at h2
   obtain ⟨y, h, hy, rfl, rfl, rfl, rfl⟩ := boy_yOf hv
   clear hv hy
   have hS1 := h.n1
   obtain ⟨i, hie⟩ : ∃ i, w % y.S = i := ⟨_, rfl⟩
   have hi : i < y.S := by rw [← hie]; exact Nat.mod_lt _ (by omega)
   have hi1 : ((w : Nat) : Int).tmod ((y.S : Nat) : Int) = (i : Int) := by rw [← hie]; exact (Int.ofNat_tmod _ _).symm
   clear hie
   have hok := h.ok i hi
   have hN1 := ok_NeedX1 h
   have hN2 := ok_NeedX2 h hi
   have hT1 := ok_TripsX h
   have hW1 := ok_WaitsX h
   have hmk := ok_made h [] (by simp) (by simp)
   have hM := madeY_plan y []
   have hB1 := ok_BroughtX h (p := madeY y []) (by have := plan_len h hM; omega) (i := i)
   generalize madeY y [] = M at *
   rw [show ([] : List Nat).map row16 = [] from rfl] at hmk
   have hNa := fun k (hk : k < (y.sd i).sheep.length) => ok_NeedAt h hi hk
   have hDo := fun k (hk : k < (y.sd i).sheep.length) => ok_doneS hok hk
   have hTi := ok_TripsY h hi
   have hnl : (y.need i).length ≤ (y.sd i).sheep.length := Go.By.need_len
   have hs16 := sheep_16 hok
   have hSl : (y.ss.map SD.row).length = y.S := List.length_map _
   have hSl2 : y.ss.length = y.S := rfl
   have hFl : y.F.length = y.S := h.fl
   have hss := sd_mem hi
   have hgF : y.F[i]? = some (y.f i) := getD_some (by rw [h.fl]; exact hi)
   have hrow : ∀ x, rowN x = [iP (x : Int)] := fun _ => rfl
   have hS3 := h.n3
   have hsl : ((y.sd i).sheep.map row1).length = (y.sd i).sheep.length := List.length_map _
   have hrw : SD.row (y.sd i) = [iP (y.sd i).m0.1, iP (y.sd i).m0.2, iP (y.sd i).m1.1, iP (y.sd i).m1.2, iP (y.sd i).m2.1, iP (y.sd i).m2.2, .sl ((y.sd i).runs.map row2), .sl ((y.sd i).sheep.map row1), .sl ((y.sd i).looks.map row3)] := rfl
   unfold boyR at h1 h2
   rw [castR] at h1 h2 ⊢
   refine fun_ok (nt := 319) (rs := [.tmp 6]) Tryz.func6 rfl rfl rfl (by simp) fun Z w0 => ?_; refine tI ?_
   try clear hF
   have hF := And.intro hSl (And.intro hSl2 (And.intro hi1 (And.intro hss (And.intro hrw (hsl)))))
   refine twF ?_; try with_reducible intro QQ hQQ
   ((refine cOF 12 rfl rfl rfl (h1) Tryz.func12 rfl ?_); refine tuF ?_; try clear hQQ QQ); refine twF ?_; try with_reducible intro QQ hQQ
   refine tiF ?_; try clear hQQ QQ
   refine twF ?_; try with_reducible intro QQ hQQ
   ((refine cOF 32 rfl rfl rfl (h2) Tryz.func32 rfl ?_); refine tuF ?_; try clear hQQ QQ); refine twF ?_; try with_reducible intro QQ hQQ
   refine tiF ?_; try clear hQQ QQ
   refine twF ?_; try with_reducible intro QQ hQQ
   ((refine cOF 14 rfl rfl rfl (hN1) Tryz.func14 rfl ?_); refine tuF ?_; try clear hQQ QQ); refine twF ?_; try with_reducible intro QQ hQQ
   ((refine cOF 14 rfl rfl rfl (hN2) Tryz.func14 rfl ?_); refine tuF ?_; try clear hQQ QQ); refine twF ?_; try with_reducible intro QQ hQQ
   ((refine cOF 16 rfl rfl rfl (hT1) Tryz.func16 rfl ?_); refine tuF ?_; try clear hQQ QQ); refine twF ?_; try with_reducible intro QQ hQQ
   ((refine cOF 18 rfl rfl rfl (hW1) Tryz.func18 rfl ?_); refine tuF ?_; try clear hQQ QQ); refine twF ?_; try with_reducible intro QQ hQQ
   ((refine cGF 31 rfl rfl rfl (hmk) Tryz.func31 rfl ?_); refine tvF ?_; try clear hQQ QQ); refine twF ?_; try with_reducible intro QQ hQQ
   (refine cDF 20 rfl rfl rfl (hB1) Tryz.func20 rfl ?_); refine tdF ?_; try clear hQQ QQ
   refine twF ?_; try with_reducible intro QQ hQQ
   refine tiF ?_; try clear hQQ QQ
   refine twF ?_; try with_reducible intro QQ hQQ
   clear h1 h2 hN1 hN2 hT1 hW1 hmk hB1 hM
   refine aw_weak (weak_restrict [2, 3, 12, 13, 24, 151, 152, 153] [1, 0] 2 (by simp only [go_sem, ↓reduceIte]; rfl)) ?_
   obtain ⟨nl, hnle⟩ : ∃ nl, (y.need i).length = nl := ⟨_, rfl⟩
   rw [hnle] at hnl
   refine aw_loop_ov (ι := { k : Nat // k ≤ (y.sd i).sheep.length }) (fun k => [(24, iA ((min k.1 nl : Nat) : Int)), (153, iA k.1)]) (fun _ => []) (fun k => (y.sd i).sheep.length - k.1) ⟨0, Nat.zero_le _⟩ (by first | rfl | (simp only [go_sem, ↓reduceIte]; first | done | rfl | (simp; try rfl))) ?_
   rintro ⟨k, hk⟩
   refine tO ?_
   by_cases hks : k < (y.sd i).sheep.length
   ·have hgs : (y.sd i).sheep[k]? = some ((y.sd i).sheep.getD k 0) := get_some1' hks
    have hx := kinds_ok hok _ (mem_of_getD (d := 0) hks)
    have htq := tk_rng hok (quick_mem hok) ((y.sd i).sheep.getD k 0)
    have hNk := hNa k hks
    obtain ⟨hh, hDk⟩ := hDo k hks
    have hdq : (y.sd i).doneQ k = if k < nl then (y.need i).getD k 0 + tk (y.sd i).quick ((y.sd i).sheep.getD k 0) else 1000 := by rw [← hnle]; rfl
    rw [hrw] at hDk
    have hr1 : ∀ z, row1 z = [iP z] := fun _ => rfl
    have hkc : ∀ x : Nat, x ≤ 2 → List.drop (x * 2) [AC.p (iP (y.sd i).m0.1), .p (iP (y.sd i).m0.2), .p (iP (y.sd i).m1.1), .p (iP (y.sd i).m1.2), .p (iP (y.sd i).m2.1), .p (iP (y.sd i).m2.2), .p (.sl ((y.sd i).runs.map row2)), .p (.sl ((y.sd i).sheep.map row1)), .p (.sl ((y.sd i).looks.map row3))] = .p (iP (tk (y.sd i).quick (x : Int))) :: List.drop (x * 2 + 1) [AC.p (iP (y.sd i).m0.1), .p (iP (y.sd i).m0.2), .p (iP (y.sd i).m1.1), .p (iP (y.sd i).m1.2), .p (iP (y.sd i).m2.1), .p (iP (y.sd i).m2.2), .p (.sl ((y.sd i).runs.map row2)), .p (.sl ((y.sd i).sheep.map row1)), .p (.sl ((y.sd i).looks.map row3))] := fun x hx => by
     rcases (show x = 0 ∨ x = 1 ∨ x = 2 by omega) with rfl | rfl | rfl <;> rfl
    rw [hnle] at hNk
    rw [hdq] at hDk
    clear hdq
    generalize (y.sd i).sheep.getD k 0 = x at *
    obtain ⟨xn, rfl⟩ := Int.eq_ofNat_of_zero_le hx.1
    have hkx := hkc xn (by omega)
    by_cases hkn : k < nl
    ·have hnr := need_lt hok _ (mem_of_getD (l := y.need i) (i := k) (d := 0) (by rw [hnle]; exact hkn))
     have hng := need_ge hok _ (mem_of_getD (l := y.need i) (i := k) (d := 0) (by rw [hnle]; exact hkn))
     rw [if_pos hkn, if_pos hkn] at hNk
     rw [if_pos hkn] at hDk
     generalize (y.need i).getD k 0 = nd at *
     generalize tk (y.sd i).quick (xn : Int) = tv at *
     have hm1 : min k nl = k := by omega
     have hm2 : min (k + 1) nl = k + 1 := by omega
     rw [hm1]
     obtain ⟨dq, hdqe⟩ : ∃ dq, nd + tv = dq := ⟨_, rfl⟩
     rw [hdqe] at hDk
     have hsub : dq - tv = nd := by omega
     try clear hF
     have hF := And.intro hgs (And.intro hr1 (And.intro hsl (And.intro hkx (hsub))))
     refine twF ?_; try with_reducible intro QQ hQQ
     refine tiF ?_; try clear hQQ QQ
     refine twF ?_; try with_reducible intro QQ hQQ
     ((refine cOF 33 rfl rfl rfl (hDk) Tryz.func33 rfl ?_); refine tuF ?_; try clear hQQ QQ); refine twF ?_; try with_reducible intro QQ hQQ
     ((refine cOF 14 rfl rfl rfl (hNk) Tryz.func14 rfl ?_); refine tuF ?_; try clear hQQ QQ); refine twF ?_; try with_reducible intro QQ hQQ
     refine tiF ?_; try clear hQQ QQ
     refine twF ?_; try with_reducible intro QQ hQQ
     refine tiF ?_; try clear hQQ QQ
     refine twF ?_; try with_reducible intro QQ hQQ
     refine ⟨⟨k + 1, by omega⟩, ?_, weak_round ?_ (by first | rfl | (simp only [hF, go_sem, ↓reduceIte]))⟩
     rotate_left
     ·simp only [hm2]
      (simp only [hF, go_sem, ↓reduceIte]; try rfl)
     ·simp only; omega
    ·rw [if_neg hkn, if_neg hkn] at hNk
     rw [if_neg hkn] at hDk
     generalize tk (y.sd i).quick (xn : Int) = tv at *
     have hm1 : min k nl = nl := by omega
     have hm2 : min (k + 1) nl = nl := by omega
     rw [hm1]
     try clear hF
     have hF := And.intro hgs (And.intro hr1 (And.intro hsl (hkx)))
     refine twF ?_; try with_reducible intro QQ hQQ
     refine tiF ?_; try clear hQQ QQ
     refine twF ?_; try with_reducible intro QQ hQQ
     ((refine cOF 33 rfl rfl rfl (hDk) Tryz.func33 rfl ?_); refine tuF ?_; try clear hQQ QQ); refine twF ?_; try with_reducible intro QQ hQQ
     ((refine cOF 14 rfl rfl rfl (hNk) Tryz.func14 rfl ?_); refine tuF ?_; try clear hQQ QQ); refine twF ?_; try with_reducible intro QQ hQQ
     refine tiF ?_; try clear hQQ QQ
     refine twF ?_; try with_reducible intro QQ hQQ
     refine tiF ?_; try clear hQQ QQ
     refine twF ?_; try with_reducible intro QQ hQQ
     refine ⟨⟨k + 1, by omega⟩, ?_, weak_round ?_ (by first | rfl | (simp only [hF, go_sem, ↓reduceIte]))⟩
     rotate_left
     ·simp only [hm2]
      (simp only [hF, go_sem, ↓reduceIte]; try rfl)
     ·simp only; omega
   ·have hke : k = (y.sd i).sheep.length := by omega
    subst hke
    rw [show min (y.sd i).sheep.length nl = nl by omega]
    have hn : y.n i = tripN nl (y.f i) y.L := by rw [← hnle]; rfl
    obtain ⟨tr1, tr2⟩ := tripN_rest (n := nl) (first := y.f i) h.l1
    rw [← hn] at tr1 tr2
    have hn16 := n_16 h hi
    have hf16 := h.f16 i hi
    have hL5 := h.l5
    have hn0 : (y.sd i).sheep.length = 0 → y.n i = 0 := fun h0 => by
     have := tr2
     by_cases hz : y.n i = 0
     ·exact hz
     ·have := this (by omega); omega
    have hm : y.n i * y.L ≤ 16 * 5 := Nat.mul_le_mul hn16 h.l5
    have hmn : ((y.n i : Nat) : Int) * (y.L : Int) = ((y.n i * y.L : Nat) : Int) := by push_cast; rfl
    have hmx : (if (nl : Int) - (y.f i : Int) > 0 then (nl : Int) - (y.f i : Int) else 0) = ((nl - y.f i : Nat) : Int) := by split <;> omega
    have htl := needs_tail h hi ho hn0
    by_cases hz : y.n i = 0
    ·rw [hz] at hmn tr1 hTi hm htl
     rw [Nat.zero_mul] at tr1
     have hr0 : nl - y.f i = 0 := by omega
     rw [hr0] at hmx
     have hmn0 : (0 : Int) * (y.L : Int) = 0 := Int.zero_mul _
     try clear hF
     have hF := And.intro hSl (And.intro hSl2 (And.intro hFl (And.intro hgF (And.intro hrow (And.intro hsl (And.intro hmx (hmn0)))))))
     refine twF ?_; try with_reducible intro QQ hQQ
     refine tiF ?_; try clear hQQ QQ
     refine twF ?_; try with_reducible intro QQ hQQ
     ((refine cOF 16 rfl rfl rfl (hTi) Tryz.func16 rfl ?_); refine tuF ?_; try clear hQQ QQ); refine twF ?_; try with_reducible intro QQ hQQ
     refine tiF ?_; try clear hQQ QQ
     (refine aw_skip ?_); (repeat with_reducible first | apply then_n | apply block_n | apply then_x | apply then_r | apply nog_n | apply nog_r | apply block_r | apply block_e (by decide) | apply block_x (by decide))
     refine aw_weak (weak_round (T := ⟨[(2, .one (.p (.v (.int .u8 (o : Int))))), (3, .one (.box 0 0)), (12, .one (.p (iP (i : Int)))), (13, .one (.box 1 0)), (31, .one (.p (iP ((0 : Nat) : Int))))], [(0, .box [.p (.sl (y.ss.map SD.row)), .p (.sl (y.F.map rowN)), .p (iP (y.T : Int)), .p (iP (y.L : Int))]), (1, .box [.p (iP (y.sd i).m0.1), .p (iP (y.sd i).m0.2), .p (iP (y.sd i).m1.1), .p (iP (y.sd i).m1.2), .p (iP (y.sd i).m2.1), .p (iP (y.sd i).m2.2), .p (.sl ((y.sd i).runs.map row2)), .p (.sl ((y.sd i).sheep.map row1)), .p (.sl ((y.sd i).looks.map row3))])], 2⟩) (by simp only [go_sem, ↓reduceIte]; try rfl) (by first | rfl | (simp only [go_sem, ↓reduceIte]))) ?_
     exact htl _ _
    ·obtain ⟨n1, hn1⟩ : ∃ n1, y.n i = n1 + 1 := ⟨y.n i - 1, by omega⟩
     have tr2 := tr2 (by omega)
     rw [hn1] at hmn tr1 tr2 hTi hm htl
     rw [Nat.add_sub_cancel] at tr2
     have hmn2 : ((n1 : Nat) : Int) * (y.L : Int) = ((n1 * y.L : Nat) : Int) := by push_cast; rfl
     have hmn3 : ((n1 + 1 : Nat) : Int) - 1 = (n1 : Int) := by omega
     generalize hq1 : (n1 + 1) * y.L = q1 at *
     generalize hq2 : n1 * y.L = q2 at *
     try clear hF
     have hF := And.intro hSl (And.intro hSl2 (And.intro hFl (And.intro hgF (And.intro hrow (And.intro hsl (And.intro hmn (And.intro hmx (And.intro hmn2 (hmn3)))))))))
     refine twF ?_; try with_reducible intro QQ hQQ
     refine tiF ?_; try clear hQQ QQ
     refine twF ?_; try with_reducible intro QQ hQQ
     ((refine cOF 16 rfl rfl rfl (hTi) Tryz.func16 rfl ?_); refine tuF ?_; try clear hQQ QQ); refine twF ?_; try with_reducible intro QQ hQQ
     refine tiF ?_; try clear hQQ QQ
     (refine aw_skip ?_); (repeat with_reducible first | apply then_n | apply block_n | apply then_x | apply then_r | apply nog_n | apply nog_r | apply block_r | apply block_e (by decide) | apply block_x (by decide))
     refine aw_weak (weak_round (T := ⟨[(2, .one (.p (.v (.int .u8 (o : Int))))), (3, .one (.box 0 0)), (12, .one (.p (iP (i : Int)))), (13, .one (.box 1 0)), (31, .one (.p (iP ((n1 + 1 : Nat) : Int))))], [(0, .box [.p (.sl (y.ss.map SD.row)), .p (.sl (y.F.map rowN)), .p (iP (y.T : Int)), .p (iP (y.L : Int))]), (1, .box [.p (iP (y.sd i).m0.1), .p (iP (y.sd i).m0.2), .p (iP (y.sd i).m1.1), .p (iP (y.sd i).m1.2), .p (iP (y.sd i).m2.1), .p (iP (y.sd i).m2.2), .p (.sl ((y.sd i).runs.map row2)), .p (.sl ((y.sd i).sheep.map row1)), .p (.sl ((y.sd i).looks.map row3))])], 2⟩) (by simp only [go_sem, ↓reduceIte]; try rfl) (by first | rfl | (simp only [go_sem, ↓reduceIte]))) ?_
     exact htl _ _
end
end Go.Proofs.YthedkfiebmnghaaGreat
namespace Go.Proofs.YthedkfiebmnghaaGreat
open Go Go.RowKit Go.Sh Go.Sh.Stand Go.Pv Go.By
theorem ok_BoyNeedsI {ss : List SD} {first : List Int} {trip load : Int} {w o : Int} (hw : 0 ≤ w ∧ w ≤ 255) (ho : 0 ≤ o ∧ o ≤ 255) : FunOK Tryz.prog 6 [boyR ss first trip load, .one (.v (.int .u8 w)), .one (.v (.int .u8 o))] (.one (.one (.v (.bool true)))) := by
 obtain ⟨w, rfl⟩ := Int.eq_ofNat_of_zero_le hw.1
 obtain ⟨o, rfl⟩ := Int.eq_ofNat_of_zero_le ho.1
 exact ok_BoyNeeds (by omega) (by omega)
end Go.Proofs.YthedkfiebmnghaaGreat
