/- Texts of the proof, joined. -/
import Derived.Test.YthedkfiebmnghaaGreatKye23
set_option linter.all false
set_option maxHeartbeats 16000000
set_option maxRecDepth 20000
namespace Go.Proofs.YthedkfiebmnghaaGreat
open Go Go.RowKit Go.Sh Go.Pv Go.By
theorem conv52 (a : Int) : convA Tryz.prog 52 3 (.int .u16 a) = some (.int .i64 (IntKind.i64.wrap a)) := conv_int (d := .int .u16) (by kernel_rfl) (by kernel_rfl) .u16 a
def row16 (n : Nat) : List PV := [.v (.int .u16 (n : Int))]
def pickM (by_ : List Nat) (i m : Nat) : Nat := if by_.length = 0 then 0 else (by_.getD (i % by_.length) 0 + 23 * i) % m
theorem pickM_lt (by_ : List Nat) (i m : Nat) (hm : 0 < m) : pickM by_ i m < m := by
 unfold pickM
 split
 ·exact hm
 ·exact Nat.mod_lt _ hm
def madeY (y : YD) (by_ : List Nat) : List Nat := madeL (pickM by_) (leftL y.n y.S).length 0 (leftL y.n y.S)
theorem madeY_plan (y : YD) (by_ : List Nat) : IsPlan y.S y.n (madeY y by_) := made_plan (pickM_lt by_) _ _
theorem left_len {y : YD} (h : YOK y) : (leftL y.n y.S).length ≤ 48 := plan_len h (left_plan y.n y.S)
theorem leftL_le {n : Nat → Nat} : ∀ {S i : Nat}, i ≤ S → (leftL n i).length ≤ (leftL n S).length
 | 0, i, h => by rw [show i = 0 by omega]; exact Nat.le_refl _
 | S + 1, i, h => by
  by_cases e : i = S + 1
  ·rw [e]; exact Nat.le_refl _
  ·have := leftL_le (n := n) (show i ≤ S by omega)
   have e2 : (leftL n (S + 1)).length = (leftL n S).length + n S := by
    show (leftL n S ++ List.replicate (n S) S).length = _
    rw [List.length_append, List.length_replicate]
   omega
section
variable {y : YD}
attribute [local go_sem] conv52 bin_rem
theorem ok_made (h : YOK y) (by_ : List Nat) (hb : by_.length ≤ 9223372036854775807) (hb2 : ∀ x ∈ by_, x ≤ 65535) : FunOK Tryz.prog 31 [.agg [.sl (y.ss.map SD.row), .sl (y.F.map rowN), iP (y.T : Int), iP (y.L : Int)], .one (.sl (by_.map row16))] (.one (.one (.sl ((madeY y by_).map rowN)))) := by
 have hD := fun i (hi : i < y.S) => ok_DueD h hi
 have hSl : (y.ss.map SD.row).length = y.S := List.length_map _
 have hSl2 : y.ss.length = y.S := rfl
 have hS3 := h.n3
 have hL48 := left_len h
 have hn16 := fun i (hi : i < y.S) => n_16 h hi
 refine fun_ok (nt := 67) (rs := [.tmp 4]) Tryz.func31 rfl rfl rfl (by simp) fun Z w0 => ?_; refine tI ?_
 try clear hF
 have hF := And.intro hSl (hSl2)
 refine twF ?_
 refine aw_weak (weak_own 5 3 1 (by simp (disch := first | decide | omega) only [go_sem, ↓reduceIte])) ?_
 dsimp only [AL.set, Nat.reduceEqDiff, ↓reduceIte]
 refine aw_weak (weak_restrict [1, 2, 4, 5, 11, 12] [1, 0] 2 (by simp only [go_sem, ↓reduceIte]; rfl)) ?_
 refine aw_loop_ov (ι := { i : Nat // i ≤ y.S }) (fun i => [(5, .one (.own 1 (leftL y.n i.1).length)), (12, iA i.1)]) (fun i => [(1, .arr 3 1 ((leftL y.n i.1).map rowN) true)]) (fun i => y.S - i.1) ⟨0, Nat.zero_le _⟩ (by first | rfl | (simp only [go_sem, ↓reduceIte]; first | done | rfl | (simp; try rfl))) ?_
 rintro ⟨i, hi⟩
 refine tO ?_
 have hll : ((leftL y.n i).map rowN).length = (leftL y.n i).length := List.length_map _
 have hle := leftL_le (n := y.n) hi
 by_cases hiS : i < y.S
 ·have hDi := hD i hiS
  have hDl : ((y.D i).map row1).length = y.n i := by rw [List.length_map]; exact D_len i
  have hle2 := leftL_le (n := y.n) (show i + 1 ≤ y.S from hiS)
  have hsucc : leftL y.n (i + 1) = leftL y.n i ++ List.replicate (y.n i) i := rfl
  have hsl : (leftL y.n (i + 1)).length = (leftL y.n i).length + y.n i := by rw [hsucc, List.length_append, List.length_replicate]
  try clear hF
  have hF := And.intro hSl (And.intro hSl2 (hDl))
  refine twF ?_
  refine tiF ?_
  refine twF fun QQ hQQ => ?_
  ((refine cBF 52 rfl rfl rfl (hDi) Tryz.func52 rfl ?_); refine tuF ?_; clear hQQ QQ); refine twF ?_
  refine aw_weak (weak_restrict [1, 2, 4, 5, 6, 11, 12, 18, 19] [1, 0] 2 (by simp only [go_sem, ↓reduceIte]; rfl)) ?_
  refine aw_loop_ov (ι := { j : Nat // j ≤ y.n i }) (fun j => [(5, .one (.own 1 ((leftL y.n i).length + j.1))), (19, iA j.1)]) (fun j => [(1, .arr 3 1 ((leftL y.n i ++ List.replicate j.1 i).map rowN) true)]) (fun j => y.n i - j.1) ⟨0, Nat.zero_le _⟩ (by first | rfl | (simp only [go_sem, ↓reduceIte]; first | done | rfl | (simp; try rfl))) ?_
  rintro ⟨j, hj⟩
  refine tO ?_
  have hl2 : ((leftL y.n i ++ List.replicate j i).map rowN).length = (leftL y.n i).length + j := by rw [List.length_map, List.length_append, List.length_replicate]
  by_cases hjn : j < y.n i
  ·have hrow2 : (leftL y.n i ++ List.replicate (j + 1) i).map rowN = (leftL y.n i ++ List.replicate j i).map rowN ++ [[iP (i : Int)]] := by
    rw [List.replicate_succ', ← List.append_assoc, List.map_append]; rfl
   have hlb : ((leftL y.n i).length + j + 1) * 8 ≤ 140737488355328 := by omega
   have hjl : (leftL y.n i).length + (j + 1) = (leftL y.n i).length + j + 1 := rfl
   try clear hF
   have hF := And.intro hl2 (hlb)
   refine twF ?_
   refine tiF ?_
   refine twF ?_
   refine ⟨⟨j + 1, by omega⟩, ?_, weak_round ?_ (by first | rfl | (simp only [hF, go_sem, ↓reduceIte]))⟩
   rotate_left
   ·simp only [hrow2, hjl]
    (simp only [hF, go_sem, ↓reduceIte]; try rfl)
   ·simp only; omega
  ·have hje : j = y.n i := by omega
   subst hje
   rw [← hsucc, ← hsl]
   try clear hF
   have hF := hl2
   refine twF ?_
   refine tiF ?_
   refine twF ?_
   refine ⟨⟨i + 1, by omega⟩, ?_, weak_round ?_ (by first | rfl | (simp only [hF, go_sem, ↓reduceIte]))⟩
   rotate_left
   ·(simp only [hF, go_sem, ↓reduceIte]; try rfl)
   ·simp only; omega
 ·have hie : i = y.S := by omega
  subst hie
  try clear hF
  have hF := And.intro hSl (hSl2)
  refine twF ?_
  refine tiF ?_
  refine twF ?_
  have hta : List.take (leftL y.n y.S).length ((leftL y.n y.S).map rowN) = (leftL y.n y.S).map rowN := List.take_of_length_le (by rw [hll]; exact Nat.le_refl _)
  refine aw_weak (weak_dataS 5 qN qN) ?_
  rw [hta]
  refine aw_weak (weak_own 4 3 1 (by simp (disch := first | decide | omega) only [go_sem, ↓reduceIte])) ?_
  dsimp only [AL.set, Nat.reduceEqDiff, ↓reduceIte]
  have hM : [] ++ madeL (pickM by_) (leftL y.n y.S).length 0 (leftL y.n y.S) = madeY y by_ := rfl
  obtain ⟨N, hN⟩ : ∃ N, (leftL y.n y.S).length = N := ⟨_, rfl⟩
  obtain ⟨l0, hl0⟩ : ∃ l, leftL y.n y.S = l := ⟨_, rfl⟩
  rw [hl0] at hM hN ⊢
  have hN48 : N ≤ 48 := by rw [← hN, ← hl0]; exact hL48
  generalize madeY y by_ = M at *
  have hbl : (by_.map row16).length = by_.length := List.length_map _
  clear hD hSl hSl2 hL48 hn16 hll hle hta hl0 hiS
  refine aw_weak (weak_restrict [1, 4, 5, 7] [2, 0] 3 (by simp only [go_sem, ↓reduceIte]; rfl)) ?_
  refine aw_loop_ov (ι := { q : Nat × List Nat × List Nat // q.2.2.length + q.1 = N ∧ q.2.1.length = q.1 ∧ q.2.1 ++ madeL (pickM by_) q.2.2.length q.1 q.2.2 = M }) (fun q => [(4, .one (.own 2 q.1.2.1.length)), (5, .one (.p (.sl (q.1.2.2.map rowN)))), (7, iA q.1.1)]) (fun q => [(2, .arr 3 1 (q.1.2.1.map rowN) true)]) (fun q => q.1.2.2.length) ⟨(0, [], l0), by simpa using hN, rfl, hM⟩ (by first | rfl | (simp only [go_sem, ↓reduceIte]; first | done | rfl | (simp; try rfl))) ?_
  clear hM hN
  rintro ⟨⟨i, o, l⟩, q1, q2, q3⟩
  refine tO ?_
  dsimp only at q1 q2 q3
  have hol : (o.map rowN).length = o.length := List.length_map _
  have hlm : (l.map rowN).length = l.length := List.length_map _
  by_cases hl : 0 < l.length
  ·have hpk := pickM_lt by_ i l.length hl
   obtain ⟨pk, hpke⟩ : ∃ pk, pickM by_ i l.length = pk := ⟨_, rfl⟩
   rw [hpke] at hpk
   have hgl : l[pk]? = some (l.getD pk 0) := getD_some hpk
   have hstep : madeL (pickM by_) l.length i l = l.getD pk 0 :: madeL (pickM by_) (l.eraseIdx pk).length (i + 1) (l.eraseIdx pk) := by
    obtain ⟨k, hk⟩ : ∃ k, l.length = k + 1 := ⟨l.length - 1, by omega⟩
    have he : (l.eraseIdx pk).length = k := by rw [List.length_eraseIdx_of_lt hpk]; omega
    rw [he, hk]
    show l.getD (pickM by_ i l.length) 0 :: madeL (pickM by_) k (i + 1) (l.eraseIdx (pickM by_ i l.length)) = _
    rw [hpke]
   have hq3 : (o ++ [l.getD pk 0]) ++ madeL (pickM by_) (l.eraseIdx pk).length (i + 1) (l.eraseIdx pk) = M := by rw [← q3, hstep, List.append_assoc]; rfl
   have hel : (l.eraseIdx pk).length + 1 = l.length := by rw [List.length_eraseIdx_of_lt hpk]; omega
   have hA : ((l.map rowN).take pk).drop 0 = (l.take pk).map rowN := by simp [List.map_take]
   have hB : ((l.map rowN).take (l.map rowN).length).drop (pk + 1) = (l.drop (pk + 1)).map rowN := by rw [List.take_length, List.map_drop]
   have hcat : (l.take pk).map rowN ++ (l.drop (pk + 1)).map rowN = (l.eraseIdx pk).map rowN := by rw [List.eraseIdx_eq_take_drop_succ, List.map_append]
   have hkr : rowsK 1 (l.map rowN) := (rowsK_N l).mpr trivial
   have hAB : (l.take pk).length + (l.drop (pk + 1)).length ≤ 48 := by rw [List.length_take, List.length_drop]; omega
   generalize l.take pk = A at *
   generalize l.drop (pk + 1) = B at *
   have hkA := rowsK_N A
   have hkB := rowsK_N B
   have hmA : (A.map rowN).length = A.length := List.length_map _
   have hmB : (B.map rowN).length = B.length := List.length_map _
   have hbA : A.length * 8 ≤ 140737488355328 := by omega
   have hbB : (A.length + B.length) * 8 ≤ 140737488355328 := by omega
   have hrow : ∀ x, rowN x = [iP (x : Int)] := fun _ => rfl
   have hlb : (o.length + 1) * 8 ≤ 140737488355328 := by omega
   have hmo : (o ++ [l.getD pk 0]).length = o.length + 1 := by simp
   have hro : (o ++ [l.getD pk 0]).map rowN = o.map rowN ++ [[iP (l.getD pk 0 : Int)]] := by simp [rowN]
   have htk : List.take (A.length + B.length) (A.map rowN ++ B.map rowN) = (l.eraseIdx pk).map rowN := by rw [← hcat]; exact List.take_of_length_le (by simp)
   by_cases hb0 : by_.length = 0
   ·have hp0 : pk = 0 := by rw [← hpke]; unfold pickM; rw [if_pos hb0]
    subst hp0
    try clear hF
    have hF := And.intro hol (And.intro hlm (And.intro hbl (And.intro hgl (And.intro hrow (And.intro hlb (And.intro hkA (And.intro hkB (And.intro hmA (And.intro hmB (And.intro hbA (hbB)))))))))))
    refine twF ?_
    refine tiF ?_
    refine twF ?_
    refine tiF ?_
    refine twF fun QQ hQQ => ?_
    refine callD_sliceG (T := 23) (E := 3) (k := 1) (l := 0) (h := 0) (rows := l.map rowN) rfl rfl qF qF qF hkr rfl ⟨.i64, qF⟩ (Nat.zero_le _) (by rw [hlm]; omega) hA ?_
    (refine tdF ?_)
    refine callD_sliceG (T := 23) (E := 3) (k := 1) (l := 0 + 1) (h := (l.map rowN).length) (rows := l.map rowN) rfl rfl qF qF qF hkr ⟨.i64, qF⟩ rfl (by rw [hlm]; omega) (Nat.le_refl _) hB ?_
    (refine tdF ?_; clear hQQ QQ)
    refine aw_weak (weak_share 4 (E := 3) (k := 1) (rows := A.map rowN ++ B.map rowN) (sh := _) qF) ?_
    refine aw_weak (weak_dataS 5 qF qF) ?_
    rw [htk]
    refine twF ?_
    refine ⟨⟨(i + 1, o ++ [l.getD 0 0], l.eraseIdx 0), by (dsimp only; omega), by (dsimp only; omega), hq3⟩, ?_, weak_round ?_ (by first | rfl | (simp only [hF, go_sem, ↓reduceIte]))⟩
    rotate_left
    ·simp only [hmo, hro]
     (simp only [hF, go_sem, ↓reduceIte]; try rfl)
    ·simp only; omega
   ·have hb1 : 0 < by_.length := by omega
    have hgb : by_[i % by_.length]? = some (by_.getD (i % by_.length) 0) := getD_some (Nat.mod_lt _ hb1)
    have hx := hb2 _ (mem_of_getD (d := 0) (Nat.mod_lt i hb1))
    have hr16 : ∀ n, row16 n = [.v (.int .u16 (n : Int))] := fun _ => rfl
    have hpv : (by_.getD (i % by_.length) 0 + 23 * i) % l.length = pk := by rw [← hpke]; unfold pickM; rw [if_neg hb0]
    have hi48 : i ≤ 48 := by omega
    have ht1 : ((i : Nat) : Int).tmod ((by_.length : Nat) : Int) = ((i % by_.length : Nat) : Int) := (Int.ofNat_tmod _ _).symm
    have hil : i % by_.length < by_.length := Nat.mod_lt _ hb1
    generalize by_.getD (i % by_.length) 0 = x at *
    generalize hm : i % by_.length = im at *
    have ht2 : ((x : Int) + 23 * (i : Int)).tmod ((l.length : Nat) : Int) = (pk : Int) := by
     rw [← hpv, show (x : Int) + 23 * (i : Int) = ((x + 23 * i : Nat) : Int) by push_cast; rfl]
     exact (Int.ofNat_tmod _ _).symm
    try clear hF
    have hF := And.intro hol (And.intro hlm (And.intro hbl (And.intro hgl (And.intro hrow (And.intro hlb (And.intro hkA (And.intro hkB (And.intro hmA (And.intro hmB (And.intro hbA (And.intro hbB (And.intro hgb (And.intro hr16 (And.intro ht1 (ht2)))))))))))))))
    refine twF ?_
    refine tiF ?_
    refine twF ?_
    refine tiF ?_
    refine twF fun QQ hQQ => ?_
    refine callD_sliceG (T := 23) (E := 3) (k := 1) (l := 0) (h := pk) (rows := l.map rowN) rfl rfl qF qF qF hkr rfl ⟨.i64, qF⟩ (Nat.zero_le _) (by rw [hlm]; omega) hA ?_
    (refine tdF ?_)
    refine callD_sliceG (T := 23) (E := 3) (k := 1) (l := pk + 1) (h := (l.map rowN).length) (rows := l.map rowN) rfl rfl qF qF qF hkr ⟨.i64, qF⟩ rfl (by rw [hlm]; omega) (Nat.le_refl _) hB ?_
    (refine tdF ?_; clear hQQ QQ)
    refine aw_weak (weak_share 4 (E := 3) (k := 1) (rows := A.map rowN ++ B.map rowN) (sh := _) qF) ?_
    refine aw_weak (weak_dataS 5 qF qF) ?_
    rw [htk]
    refine twF ?_
    refine ⟨⟨(i + 1, o ++ [l.getD pk 0], l.eraseIdx pk), by (dsimp only; omega), by (dsimp only; omega), hq3⟩, ?_, weak_round ?_ (by first | rfl | (simp only [hF, go_sem, ↓reduceIte]))⟩
    rotate_left
    ·simp only [hmo, hro]
     (simp only [hF, go_sem, ↓reduceIte]; try rfl)
    ·simp only; omega
  ·have hln : l = [] := List.eq_nil_of_length_eq_zero (by omega)
   subst hln
   have hoM : o = M := by rw [← q3]; show o = o ++ []; rw [List.append_nil]
   subst hoM
   have hto : List.take o.length (o.map rowN) = o.map rowN := List.take_of_length_le (by rw [hol]; exact Nat.le_refl _)
   try clear hF
   have hF := And.intro hol (hlm)
   refine twF ?_
   refine tiF ?_
   refine twF ?_
   refine tRN ?_
   rw [hto]
end
end Go.Proofs.YthedkfiebmnghaaGreat
namespace Go.Proofs.YthedkfiebmnghaaGreat
open Go Go.RowKit Go.Sh Go.Pv Go.By
abbrev boyP (y : YD) : RV := .agg [.sl (y.ss.map SD.row), .sl (y.F.map rowN), iP (y.T : Int), iP (y.L : Int)]
section
variable {y : YD}
theorem list_yes {p : List Nat} (hp : ∀ s ∈ p, s < y.S) : ((p.map fun x : Nat => (x : Int)).all fun x => inB x 0 ((y.S : Int) - 1)) = true := by
 rw [List.all_map, List.all_eq_true]
 intro s hs
 have := hp s hs
 simp only [Function.comp, inB, Bool.and_eq_true, decide_eq_true_eq]
 omega
theorem whyL_yes {p : List Nat} (hp : IsPlan y.S y.n p) {more : Bool} (hm : more = true) : whyL true y (p.map fun x : Nat => (x : Int)) more = 0 := by
 unfold whyL
 rw [list_yes hp.1, castN, hm, decide_eq_true hp]; rfl
theorem ok_WaitsY (h : YOK y) {p : List Nat} (hp : IsPlan y.S y.n p) : FunOK Tryz.prog 18 [boyP y, .one (.sl (p.map rowN))] (.tup [.one (iP (waitsS y.D (y.T : Int) p)), .one (iP 0)]) := by
 have hw := ok_Waits (ss := y.ss) (first := y.F.map fun x : Nat => (x : Int)) (trip := y.T) (load := y.L) (p.map fun x : Nat => (x : Int)) (by rw [List.length_map]; have := plan_len h hp; omega)
 rw [boyB_y h, yOf_y, whyL_yes hp rfl, castN] at hw
 unfold boyR at hw
 rw [castR, castR] at hw
 exact hw
theorem ok_TripsY (h : YOK y) {i : Nat} (hi : i < y.S) : FunOK Tryz.prog 16 [boyP y, .one (iP (i : Int))] (.tup [.one (iP (y.n i : Int)), .one (iP 0)]) := by
 have hw := ok_Trips (ss := y.ss) (first := y.F.map fun x : Nat => (x : Int)) (trip := y.T) (load := y.L) (i : Int)
 have e : inB (i : Int) 0 ((y.ss.length : Int) - 1) = true := by
  have : y.ss.length = y.S := rfl
  simp only [inB, Bool.and_eq_true, decide_eq_true_eq]; omega
 rw [boyB_y h, yOf_y, e, Int.toNat_natCast] at hw
 unfold boyR at hw
 rw [castR] at hw
 exact hw
end
end Go.Proofs.YthedkfiebmnghaaGreat
