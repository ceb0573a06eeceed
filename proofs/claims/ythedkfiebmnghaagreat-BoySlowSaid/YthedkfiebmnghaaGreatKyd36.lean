/- Texts of the proof, joined. -/
import Derived.Test.YthedkfiebmnghaaGreatKyd22
import Derived.Test.YthedkfiebmnghaaGreatKyc35
set_option linter.all false
set_option maxHeartbeats 16000000
set_option maxRecDepth 20000
namespace Go.Proofs.YthedkfiebmnghaaGreat
open Go Go.RowKit Go.Sh Go.Pv Go.By
section
variable {ss : List SD} {first : List Int} {trip load : Int}
def fineB (ss : List SD) (first : List Int) (trip load : Int) : Bool := !farB ss first 0 && boyB ss first trip load
theorem ok_fine : FunOK Tryz.prog 30 [boyR ss first trip load] (.one (.one (.v (.bool (fineB ss first trip load))))) := by
 refine fun_len fun hl => fun_len2 fun hl2 => ?_
 rw [List.length_map] at hl hl2
 have h1 := ok_far (ss := ss) (first := first) (trip := trip) (load := load) [] hl hl2 (by simp)
 rw [List.length_nil] at h1
 have h2 := ok_BoyR (ss := ss) (first := first) (trip := trip) (load := load)
 unfold fineB
 cases e1 : farB ss first 0
 ·have hs : ∀ s ∈ ss, bigS s = false := by
   unfold farB at e1
   rw [Bool.or_eq_false_iff] at e1
   exact fun s hs => by simpa using List.any_eq_false.1 e1.1 s hs
  have h2 := h2 hs
  rw [e1] at h1
  clear e1 hs hl hl2
  rw [Bool.not_false, Bool.true_and]
  generalize boyB ss first trip load = v at *
  unfold boyR at h1 h2
  refine fun_ok (nt := 10) (rs := [.tmp 2]) Tryz.func30 rfl rfl rfl (by simp) fun Z w0 => ?_; simp only [initFr, avR, List.map_cons, List.map_nil]
  refine tw ?_; try with_reducible intro QQ hQQ
  ((refine cO 12 rfl rfl rfl (h1) Tryz.func12 rfl ?_); refine tu ?_; try clear hQQ QQ); refine tw ?_; try with_reducible intro QQ hQQ
  ((refine cO 32 rfl rfl rfl (h2) Tryz.func32 rfl ?_); refine tu ?_; try clear hQQ QQ); refine tw ?_; try with_reducible intro QQ hQQ
  refine aw_ret ?_; refine ⟨.inr rfl, ?_⟩; simp only [resA, res1, go_sem, ↓reduceIte]
 ·rw [e1] at h1
  clear e1 h2 hl hl2
  rw [Bool.not_true, Bool.false_and]
  unfold boyR at h1
  refine fun_ok (nt := 10) (rs := [.tmp 2]) Tryz.func30 rfl rfl rfl (by simp) fun Z w0 => ?_; simp only [initFr, avR, List.map_cons, List.map_nil]
  refine tw ?_; try with_reducible intro QQ hQQ
  ((refine cO 12 rfl rfl rfl (h1) Tryz.func12 rfl ?_); refine tu ?_; try clear hQQ QQ); refine tw ?_; try with_reducible intro QQ hQQ
  refine aw_ret ?_; refine ⟨.inr rfl, ?_⟩; simp only [resA, res1, go_sem, ↓reduceIte]
end
theorem ok_Ints (a b : List Int) (ha : a.length ≤ 100000) : FunOK Tryz.prog 29 [.one (.sl (a.map row1)), .one (.sl (b.map row1))] (.one (.one (.v (.bool (decide (a = b)))))) := by
 have hal : (a.map row1).length = a.length := List.length_map _
 have hbl : (b.map row1).length = b.length := List.length_map _
 by_cases h1 : a.length = b.length
 rotate_left
 ·have hv : decide (a = b) = false := decide_eq_false fun h => h1 (by rw [h])
  have e1 : ((a.length : Int) == (b.length : Int)) = false := by simp; omega
  rw [hv]
  refine fun_ok (nt := 26) (rs := [.tmp 4]) Tryz.func29 rfl rfl rfl (by simp) fun Z w0 => ?_; simp only [initFr, avR, List.map_cons, List.map_nil]
  try clear hF
  have hF := And.intro hal (And.intro hbl (e1))
  refine twF ?_; try with_reducible intro QQ hQQ
  refine tiF ?_; try clear hQQ QQ
  refine twF ?_; try with_reducible intro QQ hQQ
  refine aw_ret ?_; refine ⟨.inr rfl, ?_⟩; simp only [resA, res1, go_sem, ↓reduceIte]
 have e1 : ((a.length : Int) == (b.length : Int)) = true := by simp; omega
 obtain ⟨v, hv⟩ : ∃ v, decide (a = b) = v := ⟨_, rfl⟩
 have hbad : ∀ i, i < a.length → a.getD i 0 ≠ b.getD i 0 → v = false := fun i hi h => by rw [← hv]; exact decide_eq_false fun e => h (by rw [e])
 have hgood : (∀ i, i < a.length → a.getD i 0 = b.getD i 0) → v = true := fun h => by
  rw [← hv]
  refine decide_eq_true (List.ext_getElem h1 fun i h2 h3 => ?_)
  have := h i h2
  simpa [List.getD, h2, h3] using this
 rw [hv]
 clear hv
 refine fun_ok (nt := 26) (rs := [.tmp 4]) Tryz.func29 rfl rfl rfl (by simp) fun Z w0 => ?_; simp only [initFr, avR, List.map_cons, List.map_nil]
 try clear hF
 have hF := And.intro hal (And.intro hbl (e1))
 refine twF ?_; try with_reducible intro QQ hQQ
 refine tiF ?_; try clear hQQ QQ
 refine twF ?_; try with_reducible intro QQ hQQ
 refine aw_weak (weak_keep [0, 1, 5] (by simp only [go_sem, ↓reduceIte]; rfl)) ?_
 refine aw_loop_ov (ι := { i : Nat // i ≤ a.length ∧ ∀ k, k < i → a.getD k 0 = b.getD k 0 }) (fun i => [(5, iA i.1)]) (fun _ => []) (fun i => a.length - i.1) ⟨0, by omega, fun k hk => by omega⟩ (by first | rfl | (simp only [go_sem, ↓reduceIte]; first | done | rfl | (simp; try rfl))) ?_
 rintro ⟨i, hi, hb⟩
 simp (disch := decide) only [ov, ovL, AL.get_nil, AL.get_eq, AL.get_ne, Option.getD_some, Option.getD_none]
 by_cases hil : i < a.length
 ·have hga : a[i]? = some (a.getD i 0) := get_some1' hil
  have hgb : b[i]? = some (b.getD i 0) := get_some1' (by omega)
  have hbd := hbad i hil
  have hnx : a.getD i 0 = b.getD i 0 → ∀ k, k < i + 1 → a.getD k 0 = b.getD k 0 := fun h k hk => by
   by_cases e : k = i
   ·rw [e]; exact h
   ·exact hb k (by omega)
  have hilb : i < b.length := by omega
  clear hbad hgood hb
  generalize a.getD i 0 = x at *
  generalize b.getD i 0 = z at *
  have hrx : row1 x = [iP x] := rfl
  have hrz : row1 z = [iP z] := rfl
  by_cases hx : x = z
  ·have hn := hnx hx
   have ex : (x == z) = true := by rw [hx]; simp
   try clear hF
   have hF := And.intro hal (And.intro hbl (And.intro hga (And.intro hgb (And.intro hrx (And.intro hrz (ex))))))
   refine twF ?_; try with_reducible intro QQ hQQ
   refine tiF ?_; try clear hQQ QQ
   refine twF ?_; try with_reducible intro QQ hQQ
   refine tiF ?_; try clear hQQ QQ
   refine twF ?_; try with_reducible intro QQ hQQ
   refine ⟨⟨i + 1, by omega, hn⟩, ?_, weak_round ?_ (by first | rfl | (simp only [hF, go_sem, ↓reduceIte]))⟩
   rotate_left
   ·(simp only [hF, go_sem, ↓reduceIte]; try rfl)
   ·simp only; omega
  ·have := hbd hx
   subst this
   have ex : (x == z) = false := by simpa using hx
   try clear hF
   have hF := And.intro hal (And.intro hbl (And.intro hga (And.intro hgb (And.intro hrx (And.intro hrz (ex))))))
   refine twF ?_; try with_reducible intro QQ hQQ
   refine tiF ?_; try clear hQQ QQ
   refine twF ?_; try with_reducible intro QQ hQQ
   refine tiF ?_; try clear hQQ QQ
   refine twF ?_; try with_reducible intro QQ hQQ
   refine aw_ret ?_; refine ⟨.inr rfl, ?_⟩; simp only [resA, res1, go_sem, ↓reduceIte]
 ·have hie : i = a.length := by omega
  have := hgood (by subst hie; exact hb)
  subst this
  clear hbad hgood hb
  try clear hF
  have hF := And.intro hal (hbl)
  refine twF ?_; try with_reducible intro QQ hQQ
  refine tiF ?_; try clear hQQ QQ
  refine twF ?_; try with_reducible intro QQ hQQ
  refine aw_ret ?_; refine ⟨.inr rfl, ?_⟩; simp only [resA, res1, go_sem, ↓reduceIte]
theorem ok_span34 (a b : Int) : FunOK Tryz.prog 34 [.one (iP a), .one (iP b)] (.one (.agg [iP a, iP b])) := by
 refine fun_ok (nt := 8) (rs := [.cell 4 45]) Tryz.func34 rfl rfl rfl (by simp) fun Z w0 => ?_; simp only [initFr, avR, List.map_cons, List.map_nil]
 refine tw ?_; try with_reducible intro QQ hQQ
 refine aw_ret ?_; refine ⟨.inr rfl, ?_⟩; simp only [resA, res1, go_sem, ↓reduceIte]
def exS : List SD := [⟨(3, 4), (5, 5), (8, 10), [(0, 12), (15, 25)], [0, 1, 0, 2, 0, 0], []⟩, ⟨(4, 5), (4, 5), (4, 5), [(0, 20)], [0, 0, 0, 0, 0], []⟩]
theorem ok_sample (t : Int) : FunOK Tryz.prog 40 [.one (iP t)] (.one (boyR exS [2, 1] t 2)) := by
 have h1 := ok_span34 3 4
 have h2 := ok_span34 5 5
 have h3 := ok_span34 8 10
 have h4 := ok_span34 4 5
 simp only [exS, boyR, SD.row, List.map_cons, List.map_nil, row1, row2, row3]
 refine fun_ok (nt := 28) (rs := [.cell 2 25]) Tryz.func40 rfl rfl rfl (by simp) fun Z w0 => ?_; simp only [initFr, avR, List.map_cons, List.map_nil]
 refine tw ?_; try with_reducible intro QQ hQQ
 ((refine cO 34 rfl rfl rfl (h1) Tryz.func34 rfl ?_); refine tu ?_; try clear hQQ QQ); refine tw ?_; try with_reducible intro QQ hQQ
 ((refine cO 34 rfl rfl rfl (h2) Tryz.func34 rfl ?_); refine tu ?_; try clear hQQ QQ); refine tw ?_; try with_reducible intro QQ hQQ
 ((refine cO 34 rfl rfl rfl (h3) Tryz.func34 rfl ?_); refine tu ?_; try clear hQQ QQ); refine tw ?_; try with_reducible intro QQ hQQ
 ((refine cO 34 rfl rfl rfl (h4) Tryz.func34 rfl ?_); refine tu ?_; try clear hQQ QQ); refine tw ?_; try with_reducible intro QQ hQQ
 ((refine cO 34 rfl rfl rfl (h4) Tryz.func34 rfl ?_); refine tu ?_; try clear hQQ QQ); refine tw ?_; try with_reducible intro QQ hQQ
 ((refine cO 34 rfl rfl rfl (h4) Tryz.func34 rfl ?_); refine tu ?_; try clear hQQ QQ); refine tw ?_; try with_reducible intro QQ hQQ
 refine aw_ret ?_; refine ⟨.inr rfl, ?_⟩; simp only [resA, res1, go_sem, ↓reduceIte]
section
variable {y : YD}
theorem over_any (h : YOK y) {p : List Nat} (hp : IsPlan y.S y.n p) (hs : (dseq y.D (fun _ => 0) p).Pairwise (· ≤ ·)) {T : Int} (hT : 0 ≤ T) : overS y.D T (soonY y) = overS y.D T p :=
 soon_same hT (soonY_plan h).1 hp (soonY_plan h).2 hs
theorem waits_any (h : YOK y) {p : List Nat} (hp : IsPlan y.S y.n p) (hs : (dseq y.D (fun _ => 0) p).Pairwise (· ≤ ·)) {T : Int} (hT : 0 ≤ T) : waitsS y.D T (soonY y) = waitsS y.D T p := by
 unfold waitsS; rw [over_any h hp hs hT]
theorem slow_any (h : YOK y) {p : List Nat} (hp : IsPlan y.S y.n p) (hs : (dseq y.D (fun _ => 0) p).Pairwise (· ≤ ·)) : slowS y.D (soonY y) = slowS y.D p := by
 have : ∀ n : Nat, overS y.D (n : Int) (soonY y) = overS y.D (n : Int) p := fun n => over_any h hp hs (by omega)
 unfold slowS
 simp only [this]
theorem spare_any (h : YOK y) {p : List Nat} (hp : IsPlan y.S y.n p) (hs : (dseq y.D (fun _ => 0) p).Pairwise (· ≤ ·)) : spareY y = if y.all.length = 0 then none else spareS y.D (y.T : Int) p := by
 unfold spareY
 rw [spare_eq, spare_eq, over_any h hp hs (by omega)]
theorem bestY_eq (h : YOK y) : bestY y = bestF y.D (y.T : Int) (plansL y.S (totN y.n y.S) y.n) (plansL y.S (totN y.n y.S) y.n).length :=
 (best_first (by omega) (soonY_plan h).1 (soonY_plan h).2).symm
end
def exY (t : Nat) : YD := ⟨exS, [2, 1], t, 2⟩
theorem exY_eq (t : Nat) : yOf exS [2, 1] (t : Int) 2 = exY t := by
 unfold yOf exY
 rw [Int.toNat_natCast]; rfl
theorem exY3 : yOf exS [2, 1] 3 2 = exY 3 := exY_eq 3
theorem exY4 : yOf exS [2, 1] 4 2 = exY 4 := exY_eq 4
theorem exY5 : yOf exS [2, 1] 5 2 = exY 5 := exY_eq 5
theorem ex_ok (t : Nat) (h1 : 1 ≤ t) (h2 : t ≤ 60) (hv : boyB exS [2, 1] (t : Int) 2 = true) : YOK (exY t) := by
 obtain ⟨y, h, hy, _⟩ := boy_yOf hv
 rw [exY_eq] at hy
 rw [hy]; exact h
theorem exB3 : boyB exS [2, 1] 3 2 = true := by decide +kernel
theorem exB4 : boyB exS [2, 1] 4 2 = true := by decide +kernel
theorem exB5 : boyB exS [2, 1] 5 2 = true := by decide +kernel
theorem ex_plan (t : Nat) : IsPlan (exY t).S (exY t).n [1, 0, 1, 0] := by
 have : IsPlan (exY 4).S (exY 4).n [1, 0, 1, 0] := by decide +kernel
 exact this
theorem ex_sorted (t : Nat) : (dseq (exY t).D (fun _ => 0) [1, 0, 1, 0]).Pairwise (· ≤ ·) := by
 have : (dseq (exY 4).D (fun _ => 0) [1, 0, 1, 0]).Pairwise (· ≤ ·) := by decide +kernel
 exact this
theorem ex_Need : FunOK Tryz.prog 14 [boyR exS [2, 1] 4 2, .one (iP 0), .one (iP 4)] (.tup [.one (iP 19), .one (iP 0)]) := by
 have h := ok_Need (ss := exS) (first := [2, 1]) (trip := 4) (load := 2) 0 4
 rw [exB4, exY4] at h
 have e1 : (inB 0 0 (((exY 4).S : Int) - 1) && inB 4 0 ((((exY 4).sd (0 : Int).toNat).sheep.length : Int) - 1)) = true := by decide +kernel
 have e2 : decide ((4 : Int).toNat < ((exY 4).need (0 : Int).toNat).length) = true := by decide +kernel
 have e3 : ((exY 4).need (0 : Int).toNat).getD (4 : Int).toNat 0 = 19 := by decide +kernel
 rw [e1, e2, e3] at h
 exact h
theorem ex_Trips : FunOK Tryz.prog 16 [boyR exS [2, 1] 4 2, .one (iP 1)] (.tup [.one (iP 2), .one (iP 0)]) := by
 have h := ok_Trips (ss := exS) (first := [2, 1]) (trip := 4) (load := 2) 1
 rw [exB4, exY4] at h
 have e1 : inB 1 0 ((exS.length : Int) - 1) = true := by decide +kernel
 have e3 : (exY 4).n (1 : Int).toNat = 2 := by decide +kernel
 rw [e1, e3] at h
 exact h
theorem ex_Waits : FunOK Tryz.prog 18 [boyR exS [2, 1] 4 2, .one (.sl [[iP 0], [iP 1], [iP 0], [iP 1]])] (.tup [.one (iP 4), .one (iP 0)]) := by
 have h := ok_Waits (ss := exS) (first := [2, 1]) (trip := 4) (load := 2) [0, 1, 0, 1] (by simp)
 rw [exB4, exY4] at h
 have e1 : whyL true (exY 4) [0, 1, 0, 1] true = 0 := by decide +kernel
 have e3 : waitsS (exY 4).D ((exY 4).T : Int) ([0, 1, 0, 1].map Int.toNat) = 4 := by decide +kernel
 rw [e1, e3] at h
 exact h
theorem ex_Best : FunOK Tryz.prog 23 [boyR exS [2, 1] 5 2] (.tup [.one (.sl [[iP 1], [iP 0], [iP 1], [iP 0]]), .one (iP 3), .one (iP 0)]) := by
 have h := ok_Best (ss := exS) (first := [2, 1]) (trip := 5) (load := 2)
 have hok := ex_ok 5 (by omega) (by omega) exB5
 rw [exB5, exY5, bestY_eq hok, waits_any hok (ex_plan 5) (ex_sorted 5) (by omega)] at h
 have e1 : bestF (exY 5).D ((exY 5).T : Int) (plansL (exY 5).S (totN (exY 5).n (exY 5).S) (exY 5).n) (plansL (exY 5).S (totN (exY 5).n (exY 5).S) (exY 5).n).length = [1, 0, 1, 0] := by decide +kernel
 have e3 : waitsS (exY 5).D ((exY 5).T : Int) [1, 0, 1, 0] = 3 := by decide +kernel
 rw [e1, e3] at h
 exact h
theorem ex_Brought : FunOK Tryz.prog 20 [boyR exS [2, 1] 4 2, .one (.sl [[iP 1], [iP 0], [iP 1], [iP 0]]), .one (iP 1), .one (iP 4)] (.tup [.one (iP 3), .one (iP 0)]) := by
 have h := ok_Brought (ss := exS) (first := [2, 1]) (trip := 4) (load := 2) [1, 0, 1, 0] (by simp) 1 4
 rw [exB4, exY4] at h
 have e1 : whyL true (exY 4) [1, 0, 1, 0] (inB 1 0 (((exY 4).S : Int) - 1) && inB 4 0 999) = 0 := by decide +kernel
 have e3 : (exY 4).f (1 : Int).toNat + broughtF (exY 4).L ((exY 4).T : Int) (1 : Int).toNat 4 0 ([1, 0, 1, 0].map Int.toNat) = 3 := by decide +kernel
 rw [e1, e3] at h
 exact h
theorem ex_Slow : FunOK Tryz.prog 25 [boyR exS [2, 1] 4 2] (.tup [.one (iP 4), .one (iP 0)]) := by
 have h := ok_Slow (ss := exS) (first := [2, 1]) (trip := 4) (load := 2)
 have hok := ex_ok 4 (by omega) (by omega) exB4
 rw [exB4, exY4, slow_any hok (ex_plan 4) (ex_sorted 4)] at h
 have e1 : slowS (exY 4).D [1, 0, 1, 0] = some 4 := by decide +kernel
 rw [e1] at h
 exact h
theorem ex_Spare3 : FunOK Tryz.prog 27 [boyR exS [2, 1] 3 2] (.tup [.one (iP 1), .one (iP 0)]) := by
 have h := ok_Spare (ss := exS) (first := [2, 1]) (trip := 3) (load := 2)
 have hok := ex_ok 3 (by omega) (by omega) exB3
 rw [exB3, exY3, spare_any hok (ex_plan 3) (ex_sorted 3)] at h
 have e1 : (if (exY 3).all.length = 0 then none else spareS (exY 3).D ((exY 3).T : Int) [1, 0, 1, 0]) = some 1 := by
  rw [spare_eq]; decide +kernel
 rw [e1] at h
 exact h
theorem ex_Spare5 : FunOK Tryz.prog 27 [boyR exS [2, 1] 5 2] (.tup [.one (iP 0), .one (iP 4)]) := by
 have h := ok_Spare (ss := exS) (first := [2, 1]) (trip := 5) (load := 2)
 have hok := ex_ok 5 (by omega) (by omega) exB5
 rw [exB5, exY5, spare_any hok (ex_plan 5) (ex_sorted 5)] at h
 have e1 : (if (exY 5).all.length = 0 then none else spareS (exY 5).D ((exY 5).T : Int) [1, 0, 1, 0]) = none := by
  rw [spare_eq]; decide +kernel
 rw [e1] at h
 exact h
theorem ex_Ints : FunOK Tryz.prog 29 [.one (.sl [[iP 1], [iP 0], [iP 1], [iP 0]]), .one (.sl [[iP 1], [iP 0], [iP 1], [iP 0]])] (.one (.one (.v (.bool true)))) := ok_Ints [1, 0, 1, 0] [1, 0, 1, 0] (by simp)
theorem ok_awake : FunOK Tryz.prog 13 [] (.one (.one (.v (.bool true)))) := by
 have s3 := ok_sample 3
 have s4 := ok_sample 4
 have s5 := ok_sample 5
 have c1 := ex_Need
 have c2 := ex_Trips
 have c3 := ex_Waits
 have c4 := ex_Best
 have c5 := ex_Brought
 have c6 := ex_Slow
 have c7 := ex_Spare3
 have c8 := ex_Spare5
 have c9 := ex_Ints
 unfold boyR at s3 s4 s5 c1 c2 c3 c4 c5 c6 c7 c8
 generalize PV.sl (exS.map SD.row) = A at *
 generalize PV.sl (([2, 1] : List Int).map row1) = B at *
 refine fun_ok (nt := 127) (rs := [.tmp 0]) Tryz.func13 rfl rfl rfl (by simp) fun Z w0 => ?_; simp only [initFr, avR, List.map_cons, List.map_nil]
 refine tw ?_; try with_reducible intro QQ hQQ
 (refine cB 40 rfl rfl rfl (s4) Tryz.func40 rfl ?_); refine ts ?_; try clear hQQ QQ
 ((refine cB 40 rfl rfl rfl (s5) Tryz.func40 rfl ?_); refine tu ?_; try clear hQQ QQ); refine tw ?_; try with_reducible intro QQ hQQ
 ((refine cO 14 rfl rfl rfl (c1) Tryz.func14 rfl ?_); refine tu ?_; try clear hQQ QQ); refine tw ?_; try with_reducible intro QQ hQQ
 ((refine cO 16 rfl rfl rfl (c2) Tryz.func16 rfl ?_); refine tu ?_; try clear hQQ QQ); refine tw ?_; try with_reducible intro QQ hQQ
 ((refine cO 18 rfl rfl rfl (c3) Tryz.func18 rfl ?_); refine tu ?_; try clear hQQ QQ); refine tw ?_; try with_reducible intro QQ hQQ
 ((refine cB 23 rfl rfl rfl (c4) Tryz.func23 rfl ?_); refine tu ?_; try clear hQQ QQ); refine tw ?_; try with_reducible intro QQ hQQ
 ((refine cO 20 rfl rfl rfl (c5) Tryz.func20 rfl ?_); refine tu ?_; try clear hQQ QQ); refine tw ?_; try with_reducible intro QQ hQQ
 ((refine cO 25 rfl rfl rfl (c6) Tryz.func25 rfl ?_); refine tu ?_; try clear hQQ QQ); refine tw ?_; try with_reducible intro QQ hQQ
 (refine cB 40 rfl rfl rfl (s3) Tryz.func40 rfl ?_); refine ts ?_; try clear hQQ QQ
 ((refine cO 27 rfl rfl rfl (c7) Tryz.func27 rfl ?_); refine tu ?_; try clear hQQ QQ); refine tw ?_; try with_reducible intro QQ hQQ
 ((refine cO 27 rfl rfl rfl (c8) Tryz.func27 rfl ?_); refine tu ?_; try clear hQQ QQ); refine tw ?_; try with_reducible intro QQ hQQ
 ((refine cO 29 rfl rfl rfl (c9) Tryz.func29 rfl ?_); refine tu ?_; try clear hQQ QQ); refine tw ?_; try with_reducible intro QQ hQQ
 refine ti ?_; try clear hQQ QQ
 refine tw ?_; try with_reducible intro QQ hQQ
 refine aw_ret ?_; refine ⟨.inr rfl, ?_⟩; simp only [resA, res1, go_sem, ↓reduceIte]
section
variable {y : YD}
def atY (y : YD) (t : Nat) : YD := ⟨y.ss, y.F, t, y.L⟩
theorem boyB_y (h : YOK y) : boyB y.ss (y.F.map fun x : Nat => (x : Int)) y.T y.L = true := by
 have h1 := h.n1; have h3 := h.n3; have ht := h.t1; have ht2 := h.t60; have hl := h.l1; have hl2 := h.l5; have hf := h.fl
 have e : y.ss.length = y.S := rfl
 unfold boyB
 rw [e]
 simp only [Bool.and_eq_true, decide_eq_true_eq, List.length_map, inB, List.all_eq_true, List.mem_range]
 refine ⟨⟨⟨⟨by omega, hf⟩, by omega⟩, by omega⟩, fun i hi => ⟨h.ok i hi, ?_⟩⟩
 have := h.f16 i hi
 have e2 : (y.F.map fun x : Nat => (x : Int)).getD i 0 = (y.f i : Int) := by
  unfold YD.f
  rw [List.getD_eq_getElem?_getD, List.getElem?_map, List.getD_eq_getElem?_getD]
  cases y.F[i]? <;> rfl
 rw [e2]; omega
theorem at_ok (h : YOK y) {t : Nat} (h1 : 1 ≤ t) (h2 : t ≤ 60) : YOK (atY y t) := ⟨h.n1, h.n3, h.fl, h1, h2, h.l1, h.l5, h.ok, h.f16⟩
theorem at_boy (h : YOK y) {t : Nat} (h1 : 1 ≤ t) (h2 : t ≤ 60) : FunOK Tryz.prog 23 [.agg [.sl (y.ss.map SD.row), .sl (y.F.map rowN), iP (t : Int), iP (y.L : Int)]] (.tup [.one (.sl ((bestY (atY y t)).map rowN)), .one (iP (waitsS y.D (t : Int) (soonY y))), .one (iP 0)]) := by
 have hb := ok_Best (ss := y.ss) (first := y.F.map fun x : Nat => (x : Int)) (trip := t) (load := y.L)
 have hv := boyB_y (at_ok h h1 h2)
 have hv : boyB y.ss (y.F.map fun x : Nat => (x : Int)) t y.L = true := hv
 have hy : yOf y.ss (y.F.map fun x : Nat => (x : Int)) t y.L = atY y t := yOf_y (atY y t)
 rw [hv, hy] at hb
 unfold boyR at hb
 rw [castR] at hb
 exact hb
theorem s_at (h : YOK y) {t : Nat} (h1 : 1 ≤ t) (h2 : t ≤ 60) : FunS Tryz.prog 35 [.one (.p (iP (t : Int))), .one (.box 0 0)] [(0, .box [.p (.sl (y.ss.map SD.row)), .p (.sl (y.F.map rowN)), .p (iP (y.T : Int)), .p (iP (y.L : Int))])] 1 (.tup [.one (iP (waitsS y.D (t : Int) (soonY y))), .one (iP 0)]) := by
 have hb := at_boy h h1 h2
 generalize waitsS y.D (t : Int) (soonY y) = w at *
 generalize bestY (atY y t) = G at *
 refine funS_ok (nt := 20) (rs := [.tmp 3, .tmp 4]) Tryz.func35 rfl rfl rfl (by simp) fun Z w0 cap pan dk tm => ?_; simp only [initV, pins, pinOf, List.map_cons, List.map_nil]
 refine tw ?_; try with_reducible intro QQ hQQ
 ((refine cB 23 rfl rfl rfl (hb) Tryz.func23 rfl ?_); refine tu ?_; try clear hQQ QQ); refine tw ?_; try with_reducible intro QQ hQQ
 (refine aw_ret ⟨.inr rfl, qMN, qMN, (by simp only [List.mem_cons, List.mem_nil_iff, forall_eq_or_imp, forall_eq, false_imp_iff, implies_true, or_false, and_true]; simp (maxSteps := 400000) (disch := first | decide | omega) only [go_sem, ↓reduceIte]; try exact ⟨rfl, rfl⟩)⟩)
theorem need_len (h : YOK y) {i : Nat} (hi : i < y.S) : (y.need i).length ≤ (y.sd i).sheep.length := Go.By.need_len
theorem ok_NeedY (h : YOK y) {i : Nat} (hi : i < y.S) {c : Nat} (hc : c < y.n i) : FunOK Tryz.prog 14 [.agg [.sl (y.ss.map SD.row), .sl (y.F.map rowN), iP (y.T : Int), iP (y.L : Int)], .one (iP (i : Int)), .one (iP ((y.f i + c * y.L : Nat) : Int))] (.tup [.one (iP ((y.D i).getD c 0)), .one (iP 0)]) := by
 have hN := ok_Need (ss := y.ss) (first := y.F.map fun x : Nat => (x : Int)) (trip := y.T) (load := y.L) (i : Int) ((y.f i + c * y.L : Nat) : Int)
 have hk := (tripN_lt h.l1).1 hc
 have hnl := need_len h hi
 rw [boyB_y h, yOf_y, Int.toNat_natCast, Int.toNat_natCast] at hN
 have e1 : (inB (i : Int) 0 ((y.S : Int) - 1) && inB ((y.f i + c * y.L : Nat) : Int) 0 (((y.sd i).sheep.length : Int) - 1)) = true := by
  simp only [inB, Bool.and_eq_true, decide_eq_true_eq]; omega
 rw [e1, decide_eq_true hk, ← D_at hc] at hN
 unfold boyR at hN
 rw [castR] at hN
 exact hN
theorem ok_NeedN (h : YOK y) {i : Nat} (hi : i < y.S) {c : Nat} (hc : ¬ c < y.n i) : ∃ e : Int, e ≠ 0 ∧ FunOK Tryz.prog 14 [.agg [.sl (y.ss.map SD.row), .sl (y.F.map rowN), iP (y.T : Int), iP (y.L : Int)], .one (iP (i : Int)), .one (iP ((y.f i + c * y.L : Nat) : Int))] (.tup [.one (iP 0), .one (iP e)]) := by
 have hN := ok_Need (ss := y.ss) (first := y.F.map fun x : Nat => (x : Int)) (trip := y.T) (load := y.L) (i : Int) ((y.f i + c * y.L : Nat) : Int)
 have hk : ¬ y.f i + c * y.L < (y.need i).length := fun hh => hc ((tripN_lt h.l1).2 hh)
 rw [boyB_y h, yOf_y, Int.toNat_natCast, Int.toNat_natCast, decide_eq_false hk] at hN
 unfold boyR at hN
 rw [castR] at hN
 cases e1 : (inB (i : Int) 0 ((y.S : Int) - 1) && inB ((y.f i + c * y.L : Nat) : Int) 0 (((y.sd i).sheep.length : Int) - 1))
 ·rw [e1] at hN
  exact ⟨2, by omega, hN⟩
 ·rw [e1] at hN
  exact ⟨4, by omega, hN⟩
end
section
variable {D : Nat → List Int} {n : Nat → Nat}
theorem pick_ex {S : Nat} {c : Nat → Nat} {k : Nat} (h : totN (fun s => n s - c s) S = k + 1) : ∃ s, pickS D n c S = some s ∧ s < S ∧ c s < n s ∧ totN (fun t => n t - bump c s t) S = k := by
 cases e : pickS D n c S with
 | none =>
  exfalso
  have h0 := pickS_none e
  have : ∀ T, T ≤ S → totN (fun s => n s - c s) T = 0 := fun T => by
   induction T with
   | zero => intro _; rfl
   | succ T ih =>
    intro hT
    have := ih (by omega)
    have := h0 T (by omega)
    unfold totN
    omega
  have := this S (Nat.le_refl _)
  omega
 | some m =>
  obtain ⟨g1, g2, g3⟩ := pickS_some e
  have hle : (fun s => n s - bump c m s) = less (fun s => n s - c s) m := by
   funext s
   show n s - (if s = m then c s + 1 else c s) = if s = m then n s - c s - 1 else n s - c s
   split <;> omega
  have ht := totN_less (l := fun s => n s - c s) (s := m) (show 0 < n m - c m by omega) S g1
  exact ⟨m, rfl, g1, g2, by rw [hle]; omega⟩
theorem least_step {S : Nat} {c : Nat → Nat} {k : Nat} {s : Nat} {T m : Int} {o : Nat} (h : pickS D n c S = some s) : leastF T m o (dseq D c (soonL D n S (k + 1) c)) = leastF T (min m ((D s).getD (c s) 0 - ((o + 1 : Nat) : Int) * T)) (o + 1) (dseq D (bump c s) (soonL D n S k (bump c s))) := by
 have : soonL D n S (k + 1) c = s :: soonL D n S k (bump c s) := by
  conv => lhs; unfold soonL
  rw [h]
 rw [this]
 rfl
end
structure LS (y : YD) (R : Int) (N k : Nat) (c : Nat → Nat) (m : Int) : Prop where
 le : k ≤ N
 tot : totN (fun s => y.n s - c s) y.S = N - k
 cle : ∀ s, s < y.S → c s ≤ y.n s
 go : leastF (y.T : Int) m k (dseq y.D c (soonL y.D y.n y.S (N - k) c)) = R
theorem LS.next {y : YD} {R : Int} {N k : Nat} {c : Nat → Nat} {m : Int} (h : LS y R N k c m) (hk : k < N) : ∃ s, pickS y.D y.n c y.S = some s ∧ s < y.S ∧ c s < y.n s ∧ LS y R N (k + 1) (bump c s) (min m ((y.D s).getD (c s) 0 - ((k + 1 : Nat) : Int) * (y.T : Int))) := by
 have ht := h.tot
 have hg := h.go
 rw [show N - k = (N - (k + 1)) + 1 by omega] at ht hg
 obtain ⟨s, h1, h2, h3, h4⟩ := pick_ex (D := y.D) ht
 refine ⟨s, h1, h2, h3, hk, h4, fun t ht => ?_, ?_⟩
 ·unfold bump
  split
  ·rename_i e; subst e; omega
  ·exact h.cle t ht
 ·rw [least_step h1] at hg
  exact hg
abbrev QT9 : Exit → St → Prop := fun e st => (e = .normal ∨ e = .ret) ∧ resA Tryz.prog st [.tmp 2] = some (.one (.one (.v (.bool true))))
def goneR (c : Nat → Nat) (S : Nat) : List (List PV) := (List.range S).map fun s => [iP (c s : Int)]
theorem goneR_len (c : Nat → Nat) (S : Nat) : (goneR c S).length = S := by unfold goneR; rw [List.length_map, List.length_range]
theorem goneR_get {c : Nat → Nat} {S i : Nat} (h : i < S) : (goneR c S)[i]? = some [iP (c i : Int)] := by unfold goneR; rw [List.getElem?_map, List.getElem?_range h]; rfl
theorem goneR_set {c : Nat → Nat} {S s : Nat} : (goneR c S).set s [iP ((c s + 1 : Nat) : Int)] = goneR (bump c s) S := by
 unfold goneR
 apply List.ext_getElem?
 intro j
 rw [List.getElem?_set, List.getElem?_map, List.getElem?_map, List.length_map, List.length_range]
 by_cases e : s = j
 ·subst e
  by_cases hs : s < S
  ·rw [if_pos rfl, if_pos hs, List.getElem?_range hs]
   simp [bump]
  ·rw [if_pos rfl, if_neg hs, List.getElem?_eq_none (by rw [List.length_range]; omega)]; rfl
 ·rw [if_neg e]
  by_cases hs : j < S
  ·rw [List.getElem?_range hs]
   simp [bump, show ¬ j = s from fun h => e h.symm]
  ·rw [List.getElem?_eq_none (by rw [List.length_range]; omega)]; rfl
theorem goneR_zero (S : Nat) : List.replicate S [iP 0] = goneR (fun _ => 0) S := by
 unfold goneR
 apply List.ext_getElem?
 intro j
 by_cases hs : j < S
 ·rw [List.getElem?_replicate, if_pos hs, List.getElem?_map, List.getElem?_range hs]; rfl
 ·rw [List.getElem?_eq_none (by rw [List.length_replicate]; omega), List.getElem?_eq_none (by rw [List.length_map, List.length_range]; omega)]
def pkA : Option Nat → Int
 | none => -1
 | some s => s
def pkD (y : YD) (c : Nat → Nat) : Option Nat → Int
 | none => 0
 | some s => (y.D s).getD (c s) 0
section
variable {D : Nat → List Int} {n : Nat → Nat} {c : Nat → Nat} {i : Nat}
theorem pk_no (h : ¬ c i < n i) : pickS D n c (i + 1) = pickS D n c i := by
 conv => lhs; unfold pickS
 cases pickS D n c i with
 | none => simp [h]
 | some s => simp [h]
theorem pk_new (h : c i < n i) (h2 : pickS D n c i = none ∨ ∃ s, pickS D n c i = some s ∧ (D i).getD (c i) 0 < (D s).getD (c s) 0) : pickS D n c (i + 1) = some i := by
 conv => lhs; unfold pickS
 rcases h2 with h2 | ⟨s, h2, h3⟩
 ·rw [h2]; simp [h]
 ·rw [h2]; simp only; rw [if_pos ⟨h, h3⟩]
theorem pk_old {s : Nat} (h2 : pickS D n c i = some s) (h3 : ¬ (D i).getD (c i) 0 < (D s).getD (c s) 0) : pickS D n c (i + 1) = some s := by
 conv => lhs; unfold pickS
 rw [h2]; simp only; rw [if_neg (fun hh => h3 hh.2)]
end
section
variable {y : YD}
theorem slow_tail (h : YOK y) {G : List Nat} {N m : Nat} (hGl : (G.map rowN).length = N) (hN48 : N ≤ 48) (hLS : LS y (m : Int) N 0 (fun _ => 0) 1000) (Z : Zn) (w0 : World) :
  AW ⟨Tryz.prog, Z, w0, fun _ => False, 222, none, noPan, none, [], true⟩ (rgtN 9 (fnCode Tryz.f9)) QT9 ⟨[(1, .one (.box 0 0)), (5, .one (.p (iP (m : Int)))), (7, .one (.p (.sl (G.map rowN))))], [(0, .box [.p (.sl (y.ss.map SD.row)), .p (.sl (y.F.map rowN)), .p (iP (y.T : Int)), .p (iP (y.L : Int))])], 1⟩ := by
 have haw := ok_awake
 have hSl : (y.ss.map SD.row).length = y.S := List.length_map _
 have hSl2 : y.ss.length = y.S := rfl
 have hFl : y.F.length = y.S := h.fl
 have hS3 := h.n3
 have hT60 := h.t60
 have hL5 := h.l5
 have hrow : ∀ x, rowN x = [iP (x : Int)] := fun _ => rfl
 conv => arg 2; whnf
 try simp only [List.append_eq, List.cons_append, List.nil_append]
 try clear hF
 have hF := And.intro hSl (And.intro hSl2 (hGl))
 refine twF ?_; try with_reducible intro QQ hQQ
 refine ⟨rfl, .inr ⟨rfl, callS_makeSliceZ (n := y.S) (E := 3) (k := 1) (by_ := 8) (zr := [iP 0]) rfl rfl qF qF qF qF rfl (by rfl) rfl qF qF (by omega) (by omega) (by unfold maxLen; omega) ?_⟩⟩
 (refine tsF ?_; try clear hQQ QQ)
 refine twF ?_; try with_reducible intro QQ hQQ
 rw [goneR_zero]
 refine aw_weak (weak_restrict [1, 5, 15, 16, 155, 156] [1, 0] 2 (by simp only [go_sem, ↓reduceIte]; rfl)) ?_
 refine aw_loop_ov (ι := { q : Nat × (Nat → Nat) × Int // LS y (m : Int) N q.1 q.2.1 q.2.2 }) (fun q => [(15, iA q.1.2.2), (156, iA q.1.1)]) (fun q => [(1, .arr 3 1 (goneR q.1.2.1 y.S) false)]) (fun q => N - q.1.1) ⟨(0, fun _ => 0, 1000), hLS⟩ (by first | rfl | (simp only [go_sem, ↓reduceIte]; first | done | rfl | (simp; try rfl))) ?_
 rintro ⟨⟨k, c, ls⟩, hls⟩
 simp (disch := decide) only [ov, ovL, AL.get_nil, AL.get_eq, AL.get_ne, Option.getD_some, Option.getD_none]
 dsimp only at hls
 have hgl := goneR_len c y.S
 by_cases hkN : k < N
 ·obtain ⟨sn, hpk, hsnS, hsnc, hnext⟩ := hls.next hkN
  have hcle := hls.cle
  try clear hF
  have hF := And.intro hSl (And.intro hSl2 (hgl))
  refine twF ?_; try with_reducible intro QQ hQQ
  refine tiF ?_; try clear hQQ QQ
  refine twF ?_; try with_reducible intro QQ hQQ
  refine aw_weak (weak_restrict [1, 5, 15, 16, 17, 18, 19, 155, 156, 161, 162] [1, 0] 2 (by simp only [go_sem, ↓reduceIte]; rfl)) ?_
  refine aw_loop_ov (ι := { i : Nat // i ≤ y.S }) (fun i => [(18, iA (pkA (pickS y.D y.n c i.1))), (19, iA (pkD y c (pickS y.D y.n c i.1))), (162, iA i.1)]) (fun _ => []) (fun i => y.S - i.1) ⟨0, Nat.zero_le _⟩ (by first | rfl | (simp only [go_sem, ↓reduceIte]; first | done | rfl | (simp; try rfl))) ?_
  rintro ⟨i, hi⟩
  simp (disch := decide) only [ov, ovL, AL.get_nil, AL.get_eq, AL.get_ne, Option.getD_some, Option.getD_none]
  by_cases hiS : i < y.S
  ·have hgF : y.F[i]? = some (y.f i) := getD_some (by rw [h.fl]; exact hiS)
   have hgc := goneR_get (c := c) hiS
   have hci := hcle i hiS
   have hn16 := n_16 h hiS
   have hf16 := h.f16 i hiS
   have hcL : c i * y.L ≤ 16 * 5 := Nat.mul_le_mul (by omega) h.l5
   have hcL2 : (c i : Int) * (y.L : Int) = ((c i * y.L : Nat) : Int) := by push_cast; rfl
   have hcL3 : (y.f i : Int) + ((c i * y.L : Nat) : Int) = ((y.f i + c i * y.L : Nat) : Int) := by push_cast; rfl
   by_cases hc : c i < y.n i
   ·have hN := ok_NeedY h hiS hc
    by_cases hnew : pickS y.D y.n c i = none ∨ ∃ s, pickS y.D y.n c i = some s ∧ (y.D i).getD (c i) 0 < (y.D s).getD (c s) 0
    ·have hp1 := pk_new hc hnew
     have hw : pkA (pickS y.D y.n c i) < 0 ∨ (¬ pkA (pickS y.D y.n c i) < 0 ∧ (y.D i).getD (c i) 0 < pkD y c (pickS y.D y.n c i)) := by
      rcases hnew with e | ⟨s, e, h2⟩
      ·rw [e]; exact .inl (by decide)
      ·rw [e]; exact .inr ⟨by show ¬ ((s : Nat) : Int) < 0; omega, h2⟩
     have ep1 : pkA (pickS y.D y.n c (i + 1)) = (i : Int) := by rw [hp1]; rfl
     have ep2 : pkD y c (pickS y.D y.n c (i + 1)) = (y.D i).getD (c i) 0 := by rw [hp1]; rfl
     generalize pkA (pickS y.D y.n c i) = pa at *
     generalize pkD y c (pickS y.D y.n c i) = pd at *
     generalize (y.D i).getD (c i) 0 = d at *
     rcases hw with hw | ⟨hw, hw2⟩
     ·skip
      try clear hF
      have hF := And.intro hSl (And.intro hSl2 (And.intro hFl (And.intro hgF (And.intro hgc (And.intro hgl (And.intro hrow (And.intro hcL2 (hcL3))))))))
      refine twF ?_; try with_reducible intro QQ hQQ
      refine tiF ?_; try clear hQQ QQ
      refine twF ?_; try with_reducible intro QQ hQQ
      (refine cDF 14 rfl rfl rfl (hN) Tryz.func14 rfl ?_); refine tdF ?_; try clear hQQ QQ
      refine twF ?_; try with_reducible intro QQ hQQ
      refine tiF ?_; try clear hQQ QQ
      refine twF ?_; try with_reducible intro QQ hQQ
      refine ⟨⟨i + 1, by omega⟩, ?_, weak_round ?_ (by first | rfl | (simp only [hF, go_sem, ↓reduceIte]))⟩
      rotate_left
      ·simp only [ep1, ep2]
       (simp only [hF, go_sem, ↓reduceIte]; try rfl)
      ·simp only; omega
     ·skip
      try clear hF
      have hF := And.intro hSl (And.intro hSl2 (And.intro hFl (And.intro hgF (And.intro hgc (And.intro hgl (And.intro hrow (And.intro hcL2 (hcL3))))))))
      refine twF ?_; try with_reducible intro QQ hQQ
      refine tiF ?_; try clear hQQ QQ
      refine twF ?_; try with_reducible intro QQ hQQ
      (refine cDF 14 rfl rfl rfl (hN) Tryz.func14 rfl ?_); refine tdF ?_; try clear hQQ QQ
      refine twF ?_; try with_reducible intro QQ hQQ
      refine tiF ?_; try clear hQQ QQ
      refine twF ?_; try with_reducible intro QQ hQQ
      refine ⟨⟨i + 1, by omega⟩, ?_, weak_round ?_ (by first | rfl | (simp only [hF, go_sem, ↓reduceIte]))⟩
      rotate_left
      ·simp only [ep1, ep2]
       (simp only [hF, go_sem, ↓reduceIte]; try rfl)
      ·simp only; omega
    ·have hold : ∃ s, pickS y.D y.n c i = some s ∧ ¬ (y.D i).getD (c i) 0 < (y.D s).getD (c s) 0 := by
      cases e : pickS y.D y.n c i with
      | none => exact absurd (.inl e) hnew
      | some s => exact ⟨s, rfl, fun h2 => hnew (.inr ⟨s, e, h2⟩)⟩
     obtain ⟨s0, hps, hnl⟩ := hold
     have ep : pickS y.D y.n c (i + 1) = pickS y.D y.n c i := by rw [pk_old hps hnl, hps]
     have hw1 : ¬ pkA (pickS y.D y.n c i) < 0 := by rw [hps]; show ¬ ((s0 : Nat) : Int) < 0; omega
     have hw2 : ¬ (y.D i).getD (c i) 0 < pkD y c (pickS y.D y.n c i) := by rw [hps]; exact hnl
     clear hps hnl hnew
     obtain ⟨pa, hpa⟩ : ∃ pa, pkA (pickS y.D y.n c i) = pa := ⟨_, rfl⟩
     obtain ⟨pd, hpd⟩ : ∃ pd, pkD y c (pickS y.D y.n c i) = pd := ⟨_, rfl⟩
     have ep1 : pkA (pickS y.D y.n c (i + 1)) = pa := by rw [ep, hpa]
     have ep2 : pkD y c (pickS y.D y.n c (i + 1)) = pd := by rw [ep, hpd]
     rw [hpa, hpd]
     rw [hpa] at hw1
     rw [hpd] at hw2
     generalize (y.D i).getD (c i) 0 = d at *
     try clear hF
     have hF := And.intro hSl (And.intro hSl2 (And.intro hFl (And.intro hgF (And.intro hgc (And.intro hgl (And.intro hrow (And.intro hcL2 (hcL3))))))))
     refine twF ?_; try with_reducible intro QQ hQQ
     refine tiF ?_; try clear hQQ QQ
     refine twF ?_; try with_reducible intro QQ hQQ
     (refine cDF 14 rfl rfl rfl (hN) Tryz.func14 rfl ?_); refine tdF ?_; try clear hQQ QQ
     refine twF ?_; try with_reducible intro QQ hQQ
     refine tiF ?_; try clear hQQ QQ
     refine twF ?_; try with_reducible intro QQ hQQ
     refine ⟨⟨i + 1, by omega⟩, ?_, weak_round ?_ (by first | rfl | (simp only [hF, go_sem, ↓reduceIte]))⟩
     rotate_left
     ·simp only [ep1, ep2]
      (simp only [hF, go_sem, ↓reduceIte]; try rfl)
     ·simp only; omega
   ·obtain ⟨e, he0, hN⟩ := ok_NeedN h hiS hc
    have ep := pk_no (D := y.D) hc
    have ee : (e == 0) = false := by simpa using he0
    try clear hF
    have hF := And.intro hSl (And.intro hSl2 (And.intro hFl (And.intro hgF (And.intro hgc (And.intro hgl (And.intro hrow (And.intro hcL2 (And.intro hcL3 (ee)))))))))
    refine twF ?_; try with_reducible intro QQ hQQ
    refine tiF ?_; try clear hQQ QQ
    refine twF ?_; try with_reducible intro QQ hQQ
    (refine cDF 14 rfl rfl rfl (hN) Tryz.func14 rfl ?_); refine tdF ?_; try clear hQQ QQ
    refine twF ?_; try with_reducible intro QQ hQQ
    refine tiF ?_; try clear hQQ QQ
    refine twF ?_; try with_reducible intro QQ hQQ
    refine ⟨⟨i + 1, by omega⟩, ?_, weak_round ?_ (by first | rfl | (simp only [hF, go_sem, ↓reduceIte]))⟩
    rotate_left
    ·simp only [ep]
     (simp only [hF, go_sem, ↓reduceIte]; try rfl)
    ·simp only; omega
  ·have hie : i = y.S := by omega
   subst hie
   rw [hpk]
   have hdr := D_rng h hsnS hsnc
   have hgc := goneR_get (c := c) hsnS
   have hst := goneR_set (c := c) (S := y.S) (s := sn)
   have hn16 := n_16 h hsnS
   obtain ⟨kt, hkt, hkt2⟩ : ∃ kt : Nat, ((k + 1 : Nat) : Int) * (y.T : Int) = (kt : Int) ∧ kt ≤ 48 * 60 := ⟨(k + 1) * y.T, by push_cast; rfl, Nat.mul_le_mul (by omega) h.t60⟩
   have hkt3 : ((k : Int) + 1) * (y.T : Int) = (kt : Int) := by rw [← hkt]; push_cast; rfl
   rw [hkt] at hnext
   have epa : pkA (some sn) = (sn : Int) := rfl
   have epd : pkD y c (some sn) = (y.D sn).getD (c sn) 0 := rfl
   rw [epa, epd]
   generalize (y.D sn).getD (c sn) 0 = d at *
   have hmin : min ls (d - (kt : Int)) = if d - (kt : Int) < ls then d - (kt : Int) else ls := by rw [Int.min_def]; split <;> split <;> omega
   try clear hF
   have hF := And.intro hSl (And.intro hSl2 (And.intro hgc (And.intro hgl (And.intro hst (And.intro hkt (hkt3))))))
   refine twF ?_; try with_reducible intro QQ hQQ
   refine tiF ?_; try clear hQQ QQ
   refine twF ?_; try with_reducible intro QQ hQQ
   refine tiF ?_; try clear hQQ QQ
   refine twF ?_; try with_reducible intro QQ hQQ
   refine ⟨⟨(k + 1, bump c sn, min ls (d - (kt : Int))), hnext⟩, ?_, weak_round ?_ (by first | rfl | (simp only [hF, go_sem, ↓reduceIte]))⟩
   rotate_left
   ·simp only [hmin]
    (simp only [hF, go_sem, ↓reduceIte]; try rfl)
   ·simp only; omega
 ·have hke : k = N := by have := hls.le; omega
  have hlm : ls = (m : Int) := by
   have := hls.go
   rw [hke, Nat.sub_self] at this
   exact this
  subst hlm
  try clear hF
  have hF := And.intro hSl (And.intro hSl2 (hgl))
  refine twF ?_; try with_reducible intro QQ hQQ
  refine tiF ?_; try clear hQQ QQ
  refine twF ?_; try with_reducible intro QQ hQQ
  ((refine cOF 13 rfl rfl rfl (haw) Tryz.func13 rfl ?_); refine tuF ?_; try clear hQQ QQ); refine twF ?_; try with_reducible intro QQ hQQ
  refine aw_ret ?_; refine ⟨.inr rfl, ?_⟩; simp only [resA, res1, go_sem, ↓reduceIte]
end
end Go.Proofs.YthedkfiebmnghaaGreat
