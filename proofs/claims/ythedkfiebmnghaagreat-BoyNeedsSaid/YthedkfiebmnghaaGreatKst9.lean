/- Texts of the proof, joined. -/
import Derived.Test.YthedkfiebmnghaaGreatRows
import Derived.Test.YthedkfiebmnghaaGreatKba1
set_option linter.all false
namespace Go.Sh.Stand
structure Stand where
 mins : List (Int × Int)
 runs : List (Int × Int)
 sheep : List Int
 looks : List (Int × Int × Int)
abbrev Shearer := Int × Int × Int
def tk (t : Shearer) (k : Int) : Int := if k = 0 then t.1 else if k = 1 then t.2.1 else t.2.2
def gmax (a b : Int) : Int := if a < b then b else a
def begins : List (Int × Int) → Nat → Int → Option (Nat × Int)
 | [], _, _ => none
 | (st, be) :: r, i, done => if gmax done st < be then some (i, gmax done st) else begins r (i + 1) done
def dayFrom (runs : List (Int × Int)) (t : Shearer) : List Int → Nat → Int → List (Int × Int)
 | [], _, _ => []
 | k :: ks, run, done =>
  match begins (runs.drop run) run done with
  | none => List.replicate (ks.length + 1) (1000, -1)
  | some (i, at_) => (at_ + tk t k, (i : Int)) :: dayFrom runs t ks i (at_ + tk t k)
def day (s : Stand) (t : Shearer) : List (Int × Int) := dayFrom s.runs t s.sheep 0 0
def countAt (l : List (Int × Int)) (minute : Int) : Int := (l.filter fun x => decide (x.1 ≤ minute)).length
theorem countAt_snoc (l : List (Int × Int)) (x : Int × Int) (m : Int) : countAt (l ++ [x]) m = countAt l m + if x.1 ≤ m then 1 else 0 := by
 unfold countAt; rw [List.filter_append]; by_cases h : x.1 ≤ m <;> simp [List.filter_cons, h]
theorem countAt_le (l : List (Int × Int)) (m : Int) : 0 ≤ countAt l m ∧ countAt l m ≤ l.length := by
 unfold countAt; have := List.length_filter_le (fun x : Int × Int => decide (x.1 ≤ m)) l; omega
def gmin (a b : Int) : Int := if b < a then b else a
def jn (s x : Int × Int) : Int × Int := (gmin s.1 x.1, gmax s.2 x.2)
def joinedL (l : List (Int × Int)) : Int × Int := l.foldl jn (l.headD (0, 0))
end Go.Sh.Stand
namespace Go.Proofs.YthedkfiebmnghaaGreat
open Go.RowKit Go.Sh Go.Sh.Stand
def inB (a b c : Int) : Bool := decide (b ≤ a) && decide (a ≤ c)
def spanB (lo hi low high : Int) : Bool := (decide (low ≤ lo) && decide (lo ≤ hi)) && decide (hi ≤ high)
set_option maxHeartbeats 400000 in
theorem within_any (a b c : Int) (w : World) :
  Calls Tryz.prog 105 #[.int .i64 a, .int .i64 b, .int .i64 c] w fun e w' => e = .returned (.bool (inB a b c)) ∧ w = w' := by
 go_enter Tryz.func105, Tryz.ntmps105
 go_wp2
 all_goals (go_ret; exact ⟨retB (by simp [inB]; omega), rfl⟩)
set_option maxHeartbeats 400000 in
theorem isSpan_any (lo hi b c : Int) (w : World) :
  Calls Tryz.prog 104 #[.agg #[.int .i64 lo, .int .i64 hi], .int .i64 b, .int .i64 c] w fun e w' => e = .returned (.bool (spanB lo hi b c)) ∧ Below w.heap.size w w' := by
 by_cases h1 : b ≤ lo
 ·by_cases h2 : lo ≤ hi
  ·go_enter Tryz.func104, Tryz.ntmps104
   go_wp2
   go_ret; exact ⟨retB (by simp [spanB]; omega), (Below.refl _ _).alloc (Nat.le_refl _) _⟩
  ·go_enter Tryz.func104, Tryz.ntmps104
   go_wp2
   go_ret; exact ⟨retB (by simp [spanB]; omega), (Below.refl _ _).alloc (Nat.le_refl _) _⟩
 ·go_enter Tryz.func104, Tryz.ntmps104
  go_wp2
  go_ret; exact ⟨retB (by simp [spanB]; omega), (Below.refl _ _).alloc (Nat.le_refl _) _⟩
set_option maxHeartbeats 400000 in
theorem isKind_any (a : Int) (w : World) :
  Calls Tryz.prog 108 #[.int .i64 a] w fun e w' => e = .returned (.bool (inB a 0 2)) ∧ w = w' := by
 go_enter Tryz.func108, Tryz.ntmps108
 go_wp2_with (go_at_call 105; refine (within_any _ _ _ _).mono ?_; rintro e w' ⟨rfl, rfl⟩)
 go_ret
 exact ⟨rfl, rfl⟩
set_option maxHeartbeats 400000 in
theorem open1_any (a : Int) (w : World) :
  Calls Tryz.prog 107 #[.int .i64 a] w fun e w' => e = .returned (.bool (!inB a 0 2)) ∧ w = w' := by
 go_enter Tryz.func107, Tryz.ntmps107
 go_wp2_with (go_at_call 108; refine (isKind_any _ _).mono ?_; rintro e w' ⟨rfl, rfl⟩)
 go_ret
 exact ⟨rfl, rfl⟩
set_option maxHeartbeats 400000 in
theorem ask_ok (c : Int) (w : World) :
  Calls Tryz.prog 103 #[.bool true, .int .i64 c] w fun e w' => e = .returned (.tuple #[]) ∧ w = w' := by
 go_enter Tryz.func103, Tryz.ntmps103
 go_wp2
 go_end0
 exact ⟨rfl, rfl⟩
def refusal (c : Int) : List PanicEntry := [{ v := .iface 145 (.int .i64 c), recovered := false }]
set_option maxHeartbeats 400000 in
theorem ask_no (c : Int) (w : World) :
  Calls Tryz.prog 103 #[.bool false, .int .i64 c] w fun e w' => e = .panicked (refusal c) ∧ w = w' := by
 go_enter Tryz.func103, Tryz.ntmps103
 go_wp2
 exact ⟨rfl, rfl, rfl⟩
theorem box_below (w : World) (o : Obj) : Below w.heap.size w (w.alloc o) := (Below.refl _ _).alloc (Nat.le_refl _) _
set_option maxHeartbeats 400000 in
theorem counted_any (m : Int) (bv : Value) (v : Value) (l : List (Int × Int)) (w : World) (h : Prs w w.heap.size v l) (hm : l.length < 100) :
  Calls Tryz.prog 148 #[.agg #[.int .i64 m], bv, v] w fun e w' => e = .returned (.int .i64 (countAt l m)) ∧ Below w.heap.size w w' := by
 obtain ⟨ao, cap, rfl, hlen, hrow⟩ := h
 have HR := Lib.hid hrow; clear hrow
 go_enter Tryz.func148, Tryz.ntmps148
 go_wp2
 go_loopw [6, 11] (fun n i wr => ∃ k : Nat, k ≤ l.length ∧ i = .int .i64 k ∧ n = .int .i64 (countAt (l.take k) m) ∧ Below (w.heap.size + 1) (w.alloc (.cells #[.int .i64 m] 124)) wr) (fun _ i _ => l.length - (intOf i).toNat)
 case atStart => exact ⟨0, by omega, rfl, rfl, Below.refl _ _⟩
 case round =>
  obtain ⟨k, hk, rfl, rfl, hb⟩ := hrel
  have hbox : wr.cell? ⟨w.heap.size, 0, none⟩ = some (.int .i64 m) := (hb.cell (by simp)).trans (by simp)
  have hsz : w.heap.size < wr.heap.size := by have := hb.size; simp at this; omega
  by_cases hlt : k < l.length
  ·obtain ⟨b, off, rfl, hbl, hx⟩ := HR.out (by intro e; rw [e] at hlt; simp at hlt)
   have c0 : wr.cell? ⟨b, off + k * 2, none⟩ = some (.int .i64 (l[k]).1) := (hb.cell (by simp; omega)).trans ((World.cell?_alloc_lt _ _ _ hbl).trans (by simpa using hx k l[k] (by simp [hlt]) 0 _ rfl))
   have c1 : wr.cell? ⟨b, off + k * 2 + 1, none⟩ = some (.int .i64 (l[k]).2) := (hb.cell (by simp; omega)).trans ((World.cell?_alloc_lt _ _ _ hbl).trans (by simpa using hx k l[k] (by simp [hlt]) 1 _ rfl))
   have hle := countAt_le (l.take k) m
   have hll : (l.take k).length ≤ k := List.length_take_le _ _
   have HS : Hid (countAt (l.take (k + 1)) m = countAt (l.take k) m + if (l[k]).1 ≤ m then 1 else 0) := by
    rw [List.take_succ_eq_append_getElem hlt, countAt_snoc]; exact Lib.hid rfl
   have HB := Lib.hid hb; clear hb
   go_wp2
   all_goals
    go_roundw
    case rel => exact ⟨k + 1, by omega, by go_num, by rw [HS.out]; first | rw [if_pos ‹_›] | (rw [if_neg (by omega)]; go_num), HB.out.alloc hsz _⟩
    case measure => simp [intOf]; omega
  ·have HB := Lib.hid hb; clear hb
   go_wp2
   go_ret
   exact ⟨retI (by rw [List.take_of_length_le (by omega)]), (box_below _ _).trans (HB.out.mono (by simp))⟩
set_option maxHeartbeats 400000 in
theorem doneAt_any (k : Nat) (bv : Value) (v : Value) (l : List (Int × Int)) (w : World) (h : Prs w w.heap.size v l) (hk : k < l.length) :
  Calls Tryz.prog 172 #[.agg #[.int .i64 k], bv, v] w fun e w' => e = .returned (.int .i64 (l.getD k (0, 0)).1) ∧ Below w.heap.size w w' := by
 obtain ⟨ao, cap, rfl, hlen, hrow⟩ := h
 obtain ⟨b, off, rfl, hbl, hx⟩ := hrow (by intro e; rw [e] at hk; simp at hk)
 have c0 : w.cell? ⟨b, off + k * 2, none⟩ = some (.int .i64 (l[k]).1) := by simpa using hx k l[k] (by simp [hk]) 0 _ rfl
 have hg : l.getD k (0, 0) = l[k] := by simp [List.getD, hk]
 rw [hg]
 clear hx hg
 go_enter Tryz.func172, Tryz.ntmps172
 go_wp2
 go_ret
 exact ⟨rfl, box_below _ _⟩
theorem begins_skip (rs : List (Int × Int)) (k : Nat) (done : Int) (h : k < rs.length) :
  begins (rs.drop k) k done = if gmax done (rs[k]).1 < (rs[k]).2 then some (k, gmax done (rs[k]).1) else begins (rs.drop (k + 1)) (k + 1) done := by
 rw [List.drop_eq_getElem_cons h, begins]
def begEnd : Option (Nat × Int) → Value
 | some (i, at_) => .tuple #[.int .i64 i, .int .i64 at_, .bool true]
 | none => .tuple #[.int .i64 0, .int .i64 0, .bool false]
theorem ret_of {v u : Value} (h : v = u) : Ending.returned v = .returned u := by rw [h]
set_option maxHeartbeats 400000 in
theorem begins_any (b : Nat) (v : Value) (rs : List (Int × Int)) (run : Nat) (done : Int) (w : World)
  (hb6 : w.cell? ⟨b, 6, none⟩ = some v) (h : Prs w w.heap.size v rs) (hr : run ≤ rs.length) :
  Calls Tryz.prog 128 #[.pointer (some ⟨b, 0, none⟩), .int .i64 run, .int .i64 done] w fun e w' => e = .returned (begEnd (begins (rs.drop run) run done)) ∧ w = w' := by
 obtain ⟨ao, cap, rfl, hlen, hrow⟩ := h
 have HR := Lib.hid hrow; clear hrow
 obtain ⟨target, ht⟩ : ∃ t, begEnd (begins (rs.drop run) run done) = t := ⟨_, rfl⟩
 rw [ht]
 have HT := Lib.hid ht; clear ht
 go_enter Tryz.func128, Tryz.ntmps128
 go_wp2
 go_loop [9] (fun i => ∃ k : Nat, run ≤ k ∧ k ≤ rs.length ∧ i = .int .i64 k ∧ begEnd (begins (rs.drop k) k done) = target) (fun i => rs.length - (intOf i).toNat)
 case atStart => exact ⟨run, by omega, by omega, rfl, HT.out⟩
 case round =>
  obtain ⟨k, hk0, hk, rfl, hk2⟩ := hrel
  have HK := Lib.hid hk2; clear hk2
  by_cases hlt : k < rs.length
  ·obtain ⟨rb, off, rfl, hbl, hx⟩ := HR.out (by intro e; rw [e] at hlt; simp at hlt)
   have c0 : w.cell? ⟨rb, off + k * 2, none⟩ = some (.int .i64 (rs[k]).1) := by simpa using hx k rs[k] (by simp [hlt]) 0 _ rfl
   have c1 : w.cell? ⟨rb, off + k * 2 + 1, none⟩ = some (.int .i64 (rs[k]).2) := by simpa using hx k rs[k] (by simp [hlt]) 1 _ rfl
   clear hx
   have hs := begins_skip rs k done hlt
   unfold gmax at hs
   by_cases hd : done < (rs[k]).1
   ·rw [if_pos hd] at hs
    by_cases hq : (rs[k]).1 < (rs[k]).2
    ·rw [if_pos hq] at hs
     have HS := Lib.hid hs; clear hs
     go_wp2
     go_ret3
     refine ⟨ret_of ?_, rfl⟩
     rw [← HK.out, HS.out]; rfl
    ·rw [if_neg hq] at hs
     have HS := Lib.hid hs; clear hs
     go_wp2
     go_round
     case rel => exact ⟨k + 1, by omega, by omega, by go_num, by rw [← HK.out, HS.out]⟩
     case measure => simp [intOf]; omega
   ·rw [if_neg hd] at hs
    by_cases hq : done < (rs[k]).2
    ·rw [if_pos hq] at hs
     have HS := Lib.hid hs; clear hs
     go_wp2
     go_ret3
     refine ⟨ret_of ?_, rfl⟩
     rw [← HK.out, HS.out]; rfl
    ·rw [if_neg hq] at hs
     have HS := Lib.hid hs; clear hs
     go_wp2
     go_round
     case rel => exact ⟨k + 1, by omega, by omega, by go_num, by rw [← HK.out, HS.out]⟩
     case measure => simp [intOf]; omega
  ·go_wp2
   go_ret3
   refine ⟨ret_of ?_, rfl⟩
   rw [← HK.out, List.drop_eq_nil_of_le (by omega)]; rfl
set_option maxHeartbeats 400000 in
theorem after_any (a b c : Int) (at_ k : Int) (w : World) (hk : 0 ≤ k ∧ k ≤ 2) (ha : 0 ≤ a ∧ a ≤ 1000) (hb : 0 ≤ b ∧ b ≤ 1000) (hc : 0 ≤ c ∧ c ≤ 1000) (hat : 0 ≤ at_ ∧ at_ ≤ 100000) :
  Calls Tryz.prog 127 #[.agg #[.int .i64 a, .int .i64 b, .int .i64 c], .int .i64 at_, .int .i64 k] w fun e w' => e = .returned (.int .i64 (at_ + tk (a, b, c) k)) ∧ Below w.heap.size w w' := by
 obtain rfl | rfl | rfl : k = 0 ∨ k = 1 ∨ k = 2 := by omega
 ·go_enter Tryz.func127, Tryz.ntmps127
  go_wp2
  go_ret; exact ⟨rfl, box_below _ _⟩
 ·go_enter Tryz.func127, Tryz.ntmps127
  go_wp2
  go_ret; exact ⟨rfl, box_below _ _⟩
 ·go_enter Tryz.func127, Tryz.ntmps127
  go_wp2
  go_ret; exact ⟨rfl, box_below _ _⟩
theorem below_two (w : World) (o o' : Obj) : Below w.heap.size w ((w.alloc o).alloc o') := (box_below _ _).alloc (by simp) _
def setK (a b c : Int) (k n : Int) : Shearer := if k = 0 then (n, b, c) else if k = 1 then (a, n, c) else (a, b, n)
set_option maxHeartbeats 400000 in
theorem with_any (a b c : Int) (k n : Int) (w : World) (hk : 0 ≤ k ∧ k ≤ 2) :
  Calls Tryz.prog 147 #[.agg #[.int .i64 a, .int .i64 b, .int .i64 c], .int .i64 k, .int .i64 n] w fun e w' => e = .returned (.agg #[.int .i64 (setK a b c k n).1, .int .i64 (setK a b c k n).2.1, .int .i64 (setK a b c k n).2.2]) ∧ Below w.heap.size w w' := by
 obtain rfl | rfl | rfl : k = 0 ∨ k = 1 ∨ k = 2 := by omega
 all_goals
  go_enter Tryz.func147, Tryz.ntmps147
  go_wp2
  refine bodyPost_ret (by simp [results, Tryz.results147, go_sem]; exact ⟨rfl, rfl, rfl⟩) rfl ⟨rfl, ?_⟩
  exact below_two _ _ _
set_option maxHeartbeats 400000 in
theorem isSheep_any (b : Nat) (ao : Option Addr) (n cap : Nat) (k : Int) (w : World) (hb : w.cell? ⟨b, 7, none⟩ = some (.slice ao n cap)) (hn : n < 1000) :
  Calls Tryz.prog 77 #[.pointer (some ⟨b, 0, none⟩), .int .i64 k] w fun e w' => e = .returned (.bool (inB k 0 (n - 1))) ∧ w = w' := by
 go_enter Tryz.func77, Tryz.ntmps77
 go_wp2_with (go_at_call 105; refine (within_any _ _ _ _).mono ?_; rintro e w' ⟨rfl, rfl⟩)
 go_ret
 exact ⟨rfl, rfl⟩
set_option maxHeartbeats 400000 in
theorem every_any (b : Nat) (ao : Option Addr) (n cap : Nat) (w : World) (hb : w.cell? ⟨b, 8, none⟩ = some (.slice ao n cap)) (hn : n ≤ 4) :
  Calls Tryz.prog 115 #[.pointer (some ⟨b, 0, none⟩)] w fun e w' => e = .returned (.int .u64 (2 ^ n - 1)) ∧ w = w' := by
 obtain rfl | rfl | rfl | rfl | rfl : n = 0 ∨ n = 1 ∨ n = 2 ∨ n = 3 ∨ n = 4 := by omega
 all_goals
  go_enter Tryz.func115, Tryz.ntmps115
  go_wp2
  go_ret
  exact ⟨rfl, rfl⟩
theorem foldl_take_snoc {α β : Type} (f : β → α → β) (b : β) (l : List α) {k : Nat} (h : k < l.length) : (l.take (k + 1)).foldl f b = f ((l.take k).foldl f b) l[k] := by
 rw [List.take_succ_eq_append_getElem h, List.foldl_append]; rfl
set_option maxHeartbeats 1000000 in
theorem joined_any (v : Value) (l : List (Int × Int)) (w : World) (h : Prs w w.heap.size v l) (hm : l ≠ []) :
  Calls Tryz.prog 144 #[v] w fun e w' => e = .returned (.agg #[.int .i64 (joinedL l).1, .int .i64 (joinedL l).2]) ∧ Below w.heap.size w w' := by
 obtain ⟨ao, cap, rfl, hlen, hrow⟩ := h
 obtain ⟨lb, lo, rfl, hbl, hx⟩ := hrow hm
 have hpos : 0 < l.length := by cases l <;> simp_all
 have c00 : w.cell? ⟨lb, lo, none⟩ = some (.int .i64 (l[0]).1) := by simpa using hx 0 l[0] (by simp [hpos]) 0 _ rfl
 have c01 : w.cell? ⟨lb, lo + 1, none⟩ = some (.int .i64 (l[0]).2) := by simpa using hx 0 l[0] (by simp [hpos]) 1 _ rfl
 have hhd : l.headD (0, 0) = l[0] := by cases l <;> simp_all
 obtain ⟨t, ht⟩ : ∃ t, joinedL l = t := ⟨_, rfl⟩
 unfold joinedL at ht
 rw [hhd] at ht
 unfold joinedL
 rw [hhd, ht]
 have HT := Lib.hid ht
 have HX := Lib.hid hx
 clear hx ht hhd hrow hm
 obtain ⟨h0, hh0⟩ : ∃ x, l[0] = x := ⟨_, rfl⟩
 rw [hh0] at c00 c01 HT
 clear hh0
 go_enter Tryz.func144, Tryz.ntmps144
 go_wp2
 go_loopw [11] (fun i wr => ∃ j : Nat, j ≤ l.length ∧ i = .int .i64 j ∧ ∃ p : Int × Int, Hid ((l.take j).foldl jn h0 = p) ∧ Below (w.heap.size + 1) ((w.alloc (.cells #[.int .i64 0, .int .i64 0] 45)).alloc (.cells #[.int .i64 h0.1, .int .i64 h0.2] 45)) wr ∧ w.heap.size + 1 < wr.heap.size ∧
   wr.cell? ⟨w.heap.size + 1, 0, none⟩ = some (.int .i64 p.1) ∧ wr.cell? ⟨w.heap.size + 1, 1, none⟩ = some (.int .i64 p.2) ∧ wr.frozen? ⟨w.heap.size + 1, 0, none⟩ = false ∧ wr.frozen? ⟨w.heap.size + 1, 1, none⟩ = false) (fun i _ => l.length - (intOf i).toNat)
 case atStart => exact ⟨0, by omega, rfl, h0, Lib.hid rfl, Below.refl _ _, by simp, by simp [go_sem], by simp [go_sem], by simp [go_sem], by simp [go_sem]⟩
 case round =>
  obtain ⟨j, hj, rfl, p, HP, hb, hsz, s0, s1, f0, f1⟩ := hrel
  have hbw : Below w.heap.size w wr := (below_two _ _ _).trans (hb.mono (by simp))
  by_cases hlt : j < l.length
  ·have c0 : wr.cell? ⟨lb, lo + j * 2, none⟩ = some (.int .i64 (l[j]).1) := cell_old hbw (by simpa using HX.out j l[j] (by simp [hlt]) 0 _ rfl)
   have c1 : wr.cell? ⟨lb, lo + j * 2 + 1, none⟩ = some (.int .i64 (l[j]).2) := cell_old hbw (by simpa using HX.out j l[j] (by simp [hlt]) 1 _ rfl)
   obtain ⟨x, hx⟩ : ∃ x, l[j] = x := ⟨_, rfl⟩
   have HS : Hid ((l.take (j + 1)).foldl jn h0 = jn p x) := Lib.hid (by rw [foldl_take_snoc jn h0 l hlt, HP.out, hx])
   rw [hx] at c0 c1
   clear hx
   have HB := Lib.hid hb; clear hb hbw
   unfold jn gmin gmax at HS
   go_wp2
   go_roundw
   case rel =>
    refine ⟨j + 1, by omega, by go_num, jn p x, HS, ?_, by simp; omega, ?_, ?_, ?_, ?_⟩
    ·refine ((HB.out.setCell ?_ _).setCell ?_ _).alloc ?_ _
     ·exact Nat.le_refl _
     ·exact Nat.le_refl _
     ·simp; omega
    all_goals simp [go_sem, jn, gmin, gmax, s0, s1, f0, f1, hsz]
   case measure => simp [intOf]; omega
  ·have HE : Hid (List.take j l = l) := Lib.hid (List.take_of_length_le (by omega))
   have r0 : wr.cell? ⟨w.heap.size, 0, none⟩ = some (.int .i64 0) := (hb.cell (by simp)).trans (by simp [go_sem])
   have r1 : wr.cell? ⟨w.heap.size, 1, none⟩ = some (.int .i64 0) := (hb.cell (by simp)).trans (by simp [go_sem])
   have q0 : wr.frozen? ⟨w.heap.size, 0, none⟩ = false := (hb.frozen (by simp)).trans (by simp [go_sem])
   have q1 : wr.frozen? ⟨w.heap.size, 1, none⟩ = false := (hb.frozen (by simp)).trans (by simp [go_sem])
   have HW := Lib.hid hbw; clear hbw hb
   rw [HE.out] at HP
   have hpt : p = t := HP.out.symm.trans HT.out
   subst hpt
   go_wp2
   refine bodyPost_ret (v := .agg #[.int .i64 p.1, .int .i64 p.2]) (by simp [results, Tryz.results144, go_sem, r0, r1, q0, q1]) rfl ⟨rfl, ?_⟩
   exact (HW.out.setCell (Nat.le_refl _) _).setCell (Nat.le_refl _) _
def findI : List Int → Int
 | [] => -1
 | k :: r => if inB k 0 2 then (if findI r < 0 then -1 else findI r + 1) else 0
theorem findI_ge (l : List Int) : -1 ≤ findI l := by
 induction l with
 | nil => decide
 | cons k r ih => unfold findI; split <;> (try split) <;> omega
theorem findI_none (l : List Int) (h : l.all (fun k => inB k 0 2) = true) : findI l = -1 := by
 induction l with
 | nil => rfl
 | cons k r ih =>
  simp only [List.all_cons, Bool.and_eq_true] at h
  unfold findI; rw [if_pos h.1, ih h.2]; rfl
theorem findI_at : ∀ (l : List Int) (j : Nat) (hj : j < l.length), (l.take j).all (fun k => inB k 0 2) = true → inB l[j] 0 2 = false → findI l = j
 | [], j, hj, _, _ => by simp at hj
 | k :: r, 0, _, _, h => by unfold findI; simp at h; rw [if_neg (by simp [h])]; rfl
 | k :: r, j + 1, hj, ha, h => by
  simp only [List.take_succ_cons, List.all_cons, Bool.and_eq_true] at ha
  have := findI_at r j (by simpa using hj) ha.2 (by simpa using h)
  unfold findI; rw [if_pos ha.1, this, if_neg (by omega)]; omega
theorem findI_iff (l : List Int) : (!l.all (fun k => inB k 0 2)) = decide (0 ≤ findI l) := by
 induction l with
 | nil => rfl
 | cons k r ih =>
  have hg := findI_ge r
  unfold findI
  simp only [List.all_cons]
  cases hk : inB k 0 2 with
  | false => simp
  | true =>
   simp only [Bool.true_and, if_true]
   rw [ih]
   split
   ·simp; omega
   ·simp; omega
set_option maxHeartbeats 400000 in
theorem index80_any (v : Value) (l : List Int) (w : World) (h : Ints w w.heap.size v l) :
  Calls Tryz.prog 125 #[v, .func (.func 107) #[] #[]] w fun e w' => e = .returned (.int .i64 (findI l)) ∧ w = w' := by
 obtain ⟨ao, cap, rfl, hlen, hrow⟩ := h
 have HR := Lib.hid hrow; clear hrow
 obtain ⟨t, ht⟩ : ∃ t, findI l = t := ⟨_, rfl⟩
 rw [ht]
 have HT := Lib.hid ht; clear ht
 go_enter Tryz.func125, Tryz.ntmps125
 go_wp2
 go_loop [5, 8] (fun c i => ∃ j : Nat, j ≤ l.length ∧ i = .int .i64 j ∧ Hid ((l.take j).all (fun k => inB k 0 2) = true)) (fun _ i => l.length - (intOf i).toNat)
 case atStart => exact ⟨0, by omega, rfl, Lib.hid rfl⟩
 case round =>
  obtain ⟨j, hj, rfl, HA⟩ := hrel
  by_cases hlt : j < l.length
  ·obtain ⟨lb, lo, rfl, hbl, hx⟩ := HR.out (by intro e; rw [e] at hlt; simp at hlt)
   have c0 : w.cell? ⟨lb, lo + j, none⟩ = some (.int .i64 l[j]) := by simpa using hx j l[j] (by simp [hlt]) 0 _ rfl
   clear hx
   obtain ⟨x, hx⟩ : ∃ x, l[j] = x := ⟨_, rfl⟩
   rw [hx] at c0
   by_cases hq : inB x 0 2 = true
   ·have hq' : (!inB x 0 2) = false := by rw [hq]; rfl
    have HS : Hid ((l.take (j + 1)).all (fun k => inB k 0 2) = true) := Lib.hid (by rw [List.take_succ_eq_append_getElem hlt, List.all_append, HA.out, hx]; simp [hq])
    clear hx hq
    go_wp2_with (go_at_call 107; refine (open1_any _ _).mono ?_; rintro e w' ⟨rfl, rfl⟩)
    go_round
    case rel => exact ⟨j + 1, by omega, by go_num, HS⟩
    case measure => simp [intOf]; omega
   ·have hq' : (!inB x 0 2) = true := by simpa using hq
    have HS : Hid (t = j) := Lib.hid (by rw [← HT.out]; exact findI_at l j hlt HA.out (by rw [hx]; simpa using hq))
    clear hx hq
    go_wp2_with (go_at_call 107; refine (open1_any _ _).mono ?_; rintro e w' ⟨rfl, rfl⟩)
    go_ret
    exact ⟨retI HS.out.symm, rfl⟩
  ·have HS : Hid (t = -1) := Lib.hid (by rw [← HT.out]; exact findI_none l (by have := HA.out; rwa [List.take_of_length_le (by omega)] at this))
   go_wp2
   go_ret
   exact ⟨retI HS.out.symm, rfl⟩
set_option maxHeartbeats 400000 in
theorem contains80_any (v : Value) (l : List Int) (w : World) (h : Ints w w.heap.size v l) :
  Calls Tryz.prog 106 #[v, .func (.func 107) #[] #[]] w fun e w' => e = .returned (.bool (!l.all (fun k => inB k 0 2))) ∧ w = w' := by
 obtain ⟨t, ht⟩ : ∃ t, findI l = t := ⟨_, rfl⟩
 have hc := findI_iff l
 rw [ht] at hc
 obtain ⟨b, hb⟩ : ∃ b, (!l.all (fun k => inB k 0 2)) = b := ⟨_, rfl⟩
 rw [hb] at hc ⊢
 have HX := Lib.hid (index80_any v l w h)
 rw [ht] at HX
 cases b
 ·have hn : t < 0 := by simpa using hc
  clear ht hb hc h
  go_enter Tryz.func106, Tryz.ntmps106
  go_wp2_with (go_at_call 125; refine HX.out.mono ?_; rintro e w' ⟨rfl, rfl⟩)
  go_ret
  exact ⟨retB (by simp; omega), rfl⟩
 ·have hn : 0 ≤ t := by simpa using hc
  clear ht hb hc h
  go_enter Tryz.func106, Tryz.ntmps106
  go_wp2_with (go_at_call 125; refine HX.out.mono ?_; rintro e w' ⟨rfl, rfl⟩)
  go_ret
  exact ⟨retB (by simp), rfl⟩
set_option maxRecDepth 100000 in
theorem answer_refused (p : Addr) (x : Int) (c : Int) (older : List PanicEntry) (w : World) (hc : w.cell? p = some (.int .i64 x)) (hz : w.frozen? p = false) :
  CallsD Tryz.prog 74 #[.pointer (some p)] (.panicking ({ v := .iface 145 (.int .i64 c), recovered := false } :: older)) w fun e u' w' =>
   e = .returned (.tuple #[]) ∧ u' = .panicking ({ v := .iface 145 (.int .i64 c), recovered := true } :: older) ∧ w' = w.setCell p (.int .i64 c) := by
 refine callsD_of_wpS Tryz.func74 rfl fun c₀ cs hu => ?_
 simp only [Tryz.ntmps74, List.size_toArray, List.length_cons, List.length_nil, Nat.reduceAdd, Nat.reduceSub, Array.replicate_succ, Array.replicate_zero, List.push_toArray, List.append_toArray, List.nil_append, List.cons_append]
 apply wpS_seq
 apply wpS_region
 simp [wpOpsS, go_sem, recoverD, hu, Exit.thenS]
 refine wpS_of_wp ?_
 refine Code.wp_mono (Q := fun e a' w' => e = .normal ∧ a'.defers = [] ∧ w' = w.setCell p (.int .i64 c)) ?_ ?_
 ·rintro e a' w' ⟨rfl, hd, rfl⟩
  exact ⟨hd, _, rfl, _, results_none rfl _ _ _, rfl, rfl, rfl⟩
 clear hu
 have hta : ∀ w, (Instr.typeAssert (.iface 145 (.int .i64 c)) 20 145 true).run Tryz.prog w = .ok (.tuple #[.int .i64 c, .bool true]) w := fun _ => by kernel_rfl
 go_wp2
theorem answer_idle (p : Addr) (w : World) :
  CallsD Tryz.prog 74 #[.pointer (some p)] .returning w fun e u' w' => e = .returned (.tuple #[]) ∧ u' = .returning ∧ w' = w := by
 refine callsD_of_wpS Tryz.func74 rfl fun c₀ cs hu => ?_
 simp only [Tryz.ntmps74, List.size_toArray, List.length_cons, List.length_nil, Nat.reduceAdd, Nat.reduceSub, Array.replicate_succ, Array.replicate_zero, List.push_toArray, List.append_toArray, List.nil_append, List.cons_append]
 apply wpS_seq
 apply wpS_region
 simp [wpOpsS, go_sem, recoverD, hu, Exit.thenS]
 refine wpS_of_wp ?_
 refine Code.wp_mono (Q := fun e a' w' => e = .normal ∧ a'.defers = [] ∧ w' = w) ?_ ?_
 ·rintro e a' w' ⟨rfl, hd, rfl⟩
  exact ⟨hd, .returning, by cases c₀; simp_all, _, results_none rfl _ _ _, rfl, rfl, rfl⟩
 clear hu
 go_wp2
theorem Tryz.laidOut : laidOutB Tryz.prog = true := by kernel_rfl
theorem key140 : WideMaps.KeyLaw Tryz.prog 181 := deep_law_laid Tryz.laidOut (m := 5) (by omega) (of_decide_eq_true (by kernel_rfl)) (by kernel_rfl) (by kernel_rfl)
theorem cells140 : Tryz.prog.cellsOf 181 = 3 := by kernel_rfl
theorem cells88 : Tryz.prog.cellsOf 154 = 3 := by kernel_rfl
theorem cells3 : Tryz.prog.cellsOf 3 = 1 := by kernel_rfl
theorem types_size : Tryz.prog.types.size = 232 := by kernel_rfl
theorem key140_of (a b c : Int) (ha : (Lit.int .i64 a).wf = true) (hb : (Lit.int .i64 b).wf = true) (hc : (Lit.int .i64 c).wf = true) : ∃ l, keyOf Tryz.prog 181 (.agg #[.int .i64 a, .int .i64 b, .int .i64 c]) = some l := by
 have h1 : Tryz.prog.keyType 181 = true := by kernel_rfl
 have i0 : ∀ d (n : Int), (Lit.int .i64 n).wf = true → Tryz.prog.keyLits (d + 1) 3 [.int .i64 n] = some [.int .i64 n] := fun d n h => by
  unfold Program.keyLits; simp [Tryz.underlying3, h]
 have i1 : ∀ d, Tryz.prog.keyLits (d + 1 + 1) 154 [.int .i64 a, .int .i64 b, .int .i64 c] = some [.int .i64 a, .int .i64 b, .int .i64 c] := fun d => by
  unfold Program.keyLits; simp [Tryz.underlying154, cells88, cells3, List.range_succ, i0 _ _ ha, i0 _ _ hb, i0 _ _ hc]
 have i2 : ∀ d, Tryz.prog.keyLits (d + 1 + 1 + 1) 181 [.int .i64 a, .int .i64 b, .int .i64 c] = some [.int .i64 a, .int .i64 b, .int .i64 c] := fun d => by
  unfold Program.keyLits; simp [Tryz.underlying181, cells140, cells88, i1 d]
 unfold keyOf
 simp only [Tryz.underlying181, h1, types_size, Value.formed, Value.cells, cells140]
 exact ⟨_, by rw [show (232 + 1 : Nat) = 230 + 1 + 1 + 1 from rfl, i2 230]; rfl⟩
def keyV (t : Shearer) : Value := .agg #[.int .i64 t.1, .int .i64 t.2.1, .int .i64 t.2.2]
def Tok (t : Shearer) : Prop := (1 ≤ t.1 ∧ t.1 ≤ 40) ∧ (1 ≤ t.2.1 ∧ t.2.1 ≤ 40) ∧ (1 ≤ t.2.2 ∧ t.2.2 ≤ 40)
structure Fit (s : Stand) : Prop where
 mins : s.mins.length = 3
 minb : ∀ p ∈ s.mins, 1 ≤ p.1 ∧ p.1 ≤ p.2 ∧ p.2 ≤ 40 ∧ p.2 - p.1 ≤ 4
 runs : 1 ≤ s.runs.length ∧ s.runs.length ≤ 4
 runb : ∀ p ∈ s.runs, 0 ≤ p.1 ∧ p.1 < p.2 ∧ p.2 ≤ 600
 sheep : s.sheep.length ≤ 16
 kinds : ∀ k ∈ s.sheep, 0 ≤ k ∧ k ≤ 2
 looks : s.looks.length ≤ 4
 lookb : ∀ l ∈ s.looks, (0 ≤ l.1 ∧ l.1 ≤ 600) ∧ 0 ≤ l.2.1 ∧ l.2.1 ≤ l.2.2 ∧ l.2.2 ≤ 16
def Off (X : Nat → Prop) (v : Value) : Prop := ∀ (a : Addr) (n c : Nat), v = .slice (some a) n c → 0 < n → ¬ X a.block
theorem Off.sub {X X' : Nat → Prop} {v : Value} (h : Off X v) (hx : ∀ k, X' k → X k) : Off X' v := fun a n c e hn hk => h a n c e hn (hx _ hk)
structure Board (w : World) (b m : Nat) (s : Stand) (X : Nat → Prop) : Prop where
 mins : ∀ k, k < 3 → w.cell? ⟨b, k * 2, none⟩ = some (.int .i64 (s.mins.getD k (0, 0)).1) ∧ w.cell? ⟨b, k * 2 + 1, none⟩ = some (.int .i64 (s.mins.getD k (0, 0)).2)
 runs : ∃ v, w.cell? ⟨b, 6, none⟩ = some v ∧ Prs w w.heap.size v s.runs ∧ Off X v
 sheep : ∃ v, w.cell? ⟨b, 7, none⟩ = some v ∧ Ints w w.heap.size v s.sheep ∧ Off X v
 looks : ∃ v, w.cell? ⟨b, 8, none⟩ = some v ∧ Trs w w.heap.size v s.looks ∧ Off X v
 map : w.cell? ⟨b, 9, none⟩ = some (.map (some m))
 kept : MapIv Tryz.prog 181 w m fun k v => ∃ t, k = keyV t ∧ Prs w w.heap.size v (day s t) ∧ Off X v
 xlt : ∀ k, X k → k < w.heap.size
 xb : ¬ X b
 xm : ¬ X m
theorem Board.mlt {b m : Nat} {s : Stand} {w : World} {X : Nat → Prop} (h : Board w b m s X) : m < w.heap.size := by obtain ⟨es, ck, hb, _⟩ := h.kept; exact (Array.getElem?_eq_some_iff.1 hb).1
theorem Board.later {w w' : World} {b m : Nat} {s : Stand} {X : Nat → Prop} (h : Board w b m s X) (hf : Below w.heap.size w w') : Board w' b m s X := by
 obtain ⟨rv, r1, r2, r3⟩ := h.runs
 obtain ⟨sv, s1, s2, s3⟩ := h.sheep
 obtain ⟨lv, l1, l2, l3⟩ := h.looks
 exact ⟨fun k hk => ⟨cell_old hf (h.mins k hk).1, cell_old hf (h.mins k hk).2⟩, ⟨rv, cell_old hf r1, r2.later hf, r3⟩, ⟨sv, cell_old hf s1, s2.later hf, s3⟩, ⟨lv, cell_old hf l1, l2.later hf, l3⟩, cell_old hf h.map,
  h.kept.imp (hf.block m h.mlt) fun k v ⟨t, h1, h2, h3⟩ => ⟨t, h1, h2.later hf, h3⟩, fun k hk => Nat.lt_of_lt_of_le (h.xlt k hk) hf.size, h.xb, h.xm⟩
theorem Board.put {w w' : World} {b m : Nat} {s : Stand} {X : Nat → Prop} (h : Board w b m s X) (hf : Frm (fun k => k = m) w w') (hk : MapIv Tryz.prog 181 w' m fun k v => ∃ t, k = keyV t ∧ Prs w' w'.heap.size v (day s t) ∧ Off X v) : Board w' b m s X := by
 obtain ⟨rv, r1, r2, r3⟩ := h.runs
 obtain ⟨sv, s1, s2, s3⟩ := h.sheep
 obtain ⟨lv, l1, l2, l3⟩ := h.looks
 obtain ⟨es, ck, hb, _⟩ := h.kept
 have hc : ∀ {a : Addr} {u : Value}, w.cell? a = some u → w'.cell? a = some u := fun hc => hf.cell hc (ne_of_cell_map hc hb)
 exact ⟨fun k hk => ⟨hc (h.mins k hk).1, hc (h.mins k hk).2⟩, ⟨rv, hc r1, r2.frmM hb hf, r3⟩, ⟨sv, hc s1, s2.frmM hb hf, s3⟩, ⟨lv, hc l1, l2.frmM hb hf, l3⟩, hc h.map, hk, fun k hk => Nat.lt_of_lt_of_le (h.xlt k hk) hf.size, h.xb, h.xm⟩
theorem Off.frm {α : Type} {enc : α → List Value} {size : Nat} {w w' : World} {v : Value} {l : List α} {X S : Nat → Prop} (ho : Off X v) (h : RowsAt enc size w w.heap.size v l) (hf : Frm S w w') (hs : ∀ k, S k → X k) : RowsAt enc size w' w'.heap.size v l := by
 obtain ⟨ao, cap, rfl, hm, h⟩ := h
 refine ⟨ao, cap, rfl, hm, fun hl => ?_⟩
 obtain ⟨b', off, rfl, hb, hx⟩ := h hl
 exact ⟨b', off, rfl, Nat.lt_of_lt_of_le hb hf.size, fun i x hi j u hu => hf.cell (hx i x hi j u hu) fun hk => ho _ _ _ rfl (List.length_pos_iff.2 hl) (hs _ hk)⟩
theorem Board.turn {w w' : World} {b m : Nat} {s : Stand} {X S : Nat → Prop} (h : Board w b m s X) (hf : Frm S w w') (hs : ∀ k, S k → X k) : Board w' b m s X := by
 obtain ⟨rv, r1, r2, r3⟩ := h.runs
 obtain ⟨sv, s1, s2, s3⟩ := h.sheep
 obtain ⟨lv, l1, l2, l3⟩ := h.looks
 have nb : ¬ S b := fun k => h.xb (hs _ k)
 exact ⟨fun k hk => ⟨hf.cell (h.mins k hk).1 nb, hf.cell (h.mins k hk).2 nb⟩, ⟨rv, hf.cell r1 nb, r3.frm r2 hf hs, r3⟩, ⟨sv, hf.cell s1 nb, s3.frm s2 hf hs, s3⟩, ⟨lv, hf.cell l1 nb, l3.frm l2 hf hs, l3⟩, hf.cell h.map nb,
  h.kept.imp (hf.block m h.mlt fun k => h.xm (hs _ k)) fun k v ⟨t, h1, h2, h3⟩ => ⟨t, h1, h3.frm h2 hf hs, h3⟩, fun k hk => Nat.lt_of_lt_of_le (h.xlt k hk) hf.size, h.xb, h.xm⟩
theorem Board.sub {w : World} {b m : Nat} {s : Stand} {X X' : Nat → Prop} (h : Board w b m s X) (hs : ∀ k, X' k → X k) : Board w b m s X' := by
 obtain ⟨rv, r1, r2, r3⟩ := h.runs
 obtain ⟨sv, s1, s2, s3⟩ := h.sheep
 obtain ⟨lv, l1, l2, l3⟩ := h.looks
 exact ⟨h.mins, ⟨rv, r1, r2, r3.sub hs⟩, ⟨sv, s1, s2, s3.sub hs⟩, ⟨lv, l1, l2, l3.sub hs⟩, h.map, h.kept.imp rfl fun k v ⟨t, h1, h2, h3⟩ => ⟨t, h1, h2, h3.sub hs⟩, fun k hk => h.xlt k (hs k hk), fun k => h.xb (hs _ k), fun k => h.xm (hs _ k)⟩
theorem Off.fresh {α : Type} {enc : α → List Value} {size : Nat} {w : World} {v : Value} {l : List α} {X X' : Nat → Prop} (ho : Off X v) (h : RowsAt enc size w w.heap.size v l) (hx : ∀ k, X' k → X k ∨ w.heap.size ≤ k) : Off X' v := by
 obtain ⟨ao, cap, rfl, hm, h⟩ := h
 intro a n c e hn hk
 cases e
 obtain ⟨b', off, hb', hb, _⟩ := h (List.length_pos_iff.1 hn)
 cases hb'
 rcases hx _ hk with hk | hk
 ·exact ho _ _ _ rfl hn hk
 ·simp only at hk; omega
theorem Board.grow {w w' : World} {b m : Nat} {s : Stand} {X X' : Nat → Prop} (h : Board w b m s X) (hf : Below w.heap.size w w') (hx : ∀ k, X' k → X k ∨ w.heap.size ≤ k) (hl : ∀ k, X' k → k < w'.heap.size) : Board w' b m s X' := by
 obtain ⟨rv, r1, r2, r3⟩ := h.runs
 obtain ⟨sv, s1, s2, s3⟩ := h.sheep
 obtain ⟨lv, l1, l2, l3⟩ := h.looks
 refine ⟨fun k hk => ⟨cell_old hf (h.mins k hk).1, cell_old hf (h.mins k hk).2⟩, ⟨rv, cell_old hf r1, r2.later hf, r3.fresh r2 hx⟩, ⟨sv, cell_old hf s1, s2.later hf, s3.fresh s2 hx⟩, ⟨lv, cell_old hf l1, l2.later hf, l3.fresh l2 hx⟩, cell_old hf h.map,
  h.kept.imp (hf.block m h.mlt) fun k v ⟨t, h1, h2, h3⟩ => ⟨t, h1, h2.later hf, h3.fresh h2 hx⟩, hl, fun k => ?_, fun k => ?_⟩
 ·have := World.block_lt_of_cell? _ _ r1
  rcases hx _ k with k | k
  ·exact h.xb k
  ·simp only at this; omega
 ·have := h.mlt
  rcases hx _ k with k | k
  ·exact h.xm k
  ·omega
theorem Board.turnGrow {w w' : World} {b m : Nat} {s : Stand} {X X' S : Nat → Prop} (h : Board w b m s X) (hf : Frm S w w') (hs : ∀ k, S k → X k) (hx : ∀ k, X' k → X k ∨ w.heap.size ≤ k) (hl : ∀ k, X' k → k < w'.heap.size) : Board w' b m s X' := by
 obtain ⟨rv, r1, r2, r3⟩ := h.runs
 obtain ⟨sv, s1, s2, s3⟩ := h.sheep
 obtain ⟨lv, l1, l2, l3⟩ := h.looks
 have nb : ¬ S b := fun k => h.xb (hs _ k)
 refine ⟨fun k hk => ⟨hf.cell (h.mins k hk).1 nb, hf.cell (h.mins k hk).2 nb⟩, ⟨rv, hf.cell r1 nb, r3.frm r2 hf hs, r3.fresh r2 hx⟩, ⟨sv, hf.cell s1 nb, s3.frm s2 hf hs, s3.fresh s2 hx⟩, ⟨lv, hf.cell l1 nb, l3.frm l2 hf hs, l3.fresh l2 hx⟩, hf.cell h.map nb,
  h.kept.imp (hf.block m h.mlt fun k => h.xm (hs _ k)) fun k v ⟨t, h1, h2, h3⟩ => ⟨t, h1, h3.frm h2 hf hs, h3.fresh h2 hx⟩, hl, fun k => ?_, fun k => ?_⟩
 ·have := World.block_lt_of_cell? _ _ r1
  rcases hx _ k with k | k
  ·exact h.xb k
  ·simp only at this; omega
 ·have := h.mlt
  rcases hx _ k with k | k
  ·exact h.xm k
  ·omega
structure OnBoard (b m : Nat) (s : Stand) (X : Nat → Prop) (w w' : World) : Prop where
 frm : Frm (fun k => k = m) w w'
 board : Board w' b m s X
def DayPost (b m : Nat) (s : Stand) (X : Nat → Prop) (t : Shearer) (w : World) (e : Ending) (w' : World) : Prop := ∃ v, e = .returned v ∧ Prs w' w'.heap.size v (day s t) ∧ OnBoard b m s X w w'
theorem Tok.wf {t : Shearer} (h : Tok t) : (Lit.int .i64 t.1).wf = true ∧ (Lit.int .i64 t.2.1).wf = true ∧ (Lit.int .i64 t.2.2).wf = true := by
 obtain ⟨h1, h2, h3⟩ := h
 exact ⟨WalkArith.wf_i64 (by omega), WalkArith.wf_i64 (by omega), WalkArith.wf_i64 (by omega)⟩
theorem zero124 (w : World) : (zeroValue 156).run Tryz.prog w = .ok (.slice none 0 0) w := by kernel_rfl
end Go.Proofs.YthedkfiebmnghaaGreat
namespace Go.Sh.Stand
theorem gmax_ge (a b : Int) : a ≤ gmax a b ∧ b ≤ gmax a b := by unfold gmax; split <;> omega
theorem begins_some : ∀ (rs : List (Int × Int)) (i : Nat) (done : Int) (j : Nat) (at_ : Int), begins rs i done = some (j, at_) →
  ∃ p, i ≤ j ∧ rs[j - i]? = some p ∧ at_ = gmax done p.1 ∧ at_ < p.2
 | [], _, _, _, _, h => by simp [begins] at h
 | (st, be) :: r, i, done, j, at_, h => by
  unfold begins at h
  split at h
  ·cases h; exact ⟨(st, be), Nat.le_refl _, by simp, rfl, by assumption⟩
  ·obtain ⟨p, h1, h2, h3, h4⟩ := begins_some r (i + 1) done j at_ h
   refine ⟨p, by omega, ?_, h3, h4⟩
   rw [show j - i = (j - (i + 1)) + 1 by omega]; simpa using h2
theorem dayFrom_length (runs : List (Int × Int)) (t : Shearer) : ∀ (ks : List Int) (run : Nat) (done : Int), (dayFrom runs t ks run done).length = ks.length
 | [], _, _ => rfl
 | k :: ks, run, done => by
  unfold dayFrom
  split
  ·simp
  ·simp [dayFrom_length runs t ks]
theorem dayFrom_none {runs : List (Int × Int)} {t : Shearer} {ks : List Int} {n run : Nat} {done : Int} (h : begins (runs.drop run) run done = none) :
  dayFrom runs t (ks.drop n) run done = List.replicate (ks.length - n) (1000, -1) := by
 by_cases hn : n < ks.length
 ·rw [List.drop_eq_getElem_cons hn, dayFrom, h]
  show List.replicate ((ks.drop (n + 1)).length + 1) _ = _
  rw [List.length_drop, show ks.length - (n + 1) + 1 = ks.length - n by omega]
 ·rw [List.drop_eq_nil_of_le (by omega), show ks.length - n = 0 by omega]; rfl
theorem dayFrom_some {runs : List (Int × Int)} {t : Shearer} {ks : List Int} {n run : Nat} {done : Int} {i : Nat} {at_ : Int} (hn : n < ks.length) (h : begins (runs.drop run) run done = some (i, at_)) :
  dayFrom runs t (ks.drop n) run done = (at_ + tk t ks[n], (i : Int)) :: dayFrom runs t (ks.drop (n + 1)) i (at_ + tk t ks[n]) := by
 rw [List.drop_eq_getElem_cons hn, dayFrom, h]
theorem begins_of_drop {rs : List (Int × Int)} {run : Nat} {done : Int} {i : Nat} {at_ : Int} (h : begins (rs.drop run) run done = some (i, at_)) :
  ∃ p, run ≤ i ∧ rs[i]? = some p ∧ at_ = gmax done p.1 ∧ at_ < p.2 := by
 obtain ⟨p, h1, h2, h3, h4⟩ := begins_some _ _ _ _ _ h
 exact ⟨p, h1, by rw [List.getElem?_drop] at h2; rwa [show run + (i - run) = i by omega] at h2, h3, h4⟩
end Go.Sh.Stand
