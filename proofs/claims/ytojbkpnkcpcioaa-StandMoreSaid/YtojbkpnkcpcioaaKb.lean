/- Kb: texts joined (StA StB StC StD StE StF StG StH StI StJ StK). -/
import Derived.Test.YtojbkpnkcpcioaaRows
import Derived.Test.YtojbkpnkcpcioaaKa
import Derived.Laws.EntriesVeiled
import Derived.Maps.OwnIn
set_option linter.all false
/- Walks through the small functions of package stand. -/
namespace Go.Proofs.Ytojbkpnkcpcioaa
open Go.RowKit Go.Sh Go.Sh.Stand

def inB (a b c : Int) : Bool := decide (b ≤ a) && decide (a ≤ c)
def spanB (lo hi low high : Int) : Bool := (decide (low ≤ lo) && decide (lo ≤ hi)) && decide (hi ≤ high)

set_option maxHeartbeats 400000 in
theorem within_any (a b c : Int) (w : World) :
    Calls Try.prog 78 #[.int .i64 a, .int .i64 b, .int .i64 c] w fun e w' => e = .returned (.bool (inB a b c)) ∧ w = w' := by
  go_enter Try.func78, Try.ntmps78
  go_wp2
  all_goals (go_ret; exact ⟨retB (by simp [inB]; omega), rfl⟩)

set_option maxHeartbeats 400000 in
theorem isSpan_any (lo hi b c : Int) (w : World) :
    Calls Try.prog 77 #[.agg #[.int .i64 lo, .int .i64 hi], .int .i64 b, .int .i64 c] w fun e w' => e = .returned (.bool (spanB lo hi b c)) ∧ Below w.heap.size w w' := by
  by_cases h1 : b ≤ lo
  · by_cases h2 : lo ≤ hi
    · go_enter Try.func77, Try.ntmps77
      go_wp2
      go_ret; exact ⟨retB (by simp [spanB]; omega), (Below.refl _ _).alloc (Nat.le_refl _) _⟩
    · go_enter Try.func77, Try.ntmps77
      go_wp2
      go_ret; exact ⟨retB (by simp [spanB]; omega), (Below.refl _ _).alloc (Nat.le_refl _) _⟩
  · go_enter Try.func77, Try.ntmps77
    go_wp2
    go_ret; exact ⟨retB (by simp [spanB]; omega), (Below.refl _ _).alloc (Nat.le_refl _) _⟩

set_option maxHeartbeats 400000 in
theorem isKind_any (a : Int) (w : World) :
    Calls Try.prog 53 #[.int .i64 a] w fun e w' => e = .returned (.bool (inB a 0 2)) ∧ w = w' := by
  go_enter Try.func53, Try.ntmps53
  go_wp2_with (go_at_call 78; refine (within_any _ _ _ _).mono ?_; rintro e w' ⟨rfl, rfl⟩)
  go_ret
  exact ⟨rfl, rfl⟩

set_option maxHeartbeats 400000 in
theorem isMinute_any (a : Int) (w : World) :
    Calls Try.prog 49 #[.int .i64 a] w fun e w' => e = .returned (.bool (inB a 0 999)) ∧ w = w' := by
  go_enter Try.func49, Try.ntmps49
  go_wp2_with (go_at_call 78; refine (within_any _ _ _ _).mono ?_; rintro e w' ⟨rfl, rfl⟩)
  go_ret
  exact ⟨rfl, rfl⟩

set_option maxHeartbeats 400000 in
theorem open1_any (a : Int) (w : World) :
    Calls Try.prog 80 #[.int .i64 a] w fun e w' => e = .returned (.bool (!inB a 0 2)) ∧ w = w' := by
  go_enter Try.func80, Try.ntmps80
  go_wp2_with (go_at_call 53; refine (isKind_any _ _).mono ?_; rintro e w' ⟨rfl, rfl⟩)
  go_ret
  exact ⟨rfl, rfl⟩

set_option maxHeartbeats 400000 in
theorem ask_ok (c : Int) (w : World) :
    Calls Try.prog 67 #[.bool true, .int .i64 c] w fun e w' => e = .returned (.tuple #[]) ∧ w = w' := by
  go_enter Try.func67, Try.ntmps67
  go_wp2
  go_end0
  exact ⟨rfl, rfl⟩

/-- The panic of a refusal. -/
def refusal (c : Int) : List PanicEntry := [{ v := .iface 115 (.int .i64 c), recovered := false }]

set_option maxHeartbeats 400000 in
theorem ask_no (c : Int) (w : World) :
    Calls Try.prog 67 #[.bool false, .int .i64 c] w fun e w' => e = .panicked (refusal c) ∧ w = w' := by
  go_enter Try.func67, Try.ntmps67
  go_wp2
  exact ⟨rfl, rfl, rfl⟩

/-- Either way. -/
def AskPost (b : Bool) (c : Int) (w : World) (e : Ending) (w' : World) : Prop := e = (if b then .returned (.tuple #[]) else .panicked (refusal c)) ∧ w = w'
theorem ask_any (b : Bool) (c : Int) (w : World) : Calls Try.prog 67 #[.bool b, .int .i64 c] w (AskPost b c w) := by
  cases b
  · exact (ask_no c w).mono fun _ _ ⟨h1, h2⟩ => ⟨h1, h2⟩
  · exact (ask_ok c w).mono fun _ _ ⟨h1, h2⟩ => ⟨h1, h2⟩

theorem box_below (w : World) (o : Obj) : Below w.heap.size w (w.alloc o) := (Below.refl _ _).alloc (Nat.le_refl _) _

set_option maxHeartbeats 400000 in
theorem counted_any (m : Int) (bv : Value) (v : Value) (l : List (Int × Int)) (w : World) (h : Prs w w.heap.size v l) (hm : l.length < 100) :
    Calls Try.prog 100 #[.agg #[.int .i64 m], bv, v] w fun e w' => e = .returned (.int .i64 (countAt l m)) ∧ Below w.heap.size w w' := by
  obtain ⟨ao, cap, rfl, hlen, hrow⟩ := h
  have HR := Lib.hid hrow; clear hrow
  go_enter Try.func100, Try.ntmps100
  go_wp2
  go_loopw [6, 11] (fun n i wr => ∃ k : Nat, k ≤ l.length ∧ i = .int .i64 k ∧ n = .int .i64 (countAt (l.take k) m) ∧ Below (w.heap.size + 1) (w.alloc (.cells #[.int .i64 m] 85)) wr) (fun _ i _ => l.length - (intOf i).toNat)
  case atStart => exact ⟨0, by omega, rfl, rfl, Below.refl _ _⟩
  case round =>
    obtain ⟨k, hk, rfl, rfl, hb⟩ := hrel
    have hbox : wr.cell? ⟨w.heap.size, 0, none⟩ = some (.int .i64 m) := (hb.cell (by simp)).trans (by simp)
    have hsz : w.heap.size < wr.heap.size := by have := hb.size; simp at this; omega
    by_cases hlt : k < l.length
    · obtain ⟨b, off, rfl, hbl, hx⟩ := HR.out (by intro e; rw [e] at hlt; simp at hlt)
      have c0 : wr.cell? ⟨b, off + k * 2, none⟩ = some (.int .i64 (l[k]).1) := (hb.cell (by simp; omega)).trans ((World.cell?_alloc_lt _ _ _ hbl).trans (by simpa using hx k l[k] (by simp [hlt]) 0 _ rfl))
      have c1 : wr.cell? ⟨b, off + k * 2 + 1, none⟩ = some (.int .i64 (l[k]).2) := (hb.cell (by simp; omega)).trans ((World.cell?_alloc_lt _ _ _ hbl).trans (by simpa using hx k l[k] (by simp [hlt]) 1 _ rfl))
      have hle := countAt_le (l.take k) m
      have hll : (l.take k).length ≤ k := List.length_take_le _ _
      have HS : Hid (countAt (l.take (k + 1)) m = countAt (l.take k) m + if (l[k]).1 ≤ m then 1 else 0) := by
        rw [List.take_succ_eq_append_getElem hlt, countAt_snoc]; exact Lib.hid rfl
      have HB := Lib.hid hb; clear hb
      go_wp2
      all_goals
        go_roundw
        case rel => exact ⟨k + 1, by omega, by go_num, by rw [HS.out]; first | rw [if_pos ‹_›] | (rw [if_neg (by omega)]; go_num), HB.out.alloc hsz _⟩
        case measure => simp [intOf]; omega
    · have HB := Lib.hid hb; clear hb
      go_wp2
      go_ret
      exact ⟨retI (by rw [List.take_of_length_le (by omega)]), (box_below _ _).trans (HB.out.mono (by simp))⟩

set_option maxHeartbeats 400000 in
theorem begunIn_any (m : Int) (bv : Value) (v : Value) (l : List (Int × Int)) (w : World) (h : Prs w w.heap.size v l) (hm : l.length < 100) :
    Calls Try.prog 119 #[.agg #[.int .i64 m], bv, v] w fun e w' => e = .returned (.int .i64 (begunIn l m)) ∧ Below w.heap.size w w' := by
  obtain ⟨ao, cap, rfl, hlen, hrow⟩ := h
  have HR := Lib.hid hrow; clear hrow
  go_enter Try.func119, Try.ntmps119
  go_wp2
  go_loopw [6, 11] (fun n i wr => ∃ k : Nat, k ≤ l.length ∧ i = .int .i64 k ∧ n = .int .i64 (begunIn (l.take k) m) ∧ Below (w.heap.size + 1) (w.alloc (.cells #[.int .i64 m] 91)) wr) (fun _ i _ => l.length - (intOf i).toNat)
  case atStart => exact ⟨0, by omega, rfl, rfl, Below.refl _ _⟩
  case round =>
    obtain ⟨k, hk, rfl, rfl, hb⟩ := hrel
    have hbox : wr.cell? ⟨w.heap.size, 0, none⟩ = some (.int .i64 m) := (hb.cell (by simp)).trans (by simp)
    have hsz : w.heap.size < wr.heap.size := by have := hb.size; simp at this; omega
    by_cases hlt : k < l.length
    · obtain ⟨b, off, rfl, hbl, hx⟩ := HR.out (by intro e; rw [e] at hlt; simp at hlt)
      have c0 : wr.cell? ⟨b, off + k * 2, none⟩ = some (.int .i64 (l[k]).1) := (hb.cell (by simp; omega)).trans ((World.cell?_alloc_lt _ _ _ hbl).trans (by simpa using hx k l[k] (by simp [hlt]) 0 _ rfl))
      have c1 : wr.cell? ⟨b, off + k * 2 + 1, none⟩ = some (.int .i64 (l[k]).2) := (hb.cell (by simp; omega)).trans ((World.cell?_alloc_lt _ _ _ hbl).trans (by simpa using hx k l[k] (by simp [hlt]) 1 _ rfl))
      have hle := begunIn_le (l.take k) m
      have hll : (l.take k).length ≤ k := List.length_take_le _ _
      have HS : Hid (begunIn (l.take (k + 1)) m = begunIn (l.take k) m + if (l[k]).2 = m then 1 else 0) := by
        rw [List.take_succ_eq_append_getElem hlt, begunIn_snoc]; exact Lib.hid rfl
      have HB := Lib.hid hb; clear hb
      by_cases hq : (l[k]).2 = m
      · have hq' : ((l[k]).2 == m) = true := by simp [hq]
        have HQ := Lib.hid hq; clear hq
        go_wp2
        go_roundw
        case rel => exact ⟨k + 1, by omega, by go_num, by rw [HS.out, if_pos HQ.out], HB.out.alloc hsz _⟩
        case measure => simp [intOf]; omega
      · have hq' : ((l[k]).2 == m) = false := by simp [hq]
        have HQ := Lib.hid hq; clear hq
        go_wp2
        go_roundw
        case rel => exact ⟨k + 1, by omega, by go_num, by rw [HS.out, if_neg HQ.out]; go_num, HB.out.alloc hsz _⟩
        case measure => simp [intOf]; omega
    · have HB := Lib.hid hb; clear hb
      go_wp2
      go_ret
      exact ⟨retI (by rw [List.take_of_length_le (by omega)]), (box_below _ _).trans (HB.out.mono (by simp))⟩

set_option maxHeartbeats 400000 in
theorem doneAt_any (k : Nat) (bv : Value) (v : Value) (l : List (Int × Int)) (w : World) (h : Prs w w.heap.size v l) (hk : k < l.length) :
    Calls Try.prog 118 #[.agg #[.int .i64 k], bv, v] w fun e w' => e = .returned (.int .i64 (l.getD k (0, 0)).1) ∧ Below w.heap.size w w' := by
  obtain ⟨ao, cap, rfl, hlen, hrow⟩ := h
  obtain ⟨b, off, rfl, hbl, hx⟩ := hrow (by intro e; rw [e] at hk; simp at hk)
  have c0 : w.cell? ⟨b, off + k * 2, none⟩ = some (.int .i64 (l[k]).1) := by simpa using hx k l[k] (by simp [hk]) 0 _ rfl
  have hg : l.getD k (0, 0) = l[k] := by simp [List.getD, hk]
  rw [hg]
  clear hx hg
  go_enter Try.func118, Try.ntmps118
  go_wp2
  go_ret
  exact ⟨rfl, box_below _ _⟩

theorem begins_skip (rs : List (Int × Int)) (k : Nat) (done : Int) (h : k < rs.length) :
    begins (rs.drop k) k done = if gmax done (rs[k]).1 < (rs[k]).2 then some (k, gmax done (rs[k]).1) else begins (rs.drop (k + 1)) (k + 1) done := by
  rw [List.drop_eq_getElem_cons h, begins]

def begEnd : Option (Nat × Int) → Value
  | some (i, at_) => .tuple #[.int .i64 i, .int .i64 at_, .bool true]
  | none => .tuple #[.int .i64 0, .int .i64 0, .bool false]
theorem ret_of {v u : Value} (h : v = u) : Ending.returned v = .returned u := by rw [h]

set_option maxHeartbeats 400000 in
theorem begins_any (b : Nat) (v : Value) (rs : List (Int × Int)) (run : Nat) (done : Int) (w : World)
    (hb6 : w.cell? ⟨b, 6, none⟩ = some v) (h : Prs w w.heap.size v rs) (hr : run ≤ rs.length) :
    Calls Try.prog 95 #[.pointer (some ⟨b, 0, none⟩), .int .i64 run, .int .i64 done] w fun e w' => e = .returned (begEnd (begins (rs.drop run) run done)) ∧ w = w' := by
  obtain ⟨ao, cap, rfl, hlen, hrow⟩ := h
  have HR := Lib.hid hrow; clear hrow
  obtain ⟨target, ht⟩ : ∃ t, begEnd (begins (rs.drop run) run done) = t := ⟨_, rfl⟩
  rw [ht]
  have HT := Lib.hid ht; clear ht
  go_enter Try.func95, Try.ntmps95
  go_wp2
  go_loop [9] (fun i => ∃ k : Nat, run ≤ k ∧ k ≤ rs.length ∧ i = .int .i64 k ∧ begEnd (begins (rs.drop k) k done) = target) (fun i => rs.length - (intOf i).toNat)
  case atStart => exact ⟨run, by omega, by omega, rfl, HT.out⟩
  case round =>
    obtain ⟨k, hk0, hk, rfl, hk2⟩ := hrel
    have HK := Lib.hid hk2; clear hk2
    by_cases hlt : k < rs.length
    · obtain ⟨rb, off, rfl, hbl, hx⟩ := HR.out (by intro e; rw [e] at hlt; simp at hlt)
      have c0 : w.cell? ⟨rb, off + k * 2, none⟩ = some (.int .i64 (rs[k]).1) := by simpa using hx k rs[k] (by simp [hlt]) 0 _ rfl
      have c1 : w.cell? ⟨rb, off + k * 2 + 1, none⟩ = some (.int .i64 (rs[k]).2) := by simpa using hx k rs[k] (by simp [hlt]) 1 _ rfl
      clear hx
      have hs := begins_skip rs k done hlt
      unfold gmax at hs
      by_cases hd : done < (rs[k]).1
      · rw [if_pos hd] at hs
        by_cases hq : (rs[k]).1 < (rs[k]).2
        · rw [if_pos hq] at hs
          have HS := Lib.hid hs; clear hs
          go_wp2
          go_ret3
          refine ⟨ret_of ?_, rfl⟩
          rw [← HK.out, HS.out]; rfl
        · rw [if_neg hq] at hs
          have HS := Lib.hid hs; clear hs
          go_wp2
          go_round
          case rel => exact ⟨k + 1, by omega, by omega, by go_num, by rw [← HK.out, HS.out]⟩
          case measure => simp [intOf]; omega
      · rw [if_neg hd] at hs
        by_cases hq : done < (rs[k]).2
        · rw [if_pos hq] at hs
          have HS := Lib.hid hs; clear hs
          go_wp2
          go_ret3
          refine ⟨ret_of ?_, rfl⟩
          rw [← HK.out, HS.out]; rfl
        · rw [if_neg hq] at hs
          have HS := Lib.hid hs; clear hs
          go_wp2
          go_round
          case rel => exact ⟨k + 1, by omega, by omega, by go_num, by rw [← HK.out, HS.out]⟩
          case measure => simp [intOf]; omega
    · go_wp2
      go_ret3
      refine ⟨ret_of ?_, rfl⟩
      rw [← HK.out, List.drop_eq_nil_of_le (by omega)]; rfl
end Go.Proofs.Ytojbkpnkcpcioaa
/- Walks through more small functions of package stand. -/
namespace Go.Proofs.Ytojbkpnkcpcioaa
open Go.RowKit Go.Sh Go.Sh.Stand

set_option maxHeartbeats 400000 in
theorem after_any (a b c : Int) (at_ k : Int) (w : World) (hk : 0 ≤ k ∧ k ≤ 2) (ha : 0 ≤ a ∧ a ≤ 1000) (hb : 0 ≤ b ∧ b ≤ 1000) (hc : 0 ≤ c ∧ c ≤ 1000) (hat : 0 ≤ at_ ∧ at_ ≤ 100000) :
    Calls Try.prog 94 #[.agg #[.int .i64 a, .int .i64 b, .int .i64 c], .int .i64 at_, .int .i64 k] w fun e w' => e = .returned (.int .i64 (at_ + tk (a, b, c) k)) ∧ Below w.heap.size w w' := by
  obtain rfl | rfl | rfl : k = 0 ∨ k = 1 ∨ k = 2 := by omega
  · go_enter Try.func94, Try.ntmps94
    go_wp2
    go_ret; exact ⟨rfl, box_below _ _⟩
  · go_enter Try.func94, Try.ntmps94
    go_wp2
    go_ret; exact ⟨rfl, box_below _ _⟩
  · go_enter Try.func94, Try.ntmps94
    go_wp2
    go_ret; exact ⟨rfl, box_below _ _⟩

theorem below_two (w : World) (o o' : Obj) : Below w.heap.size w ((w.alloc o).alloc o') := (box_below _ _).alloc (by simp) _

def setK (a b c : Int) (k n : Int) : Shearer := if k = 0 then (n, b, c) else if k = 1 then (a, n, c) else (a, b, n)
set_option maxHeartbeats 400000 in
theorem with_any (a b c : Int) (k n : Int) (w : World) (hk : 0 ≤ k ∧ k ≤ 2) :
    Calls Try.prog 99 #[.agg #[.int .i64 a, .int .i64 b, .int .i64 c], .int .i64 k, .int .i64 n] w fun e w' => e = .returned (.agg #[.int .i64 (setK a b c k n).1, .int .i64 (setK a b c k n).2.1, .int .i64 (setK a b c k n).2.2]) ∧ Below w.heap.size w w' := by
  obtain rfl | rfl | rfl : k = 0 ∨ k = 1 ∨ k = 2 := by omega
  all_goals
    go_enter Try.func99, Try.ntmps99
    go_wp2
    refine bodyPost_ret (by simp [results, Try.results99, go_sem]; exact ⟨rfl, rfl, rfl⟩) rfl ⟨rfl, ?_⟩
    exact below_two _ _ _

set_option maxHeartbeats 400000 in
theorem isSheep_any (b : Nat) (ao : Option Addr) (n cap : Nat) (k : Int) (w : World) (hb : w.cell? ⟨b, 7, none⟩ = some (.slice ao n cap)) (hn : n < 1000) :
    Calls Try.prog 43 #[.pointer (some ⟨b, 0, none⟩), .int .i64 k] w fun e w' => e = .returned (.bool (inB k 0 (n - 1))) ∧ w = w' := by
  go_enter Try.func43, Try.ntmps43
  go_wp2_with (go_at_call 78; refine (within_any _ _ _ _).mono ?_; rintro e w' ⟨rfl, rfl⟩)
  go_ret
  exact ⟨rfl, rfl⟩

set_option maxHeartbeats 400000 in
theorem isRun_any (b : Nat) (ao : Option Addr) (n cap : Nat) (k : Int) (w : World) (hb : w.cell? ⟨b, 6, none⟩ = some (.slice ao n cap)) (hn : n < 1000) :
    Calls Try.prog 58 #[.pointer (some ⟨b, 0, none⟩), .int .i64 k] w fun e w' => e = .returned (.bool (inB k 0 (n - 1))) ∧ w = w' := by
  go_enter Try.func58, Try.ntmps58
  go_wp2_with (go_at_call 78; refine (within_any _ _ _ _).mono ?_; rintro e w' ⟨rfl, rfl⟩)
  go_ret
  exact ⟨rfl, rfl⟩

set_option maxHeartbeats 400000 in
theorem every_any (b : Nat) (ao : Option Addr) (n cap : Nat) (w : World) (hb : w.cell? ⟨b, 8, none⟩ = some (.slice ao n cap)) (hn : n ≤ 4) :
    Calls Try.prog 68 #[.pointer (some ⟨b, 0, none⟩)] w fun e w' => e = .returned (.int .u64 (2 ^ n - 1)) ∧ w = w' := by
  obtain rfl | rfl | rfl | rfl | rfl : n = 0 ∨ n = 1 ∨ n = 2 ∨ n = 3 ∨ n = 4 := by omega
  all_goals
    go_enter Try.func68, Try.ntmps68
    go_wp2
    go_ret
    exact ⟨rfl, rfl⟩

set_option maxHeartbeats 400000 in
theorem over_any (b : Nat) (k : Nat) (rv : Value) (rs : List (Int × Int)) (v : Value) (l : List (Int × Int)) (w : World) (hb6 : w.cell? ⟨b, 6, none⟩ = some rv) (hr : Prs w w.heap.size rv rs) (h : Prs w w.heap.size v l) (hm : l.length < 100) (hk : k < rs.length)
    (hB : 0 ≤ (rs.getD k (0, 0)).2 ∧ (rs.getD k (0, 0)).2 ≤ 1000) (hl : ∀ x ∈ l, 0 ≤ x.1 ∧ x.1 ≤ 1000) :
    Calls Try.prog 120 #[.agg #[.int .i64 k], .pointer (some ⟨b, 0, none⟩), v] w fun e w' => e = .returned (.int .i64 (overOf l k (rs.getD k (0, 0)).2)) ∧ Below w.heap.size w w' := by
  have h' := h
  obtain ⟨ao, cap, rfl, hlen, hrow⟩ := h
  have HR := Lib.hid hrow; clear hrow
  have H := Lib.hid h'; clear h'
  have HL := Lib.hid hl; clear hl
  have HRS := Lib.hid hr; clear hr
  by_cases hz : begunIn l k = 0
  · have hov : overOf l k (rs.getD k (0, 0)).2 = 0 := by unfold overOf; rw [if_pos hz]
    rw [hov]; clear hov
    have hz' : (begunIn l k == 0) = true := by simp [hz]
    have HZ := Lib.hid hz; clear hz
    go_enter Try.func120, Try.ntmps120
    go_wp2_with (go_at_call 119; refine (begunIn_any _ _ _ _ _ (H.out.below (box_below _ _) |>.mono (by simp)) hm).mono ?_; rintro e w' ⟨rfl, hb1⟩)
    go_ret
    exact ⟨rfl, (box_below _ _).trans (hb1.mono (by simp))⟩
  · have hov : overOf l k (rs.getD k (0, 0)).2 = gmax 0 (lastOf l k - (rs.getD k (0, 0)).2) := by unfold overOf; rw [if_neg hz]
    rw [hov]; clear hov
    have hz' : (begunIn l k == 0) = false := by simp [hz]
    have HZ := Lib.hid hz; clear hz
    obtain ⟨bell, hbell⟩ : ∃ x, (rs.getD k (0, 0)).2 = x := ⟨_, rfl⟩
    rw [hbell] at hB ⊢
    have hcells : ∃ rb off cap', rv = .slice (some ⟨rb, off, none⟩) rs.length cap' ∧ rs.length ≤ 9223372036854775807 ∧ w.cell? ⟨rb, off + k * 2 + 1, none⟩ = some (.int .i64 bell) := by
      obtain ⟨ao', cap', rfl, hm', hrow'⟩ := HRS.out
      obtain ⟨rb, off, rfl, _, hx⟩ := hrow' (by intro e; rw [e] at hk; simp at hk)
      exact ⟨rb, off, cap', rfl, hm', by rw [← hbell]; simpa [List.getD, hk] using hx k rs[k] (by simp [hk]) 1 _ rfl⟩
    obtain ⟨rb, off, cap', rfl, hlr, hcb⟩ := hcells
    clear hbell
    go_enter Try.func120, Try.ntmps120
    go_wp2_with (go_at_call 119; refine (begunIn_any _ _ _ _ _ (H.out.below (box_below _ _) |>.mono (by simp)) hm).mono ?_; rintro e w' ⟨rfl, hb1⟩)
    have hbox1 : w'.cell? ⟨w.heap.size, 0, none⟩ = some (.int .i64 k) := (hb1.cell (by simp)).trans (by simp)
    have hs1 : w.heap.size < w'.heap.size := by have := hb1.size; simp at this; omega
    have hb0 : Below w.heap.size w w' := (box_below _ _).trans (hb1.mono (by simp))
    have hcb1 : w'.cell? ⟨rb, off + k * 2 + 1, none⟩ = some (.int .i64 bell) := cell_old hb0 hcb
    have h61 : w'.cell? ⟨b, 6, none⟩ = some (.slice (some ⟨rb, off, none⟩) rs.length cap') := cell_old hb0 hb6
    have H1 := Lib.hid (H.out.below hb0)
    have HB0 := Lib.hid hb0
    clear hb1 hcb hb6 hb0
    go_loopw [7, 18] (fun n i wr => ∃ j : Nat, j ≤ l.length ∧ i = .int .i64 j ∧ n = .int .i64 (lastOf (l.take j) k) ∧ Below w'.heap.size w' wr) (fun _ i _ => l.length - (intOf i).toNat)
    case atStart => exact ⟨0, by omega, rfl, rfl, Below.refl _ _⟩
    case round =>
      obtain ⟨j, hj, rfl, rfl, hb⟩ := hrel
      have hbox : wr.cell? ⟨w.heap.size, 0, none⟩ = some (.int .i64 k) := cell_old hb hbox1
      have hsz : w.heap.size < wr.heap.size := Nat.lt_of_lt_of_le hs1 hb.size
      by_cases hlt : j < l.length
      · obtain ⟨ao2, cap2, hv2, _, hrow2⟩ := H1.out
        cases hv2
        obtain ⟨lb, lo, rfl, hbl, hx⟩ := hrow2 (by intro e; rw [e] at hlt; simp at hlt)
        have c0 : wr.cell? ⟨lb, lo + j * 2, none⟩ = some (.int .i64 (l[j]).1) := cell_old hb (by simpa using hx j l[j] (by simp [hlt]) 0 _ rfl)
        have c1 : wr.cell? ⟨lb, lo + j * 2 + 1, none⟩ = some (.int .i64 (l[j]).2) := cell_old hb (by simpa using hx j l[j] (by simp [hlt]) 1 _ rfl)
        clear hx hrow2
        have HS : Hid (lastOf (l.take (j + 1)) k = if (l[j]).2 = k then (l[j]).1 else lastOf (l.take j) k) := by
          rw [List.take_succ_eq_append_getElem hlt, lastOf_snoc]; exact Lib.hid rfl
        have hsz2 := hb.size
        have HB := Lib.hid hb; clear hb
        by_cases hq : (l[j]).2 = k
        · have hq' : ((l[j]).2 == (k : Int)) = true := by simp [hq]
          have HQ := Lib.hid hq; clear hq
          go_wp2
          go_roundw
          case rel => exact ⟨j + 1, by omega, by go_num, by rw [HS.out, if_pos HQ.out], HB.out.alloc hsz2 _⟩
          case measure => simp [intOf]; omega
        · have hq' : ((l[j]).2 == (k : Int)) = false := by simp [hq]
          have HQ := Lib.hid hq; clear hq
          go_wp2
          go_roundw
          case rel => exact ⟨j + 1, by omega, by go_num, by rw [HS.out, if_neg HQ.out], HB.out.alloc hsz2 _⟩
          case measure => simp [intOf]; omega
      · have hw1 : wr.cell? ⟨rb, off + k * 2 + 1, none⟩ = some (.int .i64 bell) := cell_old hb hcb1
        have hw2 : wr.cell? ⟨b, 6, none⟩ = some (.slice (some ⟨rb, off, none⟩) rs.length cap') := cell_old hb h61
        have hrg := lastOf_range l k HL.out
        have HE : Hid (List.take j l = l) := Lib.hid (List.take_of_length_le (by omega))
        have HB := Lib.hid hb; clear hb hcb1 h61
        rw [HE.out]
        have hki : (k : Int) < (rs.length : Int) := by omega
        go_wp2
        go_quiet (fail)
        go_wp2
        all_goals
          go_ret
          exact ⟨retI (by unfold gmax; first | rw [if_pos (by omega)] | rw [if_neg (by omega)]), below_drewN (HB0.out.trans (HB.out.mono HB0.out.size)) _⟩

theorem any_snoc {α : Type} (l : List α) (p : α → Bool) (x : α) : (l ++ [x]).any p = (l.any p || p x) := by simp

set_option maxHeartbeats 1000000 in
theorem late_any (b : Nat) (k : Nat) (rv : Value) (s : Stand) (v : Value) (l : List (Int × Int)) (w : World) (hb6 : w.cell? ⟨b, 6, none⟩ = some rv) (hr : Prs w w.heap.size rv s.runs) (h : Prs w w.heap.size v l) (hm : l.length < 100) (hk : k < s.runs.length) :
    Calls Try.prog 121 #[.agg #[.int .i64 k], .pointer (some ⟨b, 0, none⟩), v] w fun e w' => e = .returned (.int .i64 (if lateOf s l k then 1 else 0)) ∧ Below w.heap.size w w' := by
  obtain ⟨start, hstart⟩ : ∃ x, (s.runs.getD k (0, 0)).1 = x := ⟨_, rfl⟩
  have hcells : ∃ rb off cap', rv = .slice (some ⟨rb, off, none⟩) s.runs.length cap' ∧ s.runs.length ≤ 9223372036854775807 ∧ w.cell? ⟨rb, off + k * 2, none⟩ = some (.int .i64 start) := by
    obtain ⟨ao', cap', rfl, hm', hrow'⟩ := hr
    obtain ⟨rb, off, rfl, _, hx⟩ := hrow' (by intro e; rw [e] at hk; simp at hk)
    exact ⟨rb, off, cap', rfl, hm', by rw [← hstart]; simpa [List.getD, hk] using hx k s.runs[k] (by simp [hk]) 0 _ rfl⟩
  obtain ⟨rb, off, cap', rfl, hlr, hcb⟩ := hcells
  have hlate : lateOf s l k = l.any fun x => decide (0 ≤ x.2) && (decide (x.2 < (k : Int)) && decide (start < x.1)) := by unfold lateOf; rw [hstart]
  rw [hlate]
  obtain ⟨t, ht⟩ : ∃ t : Int, (if (l.any fun x => decide (0 ≤ x.2) && (decide (x.2 < (k : Int)) && decide (start < x.1))) = true then 1 else 0) = t := ⟨_, rfl⟩
  rw [ht]
  have HGT := Lib.hid ht
  clear hlate hstart hr ht
  obtain ⟨ao, cap, rfl, hlen, hrow⟩ := h
  have HR := Lib.hid hrow; clear hrow
  obtain ⟨rl, hrl⟩ : ∃ n, s.runs.length = n := ⟨_, rfl⟩
  rw [hrl] at hk hlr hb6
  clear hrl
  go_enter Try.func121, Try.ntmps121
  go_wp2
  go_loopw [11] (fun i wr => ∃ j : Nat, j ≤ l.length ∧ i = .int .i64 j ∧ Hid ((l.take j).any (fun x => decide (0 ≤ x.2) && (decide (x.2 < (k : Int)) && decide (start < x.1))) = false) ∧ Below (w.heap.size + 1) (w.alloc (.cells #[.int .i64 k] 96)) wr) (fun i _ => l.length - (intOf i).toNat)
  case atStart => exact ⟨0, by omega, rfl, Lib.hid rfl, Below.refl _ _⟩
  case round =>
    obtain ⟨j, hj, rfl, HA, hb⟩ := hrel
    have hbox : wr.cell? ⟨w.heap.size, 0, none⟩ = some (.int .i64 k) := (hb.cell (by simp)).trans (by simp)
    have hsz : w.heap.size < wr.heap.size := by have := hb.size; simp at this; omega
    have hbw : Below w.heap.size w wr := (box_below _ _).trans (hb.mono (by simp))
    by_cases hlt : j < l.length
    · obtain ⟨lb, lo, rfl, hbl, hx⟩ := HR.out (by intro e; rw [e] at hlt; simp at hlt)
      have c0 : wr.cell? ⟨lb, lo + j * 2, none⟩ = some (.int .i64 (l[j]).1) := cell_old hbw (by simpa using hx j l[j] (by simp [hlt]) 0 _ rfl)
      have c1 : wr.cell? ⟨lb, lo + j * 2 + 1, none⟩ = some (.int .i64 (l[j]).2) := cell_old hbw (by simpa using hx j l[j] (by simp [hlt]) 1 _ rfl)
      have hw1 : wr.cell? ⟨rb, off + k * 2, none⟩ = some (.int .i64 start) := cell_old hbw hcb
      have hw2 : wr.cell? ⟨b, 6, none⟩ = some (.slice (some ⟨rb, off, none⟩) rl cap') := cell_old hbw hb6
      have h3 : rb < wr.heap.size := World.block_lt_of_cell? _ _ hw1
      have h4 : b < wr.heap.size := World.block_lt_of_cell? _ _ hw2
      clear hx
      obtain ⟨x1, hx1⟩ : ∃ x, (l[j]).1 = x := ⟨_, rfl⟩
      obtain ⟨x2, hx2⟩ : ∃ x, (l[j]).2 = x := ⟨_, rfl⟩
      have HS : Hid ((l.take (j + 1)).any (fun x => decide (0 ≤ x.2) && (decide (x.2 < (k : Int)) && decide (start < x.1))) = (decide (0 ≤ x2) && (decide (x2 < (k : Int)) && decide (start < x1)))) := by
        rw [List.take_succ_eq_append_getElem hlt, any_snoc, HA.out, ← hx1, ← hx2]; exact Lib.hid (by simp)
      have HT : Hid ((decide (0 ≤ x2) && (decide (x2 < (k : Int)) && decide (start < x1))) = true → l.any (fun x => decide (0 ≤ x.2) && (decide (x.2 < (k : Int)) && decide (start < x.1))) = true) :=
        Lib.hid fun h => List.any_eq_true.2 ⟨l[j], List.getElem_mem hlt, by rw [hx1, hx2]; exact h⟩
      rw [hx1] at c0
      rw [hx2] at c1
      have hsz2 := hb.size
      have hki : (k : Int) < (rl : Int) := by omega
      have HBW := Lib.hid hbw; clear hbw
      have HB := Lib.hid hb; clear hb hx1 hx2 hcb hb6
      by_cases g1 : 0 ≤ x2
      · by_cases g2 : x2 < (k : Int)
        · by_cases g3 : start < x1
          · go_wp2
            go_quiet (fail)
            go_wp2
            go_ret
            exact ⟨retI (by rw [← HGT.out, if_pos (HT.out (by simp [g1, g2, g3]))]), below_drewN (HBW.out.alloc (by omega) _) _⟩
          · have g3' : decide (start < x1) = false := by simp; omega
            go_wp2
            go_quiet (fail)
            go_wp2
            go_roundw
            case rel => exact ⟨j + 1, by omega, by go_num, Lib.hid (by rw [HS.out]; simp; omega), below_drewN (HB.out.alloc (by omega) _) _⟩
            case measure => simp [intOf]; omega
        · have g2' : decide (x2 < (k : Int)) = false := by simp; omega
          go_wp2
          go_quiet (fail)
          go_wp2
          go_roundw
          case rel => exact ⟨j + 1, by omega, by go_num, Lib.hid (by rw [HS.out]; simp; omega), below_drewN (HB.out.alloc (by omega) _) _⟩
          case measure => simp [intOf]; omega
      · have g1' : decide (0 ≤ x2) = false := by simp; omega
        go_wp2
        go_quiet (fail)
        go_wp2
        go_roundw
        case rel => exact ⟨j + 1, by omega, by go_num, Lib.hid (by rw [HS.out]; simp; omega), below_drewN (HB.out.alloc (by omega) _) _⟩
        case measure => simp [intOf]; omega
    · have HB := Lib.hid hb; clear hb
      have HE : Hid (List.take j l = l) := Lib.hid (List.take_of_length_le (by omega))
      rw [HE.out] at HA
      go_wp2
      go_ret
      exact ⟨retI (by rw [← HGT.out, if_neg (by rw [HA.out]; simp)]), (box_below _ _).trans (HB.out.mono (by simp))⟩
end Go.Proofs.Ytojbkpnkcpcioaa
/- Walks: joined; the search for a wrong kind; the deferred answer. -/
namespace Go.Proofs.Ytojbkpnkcpcioaa
open Go.RowKit Go.Sh Go.Sh.Stand

theorem foldl_take_snoc {α β : Type} (f : β → α → β) (b : β) (l : List α) {k : Nat} (h : k < l.length) : (l.take (k + 1)).foldl f b = f ((l.take k).foldl f b) l[k] := by
  rw [List.take_succ_eq_append_getElem h, List.foldl_append]; rfl

set_option maxHeartbeats 1000000 in
theorem joined_any (v : Value) (l : List (Int × Int)) (w : World) (h : Prs w w.heap.size v l) (hm : l ≠ []) :
    Calls Try.prog 96 #[v] w fun e w' => e = .returned (.agg #[.int .i64 (joinedL l).1, .int .i64 (joinedL l).2]) ∧ Below w.heap.size w w' := by
  obtain ⟨ao, cap, rfl, hlen, hrow⟩ := h
  obtain ⟨lb, lo, rfl, hbl, hx⟩ := hrow hm
  have hpos : 0 < l.length := by cases l <;> simp_all
  have c00 : w.cell? ⟨lb, lo, none⟩ = some (.int .i64 (l[0]).1) := by simpa using hx 0 l[0] (by simp [hpos]) 0 _ rfl
  have c01 : w.cell? ⟨lb, lo + 1, none⟩ = some (.int .i64 (l[0]).2) := by simpa using hx 0 l[0] (by simp [hpos]) 1 _ rfl
  have hhd : l.headD (0, 0) = l[0] := by cases l <;> simp_all
  obtain ⟨t, ht⟩ : ∃ t, joinedL l = t := ⟨_, rfl⟩
  unfold joinedL at ht
  rw [hhd] at ht
  unfold joinedL
  rw [hhd, ht]
  have HT := Lib.hid ht
  have HX := Lib.hid hx
  clear hx ht hhd hrow hm
  obtain ⟨h0, hh0⟩ : ∃ x, l[0] = x := ⟨_, rfl⟩
  rw [hh0] at c00 c01 HT
  clear hh0
  go_enter Try.func96, Try.ntmps96
  go_wp2
  go_loopw [11] (fun i wr => ∃ j : Nat, j ≤ l.length ∧ i = .int .i64 j ∧ ∃ p : Int × Int, Hid ((l.take j).foldl jn h0 = p) ∧ Below (w.heap.size + 1) ((w.alloc (.cells #[.int .i64 0, .int .i64 0] 23)).alloc (.cells #[.int .i64 h0.1, .int .i64 h0.2] 23)) wr ∧ w.heap.size + 1 < wr.heap.size ∧
      wr.cell? ⟨w.heap.size + 1, 0, none⟩ = some (.int .i64 p.1) ∧ wr.cell? ⟨w.heap.size + 1, 1, none⟩ = some (.int .i64 p.2) ∧ wr.frozen? ⟨w.heap.size + 1, 0, none⟩ = false ∧ wr.frozen? ⟨w.heap.size + 1, 1, none⟩ = false) (fun i _ => l.length - (intOf i).toNat)
  case atStart => exact ⟨0, by omega, rfl, h0, Lib.hid rfl, Below.refl _ _, by simp, by simp [go_sem], by simp [go_sem], by simp [go_sem], by simp [go_sem]⟩
  case round =>
    obtain ⟨j, hj, rfl, p, HP, hb, hsz, s0, s1, f0, f1⟩ := hrel
    have hbw : Below w.heap.size w wr := (below_two _ _ _).trans (hb.mono (by simp))
    by_cases hlt : j < l.length
    · have c0 : wr.cell? ⟨lb, lo + j * 2, none⟩ = some (.int .i64 (l[j]).1) := cell_old hbw (by simpa using HX.out j l[j] (by simp [hlt]) 0 _ rfl)
      have c1 : wr.cell? ⟨lb, lo + j * 2 + 1, none⟩ = some (.int .i64 (l[j]).2) := cell_old hbw (by simpa using HX.out j l[j] (by simp [hlt]) 1 _ rfl)
      obtain ⟨x, hx⟩ : ∃ x, l[j] = x := ⟨_, rfl⟩
      have HS : Hid ((l.take (j + 1)).foldl jn h0 = jn p x) := Lib.hid (by rw [foldl_take_snoc jn h0 l hlt, HP.out, hx])
      rw [hx] at c0 c1
      clear hx
      have HB := Lib.hid hb; clear hb hbw
      unfold jn gmin gmax at HS
      go_wp2
      go_roundw
      case rel =>
        refine ⟨j + 1, by omega, by go_num, jn p x, HS, ?_, by simp; omega, ?_, ?_, ?_, ?_⟩
        · refine ((HB.out.setCell ?_ _).setCell ?_ _).alloc ?_ _
          · exact Nat.le_refl _
          · exact Nat.le_refl _
          · simp; omega
        all_goals simp [go_sem, jn, gmin, gmax, s0, s1, f0, f1, hsz]
      case measure => simp [intOf]; omega
    · have HE : Hid (List.take j l = l) := Lib.hid (List.take_of_length_le (by omega))
      have r0 : wr.cell? ⟨w.heap.size, 0, none⟩ = some (.int .i64 0) := (hb.cell (by simp)).trans (by simp [go_sem])
      have r1 : wr.cell? ⟨w.heap.size, 1, none⟩ = some (.int .i64 0) := (hb.cell (by simp)).trans (by simp [go_sem])
      have q0 : wr.frozen? ⟨w.heap.size, 0, none⟩ = false := (hb.frozen (by simp)).trans (by simp [go_sem])
      have q1 : wr.frozen? ⟨w.heap.size, 1, none⟩ = false := (hb.frozen (by simp)).trans (by simp [go_sem])
      have HW := Lib.hid hbw; clear hbw hb
      rw [HE.out] at HP
      have hpt : p = t := HP.out.symm.trans HT.out
      subst hpt
      go_wp2
      refine bodyPost_ret (v := .agg #[.int .i64 p.1, .int .i64 p.2]) (by simp [results, Try.results96, go_sem, r0, r1, q0, q1]) rfl ⟨rfl, ?_⟩
      exact (HW.out.setCell (Nat.le_refl _) _).setCell (Nat.le_refl _) _

/-- Where the first wrong kind stands; -1: nowhere. -/
def findI : List Int → Int
  | [] => -1
  | k :: r => if inB k 0 2 then (if findI r < 0 then -1 else findI r + 1) else 0
theorem findI_ge (l : List Int) : -1 ≤ findI l := by
  induction l with
  | nil => decide
  | cons k r ih => unfold findI; split <;> (try split) <;> omega
theorem findI_none (l : List Int) (h : l.all (fun k => inB k 0 2) = true) : findI l = -1 := by
  induction l with
  | nil => rfl
  | cons k r ih =>
    simp only [List.all_cons, Bool.and_eq_true] at h
    unfold findI; rw [if_pos h.1, ih h.2]; rfl
theorem findI_at : ∀ (l : List Int) (j : Nat) (hj : j < l.length), (l.take j).all (fun k => inB k 0 2) = true → inB l[j] 0 2 = false → findI l = j
  | [], j, hj, _, _ => by simp at hj
  | k :: r, 0, _, _, h => by unfold findI; simp at h; rw [if_neg (by simp [h])]; rfl
  | k :: r, j + 1, hj, ha, h => by
    simp only [List.take_succ_cons, List.all_cons, Bool.and_eq_true] at ha
    have := findI_at r j (by simpa using hj) ha.2 (by simpa using h)
    unfold findI; rw [if_pos ha.1, this, if_neg (by omega)]; omega
theorem findI_iff (l : List Int) : (!l.all (fun k => inB k 0 2)) = decide (0 ≤ findI l) := by
  induction l with
  | nil => rfl
  | cons k r ih =>
    have hg := findI_ge r
    unfold findI
    simp only [List.all_cons]
    cases hk : inB k 0 2 with
    | false => simp
    | true =>
      simp only [Bool.true_and, if_true]
      rw [ih]
      split
      · simp; omega
      · simp; omega

set_option maxHeartbeats 400000 in
theorem index80_any (v : Value) (l : List Int) (w : World) (h : Ints w w.heap.size v l) :
    Calls Try.prog 93 #[v, .func (.func 80) #[] #[]] w fun e w' => e = .returned (.int .i64 (findI l)) ∧ w = w' := by
  obtain ⟨ao, cap, rfl, hlen, hrow⟩ := h
  have HR := Lib.hid hrow; clear hrow
  obtain ⟨t, ht⟩ : ∃ t, findI l = t := ⟨_, rfl⟩
  rw [ht]
  have HT := Lib.hid ht; clear ht
  go_enter Try.func93, Try.ntmps93
  go_wp2
  go_loop [5, 8] (fun c i => ∃ j : Nat, j ≤ l.length ∧ i = .int .i64 j ∧ Hid ((l.take j).all (fun k => inB k 0 2) = true)) (fun _ i => l.length - (intOf i).toNat)
  case atStart => exact ⟨0, by omega, rfl, Lib.hid rfl⟩
  case round =>
    obtain ⟨j, hj, rfl, HA⟩ := hrel
    by_cases hlt : j < l.length
    · obtain ⟨lb, lo, rfl, hbl, hx⟩ := HR.out (by intro e; rw [e] at hlt; simp at hlt)
      have c0 : w.cell? ⟨lb, lo + j, none⟩ = some (.int .i64 l[j]) := by simpa using hx j l[j] (by simp [hlt]) 0 _ rfl
      clear hx
      obtain ⟨x, hx⟩ : ∃ x, l[j] = x := ⟨_, rfl⟩
      rw [hx] at c0
      by_cases hq : inB x 0 2 = true
      · have hq' : (!inB x 0 2) = false := by rw [hq]; rfl
        have HS : Hid ((l.take (j + 1)).all (fun k => inB k 0 2) = true) := Lib.hid (by rw [List.take_succ_eq_append_getElem hlt, List.all_append, HA.out, hx]; simp [hq])
        clear hx hq
        go_wp2_with (go_at_call 80; refine (open1_any _ _).mono ?_; rintro e w' ⟨rfl, rfl⟩)
        go_round
        case rel => exact ⟨j + 1, by omega, by go_num, HS⟩
        case measure => simp [intOf]; omega
      · have hq' : (!inB x 0 2) = true := by simpa using hq
        have HS : Hid (t = j) := Lib.hid (by rw [← HT.out]; exact findI_at l j hlt HA.out (by rw [hx]; simpa using hq))
        clear hx hq
        go_wp2_with (go_at_call 80; refine (open1_any _ _).mono ?_; rintro e w' ⟨rfl, rfl⟩)
        go_ret
        exact ⟨retI HS.out.symm, rfl⟩
    · have HS : Hid (t = -1) := Lib.hid (by rw [← HT.out]; exact findI_none l (by have := HA.out; rwa [List.take_of_length_le (by omega)] at this))
      go_wp2
      go_ret
      exact ⟨retI HS.out.symm, rfl⟩

set_option maxHeartbeats 400000 in
theorem contains80_any (v : Value) (l : List Int) (w : World) (h : Ints w w.heap.size v l) :
    Calls Try.prog 79 #[v, .func (.func 80) #[] #[]] w fun e w' => e = .returned (.bool (!l.all (fun k => inB k 0 2))) ∧ w = w' := by
  obtain ⟨t, ht⟩ : ∃ t, findI l = t := ⟨_, rfl⟩
  have hc := findI_iff l
  rw [ht] at hc
  obtain ⟨b, hb⟩ : ∃ b, (!l.all (fun k => inB k 0 2)) = b := ⟨_, rfl⟩
  rw [hb] at hc ⊢
  have HX := Lib.hid (index80_any v l w h)
  rw [ht] at HX
  cases b
  · have hn : t < 0 := by simpa using hc
    clear ht hb hc h
    go_enter Try.func79, Try.ntmps79
    go_wp2_with (go_at_call 93; refine HX.out.mono ?_; rintro e w' ⟨rfl, rfl⟩)
    go_ret
    exact ⟨retB (by simp; omega), rfl⟩
  · have hn : 0 ≤ t := by simpa using hc
    clear ht hb hc h
    go_enter Try.func79, Try.ntmps79
    go_wp2_with (go_at_call 93; refine HX.out.mono ?_; rintro e w' ⟨rfl, rfl⟩)
    go_ret
    exact ⟨retB (by simp), rfl⟩

set_option maxRecDepth 100000 in
/-- The deferred answer to a refusal: the error is laid, the panic is recovered. -/
theorem answer_refused (p : Addr) (x : Int) (c : Int) (older : List PanicEntry) (w : World) (hc : w.cell? p = some (.int .i64 x)) (hz : w.frozen? p = false) :
    CallsD Try.prog 40 #[.pointer (some p)] (.panicking ({ v := .iface 115 (.int .i64 c), recovered := false } :: older)) w fun e u' w' =>
      e = .returned (.tuple #[]) ∧ u' = .panicking ({ v := .iface 115 (.int .i64 c), recovered := true } :: older) ∧ w' = w.setCell p (.int .i64 c) := by
  refine callsD_of_wpS Try.func40 rfl fun c₀ cs hu => ?_
  simp only [Try.ntmps40, List.size_toArray, List.length_cons, List.length_nil, Nat.reduceAdd, Nat.reduceSub, Array.replicate_succ, Array.replicate_zero, List.push_toArray, List.append_toArray, List.nil_append, List.cons_append]
  apply wpS_seq
  apply wpS_region
  simp [wpOpsS, go_sem, recoverD, hu, Exit.thenS]
  refine wpS_of_wp ?_
  refine Code.wp_mono (Q := fun e a' w' => e = .normal ∧ a'.defers = [] ∧ w' = w.setCell p (.int .i64 c)) ?_ ?_
  · rintro e a' w' ⟨rfl, hd, rfl⟩
    exact ⟨hd, _, rfl, _, results_none rfl _ _ _, rfl, rfl, rfl⟩
  clear hu
  have hta : ∀ w, (Instr.typeAssert (.iface 115 (.int .i64 c)) 20 115 true).run Try.prog w = .ok (.tuple #[.int .i64 c, .bool true]) w := fun _ => by kernel_rfl
  go_wp2

theorem answer_idle (p : Addr) (w : World) :
    CallsD Try.prog 40 #[.pointer (some p)] .returning w fun e u' w' => e = .returned (.tuple #[]) ∧ u' = .returning ∧ w' = w := by
  refine callsD_of_wpS Try.func40 rfl fun c₀ cs hu => ?_
  simp only [Try.ntmps40, List.size_toArray, List.length_cons, List.length_nil, Nat.reduceAdd, Nat.reduceSub, Array.replicate_succ, Array.replicate_zero, List.push_toArray, List.append_toArray, List.nil_append, List.cons_append]
  apply wpS_seq
  apply wpS_region
  simp [wpOpsS, go_sem, recoverD, hu, Exit.thenS]
  refine wpS_of_wp ?_
  refine Code.wp_mono (Q := fun e a' w' => e = .normal ∧ a'.defers = [] ∧ w' = w) ?_ ?_
  · rintro e a' w' ⟨rfl, hd, rfl⟩
    exact ⟨hd, .returning, by cases c₀; simp_all, _, results_none rfl _ _ _, rfl, rfl, rfl⟩
  clear hu
  go_wp2
end Go.Proofs.Ytojbkpnkcpcioaa
/- The board in memory; the walk of day. -/
namespace Go.Proofs.Ytojbkpnkcpcioaa
open Go.RowKit Go.Sh Go.Sh.Stand
theorem Try.laidOut : laidOutB Try.prog = true := by kernel_rfl
theorem key140 : WideMaps.KeyLaw Try.prog 140 := deep_law_laid Try.laidOut (m := 5) (by omega) (of_decide_eq_true (by kernel_rfl)) (by kernel_rfl) (by kernel_rfl)
theorem cells140 : Try.prog.cellsOf 140 = 3 := by kernel_rfl
theorem cells88 : Try.prog.cellsOf 88 = 3 := by kernel_rfl
theorem cells3 : Try.prog.cellsOf 3 = 1 := by kernel_rfl
theorem types_size : Try.prog.types.size = 170 := by kernel_rfl
theorem key140_of (a b c : Int) (ha : (Lit.int .i64 a).wf = true) (hb : (Lit.int .i64 b).wf = true) (hc : (Lit.int .i64 c).wf = true) : ∃ l, keyOf Try.prog 140 (.agg #[.int .i64 a, .int .i64 b, .int .i64 c]) = some l := by
  have h1 : Try.prog.keyType 140 = true := by kernel_rfl
  have i0 : ∀ d (n : Int), (Lit.int .i64 n).wf = true → Try.prog.keyLits (d + 1) 3 [.int .i64 n] = some [.int .i64 n] := fun d n h => by
    unfold Program.keyLits; simp [Try.underlying3, h]
  have i1 : ∀ d, Try.prog.keyLits (d + 1 + 1) 88 [.int .i64 a, .int .i64 b, .int .i64 c] = some [.int .i64 a, .int .i64 b, .int .i64 c] := fun d => by
    unfold Program.keyLits; simp [Try.underlying88, cells88, cells3, List.range_succ, i0 _ _ ha, i0 _ _ hb, i0 _ _ hc]
  have i2 : ∀ d, Try.prog.keyLits (d + 1 + 1 + 1) 140 [.int .i64 a, .int .i64 b, .int .i64 c] = some [.int .i64 a, .int .i64 b, .int .i64 c] := fun d => by
    unfold Program.keyLits; simp [Try.underlying140, cells140, cells88, i1 d]
  unfold keyOf
  simp only [Try.underlying140, h1, types_size, Value.formed, Value.cells, cells140]
  exact ⟨_, by rw [show (170 + 1 : Nat) = 168 + 1 + 1 + 1 from rfl, i2 168]; rfl⟩

def keyV (t : Shearer) : Value := .agg #[.int .i64 t.1, .int .i64 t.2.1, .int .i64 t.2.2]
/-- A shearer within the limits. -/
def Tok (t : Shearer) : Prop := (1 ≤ t.1 ∧ t.1 ≤ 40) ∧ (1 ≤ t.2.1 ∧ t.2.1 ≤ 40) ∧ (1 ≤ t.2.2 ∧ t.2.2 ≤ 40)
/-- What the walks need of a stand that is valid. -/
structure Fit (s : Stand) : Prop where
  mins : s.mins.length = 3
  minb : ∀ p ∈ s.mins, 1 ≤ p.1 ∧ p.1 ≤ p.2 ∧ p.2 ≤ 40 ∧ p.2 - p.1 ≤ 4
  runs : 1 ≤ s.runs.length ∧ s.runs.length ≤ 4
  runb : ∀ p ∈ s.runs, 0 ≤ p.1 ∧ p.1 < p.2 ∧ p.2 ≤ 600
  sheep : s.sheep.length ≤ 16
  kinds : ∀ k ∈ s.sheep, 0 ≤ k ∧ k ≤ 2
  looks : s.looks.length ≤ 4
  lookb : ∀ l ∈ s.looks, (0 ≤ l.1 ∧ l.1 ≤ 600) ∧ 0 ≤ l.2.1 ∧ l.2.1 ≤ l.2.2 ∧ l.2.2 ≤ 16

/-- A row in no block of X. -/
def Off (X : Nat → Prop) (v : Value) : Prop := ∀ (a : Addr) (n c : Nat), v = .slice (some a) n c → 0 < n → ¬ X a.block
theorem Off.sub {X X' : Nat → Prop} {v : Value} (h : Off X v) (hx : ∀ k, X' k → X k) : Off X' v := fun a n c e hn hk => h a n c e hn (hx _ hk)

/-- A board that lies in the block b, with its map in the block m, and in no block of X. -/
structure Board (w : World) (b m : Nat) (s : Stand) (X : Nat → Prop) : Prop where
  mins : ∀ k, k < 3 → w.cell? ⟨b, k * 2, none⟩ = some (.int .i64 (s.mins.getD k (0, 0)).1) ∧ w.cell? ⟨b, k * 2 + 1, none⟩ = some (.int .i64 (s.mins.getD k (0, 0)).2)
  runs : ∃ v, w.cell? ⟨b, 6, none⟩ = some v ∧ Prs w w.heap.size v s.runs ∧ Off X v
  sheep : ∃ v, w.cell? ⟨b, 7, none⟩ = some v ∧ Ints w w.heap.size v s.sheep ∧ Off X v
  looks : ∃ v, w.cell? ⟨b, 8, none⟩ = some v ∧ Trs w w.heap.size v s.looks ∧ Off X v
  map : w.cell? ⟨b, 9, none⟩ = some (.map (some m))
  kept : MapInv Try.prog 140 w m fun k v => ∃ t, k = keyV t ∧ Prs w w.heap.size v (day s t) ∧ Off X v
  xlt : ∀ k, X k → k < w.heap.size
  xb : ¬ X b
  xm : ¬ X m

theorem Board.mlt {b m : Nat} {s : Stand} {w : World} {X : Nat → Prop} (h : Board w b m s X) : m < w.heap.size := by obtain ⟨es, ck, hb, _⟩ := h.kept; exact (Array.getElem?_eq_some_iff.1 hb).1

theorem Board.later {w w' : World} {b m : Nat} {s : Stand} {X : Nat → Prop} (h : Board w b m s X) (hf : Below w.heap.size w w') : Board w' b m s X := by
  obtain ⟨rv, r1, r2, r3⟩ := h.runs
  obtain ⟨sv, s1, s2, s3⟩ := h.sheep
  obtain ⟨lv, l1, l2, l3⟩ := h.looks
  exact ⟨fun k hk => ⟨cell_old hf (h.mins k hk).1, cell_old hf (h.mins k hk).2⟩, ⟨rv, cell_old hf r1, r2.later hf, r3⟩, ⟨sv, cell_old hf s1, s2.later hf, s3⟩, ⟨lv, cell_old hf l1, l2.later hf, l3⟩, cell_old hf h.map,
    h.kept.imp (hf.block m h.mlt) fun k v ⟨t, h1, h2, h3⟩ => ⟨t, h1, h2.later hf, h3⟩, fun k hk => Nat.lt_of_lt_of_le (h.xlt k hk) hf.size, h.xb, h.xm⟩

/-- One more entry of the map. -/
theorem Board.put {w w' : World} {b m : Nat} {s : Stand} {X : Nat → Prop} (h : Board w b m s X) (hf : Frm (fun k => k = m) w w') (hk : MapInv Try.prog 140 w' m fun k v => ∃ t, k = keyV t ∧ Prs w' w'.heap.size v (day s t) ∧ Off X v) : Board w' b m s X := by
  obtain ⟨rv, r1, r2, r3⟩ := h.runs
  obtain ⟨sv, s1, s2, s3⟩ := h.sheep
  obtain ⟨lv, l1, l2, l3⟩ := h.looks
  obtain ⟨es, ck, hb, _⟩ := h.kept
  have hc : ∀ {a : Addr} {u : Value}, w.cell? a = some u → w'.cell? a = some u := fun hc => hf.cell hc (ne_of_cell_map hc hb)
  exact ⟨fun k hk => ⟨hc (h.mins k hk).1, hc (h.mins k hk).2⟩, ⟨rv, hc r1, r2.frmM hb hf, r3⟩, ⟨sv, hc s1, s2.frmM hb hf, s3⟩, ⟨lv, hc l1, l2.frmM hb hf, l3⟩, hc h.map, hk, fun k hk => Nat.lt_of_lt_of_le (h.xlt k hk) hf.size, h.xb, h.xm⟩

theorem Off.frm {α : Type} {enc : α → List Value} {size : Nat} {w w' : World} {v : Value} {l : List α} {X S : Nat → Prop} (ho : Off X v) (h : RowsAt enc size w w.heap.size v l) (hf : Frm S w w') (hs : ∀ k, S k → X k) : RowsAt enc size w' w'.heap.size v l := by
  obtain ⟨ao, cap, rfl, hm, h⟩ := h
  refine ⟨ao, cap, rfl, hm, fun hl => ?_⟩
  obtain ⟨b', off, rfl, hb, hx⟩ := h hl
  exact ⟨b', off, rfl, Nat.lt_of_lt_of_le hb hf.size, fun i x hi j u hu => hf.cell (hx i x hi j u hu) fun hk => ho _ _ _ rfl (List.length_pos_iff.2 hl) (hs _ hk)⟩

/-- Blocks of X are turned. -/
theorem Board.turn {w w' : World} {b m : Nat} {s : Stand} {X S : Nat → Prop} (h : Board w b m s X) (hf : Frm S w w') (hs : ∀ k, S k → X k) : Board w' b m s X := by
  obtain ⟨rv, r1, r2, r3⟩ := h.runs
  obtain ⟨sv, s1, s2, s3⟩ := h.sheep
  obtain ⟨lv, l1, l2, l3⟩ := h.looks
  have nb : ¬ S b := fun k => h.xb (hs _ k)
  exact ⟨fun k hk => ⟨hf.cell (h.mins k hk).1 nb, hf.cell (h.mins k hk).2 nb⟩, ⟨rv, hf.cell r1 nb, r3.frm r2 hf hs, r3⟩, ⟨sv, hf.cell s1 nb, s3.frm s2 hf hs, s3⟩, ⟨lv, hf.cell l1 nb, l3.frm l2 hf hs, l3⟩, hf.cell h.map nb,
    h.kept.imp (hf.block m h.mlt fun k => h.xm (hs _ k)) fun k v ⟨t, h1, h2, h3⟩ => ⟨t, h1, h3.frm h2 hf hs, h3⟩, fun k hk => Nat.lt_of_lt_of_le (h.xlt k hk) hf.size, h.xb, h.xm⟩
theorem Board.sub {w : World} {b m : Nat} {s : Stand} {X X' : Nat → Prop} (h : Board w b m s X) (hs : ∀ k, X' k → X k) : Board w b m s X' := by
  obtain ⟨rv, r1, r2, r3⟩ := h.runs
  obtain ⟨sv, s1, s2, s3⟩ := h.sheep
  obtain ⟨lv, l1, l2, l3⟩ := h.looks
  exact ⟨h.mins, ⟨rv, r1, r2, r3.sub hs⟩, ⟨sv, s1, s2, s3.sub hs⟩, ⟨lv, l1, l2, l3.sub hs⟩, h.map, h.kept.imp rfl fun k v ⟨t, h1, h2, h3⟩ => ⟨t, h1, h2, h3.sub hs⟩, fun k hk => h.xlt k (hs k hk), fun k => h.xb (hs _ k), fun k => h.xm (hs _ k)⟩
/-- The same row, for another set that is no more than X within the blocks that are there. -/
theorem Off.fresh {α : Type} {enc : α → List Value} {size : Nat} {w : World} {v : Value} {l : List α} {X X' : Nat → Prop} (ho : Off X v) (h : RowsAt enc size w w.heap.size v l) (hx : ∀ k, X' k → X k ∨ w.heap.size ≤ k) : Off X' v := by
  obtain ⟨ao, cap, rfl, hm, h⟩ := h
  intro a n c e hn hk
  cases e
  obtain ⟨b', off, hb', hb, _⟩ := h (List.length_pos_iff.1 hn)
  cases hb'
  rcases hx _ hk with hk | hk
  · exact ho _ _ _ rfl hn hk
  · simp only at hk; omega
theorem Board.grow {w w' : World} {b m : Nat} {s : Stand} {X X' : Nat → Prop} (h : Board w b m s X) (hf : Below w.heap.size w w') (hx : ∀ k, X' k → X k ∨ w.heap.size ≤ k) (hl : ∀ k, X' k → k < w'.heap.size) : Board w' b m s X' := by
  obtain ⟨rv, r1, r2, r3⟩ := h.runs
  obtain ⟨sv, s1, s2, s3⟩ := h.sheep
  obtain ⟨lv, l1, l2, l3⟩ := h.looks
  refine ⟨fun k hk => ⟨cell_old hf (h.mins k hk).1, cell_old hf (h.mins k hk).2⟩, ⟨rv, cell_old hf r1, r2.later hf, r3.fresh r2 hx⟩, ⟨sv, cell_old hf s1, s2.later hf, s3.fresh s2 hx⟩, ⟨lv, cell_old hf l1, l2.later hf, l3.fresh l2 hx⟩, cell_old hf h.map,
    h.kept.imp (hf.block m h.mlt) fun k v ⟨t, h1, h2, h3⟩ => ⟨t, h1, h2.later hf, h3.fresh h2 hx⟩, hl, fun k => ?_, fun k => ?_⟩
  · have := World.block_lt_of_cell? _ _ r1
    rcases hx _ k with k | k
    · exact h.xb k
    · simp only at this; omega
  · have := h.mlt
    rcases hx _ k with k | k
    · exact h.xm k
    · omega

/-- Blocks of X are turned, and blocks that were not yet there come into the set. -/
theorem Board.turnGrow {w w' : World} {b m : Nat} {s : Stand} {X X' S : Nat → Prop} (h : Board w b m s X) (hf : Frm S w w') (hs : ∀ k, S k → X k) (hx : ∀ k, X' k → X k ∨ w.heap.size ≤ k) (hl : ∀ k, X' k → k < w'.heap.size) : Board w' b m s X' := by
  obtain ⟨rv, r1, r2, r3⟩ := h.runs
  obtain ⟨sv, s1, s2, s3⟩ := h.sheep
  obtain ⟨lv, l1, l2, l3⟩ := h.looks
  have nb : ¬ S b := fun k => h.xb (hs _ k)
  refine ⟨fun k hk => ⟨hf.cell (h.mins k hk).1 nb, hf.cell (h.mins k hk).2 nb⟩, ⟨rv, hf.cell r1 nb, r3.frm r2 hf hs, r3.fresh r2 hx⟩, ⟨sv, hf.cell s1 nb, s3.frm s2 hf hs, s3.fresh s2 hx⟩, ⟨lv, hf.cell l1 nb, l3.frm l2 hf hs, l3.fresh l2 hx⟩, hf.cell h.map nb,
    h.kept.imp (hf.block m h.mlt fun k => h.xm (hs _ k)) fun k v ⟨t, h1, h2, h3⟩ => ⟨t, h1, h3.frm h2 hf hs, h3.fresh h2 hx⟩, hl, fun k => ?_, fun k => ?_⟩
  · have := World.block_lt_of_cell? _ _ r1
    rcases hx _ k with k | k
    · exact h.xb k
    · simp only at this; omega
  · have := h.mlt
    rcases hx _ k with k | k
    · exact h.xm k
    · omega

/-- What a call on the board comes to: only the map has turned, and the board stands. -/
structure OnBoard (b m : Nat) (s : Stand) (X : Nat → Prop) (w w' : World) : Prop where
  frm : Frm (fun k => k = m) w w'
  board : Board w' b m s X

def DayPost (b m : Nat) (s : Stand) (X : Nat → Prop) (t : Shearer) (w : World) (e : Ending) (w' : World) : Prop := ∃ v, e = .returned v ∧ Prs w' w'.heap.size v (day s t) ∧ OnBoard b m s X w w'

theorem Tok.wf {t : Shearer} (h : Tok t) : (Lit.int .i64 t.1).wf = true ∧ (Lit.int .i64 t.2.1).wf = true ∧ (Lit.int .i64 t.2.2).wf = true := by
  obtain ⟨h1, h2, h3⟩ := h
  exact ⟨WalkArith.wf_i64 (by omega), WalkArith.wf_i64 (by omega), WalkArith.wf_i64 (by omega)⟩

theorem zero124 (w : World) : (zeroValue 124).run Try.prog w = .ok (.slice none 0 0) w := by kernel_rfl

end Go.Proofs.Ytojbkpnkcpcioaa
/- The walk of day. -/
namespace Go.Proofs.Ytojbkpnkcpcioaa
open Go.RowKit Go.Sh Go.Sh.Stand

theorem info143 : (Try.prog.info? 143).map (fun i => (i.zero, i.size, i.bytes)) = some (some (.agg #[.int .i64 0, .int .i64 0]), 2, 16) := by kernel_rfl

def cV (c : Value) : Value → World → Prop := fun v _ => v = c
/-- Amid the first loop of day: w3 is the world ahead of its list and of 'now'. -/
structure DayAt (w3 : World) (s : Stand) (t : Shearer) (acc : List (Int × Int)) (run : Nat) (done : Int) (v : Value) (wr : World) : Prop where
  len : acc.length ≤ s.sheep.length
  eq : Hid (acc ++ dayFrom s.runs t (s.sheep.drop acc.length) run done = day s t)
  hrun : run ≤ s.runs.length
  hdone : 0 ≤ done ∧ done ≤ 1000
  own : wr.ownsRow w3.heap.size 143 2 v acc.length ((acc.map enc2).flatten)
  apart : v.ownBlock ≠ some (w3.heap.size + 1)
  n0 : wr.cell? ⟨w3.heap.size + 1, 0, none⟩ = some (.int .i64 done)
  n1 : wr.cell? ⟨w3.heap.size + 1, 1, none⟩ = some (.int .i64 run)
  f0 : wr.frozen? ⟨w3.heap.size + 1, 0, none⟩ = false
  f1 : wr.frozen? ⟨w3.heap.size + 1, 1, none⟩ = false
  below : Below w3.heap.size w3 wr
  size : w3.heap.size + 1 < wr.heap.size
/-- Behind it. -/
structure DayEnd (w3 : World) (s : Stand) (t : Shearer) (acc : List (Int × Int)) (v : Value) (wr : World) : Prop where
  len : acc.length ≤ s.sheep.length
  eq : acc ++ List.replicate (s.sheep.length - acc.length) (1000, -1) = day s t
  own : wr.ownsRow w3.heap.size 143 2 v acc.length ((acc.map enc2).flatten)
  below : Below w3.heap.size w3 wr

set_option maxRecDepth 100000 in
set_option maxHeartbeats 1000000 in
theorem day_any (b m : Nat) (s : Stand) (X : Nat → Prop) (t : Shearer) (w : World) (hs : Fit s) (ht : Tok t) (hB : Board w b m s X) :
    Calls Try.prog 82 #[.pointer (some ⟨b, 0, none⟩), keyV t] w (DayPost b m s X t w) := by
  obtain ⟨l, hl⟩ := key140_of t.1 t.2.1 t.2.2 ht.wf.1 ht.wf.2.1 ht.wf.2.2
  obtain ⟨v, ok, hlk, hor⟩ := hB.kept.lookup key140 Try.underlying118 zero124 hl
  have HLK := Lib.hid hlk; clear hlk
  have HL := Lib.hid hl; clear hl
  have h9 := hB.map
  have HB := Lib.hid hB; clear hB
  have HS := Lib.hid hs; clear hs
  have HTK := Lib.hid ht; clear ht
  unfold keyV
  obtain ⟨t0, t1, t2⟩ := t
  rcases hor with ⟨rfl, hv⟩ | ⟨rfl, rfl⟩
  · -- it is kept
    have HV := Lib.hid hv; clear hv
    go_enter Try.func82, Try.ntmps82
    go_wp2
    obtain ⟨w2, hw2⟩ : ∃ w2, (w.alloc (Obj.cells #[.int .i64 t0, .int .i64 t1, .int .i64 t2] 88)).alloc (Obj.cells #[.int .i64 t0, .int .i64 t1, .int .i64 t2] 140) = w2 := ⟨_, rfl⟩
    have hb2 : Below w.heap.size w w2 := by rw [← hw2]; exact below_two _ _ _
    have q0 : w2.cell? ⟨w.heap.size + 1, 0, none⟩ = some (.int .i64 t0) := by rw [← hw2]; simp [go_sem]
    have q1 : w2.cell? ⟨w.heap.size + 1, 1, none⟩ = some (.int .i64 t1) := by rw [← hw2]; simp [go_sem]
    have q2 : w2.cell? ⟨w.heap.size + 1, 2, none⟩ = some (.int .i64 t2) := by rw [← hw2]; simp [go_sem]
    have h92 := cell_old hb2 h9
    have hmlt : m < w.heap.size := by obtain ⟨es, ck, hb, _⟩ := HB.out.kept; exact (Array.getElem?_eq_some_iff.1 hb).1
    have hq : ∀ n, (Instr.lookup 118 (.map (some m)) (.agg #[.int .i64 t0, .int .i64 t1, .int .i64 t2]) true).run Try.prog (w2.drewN n) = .ok (.tuple #[v, .bool true]) (w2.drewN n) := fun n => HLK.out _ (hb2.block m hmlt)
    rw [hw2]
    have HB2 := Lib.hid hb2
    clear hw2 hb2 h9
    go_quiet (fail)
    go_wp2
    go_ret
    obtain ⟨t', hkt, hrd, _⟩ := HV.out
    have ht' : (t0, t1, t2) = t' := by
      obtain ⟨a, b', c⟩ := t'
      simp only [keyV, Value.agg.injEq, Array.mk.injEq, List.cons.injEq, Value.int.injEq, and_true, true_and] at hkt
      obtain ⟨rfl, rfl, rfl⟩ := hkt; rfl
    have hbn := below_drewN HB2.out nq
    exact ⟨v, rfl, ht' ▸ hrd.later hbn, .of_below hbn, HB.out.later hbn⟩
  · -- it is not: the day is gone through
    have h7 := HB.out.sheep
    obtain ⟨sv, hs7, hsv, _⟩ := h7
    obtain ⟨rv, hs6, hrr, _⟩ := HB.out.runs
    have HRR := Lib.hid hrr; clear hrr
    obtain ⟨sao, scap, rfl, hslen, hsrow⟩ := hsv
    have HSR := Lib.hid hsrow; clear hsrow
    go_enter Try.func82, Try.ntmps82
    go_wp2
    obtain ⟨w2, hw2⟩ : ∃ w2, (w.alloc (Obj.cells #[.int .i64 t0, .int .i64 t1, .int .i64 t2] 88)).alloc (Obj.cells #[.int .i64 t0, .int .i64 t1, .int .i64 t2] 140) = w2 := ⟨_, rfl⟩
    have hb2 : Below w.heap.size w w2 := by rw [← hw2]; exact below_two _ _ _
    have p0 : w2.cell? ⟨w.heap.size, 0, none⟩ = some (.int .i64 t0) := by rw [← hw2]; simp [go_sem]
    have p1 : w2.cell? ⟨w.heap.size, 1, none⟩ = some (.int .i64 t1) := by rw [← hw2]; simp [go_sem]
    have p2 : w2.cell? ⟨w.heap.size, 2, none⟩ = some (.int .i64 t2) := by rw [← hw2]; simp [go_sem]
    have q0 : w2.cell? ⟨w.heap.size + 1, 0, none⟩ = some (.int .i64 t0) := by rw [← hw2]; simp [go_sem]
    have q1 : w2.cell? ⟨w.heap.size + 1, 1, none⟩ = some (.int .i64 t1) := by rw [← hw2]; simp [go_sem]
    have q2 : w2.cell? ⟨w.heap.size + 1, 2, none⟩ = some (.int .i64 t2) := by rw [← hw2]; simp [go_sem]
    have hsz2 : w2.heap.size = w.heap.size + 2 := by rw [← hw2]; simp
    have h92 := cell_old hb2 h9
    have h72 := cell_old hb2 hs7
    have h62 := cell_old hb2 hs6
    have hmlt : m < w.heap.size := by obtain ⟨es, ck, hb, _⟩ := HB.out.kept; exact (Array.getElem?_eq_some_iff.1 hb).1
    have hq : ∀ n, (Instr.lookup 118 (.map (some m)) (.agg #[.int .i64 t0, .int .i64 t1, .int .i64 t2]) true).run Try.prog (w2.drewN n) = .ok (.tuple #[.slice none 0 0, .bool false]) (w2.drewN n) := fun n => HLK.out _ (hb2.block m hmlt)
    rw [hw2]
    have HB2 := Lib.hid hb2
    have HSZ2 := Lib.hid hsz2
    have HMLT := Lib.hid hmlt
    clear hw2 hb2 h9 hs7 hs6 hsz2 hmlt
    go_quiet (fail)
    clear hq
    obtain ⟨w3, hw3⟩ : ∃ w3, w2.drewN nq = w3 := ⟨_, rfl⟩
    have hb3 : Below w.heap.size w w3 := by rw [← hw3]; exact below_drewN HB2.out nq
    have hsz3 : w3.heap.size = w.heap.size + 2 := by rw [← hw3]; simpa using HSZ2.out
    have p0 : w3.cell? ⟨w.heap.size, 0, none⟩ = some (.int .i64 t0) := by rw [← hw3]; simpa using p0
    have p1 : w3.cell? ⟨w.heap.size, 1, none⟩ = some (.int .i64 t1) := by rw [← hw3]; simpa using p1
    have p2 : w3.cell? ⟨w.heap.size, 2, none⟩ = some (.int .i64 t2) := by rw [← hw3]; simpa using p2
    have q0 : w3.cell? ⟨w.heap.size + 1, 0, none⟩ = some (.int .i64 t0) := by rw [← hw3]; simpa using q0
    have q1 : w3.cell? ⟨w.heap.size + 1, 1, none⟩ = some (.int .i64 t1) := by rw [← hw3]; simpa using q1
    have q2 : w3.cell? ⟨w.heap.size + 1, 2, none⟩ = some (.int .i64 t2) := by rw [← hw3]; simpa using q2
    have h92 : w3.cell? ⟨b, 9, none⟩ = some (.map (some m)) := by rw [← hw3]; simpa using h92
    have h72 : w3.cell? ⟨b, 7, none⟩ = some (.slice sao s.sheep.length scap) := by rw [← hw3]; simpa using h72
    have h62 : w3.cell? ⟨b, 6, none⟩ = some rv := by rw [← hw3]; simpa using h62
    have hbl : b < w3.heap.size := World.block_lt_of_cell? _ _ h72
    rw [hw3]
    have HB3 := Lib.hid hb3
    have HSZ3 := Lib.hid hsz3
    clear hw3 hb3 hsz3 HB2 HSZ2
    go_upto_block 0 with (fail)
    go_cut [8] (fun v8 wx => ∃ acc : List (Int × Int), DayEnd w3 s (t0, t1, t2) acc v8 wx)
    case first =>
      go_wp2_with fail
      go_loopw [8, 37] (fun v8 i wr => ∃ acc run done, i = .int .i64 ((acc.length : Nat) : Int) ∧ DayAt w3 s (t0, t1, t2) acc run done v8 wr) (fun _ i _ => s.sheep.length - (intOf i).toNat)
      case atStart =>
        refine ⟨[], 0, 0, rfl, ⟨by simp, Lib.hid rfl, by simp, by simp, ?_, by simp [Value.ownBlock], ?_, ?_, ?_, ?_, below_two _ _ _, by simp⟩⟩
        · exact (World.ownsRow_made w3 #[] 0 (Nat.le_refl _) (by simp [maxLen]) (by simp)).alloc _
        all_goals simp [go_sem]
      case round =>
        obtain ⟨acc, run, done, rfl, hI⟩ := hrel
        by_cases hlt : acc.length < s.sheep.length
        · obtain ⟨b0, off, rfl, hbl0, hx⟩ := HSR.out (by intro e; rw [e] at hlt; simp at hlt)
          have c0 : wr.cell? ⟨b0, off + acc.length, none⟩ = some (.int .i64 (s.sheep[acc.length])) := by
            refine cell_old hI.below (cell_old HB3.out ?_)
            simpa using hx acc.length s.sheep[acc.length] (by simp [hlt]) 0 _ rfl
          have hbeg := begins_any b rv s.runs run done wr (cell_old hI.below h62) ((HRR.out.later HB3.out).later hI.below) hI.hrun
          have cl : ((acc.length : Nat) : Int) < ((s.sheep.length : Nat) : Int) := by omega
          obtain ⟨bg, hbg⟩ : ∃ x, begins (s.runs.drop run) run done = x := ⟨_, rfl⟩
          have n0 := hI.n0
          have n1 := hI.n1
          have hI' := Lib.hid hI; clear hI
          have p0' := cell_old hI'.out.below p0
          have p1' := cell_old hI'.out.below p1
          have p2' := cell_old hI'.out.below p2
          cases bg with
          | none =>
            rw [hbg] at hbeg; simp only [begEnd] at hbeg
            have HBG := Lib.hid hbg; clear hbg
            go_wp2_with (go_at_call 95; refine hbeg.mono ?_; rintro e w' ⟨rfl, rfl⟩)
            go_meet
            refine ⟨acc, hI'.out.len, ?_, hI'.out.own, hI'.out.below⟩
            have := hI'.out.eq.out
            rwa [dayFrom_none HBG.out] at this
          | some q =>
            obtain ⟨i, at_⟩ := q
            rw [hbg] at hbeg; simp only [begEnd] at hbeg
            have HBG := Lib.hid hbg; clear hbg
            obtain ⟨pr, hri, hpr, hat1, hat2⟩ := begins_of_drop HBG.out
            have hdn := hI'.out.hdone
            have hri2 : i < s.runs.length := (List.getElem?_eq_some_iff.1 hpr).1
            have hpb := HS.out.runb pr (List.mem_of_getElem? hpr)
            have hat : 0 ≤ at_ ∧ at_ ≤ 600 := by have := gmax_ge done pr.1; omega
            have htk : 1 ≤ tk (t0, t1, t2) s.sheep[acc.length] ∧ tk (t0, t1, t2) s.sheep[acc.length] ≤ 40 := by
              have h0 : 1 ≤ t0 ∧ t0 ≤ 40 := HTK.out.1
              have h1 : 1 ≤ t1 ∧ t1 ≤ 40 := HTK.out.2.1
              have h2 : 1 ≤ t2 ∧ t2 ≤ 40 := HTK.out.2.2
              unfold tk; split
              · exact h0
              · split
                · exact h1
                · exact h2
            have HAT := Lib.hid hat1; clear hat1
            have hk := HS.out.kinds _ (List.getElem_mem hlt)
            have haf := after_any t0 t1 t2 at_ s.sheep[acc.length] wr hk (by have : 1 ≤ t0 ∧ t0 ≤ 40 := HTK.out.1; omega) (by have : 1 ≤ t1 ∧ t1 ≤ 40 := HTK.out.2.1; omega) (by have : 1 ≤ t2 ∧ t2 ≤ 40 := HTK.out.2.2; omega) (by omega)
            have hN := hI'.out.size
            have hlen := HS.out.sheep
            obtain ⟨tkv, htkv⟩ : ∃ x, tk (t0, t1, t2) s.sheep[acc.length] = x := ⟨_, rfl⟩
            rw [htkv] at haf htk
            obtain ⟨i0, hi0, hz0, hz1, hz2⟩ := info_parts info143
            go_wp2_with (first
              | (go_at_call 95; refine hbeg.mono ?_; rintro e w' ⟨rfl, rfl⟩)
              | (go_at_call 94; refine haf.mono ?_; rintro e w4 ⟨rfl, hb4⟩; have n04 := cell_old hb4 n0; have n14 := cell_old hb4 n1; have f04 := (bcell hb4).2 _ 0 hN; have f14 := (bcell hb4).2 _ 1 hN; rw [hI'.out.f0] at f04; rw [hI'.out.f1] at f14
                 have hown4 := ownsRow_below hI'.out.own hb4
                 have HB4 := Lib.hid hb4; clear hb4)
              | (at_builtin; refine wpList_append_own_at _ rfl _ _ 124 rfl w3.heap.size 143 i0 (.agg #[.int .i64 0, .int .i64 0]) 2 16 Try.underlying124 hi0 hz0 hz1 hz2 rfl (by decide) u8 _ _ rfl ((ownsRow_setCell (ownsRow_setCell hown4 hI'.out.apart _) hI'.out.apart _).alloc _) ⟨w4.heap.size, 0, none⟩ 1 1 [.int .i64 (at_ + tkv), .int .i64 i] rfl rfl ?c1 ?c2 ?c3 ?c4 ?c5 ?_; rotate_left 5; intro v5 w5 hown5 hgrow5 hnil5 hat5))
            case c1 => simpa using cell_two_new ((w4.setCell ⟨w3.heap.size + 1, 0, none⟩ (.int .i64 (at_ + tkv))).setCell ⟨w3.heap.size + 1, 1, none⟩ (.int .i64 i)) (.int .i64 (at_ + tkv)) (.int .i64 i) 143
            case c2 => intro u hu; simp at hu; rcases hu with rfl | rfl <;> rfl
            case c3 => unfold maxLen; omega
            case c4 => omega
            case c5 => have h1 := HB4.out.size; simp; omega
            go_roundw
            case rel =>
              obtain ⟨g0, g1, g2, g3, g4, g5⟩ := two_set (x := .int .i64 (at_ + tkv)) (y := .int .i64 i) n04 n14 f04 f14 (.cells #[.int .i64 (at_ + tkv), .int .i64 i] 143)
              have hsz5 := hgrow5.size
              simp at hsz5
              refine ⟨acc ++ [(at_ + tkv, (i : Int))], i, at_ + tkv, by simp, ⟨by simp; omega, Lib.hid ?_, by omega, by omega, by simpa [enc2] using hown5, apart_of hat5 hI'.out.apart (by simp; omega), grown_cell hgrow5 g0 hI'.out.apart, grown_cell hgrow5 g1 hI'.out.apart, (grown_frozen hgrow5 (by simp; omega) hI'.out.apart).trans g2, (grown_frozen hgrow5 (by simp; omega) hI'.out.apart).trans g3, ?_, by omega⟩⟩
              · have := hI'.out.eq.out
                rw [dayFrom_some hlt HBG.out, htkv] at this
                simpa using this
              · have hX := (hI'.out.below.trans (HB4.out.mono (by have := hI'.out.size; omega))).trans (g4 w3.heap.size (by omega))
                exact grown_below hX ((ownsRow_setCell (ownsRow_setCell hown4 hI'.out.apart _) hI'.out.apart _).alloc _) hgrow5 (by simp; omega)
            case measure => simp [intOf]; omega
        · have cl : ¬ ((acc.length : Nat) : Int) < ((s.sheep.length : Nat) : Int) := by omega
          have hI' := Lib.hid hI; clear hI
          go_wp2
          go_meet
          refine ⟨acc, hI'.out.len, ?_, hI'.out.own, hI'.out.below⟩
          have := hI'.out.eq.out
          rw [List.drop_eq_nil_of_le (by omega)] at this
          rw [show s.sheep.length - acc.length = 0 by omega]
          simpa [dayFrom] using this
    case rest =>
      obtain ⟨acc, hE⟩ := hcut
      have hlen := HS.out.sheep
      go_wp2_with fail
      go_loopw [8] (fun v8 wr => ∃ acc : List (Int × Int), DayEnd w3 s (t0, t1, t2) acc v8 wr) (fun v8 _ => s.sheep.length - lenV v8)
      case atStart => exact ⟨acc, hE⟩
      case round =>
        obtain ⟨acc, hI⟩ := hrel
        obtain ⟨ao, cap, rfl⟩ := owns_slice hI.own
        have hI' := Lib.hid hI; clear hI
        have h7r := cell_old hI'.out.below h72
        obtain ⟨i0, hi0, hz0, hz1, hz2⟩ := info_parts info143
        by_cases hlt : acc.length < s.sheep.length
        · have cl : ((acc.length : Nat) : Int) < ((s.sheep.length : Nat) : Int) := by omega
          go_wp2_with (at_builtin; refine wpList_append_own_at _ rfl _ _ 124 rfl w3.heap.size 143 i0 (.agg #[.int .i64 0, .int .i64 0]) 2 16 Try.underlying124 hi0 hz0 hz1 hz2 rfl (by decide) (.slice ao acc.length cap) _ _ rfl (hI'.out.own.alloc _) ⟨wr.heap.size, 0, none⟩ 1 1 [.int .i64 1000, .int .i64 (-1)] rfl rfl ?c1 ?c2 ?c3 ?c4 ?c5 ?_; rotate_left 5; intro v5 w5 hown5 hgrow5 hnil5 hat5)
          case c1 => exact cell_two_new _ _ _ _
          case c2 => intro u hu; simp at hu; rcases hu with rfl | rfl <;> rfl
          case c3 => unfold maxLen; omega
          case c4 => omega
          case c5 => have := hI'.out.below.size; simp; omega
          go_roundw
          case rel =>
            have hX := hI'.out.below.alloc hI'.out.below.size (.cells #[.int .i64 1000, .int .i64 (-1)] 143)
            refine ⟨acc ++ [(1000, -1)], ⟨by simp; omega, ?_, by simpa [enc2] using hown5, grown_below hX (hI'.out.own.alloc _) hgrow5 (by have := hI'.out.below.size; simp; omega)⟩⟩
            rw [← hI'.out.eq, show s.sheep.length - acc.length = (s.sheep.length - (acc ++ [((1000 : Int), (-1 : Int))]).length) + 1 by simp; omega, List.replicate_succ]
            simp
          case measure =>
            obtain ⟨ao', cap', rfl⟩ := owns_slice hown5
            simp [lenV]; omega
        · have cl : ¬ ((acc.length : Nat) : Int) < ((s.sheep.length : Nat) : Int) := by omega
          go_upto_region 18 with (fail)
          have hbr : Below w.heap.size w wr := HB3.out.trans (hI'.out.below.mono (HB3.out.size))
          have h9r := cell_old hI'.out.below h92
          have q0r := cell_old hI'.out.below q0
          have q1r := cell_old hI'.out.below q1
          have q2r := cell_old hI'.out.below q2
          have hbt := HB.out.later hbr
          have hoff : Off X (.slice ao acc.length cap) := by
            rintro a n c e hn hk
            cases e
            have h1 := HB.out.xlt _ hk
            have h2 := (hI'.out.own.lt a.block rfl).1
            have h3 := HB3.out.size
            omega
          have HOFF := Lib.hid hoff
          clear hoff
          have hday : acc = day s (t0, t1, t2) := by
            have := hI'.out.eq
            rw [show s.sheep.length - acc.length = 0 by omega] at this
            simpa using this
          have hprs : Prs wr wr.heap.size (.slice ao acc.length cap) (day s (t0, t1, t2)) := by
            rw [← hday]; exact RowsAt.of_owns (enc := enc2) (fun _ => rfl) (by decide) hI'.out.own
          clear hday
          have hmr : m < wr.heap.size := by have := HMLT.out; have := hbr.size; omega
          have e0 : ∀ x, Below wr.heap.size wr x → x.cell? ⟨b, 9, none⟩ = some (.map (some m)) := fun x h => cell_old h h9r
          have e1 : ∀ x, Below wr.heap.size wr x → x.cell? ⟨w.heap.size + 1, 0, none⟩ = some (.int .i64 t0) := fun x h => cell_old h q0r
          have e2 : ∀ x, Below wr.heap.size wr x → x.cell? ⟨w.heap.size + 1, 1, none⟩ = some (.int .i64 t1) := fun x h => cell_old h q1r
          have e3 : ∀ x, Below wr.heap.size wr x → x.cell? ⟨w.heap.size + 1, 2, none⟩ = some (.int .i64 t2) := fun x h => cell_old h q2r
          refine wp_region_rel (sz := 85) 6 (fun x y => Below wr.heap.size x y) [cV ?rv0, cV ?rv1, cV ?rv2, cV ?rv3, cV ?rv4, cV ?rv5] (fun _ _ => False) (by kernel_rfl) rfl (by kernel_rfl) ((Below.refl _ _).drew) (fun h1 h2 => h1.trans h2) ?rgS ?rgO ?rgP ?rgL ?rgE
          case rgO =>
            refine ⟨?_, ?_, ?_, ?_, ?_, ?_, trivial⟩
            all_goals
              intro a x hR hA
              rw [if_pos (by rfl)]
            · have s2 : a.tmps[0]?.getD undef = .pointer (some ⟨b, 0, none⟩) := hA.base 0 (by decide)
              clear hA
              refine rg_val_wide _ ?_ (by simp) rfl (Below.refl _ _); go_simp; rfl
            · have s2 : a.tmps[78]?.getD undef = _ := hA.pre 0 _ rfl (by kernel_rfl)
              clear hA
              refine rg_val_wide _ ?_ (by simp) rfl (Below.refl _ _); go_simp; rfl
            · have s2 : a.tmps[79]?.getD undef = _ := hA.pre 1 _ rfl (by kernel_rfl)
              clear hA
              refine rg_val_wide _ ?_ (by simp) rfl (Below.refl _ _); go_simp; rfl
            · have s2 : a.tmps[80]?.getD undef = _ := hA.pre 2 _ rfl (by kernel_rfl)
              clear hA
              refine rg_val_wide _ ?_ (by simp) rfl (Below.refl _ _); go_simp; rfl
            · have s2 : a.tmps[5]?.getD undef = .pointer (some ⟨w.heap.size + 1, 0, none⟩) := hA.base 5 (by decide)
              clear hA
              refine rg_val_wide _ ?_ (by simp) rfl (Below.refl _ _); go_simp; rfl
            · have s2 : a.tmps[8]?.getD undef = .slice ao acc.length cap := hA.base 8 (by decide)
              clear hA
              refine rg_val_wide _ ?_ (by simp) rfl (Below.refl _ _); go_simp; rfl
          case rgS =>
            intro V hV u x y hR hu
            simp only [List.mem_cons, List.not_mem_nil, or_false] at hV
            rcases hV with rfl | rfl | rfl | rfl | rfl | rfl <;> exact hu
          case rgP => intro ch a x h; exact h.elim
          case rgL =>
            rintro ⟨a, x, h⟩
            obtain ⟨_, h1, _⟩ := (show DayPost b m s X (t0, t1, t2) w .outgrown x from h)
            cases h1
          case rgE =>
            intro v0 v1 v2 v3 v4 v5 x hk
            obtain ⟨rfl, rfl, rfl, rfl, rfl, rfl, hx⟩ := hk
            simp only [List.drop_succ_cons, List.drop_zero, Act.put, List.setIfInBounds_toArray, List.set_cons_succ, List.set_cons_zero]
            have hbx := hbt.later hx
            obtain ⟨o, hup, hmi⟩ := hbx.kept.update key140 Try.underlying118 HL.out (v := .slice ao acc.length cap) ⟨(t0, t1, t2), rfl, hprs.later hx, HOFF.out⟩
            have hprs' := hprs.later hx
            have HX := Lib.hid hx
            have HMI := Lib.hid hmi
            have HPR := Lib.hid hprs'
            have HBX := Lib.hid hbx
            have HBR := Lib.hid hbr
            clear hx hmi hprs' hbx hbr e0 e1 e2 e3 hprs hbt
            go_wp2
            go_ret
            have hwx : Below w.heap.size w x := HBR.out.trans (HX.out.mono HBR.out.size)
            have hfx : Frm (fun k => k = m) x (x.putObj m o) := Frm.putObj (S := fun k => k = m) (Frm.refl _ _) (Or.inl rfl) o
            obtain ⟨es, ck, hbm, _⟩ := HBX.out.kept
            exact ⟨_, rfl, HPR.out.frmM hbm hfx, (Frm.of_below hwx).trans hfx, HBX.out.put hfx (HMI.out.imp rfl fun k v ⟨t, h1, h2, h3⟩ => ⟨t, h1, h2.frmM hbm hfx, h3⟩)⟩
end Go.Proofs.Ytojbkpnkcpcioaa
/- The walk of right. -/
namespace Go.Proofs.Ytojbkpnkcpcioaa
open Go.RowKit Go.Sh Go.Sh.Stand

theorem OnBoard.trans {b m : Nat} {s : Stand} {X : Nat → Prop} {w w1 w2 : World} (h : OnBoard b m s X w w1) (k : OnBoard b m s X w1 w2) : OnBoard b m s X w w2 := ⟨h.frm.trans k.frm, k.board⟩
theorem OnBoard.of_below {b m : Nat} {s : Stand} {X : Nat → Prop} {w w1 : World} (h : Board w b m s X) (k : Below w.heap.size w w1) : OnBoard b m s X w w1 := ⟨.of_below k, h.later k⟩
theorem OnBoard.refl {b m : Nat} {s : Stand} {X : Nat → Prop} {w : World} (h : Board w b m s X) : OnBoard b m s X w w := .of_below h (Below.refl _ _)
theorem OnBoard.cell {b m : Nat} {s : Stand} {X : Nat → Prop} {w w1 : World} (h : OnBoard b m s X w w1) {a : Addr} {v : Value} (hc : w.cell? a = some v) (hm : a.block ≠ m) : w1.cell? a = some v := h.frm.cell hc hm
theorem OnBoard.size {b m : Nat} {s : Stand} {X : Nat → Prop} {w w1 : World} (h : OnBoard b m s X w w1) : w.heap.size ≤ w1.heap.size := h.frm.size

theorem bits_bit : ∀ set : Nat, set < 16 → ∀ k, k < 4 → bits .and .u64 ((set : Int) / 2 ^ k) 1 = if set.testBit k then 1 else 0 := by decide

set_option maxRecDepth 100000 in
set_option maxHeartbeats 1000000 in
theorem right_any (b m : Nat) (s : Stand) (X : Nat → Prop) (t : Shearer) (set : Nat) (w : World) (hs : Fit s) (ht : Tok t) (hset : set < 16) (hB : Board w b m s X) :
    Calls Try.prog 86 #[.pointer (some ⟨b, 0, none⟩), keyV t, .int .u64 set] w fun e w' => e = .returned (.bool (rightB s t set)) ∧ OnBoard b m s X w w' := by
  unfold keyV
  obtain ⟨t0, t1, t2⟩ := t
  have hB1 := hB.later ((Below.refl _ w).alloc (Nat.le_refl _) (.cells #[.int .i64 t0, .int .i64 t1, .int .i64 t2] 88))
  have hml := hB.mlt
  obtain ⟨lv, h8, hlv, _⟩ := hB1.looks
  obtain ⟨lao, lcap, rfl, hlen, hrow⟩ := hlv
  have HR := Lib.hid hrow; clear hrow
  have HB := Lib.hid hB; clear hB
  have HB1 := Lib.hid hB1; clear hB1
  have HS := Lib.hid hs; clear hs
  have HTK := Lib.hid ht; clear ht
  obtain ⟨target, htg⟩ : ∃ x, rightB s (t0, t1, t2) set = x := ⟨_, rfl⟩
  rw [htg]
  have HT := Lib.hid htg; clear htg
  go_enter Try.func86, Try.ntmps86
  go_wp2
  go_loopw [16] (fun i wr => ∃ k : Nat, k ≤ s.looks.length ∧ i = .int .i64 k ∧ Hid ((List.range k).all (lookOk s (t0, t1, t2) set) = true) ∧ OnBoard b m s X (w.alloc (.cells #[.int .i64 t0, .int .i64 t1, .int .i64 t2] 88)) wr) (fun i _ => s.looks.length - (intOf i).toNat)
  case atStart => exact ⟨0, by omega, rfl, Lib.hid rfl, .refl HB1.out⟩
  case round =>
    obtain ⟨k, hk, rfl, HA, hon⟩ := hrel
    have p0 : wr.cell? ⟨w.heap.size, 0, none⟩ = some (.int .i64 t0) := hon.cell (by simp [go_sem]) (by simp; omega)
    have p1 : wr.cell? ⟨w.heap.size, 1, none⟩ = some (.int .i64 t1) := hon.cell (by simp [go_sem]) (by simp; omega)
    have p2 : wr.cell? ⟨w.heap.size, 2, none⟩ = some (.int .i64 t2) := hon.cell (by simp [go_sem]) (by simp; omega)
    have HON := Lib.hid hon; clear hon
    by_cases hlt : k < s.looks.length
    · have cl : ((k : Nat) : Int) < ((s.looks.length : Nat) : Int) := by omega
      obtain ⟨b0, off, rfl, hbl0, hx⟩ := HR.out (by intro e; rw [e] at hlt; simp at hlt)
      have hld := HS.out.lookb s.looks[k] (List.getElem_mem hlt)
      obtain ⟨lk, hlk⟩ : ∃ x, s.looks[k] = x := ⟨_, rfl⟩
      rw [hlk] at hld
      obtain ⟨mi, lo, hi⟩ := lk
      have hox : lookOk s (t0, t1, t2) set k = (!(set.testBit k) || inB (countAt (day s (t0, t1, t2)) mi) lo hi) := by
        unfold lookOk; rw [List.getD, List.getElem?_eq_getElem hlt, hlk]; rfl
      have c0 : wr.cell? ⟨b0, off + k * 3, none⟩ = some (.int .i64 mi) := HON.out.cell (by simpa using hx k (mi, lo, hi) (by simp [hlt, hlk]) 0 _ rfl) (by
        obtain ⟨es, ck, hb, _⟩ := HB1.out.kept
        exact ne_of_cell_map (hx k (mi, lo, hi) (by simp [hlt, hlk]) 0 _ rfl) hb)
      have c1 : wr.cell? ⟨b0, off + k * 3 + 1, none⟩ = some (.int .i64 lo) := HON.out.cell (by simpa using hx k (mi, lo, hi) (by simp [hlt, hlk]) 1 _ rfl) (by
        obtain ⟨es, ck, hb, _⟩ := HB1.out.kept
        exact ne_of_cell_map (hx k (mi, lo, hi) (by simp [hlt, hlk]) 1 _ rfl) hb)
      have c2 : wr.cell? ⟨b0, off + k * 3 + 2, none⟩ = some (.int .i64 hi) := HON.out.cell (by simpa using hx k (mi, lo, hi) (by simp [hlt, hlk]) 2 _ rfl) (by
        obtain ⟨es, ck, hb, _⟩ := HB1.out.kept
        exact ne_of_cell_map (hx k (mi, lo, hi) (by simp [hlt, hlk]) 2 _ rfl) hb)
      clear hx
      have HOX := Lib.hid hox; clear hox hlk
      go_upto_region 4 with (fail)
      obtain ⟨x0, hx0⟩ : ∃ x, wr.alloc (Obj.cells #[Value.int IntKind.i64 mi, Value.int IntKind.i64 lo, Value.int IntKind.i64 hi] 58) = x := ⟨_, rfl⟩
      rw [hx0]
      have hon0 : OnBoard b m s X (w.alloc (.cells #[.int .i64 t0, .int .i64 t1, .int .i64 t2] 88)) x0 := by
        rw [← hx0]; exact HON.out.trans (.of_below HON.out.board ((Below.refl _ wr).alloc (Nat.le_refl _) _))
      have hsr : m < wr.heap.size := HON.out.board.mlt
      have l0 : x0.cell? ⟨wr.heap.size, 0, none⟩ = some (.int .i64 mi) := by rw [← hx0]; simp [go_sem]
      have l1 : x0.cell? ⟨wr.heap.size, 1, none⟩ = some (.int .i64 lo) := by rw [← hx0]; simp [go_sem]
      have l2 : x0.cell? ⟨wr.heap.size, 2, none⟩ = some (.int .i64 hi) := by rw [← hx0]; simp [go_sem]
      have r0 : x0.cell? ⟨w.heap.size, 0, none⟩ = some (.int .i64 t0) := hon0.cell (by simp [go_sem]) (by simp; omega)
      have r1 : x0.cell? ⟨w.heap.size, 1, none⟩ = some (.int .i64 t1) := hon0.cell (by simp [go_sem]) (by simp; omega)
      have r2 : x0.cell? ⟨w.heap.size, 2, none⟩ = some (.int .i64 t2) := hon0.cell (by simp [go_sem]) (by simp; omega)
      clear hx0 p0 p1 p2 c0 c1 c2
      have n1 : wr.heap.size ≠ m := by omega
      have n2 : w.heap.size ≠ m := by omega
      have e0 : ∀ x, OnBoard b m s X x0 x → x.cell? ⟨wr.heap.size, 0, none⟩ = some (.int .i64 mi) := fun x h => h.cell l0 n1
      have f0 : ∀ x, OnBoard b m s X x0 x → x.cell? ⟨w.heap.size, 0, none⟩ = some (.int .i64 t0) := fun x h => h.cell r0 n2
      have f1 : ∀ x, OnBoard b m s X x0 x → x.cell? ⟨w.heap.size, 1, none⟩ = some (.int .i64 t1) := fun x h => h.cell r1 n2
      have f2 : ∀ x, OnBoard b m s X x0 x → x.cell? ⟨w.heap.size, 2, none⟩ = some (.int .i64 t2) := fun x h => h.cell r2 n2
      have HON0 := Lib.hid hon0; clear hon0
      refine wp_region_rel (sz := 46) 8 (fun x y => Board x b m s X → OnBoard b m s X x y) [cV ?rv0, cV ?rv1, cV ?rv2, cV ?rv3, cV ?rv4, cV ?rv5, fun v x => Board x b m s X ∧ Prs x x.heap.size v (day s (t0, t1, t2)), cV (.int .i64 (countAt (day s (t0, t1, t2)) mi))] (fun _ _ => False) (by kernel_rfl) rfl (by kernel_rfl) (fun h => .of_below h (Below.refl _ _).drew) (fun h1 h2 h => (h1 h).trans (h2 (h1 h).board)) ?rgS ?rgO ?rgP ?rgL ?rgE
      case rgO =>
        refine ⟨?_, ?_, ?_, ?_, ?_, ?_, ?_, ?_, trivial⟩
        all_goals
          intro a x hR hA
          rw [if_pos (by rfl)]
          have hR := hR HON0.out.board
        · have s2 : a.tmps[8]?.getD undef = .pointer (some ⟨wr.heap.size, 0, none⟩) := hA.base 8 (by decide)
          clear hA
          refine rg_val_wide _ ?_ (by simp) rfl (.refl); go_simp; rfl
        · have s2 : a.tmps[21]?.getD undef = _ := hA.pre 0 _ rfl (by kernel_rfl)
          clear hA
          refine rg_val_wide _ ?_ (by simp) rfl (.refl); go_simp; rfl
        · have s2 : a.tmps[22]?.getD undef = _ := hA.pre 1 _ rfl (by kernel_rfl)
          clear hA
          refine rg_val_wide _ ?_ (by simp) rfl (.refl); go_simp; rfl
        · have s2 : a.tmps[0]?.getD undef = .pointer (some ⟨b, 0, none⟩) := hA.base 0 (by decide)
          clear hA
          refine rg_val_wide _ ?_ (by simp) rfl (.refl); go_simp; rfl
        · have s2 : a.tmps[0]?.getD undef = .pointer (some ⟨b, 0, none⟩) := hA.base 0 (by decide)
          clear hA
          refine rg_val_wide _ ?_ (by simp) rfl (.refl); go_simp; rfl
        · have s2 : a.tmps[4]?.getD undef = .pointer (some ⟨w.heap.size, 0, none⟩) := hA.base 4 (by decide)
          clear hA
          refine rg_val_wide _ ?_ (by simp) rfl (.refl); go_simp; rfl
        · have s2 : a.tmps[25]?.getD undef = _ := hA.pre 4 _ rfl (by kernel_rfl)
          have s3 : a.tmps[26]?.getD undef = _ := hA.pre 5 _ rfl (by kernel_rfl)
          clear hA
          refine rg_call_wide rfl (by go_simp; exact ⟨rfl, rfl⟩) ?_
          refine (day_any b m s X (t0, t1, t2) x HS.out HTK.out hR.board).mono ?_
          rintro e w2 ⟨v, rfl, hv, hb⟩
          exact ⟨⟨hb.board, hv⟩, fun _ => hb⟩
        · have s2 : a.tmps[23]?.getD undef = _ := hA.pre 2 _ rfl (by kernel_rfl)
          have s3 : a.tmps[24]?.getD undef = _ := hA.pre 3 _ rfl (by kernel_rfl)
          obtain ⟨_, hp⟩ := hA.pre 6 _ rfl (by kernel_rfl)
          clear hA
          refine rg_call_wide rfl (by go_simp; exact ⟨rfl, rfl⟩) ?_
          refine (counted_any mi _ _ _ x hp (by rw [show (day s (t0, t1, t2)).length = s.sheep.length from dayFrom_length ..]; have := HS.out.sheep; omega)).mono ?_
          rintro e w2 ⟨rfl, hb⟩
          exact ⟨rfl, fun h => .of_below h hb⟩
      case rgS =>
        intro V hV u x y hR hu
        simp only [List.mem_cons, List.not_mem_nil, or_false] at hV
        rcases hV with rfl | rfl | rfl | rfl | rfl | rfl | rfl | rfl
        all_goals first | exact hu | skip
        obtain ⟨h1, h2⟩ := hu
        obtain ⟨es, ck, hb, _⟩ := h1.kept
        exact ⟨(hR h1).board, h2.frmM hb (hR h1).frm⟩
      case rgP => intro ch a x h; exact h.elim
      case rgL =>
        rintro ⟨a, x, h⟩
        have h' : Ending.outgrown = Ending.returned (.bool target) ∧ OnBoard b m s X w x := h
        cases h'.1
      case rgE =>
        intro v0 v1 v2 v3 v4 v5 v6 v7 x hk
        obtain ⟨rfl, hv6, rfl, rfl, rfl, rfl, rfl, rfl, hx⟩ := hk
        simp only [List.drop_succ_cons, List.drop_zero, Act.put, List.setIfInBounds_toArray, List.set_cons_succ, List.set_cons_zero]
        have hon1 := hx HON0.out.board
        clear hx hv6 e0 f0 f1 f2
        have l0' := hon1.cell l0 n1
        have l1' := hon1.cell l1 n1
        have l2' := hon1.cell l2 n1
        have HON1 := Lib.hid hon1; clear hon1
        have hll := HS.out.looks
        have hbits := bits_bit set hset k (by omega)
        have HON2 : Hid (OnBoard b m s X (w.alloc (.cells #[.int .i64 t0, .int .i64 t1, .int .i64 t2] 88)) x) := HON0.out.trans HON1.out
        have hba : Below w.heap.size w (w.alloc (.cells #[.int .i64 t0, .int .i64 t1, .int .i64 t2] 88)) := (Below.refl _ w).alloc (Nat.le_refl _) _
        have HBA := Lib.hid hba; clear hba
        clear hld
        have hne : (countAt (day s (t0, t1, t2)) mi) = (countAt (day s (t0, t1, t2)) mi) := rfl
        obtain ⟨cn, hcn⟩ : ∃ x, countAt (day s (t0, t1, t2)) mi = x := ⟨_, rfl⟩
        rw [hcn] at HOX
        simp only [hcn]
        clear hcn hne
        cases hbt : set.testBit k
        · rw [hbt] at hbits HOX
          simp only [if_neg (show ¬ (false = true) by decide)] at hbits
          have HNX : Hid ((List.range (k + 1)).all (lookOk s (t0, t1, t2) set) = true) := Lib.hid (by rw [all_range_succ, HA.out, HOX.out]; rfl)
          go_wp2_with (go_at_call 78; refine (within_any _ _ _ _).mono ?_; rintro e w' ⟨rfl, rfl⟩)
          go_roundw
          case rel => exact ⟨k + 1, by omega, by go_num, HNX, HON2.out⟩
          case measure => simp [intOf]; omega
        · rw [hbt] at hbits HOX
          simp only [if_pos] at hbits
          cases hib : inB cn lo hi
          · rw [hib] at HOX
            have HNX : Hid (rightB s (t0, t1, t2) set = false) := Lib.hid (all_range_false _ hlt HOX.out)
            go_wp2_with (go_at_call 78; refine (within_any _ _ _ _).mono ?_; rintro e w' ⟨rfl, rfl⟩)
            go_ret
            exact ⟨retB (by rw [← HT.out, HNX.out]), (OnBoard.of_below HB.out HBA.out).trans HON2.out⟩
          · rw [hib] at HOX
            have HNX : Hid ((List.range (k + 1)).all (lookOk s (t0, t1, t2) set) = true) := Lib.hid (by rw [all_range_succ, HA.out, HOX.out]; rfl)
            go_wp2_with (go_at_call 78; refine (within_any _ _ _ _).mono ?_; rintro e w' ⟨rfl, rfl⟩)
            go_roundw
            case rel => exact ⟨k + 1, by omega, by go_num, HNX, HON2.out⟩
            case measure => simp [intOf]; omega
    · have cl : ¬ ((k : Nat) : Int) < ((s.looks.length : Nat) : Int) := by omega
      have hba : Below w.heap.size w (w.alloc (.cells #[.int .i64 t0, .int .i64 t1, .int .i64 t2] 88)) := (Below.refl _ w).alloc (Nat.le_refl _) _
      have HBA := Lib.hid hba; clear hba
      go_wp2
      go_ret
      have hk' : k = s.looks.length := by omega
      rw [hk'] at HA
      exact ⟨retB (by rw [← HT.out]; exact HA.out.symm), (OnBoard.of_below HB.out HBA.out).trans HON.out⟩
end Go.Proofs.Ytojbkpnkcpcioaa
/- The walk of the iterator over all shearers. -/
namespace Go.Proofs.Ytojbkpnkcpcioaa
open Go.RowKit Go.Sh Go.Sh.Stand Go.Shelf
attribute [local go_sem] Oper.semAt_some

def setT (t : Shearer) (k : Nat) (n : Int) : Shearer := setK t.1 t.2.1 t.2.2 k n
/-- All shearers from a kind on. -/
def subs (s : Stand) : Nat → Nat → Shearer → List Shearer
  | 0, _, t => [t]
  | f + 1, k, t => (List.range ((s.mins.getD k (0, 0)).2 + 1 - (s.mins.getD k (0, 0)).1).toNat).flatMap fun (i : Nat) => subs s f (k + 1) (setT t k ((s.mins.getD k (0, 0)).1 + (i : Nat)))

theorem flat_prefix {α : Type} (g : Nat → List α) {j n : Nat} (h : j ≤ n) : (List.range j).flatMap g <+: (List.range n).flatMap g := by
  obtain ⟨d, rfl⟩ : ∃ d, n = j + d := ⟨n - j, by omega⟩
  rw [List.range_add, List.flatMap_append]
  exact List.prefix_append _ _
theorem flat_succ {α : Type} (g : Nat → List α) (j : Nat) : (List.range (j + 1)).flatMap g = (List.range j).flatMap g ++ g j := by
  rw [List.range_succ, List.flatMap_append]; simp
structure Boxes (b m By Bb Bo l : Nat) (T : Nat → Prop) (A : World) : Prop where
  y : A.cell? ⟨By, 0, none⟩ = some (.func (.yield l) #[] #[])
  p : A.cell? ⟨Bb, 0, none⟩ = some (.pointer (some ⟨b, 0, none⟩))
  o : A.cell? ⟨Bo, 0, none⟩ = some (.func (.func 98) #[] #[.pointer (some ⟨By, 0, none⟩), .pointer (some ⟨Bb, 0, none⟩), .pointer (some ⟨Bo, 0, none⟩)])
  ty : ¬ T By ∧ By ≠ m
  tp : ¬ T Bb ∧ Bb ≠ m
  tb : ¬ T Bo ∧ Bo ≠ m

abbrev OnC (b m : Nat) (s : Stand) (By Bb Bo l : Nat) (xs : List Shearer) (J Jx : (Nat → Prop) → List Shearer → World → Prop) (f k : Nat) : Prop :=
  ∀ (T : Nat → Prop) (pre : List Shearer) (A : World) (t : Shearer), J T pre A → Board A b m s T → (∀ k, T k → k < A.heap.size) → Boxes b m By Bb Bo l T A → pre ++ subs s f k t <+: xs →
    Calls Try.prog 98 #[keyV t, .int .i64 k, .pointer (some ⟨By, 0, none⟩), .pointer (some ⟨Bb, 0, none⟩), .pointer (some ⟨Bo, 0, none⟩)] A fun e B =>
      ∃ T', Rnd (fun k => k = m) T T' A B ∧ Board B b m s T' ∧ ((e = .returned (.bool true) ∧ J T' (pre ++ subs s f k t) B) ∨ (e = .returned (.bool false) ∧ ∃ q, q <+: xs ∧ Jx T' q B))

set_option maxRecDepth 100000 in
set_option maxHeartbeats 1000000 in
theorem on_three (b m : Nat) (s : Stand) (By Bb Bo l : Nat) (xs : List Shearer) (J Jx : (Nat → Prop) → List Shearer → World → Prop)
    (hJ : ∀ T s' A B, J T s' A → Board A b m s T → Board B b m s T → (∀ k, T k → k < A.heap.size) → Below A.heap.size A B → J T s' B)
    (hY : ∀ T pre x A, J T pre A → Board A b m s T → (∀ k, T k → k < A.heap.size) → pre ++ [x] <+: xs → YieldAt Fence.wide 0 Try.prog l #[keyV x] A fun e B =>
      ∃ T', Rnd (fun k => k = m) T T' A B ∧ Board B b m s T' ∧ ((e = .returned (.bool true) ∧ J T' (pre ++ [x]) B) ∨ (e = .returned (.bool false) ∧ Jx T' (pre ++ [x]) B))) :
    OnC b m s By Bb Bo l xs J Jx 0 3 := by
  intro T pre A t hj hB hT hX hpre
  obtain ⟨A1, hA1⟩ : ∃ x, A.alloc (.cells #[.int .i64 t.1, .int .i64 t.2.1, .int .i64 t.2.2] 88) = x := ⟨_, rfl⟩
  have hb1 : Below A.heap.size A A1 := by rw [← hA1]; exact (Below.refl _ _).alloc (Nat.le_refl _) _
  have hj1 : J T pre A1 := hJ _ _ _ _ hj hB (hB.later hb1) hT hb1
  obtain ⟨fn, tmps, assign, body, hy, hR⟩ := hY T pre t A1 hj1 (hB.later hb1) (fun k hk => Nat.lt_of_lt_of_le (hT k hk) hb1.size) hpre
  have y1 := cell_old hb1 hX.y
  obtain ⟨t0, t1, t2⟩ := t
  have HB1 := Lib.hid hb1
  have HR := Lib.hid hR
  have HJ := Lib.hid hJ
  have HY := Lib.hid hY
  have HB := Lib.hid hB
  have HX := Lib.hid hX
  dsimp only [keyV] at hy
  dsimp only at hA1
  clear hb1 hR hJ hY hB hX hj hj1 hT
  subst hA1
  unfold keyV
  go_enter Try.func98, Try.ntmps98
  go_wp2
  go_step3
  go_upto_region 2 with (fail)
  refine (wpIn_wide (n := 0)).1 ?_
  gi_wp2
  refine ⟨rfl, HR.out.mono ?_⟩
  rintro e B ⟨T', hr, hb, ⟨rfl, hj⟩ | ⟨rfl, hj⟩⟩
  · have H1 := Lib.hid hr
    have H2 := Lib.hid hb
    have H3 := Lib.hid hj
    clear hr hb hj
    gi_wp2
    go_wp2
    rw [Exit.noGoto_ret]
    go_ret
    exact ⟨T', H1.out.pre ((Below.refl _ A).alloc (Nat.le_refl _) _), H2.out, .inl ⟨rfl, H3.out⟩⟩
  · have H1 := Lib.hid hr
    have H2 := Lib.hid hb
    have H3 := Lib.hid hj
    clear hr hb hj
    gi_wp2
    go_wp2
    rw [Exit.noGoto_ret]
    go_ret
    exact ⟨T', H1.out.pre ((Below.refl _ A).alloc (Nat.le_refl _) _), H2.out, .inr ⟨rfl, _, hpre, H3.out⟩⟩

structure OnAt (b m : Nat) (s : Stand) (By Bb Bo l : Nat) (have_ : Nat → List Shearer) (J : (Nat → Prop) → List Shearer → World → Prop) (T : Nat → Prop) (A1 : World) (j : Nat) (T' : Nat → Prop) (wr : World) : Prop where
  rnd : Rnd (fun k => k = m) T T' A1 wr
  board : Board wr b m s T'
  boxes : Boxes b m By Bb Bo l T' wr
  j : J T' (have_ j) wr

set_option maxRecDepth 100000 in
set_option maxHeartbeats 1000000 in
theorem on_step (b m : Nat) (s : Stand) (By Bb Bo l : Nat) (xs : List Shearer) (J Jx : (Nat → Prop) → List Shearer → World → Prop) (f k : Nat) (hk : k ≤ 2) (hs : Fit s)
    (hJ : ∀ T s' A B, J T s' A → Board A b m s T → Board B b m s T → (∀ k, T k → k < A.heap.size) → Below A.heap.size A B → J T s' B)
    (ih : OnC b m s By Bb Bo l xs J Jx f (k + 1)) : OnC b m s By Bb Bo l xs J Jx (f + 1) k := by
  intro T pre A t hj hB hT hX hpre
  obtain ⟨lo, hi, hlh⟩ : ∃ lo hi, s.mins.getD k (0, 0) = (lo, hi) := ⟨_, _, rfl⟩
  have hmi := hB.mins k (by omega)
  rw [hlh] at hmi
  have hbd : 1 ≤ lo ∧ lo ≤ hi ∧ hi ≤ 40 := by
    have h3 := hs.mins
    have := hs.minb (lo, hi) (by rw [← hlh, List.getD, List.getElem?_eq_getElem (by omega)]; exact List.getElem_mem _)
    exact ⟨this.1, this.2.1, this.2.2.1⟩
  obtain ⟨t0, t1, t2⟩ := t
  have HT := Lib.hid hT
  have HJ := Lib.hid hJ
  have HB := Lib.hid hB
  have HX := Lib.hid hX
  have HIH := Lib.hid ih
  have HJ0 := Lib.hid hj
  have HPRE := Lib.hid hpre
  have HLH := Lib.hid hlh
  clear hT hJ hB hX hj ih hpre hlh hs
  unfold keyV
  have k3 : ((k : Nat) : Int) < 3 := by omega
  have k30 : (((k : Nat) : Int) == 3) = false := by simp; omega
  have k31 : ¬ ((k : Nat) : Int) = 3 := by omega
  go_enter Try.func98, Try.ntmps98
  go_wp2
  go_step3
  go_upto_region 3 with (fail)
  obtain ⟨A1, hA1⟩ : ∃ x, A.alloc (.cells #[.int .i64 t0, .int .i64 t1, .int .i64 t2] 88) = x := ⟨_, rfl⟩
  have hb1 : Below A.heap.size A A1 := by rw [← hA1]; exact (Below.refl _ _).alloc (Nat.le_refl _) _
  have s0 : A1.cell? ⟨A.heap.size, 0, none⟩ = some (.int .i64 t0) := by rw [← hA1]; simp [go_sem]
  have s1 : A1.cell? ⟨A.heap.size, 1, none⟩ = some (.int .i64 t1) := by rw [← hA1]; simp [go_sem]
  have s2 : A1.cell? ⟨A.heap.size, 2, none⟩ = some (.int .i64 t2) := by rw [← hA1]; simp [go_sem]
  have hsz1 : A.heap.size < A1.heap.size := by rw [← hA1]; simp
  have y1 := cell_old hb1 HX.out.y
  have p1 := cell_old hb1 HX.out.p
  have o1 := cell_old hb1 HX.out.o
  have m1 := cell_old hb1 hmi.1
  have m2 := cell_old hb1 hmi.2
  rw [hA1]
  have HB1 := Lib.hid hb1
  clear hA1 hb1 hmi
  go_wp2
  go_step3
  go_wp2
  go_loopw [9] (fun n wr => ∃ (j : Nat) (T' : Nat → Prop), n = .int .i64 (lo + j) ∧ j ≤ (hi + 1 - lo).toNat ∧ OnAt b m s By Bb Bo l (fun j => pre ++ (List.range j).flatMap (fun (i : Nat) => subs s f (k + 1) (setT (t0, t1, t2) k (lo + (i : Nat))))) J T A1 j T' wr) (fun n _ => (hi + 1 - intOf n).toNat)
  case atStart =>
    exact ⟨0, T, by simp, by omega, .refl fun k hk => Nat.lt_of_lt_of_le (HT.out k hk) HB1.out.size, HB.out.later HB1.out, ⟨y1, p1, o1, HX.out.ty, HX.out.tp, HX.out.tb⟩, by simpa using HJ.out _ _ _ _ HJ0.out HB.out (HB.out.later HB1.out) HT.out HB1.out⟩
  case round =>
    obtain ⟨j, T', rfl, hj, hI⟩ := hrel
    have py := hI.boxes.y
    have pb := hI.boxes.p
    have po := hI.boxes.o
    have hmw := hI.board.mins k (by omega)
    rw [HLH.out] at hmw
    have q1 := hmw.1
    have q2 := hmw.2
    clear hmw
    have HI := Lib.hid hI; clear hI
    by_cases hlt : (lo + (j : Int)) ≤ hi
    · go_upto_region 7 with (fail)
      have e0 : ∀ x, Below wr.heap.size wr x → x.cell? ⟨Bo, 0, none⟩ = _ := fun x h => cell_old h po
      refine wp_region_rel (sz := 45) 7 (fun x y => Below wr.heap.size x y) [cV ?rv0, cV ?rv1, cV ?rv2, cV ?rv3, cV (.agg #[.int .i64 (setT (t0, t1, t2) k (lo + j)).1, .int .i64 (setT (t0, t1, t2) k (lo + j)).2.1, .int .i64 (setT (t0, t1, t2) k (lo + j)).2.2]), cV ?rv5, cV ?rv6] (fun _ _ => False) (by kernel_rfl) rfl (by kernel_rfl) ((Below.refl _ _).drew) (fun h1 h2 => h1.trans h2) ?rgS ?rgO ?rgP ?rgL ?rgE
      case rgO =>
        refine ⟨?_, ?_, ?_, ?_, ?_, ?_, ?_, trivial⟩
        all_goals
          intro a x hR hA
          rw [if_pos (by rfl)]
        · have s2 : a.tmps[4]?.getD undef = .pointer (some ⟨Bo, 0, none⟩) := hA.base 4 (by decide)
          clear hA
          refine rg_val_wide _ ?_ (by simp) rfl (Below.refl _ _); go_simp; rfl
        · have s2 : a.tmps[8]?.getD undef = .func (.func 99) #[.agg #[.int .i64 t0, .int .i64 t1, .int .i64 t2]] #[] := hA.base 8 (by decide)
          clear hA
          refine rg_val_wide _ ?_ (by simp) rfl (Below.refl _ _); go_simp; rfl
        · have s2 : a.tmps[1]?.getD undef = .int .i64 k := hA.base 1 (by decide)
          clear hA
          refine rg_val_wide _ ?_ (by simp) rfl (Below.refl _ _); go_simp; rfl
        · have s2 : a.tmps[9]?.getD undef = .int .i64 (lo + j) := hA.base 9 (by decide)
          clear hA
          refine rg_val_wide _ ?_ (by simp) rfl (Below.refl _ _); go_simp; rfl
        · have s2 : a.tmps[38]?.getD undef = _ := hA.pre 1 _ rfl (by kernel_rfl)
          have s3 : a.tmps[39]?.getD undef = _ := hA.pre 2 _ rfl (by kernel_rfl)
          have s4 : a.tmps[40]?.getD undef = _ := hA.pre 3 _ rfl (by kernel_rfl)
          clear hA
          refine rg_call_wide rfl (by go_simp; exact ⟨rfl, rfl⟩) ?_
          refine (with_any t0 t1 t2 k (lo + j) x (by omega)).mono ?_
          rintro e w2 ⟨rfl, hb⟩
          exact ⟨rfl, hb.mono hR.size⟩
        · have s2 : a.tmps[1]?.getD undef = .int .i64 k := hA.base 1 (by decide)
          clear hA
          refine rg_val_wide _ ?_ (by simp) rfl (Below.refl _ _); go_simp; rfl
        · have s2 : a.tmps[42]?.getD undef = _ := hA.pre 5 _ rfl (by kernel_rfl)
          clear hA
          refine rg_val_wide _ ?_ (by simp) rfl (Below.refl _ _); go_simp; rfl
      case rgS =>
        intro V hV u x y hR hu
        simp only [List.mem_cons, List.not_mem_nil, or_false] at hV
        rcases hV with rfl | rfl | rfl | rfl | rfl | rfl | rfl <;> exact hu
      case rgP => intro ch a x h; exact h.elim
      case rgL =>
        rintro ⟨a, x, h⟩
        obtain ⟨_, _, _, ⟨h1, _⟩ | ⟨h1, _⟩⟩ : ∃ T', Rnd (fun k => k = m) T T' A x ∧ Board x b m s T' ∧ ((Ending.outgrown = .returned (.bool true) ∧ J T' (pre ++ subs s (f + 1) k (t0, t1, t2)) x) ∨ (Ending.outgrown = .returned (.bool false) ∧ ∃ q, q <+: xs ∧ Jx T' q x)) := h
        · cases h1
        · cases h1
      case rgE =>
        intro v0 v1 v2 v3 v4 v5 v6 x hk
        obtain ⟨rfl, rfl, rfl, rfl, rfl, rfl, rfl, hx⟩ := hk
        simp only [List.drop_succ_cons, List.drop_zero, Act.put, List.setIfInBounds_toArray, List.set_cons_succ, List.set_cons_zero]
        have hI := HI.out
        have hbx := hI.board.later hx
        have hTw : ∀ i, T' i → i < wr.heap.size := hI.rnd.lt
        have hjx := HJ.out _ _ _ _ hI.j hI.board hbx hTw hx
        have hsub : subs s (f + 1) k (t0, t1, t2) = (List.range (hi + 1 - lo).toNat).flatMap (fun (i : Nat) => subs s f (k + 1) (setT (t0, t1, t2) k (lo + (i : Nat)))) := by
          rw [subs, HLH.out]
        have hjl : j < (hi + 1 - lo).toNat := by omega
        have hpx : (pre ++ (List.range j).flatMap (fun (i : Nat) => subs s f (k + 1) (setT (t0, t1, t2) k (lo + (i : Nat))))) ++ subs s f (k + 1) (setT (t0, t1, t2) k (lo + j)) <+: xs := by
          refine List.IsPrefix.trans ?_ HPRE.out
          rw [hsub, List.append_assoc]
          refine (List.prefix_append_right_inj pre).2 ?_
          have h1 : (List.range j).flatMap (fun (i : Nat) => subs s f (k + 1) (setT (t0, t1, t2) k (lo + (i : Nat)))) ++ subs s f (k + 1) (setT (t0, t1, t2) k (lo + j)) = (List.range (j + 1)).flatMap (fun (i : Nat) => subs s f (k + 1) (setT (t0, t1, t2) k (lo + (i : Nat)))) := by
            rw [List.range_succ, List.flatMap_append]; simp
          rw [h1]
          exact flat_prefix _ (by omega)
        have hoc := HIH.out T' _ x (setT (t0, t1, t2) k (lo + j)) hjx hbx (fun i hi => Nat.lt_of_lt_of_le (hTw i hi) hx.size) ⟨cell_old hx hI.boxes.y, cell_old hx hI.boxes.p, cell_old hx hI.boxes.o, hI.boxes.ty, hI.boxes.tp, hI.boxes.tb⟩ hpx
        rw [show (((k + 1 : Nat)) : Int) = (k : Int) + 1 by omega] at hoc
        unfold keyV at hoc
        have HOC := Lib.hid hoc
        have HX' := Lib.hid hx
        have HSUB := Lib.hid hsub
        clear hoc hx hsub hpx hjx hbx hTw hI e0
        go_wp2_with (go_at_call 98; refine HOC.out.mono ?_; rintro e B ⟨T2, hr2, hb2, ⟨rfl, hj2⟩ | ⟨rfl, q, hq, hx2⟩⟩)
        · have hI := HI.out
          go_roundw
          case rel =>
            have hbl := hI.boxes
            have c1 := World.block_lt_of_cell? _ _ hbl.y
            have c2 := World.block_lt_of_cell? _ _ hbl.p
            have c3 := World.block_lt_of_cell? _ _ hbl.o
            have hr3 : Rnd (fun k => k = m) T' T2 wr B := hr2.pre HX'.out
            refine ⟨j + 1, T2, by simp; omega, by omega, hI.rnd.trans hr3, hb2, ⟨?_, ?_, ?_, ⟨(hr3.block c1 hbl.ty.2 hbl.ty.1).2, hbl.ty.2⟩, ⟨(hr3.block c2 hbl.tp.2 hbl.tp.1).2, hbl.tp.2⟩, ⟨(hr3.block c3 hbl.tb.2 hbl.tb.1).2, hbl.tb.2⟩⟩, ?_⟩
            · rw [World.cell?_of_block (hr3.block c1 hbl.ty.2 hbl.ty.1).1]; exact hbl.y
            · rw [World.cell?_of_block (hr3.block c2 hbl.tp.2 hbl.tp.1).1]; exact hbl.p
            · rw [World.cell?_of_block (hr3.block c3 hbl.tb.2 hbl.tb.1).1]; exact hbl.o
            · show J T2 (pre ++ (List.range (j + 1)).flatMap _) B
              rw [flat_succ, ← List.append_assoc]; exact hj2
          case measure => simp [intOf]; omega
        · rw [Exit.noGoto_ret]
          go_ret
          have hI := HI.out
          exact ⟨T2, (hI.rnd.trans (hr2.pre HX'.out)).pre HB1.out, hb2, .inr ⟨rfl, q, hq, hx2⟩⟩
    · go_wp2
      go_ret
      have hI := HI.out
      have hjj : j = (hi + 1 - lo).toNat := by omega
      have hjf := hI.j
      rw [hjj] at hjf
      refine ⟨T', hI.rnd.pre HB1.out, hI.board, .inl ⟨rfl, ?_⟩⟩
      rw [subs, HLH.out]; exact hjf

theorem on_all (b m : Nat) (s : Stand) (By Bb Bo l : Nat) (xs : List Shearer) (J Jx : (Nat → Prop) → List Shearer → World → Prop) (hs : Fit s)
    (hJ : ∀ T s' A B, J T s' A → Board A b m s T → Board B b m s T → (∀ k, T k → k < A.heap.size) → Below A.heap.size A B → J T s' B)
    (hY : ∀ T pre x A, J T pre A → Board A b m s T → (∀ k, T k → k < A.heap.size) → pre ++ [x] <+: xs → YieldAt Fence.wide 0 Try.prog l #[keyV x] A fun e B =>
      ∃ T', Rnd (fun k => k = m) T T' A B ∧ Board B b m s T' ∧ ((e = .returned (.bool true) ∧ J T' (pre ++ [x]) B) ∨ (e = .returned (.bool false) ∧ Jx T' (pre ++ [x]) B))) :
    OnC b m s By Bb Bo l xs J Jx 3 0 :=
  on_step b m s By Bb Bo l xs J Jx 2 0 (by omega) hs hJ (on_step b m s By Bb Bo l xs J Jx 1 1 (by omega) hs hJ (on_step b m s By Bb Bo l xs J Jx 0 2 (by omega) hs hJ (on_three b m s By Bb Bo l xs J Jx hJ hY)))

/-- All shearers of a stand. -/
def allSh (s : Stand) : List Shearer := subs s 3 0 (0, 0, 0)

theorem shearers1_seq (b m Bb : Nat) (s : Stand) (w : World) (hs : Fit s) (hb : w.cell? ⟨Bb, 0, none⟩ = some (.pointer (some ⟨b, 0, none⟩))) (hm : Bb ≠ m) :
    Seq Try.prog (fun k => k = m) (fun T A => Board A b m s T) (fun k => k = Bb) 97 #[.pointer (some ⟨Bb, 0, none⟩)] (fun t : Shearer => #[keyV t]) (allSh s) w := by
  intro l T J Jx W hW hG hT hU hJ hJx hY h0
  have hB0 := cell_old hW hb
  have HB0 := Lib.hid hB0
  have hBlt := World.block_lt_of_cell? _ _ hB0
  have hjb : ∀ T s' A B, J T s' A → Board A b m s T → Board B b m s T → (∀ k, T k → k < A.heap.size) → Below A.heap.size A B → J T s' B :=
    fun T s' A B hj ha hb ht hab => hJ T s' A B hj ha hb ht (.of_below hab)
  obtain ⟨W1, hW1⟩ : ∃ x, (W.alloc (.cells #[.func (.yield l) #[] #[]] 130)).alloc (.cells #[.func (.func 98) #[] #[.pointer (some ⟨W.heap.size, 0, none⟩), .pointer (some ⟨Bb, 0, none⟩), .pointer (some ⟨W.heap.size + 1, 0, none⟩)]] 150) = x := ⟨_, rfl⟩
  have hb1 : Below W.heap.size W W1 := by rw [← hW1]; exact below_two _ _ _
  have hg1 : Board W1 b m s T := hG.later hb1
  have hml := hG.mlt
  have hx : Boxes b m W.heap.size Bb (W.heap.size + 1) l T W1 := by
    refine ⟨?_, cell_old hb1 hB0, ?_, ⟨fun h => by have := hT _ h; omega, by omega⟩, ⟨hU _ rfl, hm⟩, ⟨fun h => by have := hT _ h; omega, by omega⟩⟩
    · rw [← hW1]; simp [go_sem]
    · rw [← hW1]; simp [go_sem]
  have hon := on_all b m s W.heap.size Bb (W.heap.size + 1) l (allSh s) J Jx hs hjb hY T [] W1 (0, 0, 0) (hjb _ _ _ _ h0 hG hg1 hT hb1) hg1 (fun k hk => Nat.lt_of_lt_of_le (hT k hk) hb1.size) hx (by simp [allSh])
  unfold keyV at hon
  refine callsIn_wide.2 ?_
  have HON := Lib.hid hon
  have HB1 := Lib.hid hb1
  clear hon hx hg1 hb1 hjb hJ hJx hY h0 hG hB0 hW hT hU
  subst hW1
  go_enter Try.func97, Try.ntmps97
  go_wp2_with (go_at_call 98; refine HON.out.mono ?_; rintro e B ⟨T2, hr2, hb2, ⟨rfl, hj2⟩ | ⟨rfl, q, hq, hx2⟩⟩)
  · go_end0
    exact ⟨⟨_, rfl⟩, T2, hr2.pre HB1.out, hb2, .inl hj2⟩
  · go_end0
    exact ⟨⟨_, rfl⟩, T2, hr2.pre HB1.out, hb2, .inr ⟨q, hq, hx2⟩⟩
end Go.Proofs.Ytojbkpnkcpcioaa
/- The walk of the iterator over the truths. -/
namespace Go.Proofs.Ytojbkpnkcpcioaa
open Go.RowKit Go.Sh Go.Sh.Stand Go.Shelf
attribute [local go_sem] Oper.semAt_some

theorem cell_ne {A : World} {a : Addr} {u : Value} {l : Nat} {o : Obj} (hc : A.cell? a = some u) (hl : A.heap[l]? = some o) (ho : o.isCells = false) : a.block ≠ l := by
  rintro rfl
  obtain ⟨o2, h2, h3⟩ := cells_of_cell hc
  rw [hl] at h2; cases h2; rw [ho] at h3; cases h3

theorem Off.plus {α : Type} {enc : α → List Value} {size : Nat} (hp : 0 < size) (hs : ∀ x, (enc x).length = size) {w : World} {v : Value} {xs : List α} {X : Nat → Prop} {l : Nat} {o : Obj} (h : Off X v) (hr : RowsAt enc size w w.heap.size v xs) (hl : w.heap[l]? = some o) (ho : o.isCells = false) : Off (fun k => X k ∨ k = l) v := by
  obtain ⟨ao, cap, rfl, hm, hr⟩ := hr
  intro a n c e hn hk
  cases e
  rcases hk with hk | hk
  · exact h _ _ _ rfl hn hk
  · obtain ⟨b', off, hb', hb, hx⟩ := hr (List.length_pos_iff.1 hn)
    cases hb'
    have h0 : 0 < (enc xs[0]).length := by rw [hs]; exact hp
    have := hx 0 xs[0] (by simp [hn]) 0 (enc xs[0])[0] (by simp [h0])
    exact cell_ne this hl ho hk

theorem board_good (b m : Nat) (s : Stand) : GoodW (fun k => k = m) (fun T A => Board A b m s T) where
  below h hb := h.later hb
  put {T A l o} o' h hl ho hm := by
    obtain ⟨rv, r1, r2, r3⟩ := h.runs
    obtain ⟨sv, s1, s2, s3⟩ := h.sheep
    obtain ⟨lv, l1, l2, l3⟩ := h.looks
    exact ⟨fun k hk => ⟨cell_putObj _ (h.mins k hk).1 hl ho, cell_putObj _ (h.mins k hk).2 hl ho⟩, ⟨rv, cell_putObj _ r1 hl ho, r2.putObj _ hl ho, r3⟩, ⟨sv, cell_putObj _ s1 hl ho, s2.putObj _ hl ho, s3⟩, ⟨lv, cell_putObj _ l1 hl ho, l2.putObj _ hl ho, l3⟩,
      cell_putObj _ h.map hl ho, h.kept.imp (World.putObj_heap_other (fun e => hm e.symm)) fun k v ⟨t, h1, h2, h3⟩ => ⟨t, h1, h2.putObj _ hl ho, h3⟩, fun k hk => by simpa using h.xlt k hk, h.xb, h.xm⟩
  add {T A l o} h hl ho hm := by
    obtain ⟨rv, r1, r2, r3⟩ := h.runs
    obtain ⟨sv, s1, s2, s3⟩ := h.sheep
    obtain ⟨lv, l1, l2, l3⟩ := h.looks
    exact ⟨h.mins, ⟨rv, r1, r2, Off.plus (enc := enc2) (size := 2) (by decide) (fun _ => rfl) r3 r2 hl ho⟩, ⟨sv, s1, s2, Off.plus (enc := enc1) (size := 1) (by decide) (fun _ => rfl) s3 s2 hl ho⟩, ⟨lv, l1, l2, Off.plus (enc := enc3) (size := 3) (by decide) (fun _ => rfl) l3 l2 hl ho⟩, h.map,
      h.kept.imp rfl fun k v ⟨t, h1, h2, h3⟩ => ⟨t, h1, h2, Off.plus (enc := enc2) (size := 2) (by decide) (fun _ => rfl) h3 h2 hl ho⟩, fun k hk => hk.elim (h.xlt k) (fun e => by rw [e]; exact (Array.getElem?_eq_some_iff.1 hl).1),
      fun hk => hk.elim h.xb fun e => cell_ne h.map hl ho e, fun hk => hk.elim h.xm fun e => hm e.symm⟩
  sub h hs := h.sub hs

theorem shearers_any (b : Nat) (w : World) : Calls Try.prog 85 #[.pointer (some ⟨b, 0, none⟩)] w fun e w' => e = .returned (.func (.func 97) #[] #[.pointer (some ⟨w.heap.size, 0, none⟩)]) ∧ w' = w.alloc (.cells #[.pointer (some ⟨b, 0, none⟩)] 70) := by
  go_enter Try.func85, Try.ntmps85
  go_wp2
  go_ret
  exact ⟨rfl, rfl⟩

theorem truths_any (b : Nat) (set : Nat) (w : World) : Calls Try.prog 66 #[.pointer (some ⟨b, 0, none⟩), .int .u64 set] w fun e w' => e = .returned (.func (.func 84) #[] #[.pointer (some ⟨w.heap.size, 0, none⟩), .pointer (some ⟨w.heap.size + 1, 0, none⟩)]) ∧ w' = (w.alloc (.cells #[.pointer (some ⟨b, 0, none⟩)] 70)).alloc (.cells #[.int .u64 set] 98) := by
  go_enter Try.func66, Try.ntmps66
  go_wp2
  go_ret
  exact ⟨rfl, rfl⟩

/-- What the loop of truths knows between two rounds. -/
structure TruAt (b set B1 B2 By l n₀ : Nat) (r : Shearer → Bool) (J : (Nat → Prop) → List Shearer → World → Prop) (T : Nat → Prop) (pre : List Shearer) (A : World) : Prop where
  j : J T (pre.filter r) A
  y : A.cell? ⟨By, 0, none⟩ = some (.func (.yield l) #[] #[])
  p : A.cell? ⟨B1, 0, none⟩ = some (.pointer (some ⟨b, 0, none⟩))
  u : A.cell? ⟨B2, 0, none⟩ = some (.int .u64 set)
  ty : ¬ T By
  tp : ¬ T B1
  tu : ¬ T B2

set_option maxRecDepth 100000 in
set_option maxHeartbeats 1000000 in
theorem truths1_seq (b m B1 B2 set : Nat) (s : Stand) (w : World) (hs : Fit s) (hset : set < 16) (h1 : w.cell? ⟨B1, 0, none⟩ = some (.pointer (some ⟨b, 0, none⟩))) (h2 : w.cell? ⟨B2, 0, none⟩ = some (.int .u64 set)) (hm1 : B1 ≠ m) (hm2 : B2 ≠ m)
    (htok : ∀ t ∈ allSh s, Tok t) :
    Seq Try.prog (fun k => k = m) (fun T A => Board A b m s T) (fun k => k = B1 ∨ k = B2) 84 #[.pointer (some ⟨B1, 0, none⟩), .pointer (some ⟨B2, 0, none⟩)] (fun t : Shearer => #[keyV t]) ((allSh s).filter (rightB s · set)) w := by
  intro l T J Jx W hW hG hT hU hJ hJx hY h0
  have c1 := cell_old hW h1
  have c2 := cell_old hW h2
  have l1 := World.block_lt_of_cell? _ _ c1
  have l2 := World.block_lt_of_cell? _ _ c2
  simp only at l1 l2
  have u1 := hU B1 (.inl rfl)
  have u2 := hU B2 (.inr rfl)
  have hml := hG.mlt
  refine callsIn_of_wp_marks Try.func84 rfl trivial ?_ rfl
  simp only [Try.ntmps84, List.size_toArray, List.length_cons, List.length_nil, Nat.reduceAdd, Nat.reduceSub, Array.replicate_succ, Array.replicate_zero, List.push_toArray, List.append_toArray, List.nil_append, List.cons_append]
  have HJ := Lib.hid hJ
  have HJx := Lib.hid hJx
  have HY := Lib.hid hY
  have HG := Lib.hid hG
  have HT := Lib.hid hT
  have HTOK := Lib.hid htok
  have H0 := Lib.hid h0
  clear hJ hJx hY hG hW hT hU htok h0
  gi_wp2_with (refine ⟨trivial, rfl, ?_⟩; gi_at_call 85; refine (callsIn_wide.2 (shearers_any b _)).mono ?_; rintro e w' ⟨rfl, rfl⟩)
  obtain ⟨W2, hW2⟩ : ∃ x, (W.alloc (.cells #[.func (.yield l) #[] #[]] 130)).alloc (.cells #[.pointer (some ⟨b, 0, none⟩)] 70) = x := ⟨_, rfl⟩
  have hb2 : Below W.heap.size W W2 := by rw [← hW2]; exact below_two _ _ _
  have hsz : W2.heap.size = W.heap.size + 2 := by rw [← hW2]; simp
  have hg2 : Board W2 b m s T := HG.out.later hb2
  have q0 : W2.cell? ⟨W.heap.size, 0, none⟩ = some (.func (.yield l) #[] #[]) := by rw [← hW2]; simp [go_sem]
  have q1 : W2.cell? ⟨W.heap.size + 1, 0, none⟩ = some (.pointer (some ⟨b, 0, none⟩)) := by rw [← hW2]; simp [go_sem]
  have d1 := cell_old hb2 c1
  have d2 := cell_old hb2 c2
  rw [hW2]
  clear hW2
  have nT : ∀ k, W.heap.size ≤ k → ¬ T k := fun k hk h => by have := HT.out k h; omega
  refine wpIn_range (gf := 97) (lb := #[.pointer (some ⟨W.heap.size + 1, 0, none⟩)]) rfl (enters_of Try.func97 (by kernel_rfl) rfl) (board_good b m s) (shearers1_seq b m (W.heap.size + 1) s W2 hs q1 (by omega)) (Below.refl _ _) (fun _ => rfl)
    (fun k hk => by omega) T (fun k hk => by have := HT.out k hk; omega) (fun k hk => ⟨by rw [hk]; exact nT _ (by omega), by omega⟩) hg2
    (TruAt b set B1 B2 W.heap.size l 0 (rightB s · set) J) (fun c T' pre A => c = .ret ∧ Jx T' (pre.filter (rightB s · set)) A) ?hI ?hIx ?h0
    (fun x a' A => ∃ Bx, Bx ≠ m ∧ A.cell? ⟨Bx, 0, none⟩ = some (.int .i64 x.1) ∧ A.cell? ⟨Bx, 1, none⟩ = some (.int .i64 x.2.1) ∧ A.cell? ⟨Bx, 2, none⟩ = some (.int .i64 x.2.2) ∧
      a' = { tmps := #[.func (.yield l) #[] #[], .pointer (some ⟨B1, 0, none⟩), .pointer (some ⟨B2, 0, none⟩), .pointer (some ⟨W.heap.size, 0, none⟩), .pointer (some ⟨Bx, 0, none⟩), .pointer (some ⟨b, 0, none⟩), .func (.func 97) #[] #[.pointer (some ⟨W.heap.size + 1, 0, none⟩)], keyV x, undef, undef, undef, undef, undef, undef, undef, undef, undef, undef], defers := [] })
    ?hAx ?assign ?body ?done ?stop
  case hI =>
    rintro T' pre A B ⟨hj, hy, hp, hu, t1, t2, t3⟩ hga hgb hlt hf
    refine ⟨HJ.out _ _ _ _ hj hga hgb hlt (hf.mono fun k _ hk => hk.elim .inl fun h => .inr ⟨by omega, h.2⟩), hf.cell hy ?_, hf.cell hp ?_, hf.cell hu ?_, t1, t2, t3⟩
    all_goals simp only; omega
  case hIx =>
    rintro c T' pre A B ⟨rfl, hj⟩ hga hgb hlt hf
    exact ⟨rfl, HJx.out _ _ _ _ hj hga hgb hlt (hf.mono fun k _ hk => hk.elim .inl fun h => .inr ⟨by omega, h.2⟩)⟩
  case h0 =>
    exact ⟨HJ.out _ _ _ _ H0.out HG.out hg2 HT.out (.of_below hb2), q0, d1, d2, nT _ (Nat.le_refl _), u1, u2⟩
  case hAx =>
    rintro x a' A l' o o' ⟨Bx, hm, a0, a1, a2, rfl⟩ hl ho
    exact ⟨Bx, hm, cell_putObj _ a0 hl ho, cell_putObj _ a1 hl ho, cell_putObj _ a2 hl ho, rfl⟩
  case assign =>
    rintro l' T' pre ⟨x0, x1, x2⟩ W' K hI hg hlt hsz' hK
    have HK := Lib.hid hK
    have HI := Lib.hid hI
    clear hK hI
    unfold keyV
    gi_wp2
    exact HK.out _ _ ((Below.refl _ _).alloc (Nat.le_refl _) _) ⟨W'.heap.size, by have := hg.mlt; omega, by simp [go_sem], by simp [go_sem], by simp [go_sem], rfl⟩
  case body =>
    rintro l' T' pre ⟨x0, x1, x2⟩ a' W' hI hg hlt hsz' hf ⟨Bx, hbm, a0, a1, a2, rfl⟩ hpre
    have hmem : (x0, x1, x2) ∈ allSh s := hpre.subset (by simp)
    have hrt := right_any b m s T' (x0, x1, x2) set W' hs (HTOK.out _ hmem) hset hg
    unfold keyV at hrt ⊢
    have hp := hI.p
    have hu := hI.u
    have HI := Lib.hid hI
    have HR := Lib.hid hrt
    have HG' := Lib.hid hg
    have HF := Lib.hid hf
    have HL := Lib.hid hlt
    clear hI hrt hg hf hlt
    have hid : ∀ W4, OnBoard b m s T' W' W4 → TruAt b set B1 B2 W.heap.size l 0 (rightB s · set) J T' pre W4 := by
      intro W4 hon
      obtain ⟨hj, hy, hp, hu, t1, t2, t3⟩ := HI.out
      exact ⟨HJ.out _ _ _ _ hj HG'.out hon.board HL.out (hon.frm.mono fun k _ hk => .inl hk), hon.cell hy (by simp only; omega), hon.cell hp (by simpa using hm1), hon.cell hu (by simpa using hm2), t1, t2, t3⟩
    have HID := Lib.hid hid
    clear hid
    cases hr : rightB s (x0, x1, x2) set with
    | false =>
      rw [hr] at HR
      gi_wp2_with (refine ⟨trivial, rfl, ?_⟩; gi_at_call 86; refine (CallsIn.inRound l' (callsIn_wide.2 HR.out)).mono ?_; rintro e W4 ⟨rfl, hon⟩; have HON := Lib.hid hon; clear hon)
      refine ⟨fun _ h => (by cases h), ?_⟩
      gi_wp2
      refine ⟨T', .of_frm HON.out.frm HL.out, HON.out.board, ?_⟩
      have hi := HID.out W4 HON.out
      exact { hi with j := by rw [List.filter_append]; simpa [List.filter_cons, hr] using hi.j }
    | true =>
      rw [hr] at HR
      have hpr2 : pre.filter (rightB s · set) ++ [(x0, x1, x2)] <+: (allSh s).filter (rightB s · set) := by
        have := hpre.filter (rightB s · set)
        rw [List.filter_append] at this
        simpa [List.filter_cons, hr] using this
      gi_wp2_with (refine ⟨trivial, rfl, ?_⟩; gi_at_call 86; refine (CallsIn.inRound l' (callsIn_wide.2 HR.out)).mono ?_; rintro e W4 ⟨rfl, hon⟩
                   have hi4 := HID.out W4 hon
                   have ht4 : ∀ k, T' k → k < W4.heap.size := fun k hk => Nat.lt_of_lt_of_le (HL.out k hk) hon.size
                   obtain ⟨fn, tmps, assign, body, hy, hRd⟩ := HY.out T' _ (x0, x1, x2) W4 hi4.j hon.board ht4 hpr2
                   unfold keyV at hy
                   have y4 := hi4.y
                   have b0 := hon.cell a0 hbm
                   have b1 := hon.cell a1 hbm
                   have b2 := hon.cell a2 hbm
                   have HRD := Lib.hid hRd
                   have HI4 := Lib.hid hi4
                   have HON := Lib.hid hon
                   clear hon hi4 hRd ht4)
      have hfl : (pre ++ [(x0, x1, x2)]).filter (rightB s · set) = pre.filter (rightB s · set) ++ [(x0, x1, x2)] := by
        rw [List.filter_append]; simp [List.filter_cons, hr]
      have HFL := Lib.hid hfl
      clear hfl
      refine ⟨rfl, RoundIn.mono (show RoundIn (Fence.wide.inRound l') 0 _ _ _ _ _ _ _ _ from HRD.out) ?_⟩
      rintro e B ⟨T2, hr2, hb2, ⟨rfl, hj2⟩ | ⟨rfl, hj2⟩⟩
      · have H1 := Lib.hid hr2
        have H2 := Lib.hid hb2
        have H3 := Lib.hid hj2
        clear hr2 hb2 hj2
        gi_wp2
        refine ⟨T2, (Rnd.of_frm HON.out.frm HL.out).trans H1.out, H2.out, ?_⟩
        have hi := HI4.out
        have k0 := H1.out.block (World.block_lt_of_cell? _ _ hi.y) (show ¬ W.heap.size = m by omega) hi.ty
        have k1 := H1.out.block (World.block_lt_of_cell? _ _ hi.p) hm1 hi.tp
        have k2 := H1.out.block (World.block_lt_of_cell? _ _ hi.u) hm2 hi.tu
        exact ⟨by rw [HFL.out]; exact H3.out, (World.cell?_of_block k0.1).trans hi.y, (World.cell?_of_block k1.1).trans hi.p, (World.cell?_of_block k2.1).trans hi.u, k0.2, k1.2, k2.2⟩
      · have H1 := Lib.hid hr2
        have H2 := Lib.hid hb2
        have H3 := Lib.hid hj2
        clear hr2 hb2 hj2
        gi_wp2
        exact ⟨T2, (Rnd.of_frm HON.out.frm HL.out).trans H1.out, H2.out, rfl, by rw [HFL.out]; exact H3.out⟩
  case done =>
    rintro D T' W' hD hTD hrn hg hI hK
    have hput := (board_good b m s).put (.deferred none) hg hK rfl (show ¬ D = m by omega)
    have hrn' : Rnd (fun k => k = m) T T' W (W'.putObj D (.deferred none)) := by
      have := hrn.pre hb2
      exact ⟨this.frm.putObj (.inr (by omega)) _, this.grow, this.keep, fun k hk => by simpa using this.lt k hk⟩
    have hj' : J T' ((allSh s).filter (rightB s · set)) (W'.putObj D (.deferred none)) :=
      HJ.out _ _ _ _ hI.j hg hput hrn.lt (frm_put _ (.inr ⟨by omega, hTD⟩))
    have H1 := Lib.hid hput
    have H2 := Lib.hid hrn'
    have H3 := Lib.hid hj'
    clear hput hrn' hj' hrn hg hI
    gi_wp2
    refine ⟨by simp, .inl ⟨_, _, rfl, run_takeDeferred hK, ?_⟩⟩
    refine ⟨_, results_none rfl _ _ _, ?_⟩
    exact ⟨⟨_, rfl⟩, T', H2.out, H1.out, .inl H3.out⟩
  case stop =>
    rintro D c T' pre W' hD hTD hrn hg hpre ⟨rfl, hI⟩ hK
    have hput := (board_good b m s).put (.deferred none) hg hK rfl (show ¬ D = m by omega)
    have hrn' : Rnd (fun k => k = m) T T' W (W'.putObj D (.deferred none)) := by
      have := hrn.pre hb2
      exact ⟨this.frm.putObj (.inr (by omega)) _, this.grow, this.keep, fun k hk => by simpa using this.lt k hk⟩
    have hj' : Jx T' (pre.filter (rightB s · set)) (W'.putObj D (.deferred none)) :=
      HJx.out _ _ _ _ hI hg hput hrn.lt (frm_put _ (.inr ⟨by omega, hTD⟩))
    have hpf := hpre.filter (rightB s · set)
    have H1 := Lib.hid hput
    have H2 := Lib.hid hrn'
    have H3 := Lib.hid hj'
    have H4 := Lib.hid hpf
    clear hput hrn' hj' hrn hg hI hpf hpre
    gi_wp2
    refine ⟨by simp, .inl ⟨_, _, rfl, run_takeDeferred hK, ?_⟩⟩
    refine ⟨_, results_none rfl _ _ _, ?_⟩
    exact ⟨⟨_, rfl⟩, T', H2.out, H1.out, .inr ⟨_, H4.out, H3.out⟩⟩
end Go.Proofs.Ytojbkpnkcpcioaa
/- The walk of spanned. -/
namespace Go.Proofs.Ytojbkpnkcpcioaa
open Go.RowKit Go.Sh Go.Sh.Stand Go.Shelf
attribute [local go_sem] Oper.semAt_some
theorem info23 : (Try.prog.info? 23).map (fun i => (i.zero, i.size, i.bytes)) = some (some (.agg #[.int .i64 0, .int .i64 0]), 2, 16) := by kernel_rfl

structure SpanAt (w : World) (m : Nat) (Br Bl n₀ : Nat) (gv : Value) (f : Shearer → Int) (Cl : World → Prop) (T : Nat → Prop) (pre : List Shearer) (A : World) : Prop where
  r : A.cell? ⟨Br, 0, none⟩ = some gv
  tr : ¬ T Br
  row : ∃ v, A.cell? ⟨Bl, 0, none⟩ = some v ∧ A.ownsRow n₀ 23 2 v pre.length ((pre.map fun x => enc2 (f x, f x)).flatten) ∧ ∀ k, v.ownBlock = some k → T k ∧ k ≠ Bl
  fr : A.frozen? ⟨Bl, 0, none⟩ = false
  tl : T Bl
  cl : Cl A
  c0 : A.cell? ⟨Br + 1, 0, none⟩ = some (.int .i64 0)
  c1 : A.cell? ⟨Br + 1, 1, none⟩ = some (.int .i64 0)
  f0 : A.frozen? ⟨Br + 1, 0, none⟩ = false
  f1 : A.frozen? ⟨Br + 1, 1, none⟩ = false
  tb : T (Br + 1)
  old : ∀ k, k < w.heap.size → k ≠ m → A.heap[k]? = w.heap[k]?
  own : ∀ v k, A.cell? ⟨Bl, 0, none⟩ = some v → v.ownBlock = some k → k ≠ Br + 1

def spanOut (l : List Int) : Value := if l = [] then .tuple #[.agg #[.int .i64 0, .int .i64 0], .bool false] else .tuple #[.agg #[.int .i64 (joinedL (l.map fun n => (n, n))).1, .int .i64 (joinedL (l.map fun n => (n, n))).2], .bool true]

set_option maxRecDepth 100000 in
set_option maxHeartbeats 1000000 in
theorem spanned_any (b m : Nat) (s : Stand) (gf : Nat) (lb : Array Value) (U : Nat → Prop) (xs : List Shearer) (X : Nat → Prop) (gq : Nat) (lbq : Array Value) (f : Shearer → Int) (w : World) (Cl : World → Prop)
    (eg : ∀ args w, (callFunc gf args).run Try.prog w = .ok (.enter gf args) w) (eq : ∀ args w, (callFunc gq args).run Try.prog w = .ok (.enter gq args) w)
    (hg : Board w b m s X) (hseq : ∀ w', Below w.heap.size w w' → Seq Try.prog (fun k => k = m) (fun T A => Board A b m s T) U gf lb (fun t : Shearer => #[keyV t]) xs w') (hU : ∀ k, U k → k < w.heap.size ∧ ¬ X k) (hlen : xs.length ≤ 1000)
    (hcl : Cl w) (hcf : ∀ A B, Cl A → Frm (fun k => k = m ∨ w.heap.size ≤ k) A B → Cl B)
    (hf : ∀ x ∈ xs, ∀ A Y, Board A b m s Y → Cl A → Calls Try.prog gq (#[keyV x] ++ lbq) A fun e B => e = .returned (.int .i64 (f x)) ∧ OnBoard b m s Y A B) :
    Calls Try.prog 83 #[.func (.func gf) #[] lb, .agg #[.func (.func gq) #[] lbq]] w fun e w' => e = .returned (spanOut (xs.map f)) ∧ OnBoard b m s X w w' := by
  have hml := hg.mlt
  refine (callsIn_wide (n := 0)).1 ?_
  refine callsIn_of_wp_marks Try.func83 rfl trivial ?_ rfl
  simp only [Try.ntmps83, List.size_toArray, List.length_cons, List.length_nil, Nat.reduceAdd, Nat.reduceSub, Array.replicate_succ, Array.replicate_zero, List.push_toArray, List.append_toArray, List.nil_append, List.cons_append]
  have HSEQ := Lib.hid hseq
  have HG := Lib.hid hg
  have HF := Lib.hid hf
  have HCF := Lib.hid hcf
  have HU := Lib.hid hU
  have HCL := Lib.hid hcl
  clear hseq hg hf hcf hU hcl
  gi_wp2
  obtain ⟨W2, hW2⟩ : ∃ x, (((w.alloc (Obj.cells #[Value.func (Fn.func gq) #[] lbq] 129)).alloc (Obj.cells #[Value.int IntKind.i64 0, Value.int IntKind.i64 0] 23)).alloc (Obj.cells #[Value.slice none 0 0] 148)) = x := ⟨_, rfl⟩
  have hb2 : Below w.heap.size w W2 := by rw [← hW2]; exact (below_two _ _ _).alloc (by simp; omega) _
  have hsz : W2.heap.size = w.heap.size + 3 := by rw [← hW2]; simp
  have hg2 : Board W2 b m s (fun k => X k ∨ k = w.heap.size + 1 ∨ k = w.heap.size + 2) := HG.out.grow hb2 (fun k hk => hk.elim .inl fun h => .inr (by omega)) (fun k hk => hk.elim (fun h => by have := HG.out.xlt k h; omega) (fun h => by omega))
  have q0 : W2.cell? ⟨w.heap.size, 0, none⟩ = some (.func (.func gq) #[] lbq) := by rw [← hW2]; simp [go_sem]
  have q1 : W2.cell? ⟨w.heap.size + 1, 0, none⟩ = some (.int .i64 0) := by rw [← hW2]; simp [go_sem]
  have q2 : W2.cell? ⟨w.heap.size + 1, 1, none⟩ = some (.int .i64 0) := by rw [← hW2]; simp [go_sem]
  have q3 : W2.cell? ⟨w.heap.size + 2, 0, none⟩ = some (.slice none 0 0) := by rw [← hW2]; simp [go_sem]
  have g1 : W2.frozen? ⟨w.heap.size + 1, 0, none⟩ = false := by rw [← hW2]; simp [go_sem]
  have g2 : W2.frozen? ⟨w.heap.size + 1, 1, none⟩ = false := by rw [← hW2]; simp [go_sem]
  have g3 : W2.frozen? ⟨w.heap.size + 2, 0, none⟩ = false := by rw [← hW2]; simp [go_sem]
  rw [hW2]
  clear hW2
  rw [show w.heap.size + 1 + 1 = w.heap.size + 2 by omega]
  obtain ⟨i0, hi0, hz0, hz1, hz2⟩ := info_parts info23
  refine wpIn_range (gf := gf) (lb := lb) rfl eg (board_good b m s) (HSEQ.out W2 hb2) (Below.refl _ _) (fun _ => rfl)
    (fun k hk => by omega) (fun k => X k ∨ k = w.heap.size + 1 ∨ k = w.heap.size + 2) (fun k hk => hk.elim (fun h => by have := HG.out.xlt k h; omega) (fun h => by omega)) (fun k hk => ⟨fun h => h.elim (HU.out k hk).2 (fun h => by have := (HU.out k hk).1; omega), by have := (HU.out k hk).1; omega⟩) hg2
    (SpanAt w m w.heap.size (w.heap.size + 2) w.heap.size (.func (.func gq) #[] lbq) f Cl) (fun c T' pre A => False) ?hI ?hIx ?h0
    (fun x a' A => ∃ Bx, Bx ≠ m ∧ A.cell? ⟨Bx, 0, none⟩ = some (.int .i64 x.1) ∧ A.cell? ⟨Bx, 1, none⟩ = some (.int .i64 x.2.1) ∧ A.cell? ⟨Bx, 2, none⟩ = some (.int .i64 x.2.2) ∧
      a' = { tmps := #[.func (.func gf) #[] lb, .agg #[.func (.func gq) #[] lbq], undef, .pointer (some ⟨w.heap.size, 0, none⟩), .pointer (some ⟨w.heap.size + 1, 0, none⟩), .bool false, .pointer (some ⟨w.heap.size + 2, 0, none⟩), .pointer (some ⟨Bx, 0, none⟩), undef, .func (.func gf) #[] lb, keyV x, undef, undef, undef, undef, undef, undef, undef, undef, undef, undef, undef, undef, undef, undef, undef, undef], defers := [] })
    ?hAx ?assign ?body ?done ?stop
  case hI =>
    rintro T' pre A B ⟨hr, tr, ⟨v, hv, ho, hvo⟩, hfr, tl, hc, rc0, rc1, rf0, rf1, tb, hold, hov⟩ hga hgb hlt hff
    have hbb : w.heap.size + 1 < A.heap.size := World.block_lt_of_cell? _ _ rc0
    have hnb : ¬ ((w.heap.size + 1 = m) ∨ (W2.heap.size ≤ w.heap.size + 1 ∧ ¬ T' (w.heap.size + 1))) := by rintro (h | h) <;> omega
    have hbl : w.heap.size + 2 < A.heap.size := World.block_lt_of_cell? _ _ hv
    have hnl : ¬ ((w.heap.size + 2 = m) ∨ (W2.heap.size ≤ w.heap.size + 2 ∧ ¬ T' (w.heap.size + 2))) := by rintro (h | h) <;> omega
    refine ⟨hff.cell hr (by rintro (h | h) <;> simp at h <;> omega), tr, ⟨v, hff.cell hv hnl, ownsRow_frm ho hff ?_, hvo⟩, (hff.frozen hbl hnl).trans hfr, tl, HCF.out _ _ hc (hff.mono fun k _ hk => hk.elim .inl fun h => .inr (by omega)), hff.cell rc0 hnb, hff.cell rc1 hnb, (hff.frozen hbb hnb).trans rf0, (hff.frozen hbb hnb).trans rf1, tb, fun k hk hm => (hff.block k (by have := hbb; omega) (by rintro (h | h) <;> omega)).trans (hold k hk hm), fun v' k' h1 h2 => hov v' k' (by rw [hff.cell hv hnl] at h1; cases h1; exact hv) h2⟩
    intro k hk h
    have h1 := (ho.lt k hk).1
    rcases h with h | h
    · omega
    · exact h.2 (hvo k hk).1
  case hIx => intro c T' pre A B h; exact h.elim
  case h0 =>
    exact ⟨q0, fun h => h.elim (fun h => by have := HG.out.xlt _ h; omega) (fun h => by omega), ⟨.slice none 0 0, q3, World.ownsRow_nil _ _ _ _, by intro k hk; cases hk⟩, g3, .inr (.inr rfl), HCF.out _ _ HCL.out (.of_below hb2), q1, q2, g1, g2, .inr (.inl rfl), fun k hk _ => hb2.block k hk, by intro v k hv hk; rw [q3] at hv; cases hv; cases hk⟩
  case hAx =>
    rintro x a' A l' o o' ⟨Bx, hm, a0, a1, a2, rfl⟩ hl ho
    exact ⟨Bx, hm, cell_putObj _ a0 hl ho, cell_putObj _ a1 hl ho, cell_putObj _ a2 hl ho, rfl⟩
  case assign =>
    rintro l' T' pre ⟨x0, x1, x2⟩ W' K hI hg hlt hsz' hK
    have HK := Lib.hid hK
    have HI := Lib.hid hI
    clear hK hI
    unfold keyV
    gi_wp2
    exact HK.out _ _ ((Below.refl _ _).alloc (Nat.le_refl _) _) ⟨W'.heap.size, by have := hg.mlt; omega, by simp [go_sem], by simp [go_sem], by simp [go_sem], rfl⟩
  case body =>
    rintro l' T' pre ⟨x0, x1, x2⟩ a' W' hI hg hlt hsz' hff ⟨Bx, hbm, a0, a1, a2, rfl⟩ hpre
    have hmem : (x0, x1, x2) ∈ xs := hpre.subset (by simp)
    have hrt := HF.out (x0, x1, x2) hmem W' T' hg hI.cl
    have hpl : pre.length < xs.length := by have := hpre.length_le; simp at this; omega
    unfold keyV at hrt ⊢
    have hr := hI.r
    have HI := Lib.hid hI
    have HR := Lib.hid hrt
    have HG' := Lib.hid hg
    have HFF := Lib.hid hff
    have HL := Lib.hid hlt
    clear hI hrt hg hff hlt
    gi_wp2
    refine ⟨trivial, rfl, CallsIn.mono (CallsIn.inRound l' (callsIn_wide.2 HR.out)) ?_⟩
    rintro e W4 ⟨rfl, hon⟩
    have h4 : SpanAt w m w.heap.size (w.heap.size + 2) w.heap.size (.func (.func gq) #[] lbq) f Cl T' pre W4 := by
      obtain ⟨hr, tr, ⟨v, hv, ho, hvo⟩, hfr, tl, hc, rc0, rc1, rf0, rf1, tb, hold, hov⟩ := HI.out
      have hbb : w.heap.size + 1 < W'.heap.size := World.block_lt_of_cell? _ _ rc0
      have hnl : w.heap.size + 2 ≠ m := by omega
      have hnb : w.heap.size + 1 ≠ m := by omega
      have hbl : w.heap.size + 2 < W'.heap.size := World.block_lt_of_cell? _ _ hv
      refine ⟨hon.cell hr (by simp only; omega), tr, ⟨v, hon.cell hv (by simp only; omega), ownsRow_frm ho hon.frm ?_, hvo⟩, (hon.frm.frozen hbl (by simp only; omega)).trans hfr, tl, HCF.out _ _ hc (hon.frm.mono fun k _ hk => .inl hk), hon.cell rc0 hnb, hon.cell rc1 hnb, (hon.frm.frozen hbb hnb).trans rf0, (hon.frm.frozen hbb hnb).trans rf1, tb, fun k hk hm => (hon.frm.block k (by omega) hm).trans (hold k hk hm), fun v' k' h1 h2 => hov v' k' (by rw [hon.cell hv hnl] at h1; cases h1; exact hv) h2⟩
      intro k hk h
      have h1 := (ho.lt k hk).1
      omega
    obtain ⟨hr4, tr4, ⟨v, hv4, ho4, hvo4⟩, hfr4, tl4, hc4, rc04, rc14, rf04, rf14, tb4, hold4, hov4⟩ := h4
    have HOLD4 := Lib.hid hold4
    clear hold4
    have hov4' := fun k => hov4 v k hv4
    clear hov4
    have HOV := Lib.hid hov4'
    clear hov4'
    have hbb4 : w.heap.size + 1 < W4.heap.size := World.block_lt_of_cell? _ _ rc04
    have hbl4 : w.heap.size + 2 < W4.heap.size := World.block_lt_of_cell? _ _ hv4
    obtain ⟨nx, hnx⟩ : ∃ n, f (x0, x1, x2) = n := ⟨_, rfl⟩
    have HON := Lib.hid hon
    have HNX := Lib.hid hnx
    have HVO := Lib.hid hvo4
    have HC4 := Lib.hid hc4
    have HTL := Lib.hid tl4
    rw [hnx]
    clear hon hnx hvo4 hc4 tl4
    have hvn : v.ownBlock ≠ some (w.heap.size + 1) := fun h => HOV.out _ h rfl
    have hvb : v.ownBlock ≠ some (w.heap.size + 2) := fun h => (HVO.out _ h).2 rfl
    obtain ⟨ao, cap, rfl⟩ := owns_slice ho4
    gi_wp2_with (gi_at_builtin; refine wpListIn_append_own_at _ rfl _ _ 148 rfl w.heap.size 23 i0 (.agg #[.int .i64 0, .int .i64 0]) 2 16 Try.underlying148 hi0 hz0 hz1 hz2 rfl (by decide) (.slice ao pre.length cap) _ _ rfl (ho4.alloc _) ⟨W4.heap.size, 0, none⟩ 1 1 [.int .i64 nx, .int .i64 nx] rfl rfl ?c1 ?c2 ?c3 ?c4 ?c5 ?_; rotate_left 5; intro v5 w5 hown5 hgrow5 hnil5 hat5
                 have hbx := grown_cell hgrow5 ((World.cell?_alloc_lt _ _ _ hbl4).trans hv4) hvb
                 have hbf := (grown_frozen hgrow5 (a := ⟨w.heap.size + 2, 0, none⟩) (by simp; omega) hvb).trans ((World.frozen?_alloc_past _ _ _ hbl4).trans hfr4)
                 obtain ⟨ao5, cap5, rfl⟩ := owns_slice hown5)
    case c1 => exact cell_two_new _ _ _ _
    case c2 => intro u hu; simp at hu; rcases hu with rfl | rfl <;> rfl
    case c3 => unfold maxLen; omega
    case c4 => omega
    case c5 => simp; omega
    obtain ⟨T2, hT2⟩ : ∃ T2 : Nat → Prop, T2 = fun k => T' k ∨ (Value.slice ao5 (pre.length + 1) cap5).ownBlock = some k := ⟨_, rfl⟩
    have hs5 := hgrow5.size
    simp only [World.size_alloc] at hs5
    have hs4 := HON.out.size
    have hge : ∀ k, T2 k → T' k ∨ W4.heap.size ≤ k := by
      rw [hT2]
      rintro k (hk | hk)
      · exact .inl hk
      · rcases hat5 with e | e
        · rw [e] at hk; exact .inl (HVO.out k hk).1
        · rw [e] at hk; cases hk; exact .inr (by simp)
    have hf5' : Frm (fun k => T' k ∧ w.heap.size ≤ k) W4 (w5.setCell ⟨w.heap.size + 2, 0, none⟩ (.slice ao5 (pre.length + 1) cap5)) :=
      (((Frm.refl (fun k => T' k ∧ w.heap.size ≤ k) W4).alloc (.cells #[.int .i64 nx, .int .i64 nx] 23)).grown hgrow5 (fun k hk => .inl ⟨(HVO.out k hk).1, (ho4.lt k hk).1⟩)).setCell (.inl ⟨HTL.out, by simp only; omega⟩) _
    have hf5 : Frm (fun k => T' k) W4 (w5.setCell ⟨w.heap.size + 2, 0, none⟩ (.slice ao5 (pre.length + 1) cap5)) := hf5'.mono fun k _ hk => hk.1
    have hlt2 : ∀ k, T2 k → k < (w5.setCell ⟨w.heap.size + 2, 0, none⟩ (.slice ao5 (pre.length + 1) cap5)).heap.size := by
      rw [hT2]
      rintro k (hk | hk)
      · have := HL.out k hk; simp; omega
      · have := (hown5.lt k hk).2; simpa using this
    have hrn : Rnd (fun k => k = m) T' T2 W' (w5.setCell ⟨w.heap.size + 2, 0, none⟩ (.slice ao5 (pre.length + 1) cap5)) :=
      ⟨(HON.out.frm.mono fun k _ hk => .inl hk).trans (hf5.mono fun k _ hk => .inr hk), fun k hk => (hge k hk).elim .inl fun h => .inr (by omega), fun k hk => by rw [hT2]; exact .inl hk, hlt2⟩
    have hbd : Board (w5.setCell ⟨w.heap.size + 2, 0, none⟩ (.slice ao5 (pre.length + 1) cap5)) b m s T2 :=
      HON.out.board.turnGrow hf5 (fun k hk => hk) hge hlt2
    refine ⟨T2, hrn, hbd, ?_⟩
    have hr5 : w5.cell? ⟨w.heap.size, 0, none⟩ = some (.func (.func gq) #[] lbq) := by
      refine grown_cell hgrow5 ((World.cell?_alloc_lt _ _ _ (World.block_lt_of_cell? _ _ hr4)).trans hr4) fun h => tr4 (HVO.out _ h).1
    have hnb : (Value.slice ao5 (pre.length + 1) cap5).ownBlock ≠ some (w.heap.size + 2) := apart_of hat5 hvb (by simp; omega)
    have hnr : ¬ T2 w.heap.size := fun h => (hge _ h).elim tr4 fun h => by omega
    refine ⟨?_, hnr, ⟨_, ?_, ?_, fun k hk => ⟨by rw [hT2]; exact .inr hk, fun e => hnb (by rw [← e]; exact hk)⟩⟩, ?_, by rw [hT2]; exact .inl HTL.out, HCF.out _ _ HC4.out (hf5'.mono fun k hk ht => .inr ht.2), ?_, ?_, ?_, ?_, by rw [hT2]; exact .inl tb4, fun k hk hm => (hf5'.block k (by omega) (fun h => by omega)).trans (HOLD4.out k hk hm), ?_⟩
    · simp [go_sem, hr5]
    · simp [go_sem, hbx]
    · have h6 := ownsRow_setCell hown5 (a := ⟨w.heap.size + 2, 0, none⟩) hnb (.slice ao5 (pre.length + 1) cap5)
      simpa [enc2, HNX.out] using h6
    · rw [World.frozen?_setCell]; exact hbf
    · have h6 := grown_cell hgrow5 ((World.cell?_alloc_lt _ _ _ hbb4).trans rc04) hvn
      simp [go_sem, h6]
    · have h6 := grown_cell hgrow5 ((World.cell?_alloc_lt _ _ _ hbb4).trans rc14) hvn
      simp [go_sem, h6]
    · rw [World.frozen?_setCell]
      exact (grown_frozen hgrow5 (a := ⟨w.heap.size + 1, 0, none⟩) (by simp; omega) hvn).trans ((World.frozen?_alloc_past _ _ _ hbb4).trans rf04)
    · rw [World.frozen?_setCell]
      exact (grown_frozen hgrow5 (a := ⟨w.heap.size + 1, 1, none⟩) (by simp; omega) hvn).trans ((World.frozen?_alloc_past _ _ _ hbb4).trans rf14)
    · intro v' k' h1 h2
      have h3 : (w5.setCell ⟨w.heap.size + 2, 0, none⟩ (.slice ao5 (pre.length + 1) cap5)).cell? ⟨w.heap.size + 2, 0, none⟩ = some (.slice ao5 (pre.length + 1) cap5) := by simp [go_sem, hbx]
      rw [h3] at h1
      cases h1
      rintro rfl
      exact apart_of hat5 hvn (by simp; omega) h2
  case done =>
    rintro D T' W' hD hTD hrn hg hI hK
    obtain ⟨hr, tr, ⟨v, hv, ho, hvo⟩, hfr, tl, hc, e1, e2, k1, k2, tb, hold, hov⟩ := hI
    obtain ⟨ao, cap, rfl⟩ := owns_slice ho
    have hon : ∀ (Z : World), Frm (fun k => k = w.heap.size + 1) W' Z → OnBoard b m s X w (Z.putObj D (.deferred none)) := by
      intro Z hz
      have hKz : Z.heap[D]? = some (.deferred (some [])) := (hz.block D (Array.getElem?_eq_some_iff.1 hK).1 (by omega)).trans hK
      have hput := (board_good b m s).put (.deferred none) (hg.turn hz fun k hk => by rw [hk]; exact tb) hKz rfl (show ¬ D = m by omega)
      have h1 := hrn.pre hb2
      refine ⟨⟨hz.os.trans h1.frm.os, hz.tape.trans h1.frm.tape, hz.output.trans h1.frm.output, by have := h1.frm.size; have := hz.size; simp; omega, fun k hk hs => ?_⟩, hput.sub fun k hk => hrn.keep k (.inl hk)⟩
      rw [World.putObj_heap_other (by omega), hz.block k (by have := h1.frm.size; omega) (by omega)]
      exact hold k hk hs
    have HON := Lib.hid hon
    have HO := Lib.hid ho
    have HGD := Lib.hid hg
    have HRN := Lib.hid hrn
    clear hon ho hvo hc tl tr hrn hg hov tb hold
    by_cases hxs : xs = []
    · subst hxs
      gi_wp2
      obtain ⟨Z, hZ⟩ : ∃ Z, (W'.setCell ⟨w.heap.size + 1, 0, none⟩ (.int .i64 0)).setCell ⟨w.heap.size + 1, 1, none⟩ (.int .i64 0) = Z := ⟨_, rfl⟩
      have hz : Frm (fun k => k = w.heap.size + 1) W' Z := by rw [← hZ]; exact Frm.setCell (S := fun k => k = w.heap.size + 1) (Frm.setCell (S := fun k => k = w.heap.size + 1) (Frm.refl _ _) (.inl rfl) _) (.inl rfl) _
      have z0 : Z.cell? ⟨w.heap.size + 1, 0, none⟩ = some (.int .i64 0) := by rw [← hZ]; simp [go_sem, e1, e2]
      have z1 : Z.cell? ⟨w.heap.size + 1, 1, none⟩ = some (.int .i64 0) := by rw [← hZ]; simp [go_sem, e1, e2]
      rw [hZ]
      have hKz : Z.heap[D]? = some (.deferred (some [])) := (hz.block D (Array.getElem?_eq_some_iff.1 hK).1 (by omega)).trans hK
      have y0 := cell_putObj (.deferred none) z0 hKz rfl
      have y1 := cell_putObj (.deferred none) z1 hKz rfl
      refine ⟨by simp, .inl ⟨_, _, rfl, run_takeDeferred hKz, ?_⟩⟩
      refine ⟨.tuple #[.agg #[.int .i64 0, .int .i64 0], .bool false], ?_, by simp [spanOut], HON.out Z hz⟩
      simp [results, Try.results83, go_sem, y0, y1]
    · have hpr : Prs W' W'.heap.size (.slice ao xs.length cap) (xs.map fun x => (f x, f x)) := by
        have h0 := HO.out
        have := RowsAt.of_owns (enc := enc2) (size := 2) (l := xs.map fun x => (f x, f x)) (fun _ => rfl) (by decide) (e := 23) (base := w.heap.size) (w := W') (v := .slice ao xs.length cap) (by simpa [List.map_map, Function.comp_def] using h0)
        exact this
      have hjn := joined_any _ _ W' hpr (by simpa using hxs)
      have hps2 : 0 < xs.length := List.length_pos_iff.2 hxs
      have hpz : (((xs.length : Nat) : Int) == 0) = false := by simp; omega
      have HJN := Lib.hid hjn
      have hso : spanOut (xs.map f) = .tuple #[.agg #[.int .i64 (joinedL (xs.map fun x => (f x, f x))).1, .int .i64 (joinedL (xs.map fun x => (f x, f x))).2], .bool true] := by
        unfold spanOut; rw [if_neg (by simpa using hxs), List.map_map]; rfl
      have HSO := Lib.hid hso
      obtain ⟨jl, hjl⟩ : ∃ x, joinedL (xs.map fun x => (f x, f x)) = x := ⟨_, rfl⟩
      rw [hjl] at HJN HSO
      clear hso hjl hjn hpr
      gi_wp2_with (refine ⟨trivial, rfl, ?_⟩; gi_at_call 96; refine (callsIn_wide.2 HJN.out).mono ?_; rintro e W5 ⟨rfl, hb5⟩
                   have e1 := cell_old hb5 e1
                   have e2 := cell_old hb5 e2
                   have hbk : w.heap.size + 1 < W'.heap.size := World.block_lt_of_cell? _ _ ‹W'.cell? ⟨w.heap.size + 1, 0, none⟩ = _›
                   have k1 := ((bcell hb5).2 (w.heap.size + 1) 0 hbk).trans k1
                   have k2 := ((bcell hb5).2 (w.heap.size + 1) 1 hbk).trans k2
                   have HB5 := Lib.hid hb5
                   clear hb5)
      obtain ⟨Z, hZ⟩ : ∃ Z, (W5.setCell ⟨w.heap.size + 1, 0, none⟩ (.int .i64 jl.1)).setCell ⟨w.heap.size + 1, 1, none⟩ (.int .i64 jl.2) = Z := ⟨_, rfl⟩
      have hz : Frm (fun k => k = w.heap.size + 1) W' Z := by rw [← hZ]; exact Frm.setCell (S := fun k => k = w.heap.size + 1) (Frm.setCell (S := fun k => k = w.heap.size + 1) (Frm.of_below HB5.out) (.inl rfl) _) (.inl rfl) _
      have z0 : Z.cell? ⟨w.heap.size + 1, 0, none⟩ = some (.int .i64 jl.1) := by rw [← hZ]; simp [go_sem, e1, e2]
      have z1 : Z.cell? ⟨w.heap.size + 1, 1, none⟩ = some (.int .i64 jl.2) := by rw [← hZ]; simp [go_sem, e1, e2]
      rw [hZ]
      have hKz : Z.heap[D]? = some (.deferred (some [])) := (hz.block D (Array.getElem?_eq_some_iff.1 hK).1 (by omega)).trans hK
      have y0 := cell_putObj (.deferred none) z0 hKz rfl
      have y1 := cell_putObj (.deferred none) z1 hKz rfl
      refine ⟨by simp, .inl ⟨_, _, rfl, run_takeDeferred hKz, ?_⟩⟩
      refine ⟨.tuple #[.agg #[.int .i64 jl.1, .int .i64 jl.2], .bool true], ?_, by rw [HSO.out], HON.out Z hz⟩
      simp [results, Try.results83, go_sem, y0, y1]
  case stop =>
    rintro D c T' pre W' hD hTD hrn hg hpre hI hK
    exact hI.elim
end Go.Proofs.Ytojbkpnkcpcioaa
/- The walk of told. -/
namespace Go.Proofs.Ytojbkpnkcpcioaa
open Go.RowKit Go.Sh Go.Sh.Stand Go.Shelf

def everyB (s : Stand) : Nat := 2 ^ s.looks.length - 1
def truthsL (s : Stand) (set : Nat) : List Shearer := (allSh s).filter (rightB s · set)

theorem subs_length (s : Stand) (hs : Fit s) : ∀ f k t, k + f ≤ 3 → (subs s f k t).length ≤ 5 ^ f
  | 0, _, _, _ => by simp [subs]
  | f + 1, k, t, h => by
    have h3 := hs.mins
    have hb := hs.minb (s.mins.getD k (0, 0)) (by rw [List.getD, List.getElem?_eq_getElem (by omega)]; exact List.getElem_mem _)
    rw [subs]
    have key : ∀ n : Nat, n ≤ 5 → ∀ g : Nat → List Shearer, (∀ i, (g i).length ≤ 5 ^ f) → ((List.range n).flatMap g).length ≤ n * 5 ^ f := by
      intro n
      induction n with
      | zero => intro _ g _; simp
      | succ n ih =>
        intro hn g hg
        rw [flat_succ, List.length_append]
        have h1 := ih (by omega) g hg
        have h2 := hg n
        rw [Nat.succ_mul]; omega
    have h5 := key ((s.mins.getD k (0, 0)).2 + 1 - (s.mins.getD k (0, 0)).1).toNat (by omega) (fun (i : Nat) => subs s f (k + 1) (setT t k ((s.mins.getD k (0, 0)).1 + (i : Nat)))) (fun i => subs_length s hs f (k + 1) _ (by omega))
    refine Nat.le_trans h5 ?_
    rw [Nat.pow_succ, Nat.mul_comm (5 ^ f)]
    exact Nat.mul_le_mul_right _ (by omega)
theorem truthsL_length (s : Stand) (hs : Fit s) (set : Nat) : (truthsL s set).length ≤ 1000 := by
  have h1 := List.length_filter_le (rightB s · set) (allSh s)
  have h2 := subs_length s hs 3 0 (0, 0, 0) (by omega)
  unfold truthsL allSh at *
  omega

theorem mem_subs {s : Stand} (hs : Fit s) : ∀ f k t x, k + f = 3 → (∀ j, j < k → ∀ a b c, t = (a, b, c) → (j = 0 → 1 ≤ a ∧ a ≤ 40) ∧ (j = 1 → 1 ≤ b ∧ b ≤ 40) ∧ (j = 2 → 1 ≤ c ∧ c ≤ 40)) → x ∈ subs s f k t → Tok x
  | 0, k, (a, b, c), x, h, ht, hx => by
    simp [subs] at hx
    subst hx
    exact ⟨(ht 0 (by omega) a b c rfl).1 rfl, (ht 1 (by omega) a b c rfl).2.1 rfl, (ht 2 (by omega) a b c rfl).2.2 rfl⟩
  | f + 1, k, (a, b, c), x, h, ht, hx => by
    rw [subs] at hx
    obtain ⟨i, hi, hx⟩ := List.mem_flatMap.1 hx
    have h3 := hs.mins
    have hb := hs.minb (s.mins.getD k (0, 0)) (by rw [List.getD, List.getElem?_eq_getElem (by omega)]; exact List.getElem_mem _)
    refine mem_subs hs f (k + 1) _ x (by omega) ?_ hx
    intro j hj a' b' c' he
    have hi' : (i : Int) < (s.mins.getD k (0, 0)).2 + 1 - (s.mins.getD k (0, 0)).1 := by have := List.mem_range.1 hi; omega
    have hn : 1 ≤ (s.mins.getD k (0, 0)).1 + (i : Int) ∧ (s.mins.getD k (0, 0)).1 + (i : Int) ≤ 40 := by omega
    generalize (s.mins.getD k (0, 0)).1 + (i : Int) = n at he hn
    have hh := ht j
    unfold setT setK at he
    have hk : k = 0 ∨ k = 1 ∨ k = 2 := by omega
    rcases hk with rfl | rfl | rfl
    · simp at he; obtain ⟨rfl, rfl, rfl⟩ := he
      have : j = 0 := by omega
      subst this; simp; exact hn
    · simp at he; obtain ⟨rfl, rfl, rfl⟩ := he
      have : j = 0 ∨ j = 1 := by omega
      rcases this with rfl | rfl
      · have := (ht 0 (by omega) a b c rfl).1 rfl
        simp; exact this
      · simp; exact hn
    · simp at he; obtain ⟨rfl, rfl, rfl⟩ := he
      have : j = 0 ∨ j = 1 ∨ j = 2 := by omega
      rcases this with rfl | rfl | rfl
      · have := (ht 0 (by omega) a b c rfl).1 rfl
        simp; exact this
      · have := (ht 1 (by omega) a b c rfl).2.1 rfl
        simp; exact this
      · simp; exact hn
theorem tok_all {s : Stand} (hs : Fit s) : ∀ t ∈ allSh s, Tok t := fun t ht => mem_subs hs 3 0 (0, 0, 0) t (by omega) (fun j hj => by omega) ht

def toldE (l : List Int) (e : Ending) : Prop := if l = [] then e = .panicked (refusal 10) else e = .returned (.agg #[.int .i64 (joinedL (l.map fun n => (n, n))).1, .int .i64 (joinedL (l.map fun n => (n, n))).2])

set_option maxRecDepth 100000 in
set_option maxHeartbeats 1000000 in
theorem told_any (b m : Nat) (s : Stand) (X : Nat → Prop) (gq : Nat) (lbq : Array Value) (f : Shearer → Int) (w : World) (Cl : World → Prop) (hs : Fit s)
    (eq : ∀ args w, (callFunc gq args).run Try.prog w = .ok (.enter gq args) w)
    (hg : Board w b m s X) (hcl : Cl w) (hcf : ∀ A B, Cl A → Frm (fun k => k = m ∨ w.heap.size ≤ k) A B → Cl B)
    (hf : ∀ x ∈ truthsL s (everyB s), ∀ A Y, Board A b m s Y → Cl A → Calls Try.prog gq (#[keyV x] ++ lbq) A fun e B => e = .returned (.int .i64 (f x)) ∧ OnBoard b m s Y A B) :
    Calls Try.prog 54 #[.pointer (some ⟨b, 0, none⟩), .func (.func gq) #[] lbq] w fun e w' => toldE ((truthsL s (everyB s)).map f) e ∧ OnBoard b m s X w w' := by
  have hml := hg.mlt
  have hll := hs.looks
  have hset : everyB s < 16 := by
    unfold everyB
    have : s.looks.length = 0 ∨ s.looks.length = 1 ∨ s.looks.length = 2 ∨ s.looks.length = 3 ∨ s.looks.length = 4 := by omega
    rcases this with h | h | h | h | h <;> rw [h] <;> decide
  obtain ⟨w1, hw1⟩ : ∃ x, w.alloc (.cells #[.int .i64 0, .int .i64 0] 23) = x := ⟨_, rfl⟩
  have hb1 : Below w.heap.size w w1 := by rw [← hw1]; exact box_below _ _
  have hsz1 : w1.heap.size = w.heap.size + 1 := by rw [← hw1]; simp
  have hg1 : Board w1 b m s (fun k => X k ∨ k = w.heap.size) := hg.grow hb1 (fun k hk => hk.elim .inl fun h => .inr (by omega)) (fun k hk => hk.elim (fun h => by have := hg.xlt k h; omega) fun h => by omega)
  obtain ⟨w2, hw2⟩ : ∃ x, (w1.alloc (.cells #[.pointer (some ⟨b, 0, none⟩)] 70)).alloc (.cells #[.int .u64 (everyB s)] 98) = x := ⟨_, rfl⟩
  have hb2 : Below w1.heap.size w1 w2 := by rw [← hw2]; exact below_two _ _ _
  have hsz2 : w2.heap.size = w1.heap.size + 2 := by rw [← hw2]; simp
  have p1 : w2.cell? ⟨w1.heap.size, 0, none⟩ = some (.pointer (some ⟨b, 0, none⟩)) := by rw [← hw2]; simp [go_sem]
  have p2 : w2.cell? ⟨w1.heap.size + 1, 0, none⟩ = some (.int .u64 (everyB s)) := by rw [← hw2]; simp [go_sem]
  have hb12 := below_trans' hb1 hb2
  have hsp := spanned_any b m s 84 #[.pointer (some ⟨w1.heap.size, 0, none⟩), .pointer (some ⟨w1.heap.size + 1, 0, none⟩)] (fun k => k = w1.heap.size ∨ k = w1.heap.size + 1) (truthsL s (everyB s)) (fun k => X k ∨ k = w.heap.size) gq lbq f w2 Cl (enters_of Try.func84 (by kernel_rfl) rfl) eq (hg1.later hb2)
    (fun w' hw' => truths1_seq b m w1.heap.size (w1.heap.size + 1) (everyB s) s w' hs hset (cell_old hw' p1) (cell_old hw' p2) (by omega) (by omega) (tok_all hs))
    (fun k hk => ⟨by omega, fun h => h.elim (fun h => by have := hg.xlt k h; omega) fun h => by omega⟩) (truthsL_length s hs _) (hcf _ _ hcl (.of_below hb12)) (fun A B ha hab => hcf A B ha (hab.mono fun k _ hk => hk.elim .inl fun h => .inr (by have := hb12.size; omega))) hf
  obtain ⟨lv, h8, ⟨lao, lcap, rfl, _⟩, _⟩ := hg1.looks
  have hev := every_any b lao s.looks.length lcap w1 h8 hll
  have hcast : ((2 : Int) ^ s.looks.length - 1) = ((everyB s : Nat) : Int) := by
    unfold everyB
    have : s.looks.length = 0 ∨ s.looks.length = 1 ∨ s.looks.length = 2 ∨ s.looks.length = 3 ∨ s.looks.length = 4 := by omega
    rcases this with h | h | h | h | h <;> rw [h] <;> decide
  rw [hcast] at hev
  have htr := truths_any b (everyB s) w1
  rw [hw2] at htr
  rw [hsz1, show w.heap.size + 1 + 1 = w.heap.size + 2 from rfl] at hsp htr
  have HEV := Lib.hid hev
  have HTR := Lib.hid htr
  have HON12 : Hid (Below w.heap.size w w2) := hb12
  have hw1s : w.heap.size < w2.heap.size := by omega
  have r0 : w2.cell? ⟨w.heap.size, 0, none⟩ = some (.int .i64 0) := cell_old hb2 (by rw [← hw1]; simp [go_sem])
  have r1 : w2.cell? ⟨w.heap.size, 1, none⟩ = some (.int .i64 0) := cell_old hb2 (by rw [← hw1]; simp [go_sem])
  have fr0 : w2.frozen? ⟨w.heap.size, 0, none⟩ = false := ((bcell hb2).2 _ 0 (by omega)).trans (by rw [← hw1]; simp [go_sem])
  have fr1 : w2.frozen? ⟨w.heap.size, 1, none⟩ = false := ((bcell hb2).2 _ 1 (by omega)).trans (by rw [← hw1]; simp [go_sem])
  obtain ⟨L, hL⟩ : ∃ L, (truthsL s (everyB s)).map f = L := ⟨_, rfl⟩
  rw [hL] at hsp ⊢
  have hw12 : w1 = w.alloc (.cells #[.int .i64 0, .int .i64 0] 23) := hw1.symm
  have HG := Lib.hid hg
  have HB12 := Lib.hid hb12
  clear hL hev htr hf hcf hcl hg hg1 hb1 hb2 p1 p2 hw2 hcast hset h8 hb12
  by_cases hl : L = []
  · subst hl
    simp only [spanOut, if_pos] at hsp
    have HSP := Lib.hid hsp
    clear hsp
    subst hw12
    go_enter Try.func54, Try.ntmps54
    go_wp2_with (first
      | (go_at_call 68; refine HEV.out.mono ?_; rintro e w' ⟨rfl, rfl⟩)
      | (go_at_call 66; refine HTR.out.mono ?_; rintro e w' ⟨rfl, rfl⟩)
      | (go_at_call 83; refine HSP.out.mono ?_; rintro e w3 ⟨rfl, hon⟩; have HON := Lib.hid hon; clear hon)
      | (go_at_call 67; refine (ask_no 10 _).mono ?_; rintro e w' ⟨rfl, rfl⟩))
    refine ⟨rfl, by simp [toldE], ?_⟩
    exact ⟨((Frm.of_below HON12.out).trans HON.out.frm).trans (.of_below (box_below _ _)), (HON.out.board.later (box_below _ _)).sub fun k hk => .inl hk⟩
  · simp only [spanOut, if_neg hl] at hsp
    have HSP := Lib.hid hsp
    clear hsp
    obtain ⟨jl, hjl⟩ : ∃ x, joinedL (L.map fun n => (n, n)) = x := ⟨_, rfl⟩
    rw [hjl] at HSP
    have hte : toldE L (.returned (.agg #[.int .i64 jl.1, .int .i64 jl.2])) := by unfold toldE; rw [if_neg hl, hjl]
    have HTE := Lib.hid hte
    clear hte hjl
    subst hw12
    have hnm : w.heap.size ≠ m := by omega
    go_enter Try.func54, Try.ntmps54
    go_wp2_with (first
      | (go_at_call 68; refine HEV.out.mono ?_; rintro e w' ⟨rfl, rfl⟩)
      | (go_at_call 66; refine HTR.out.mono ?_; rintro e w' ⟨rfl, rfl⟩)
      | (go_at_call 83; refine HSP.out.mono ?_; rintro e w3 ⟨rfl, hon⟩
         have r0 := hon.cell r0 hnm
         have r1 := hon.cell r1 hnm
         have fr0 := (hon.frm.frozen hw1s hnm).trans fr0
         have fr1 := (hon.frm.frozen hw1s hnm).trans fr1
         have hw3s : w.heap.size < w3.heap.size := Nat.lt_of_lt_of_le hw1s hon.size
         have HON := Lib.hid hon
         clear hon)
      | (go_at_call 67; refine (ask_ok 10 _).mono ?_; rintro e w' ⟨rfl, rfl⟩))
    refine bodyPost_ret (by simp [results, Try.results54, go_sem, r0, r1, fr0, fr1, hw3s]) rfl ⟨HTE.out, ?_⟩
    have hz : Frm (fun k => k = w.heap.size) w3 (((w3.setCell ⟨w.heap.size, 0, none⟩ (.int .i64 jl.1)).setCell ⟨w.heap.size, 1, none⟩ (.int .i64 jl.2)).alloc (.cells #[.int .i64 jl.1, .int .i64 jl.2] 23)) :=
      Frm.alloc (Frm.setCell (S := fun k => k = w.heap.size) (Frm.setCell (S := fun k => k = w.heap.size) (Frm.refl _ _) (.inl rfl) _) (.inl rfl) _) _
    have hw3 : Frm (fun k => k = m) w w3 := (Frm.of_below HON12.out).trans HON.out.frm
    refine ⟨⟨hz.os.trans hw3.os, hz.tape.trans hw3.tape, hz.output.trans hw3.output, Nat.le_trans hw3.size hz.size, fun k hk hs => (hz.block k (Nat.lt_of_lt_of_le hk hw3.size) (by omega)).trans (hw3.block k hk hs)⟩, (HON.out.board.turn hz fun k hk => .inr hk).sub fun k hk => .inl hk⟩
end Go.Proofs.Ytojbkpnkcpcioaa
/- The walk of measured. -/
namespace Go.Proofs.Ytojbkpnkcpcioaa
open Go.RowKit Go.Sh Go.Sh.Stand Go.Shelf

set_option maxRecDepth 100000 in
set_option maxHeartbeats 1000000 in
theorem measured1_any (b m : Nat) (s : Stand) (X : Nat → Prop) (ty : Nat) (val : Value) (gm : Nat) (mf : List (Int × Int) → Int) (Bm Bb : Nat) (t : Shearer) (w : World) (hs : Fit s) (ht : Tok t)
    (hg : Board w b m s X) (hm : w.cell? ⟨Bm, 0, none⟩ = some (.iface ty val)) (hb : w.cell? ⟨Bb, 0, none⟩ = some (.pointer (some ⟨b, 0, none⟩))) (nm : Bm ≠ m) (nb : Bb ≠ m)
    (hna : ∀ w, (nilAhead 270 ty val "shearworks/stand.of").run Try.prog w = .ok (some false) w) (hme : ∀ w, (method 270 ty val "shearworks/stand.of").run Try.prog w = .ok (gm, val) w) (eq : ∀ args w, (callFunc gm args).run Try.prog w = .ok (.enter gm args) w)
    (hgm : ∀ A v, Board A b m s X → Prs A A.heap.size v (day s t) → Calls Try.prog gm #[val, .pointer (some ⟨b, 0, none⟩), v] A fun e B => e = .returned (.int .i64 (mf (day s t))) ∧ Below A.heap.size A B) :
    Calls Try.prog 81 #[keyV t, .pointer (some ⟨Bm, 0, none⟩), .pointer (some ⟨Bb, 0, none⟩)] w fun e w' => e = .returned (.int .i64 (mf (day s t))) ∧ OnBoard b m s X w w' := by
  unfold keyV
  obtain ⟨t0, t1, t2⟩ := t
  go_enter Try.func81, Try.ntmps81
  go_upto_region 1 with (fail)
  obtain ⟨x0, hx0⟩ : ∃ x, w.alloc (.cells #[.int .i64 t0, .int .i64 t1, .int .i64 t2] 88) = x := ⟨_, rfl⟩
  have hb0 : Below w.heap.size w x0 := by rw [← hx0]; exact box_below _ _
  have hg0 := hg.later hb0
  have m0 := cell_old hb0 hm
  have b0 := cell_old hb0 hb
  have hml := hg.mlt
  have k0 : x0.cell? ⟨w.heap.size, 0, none⟩ = some (.int .i64 t0) := by rw [← hx0]; simp [go_sem]
  have k1 : x0.cell? ⟨w.heap.size, 1, none⟩ = some (.int .i64 t1) := by rw [← hx0]; simp [go_sem]
  have k2 : x0.cell? ⟨w.heap.size, 2, none⟩ = some (.int .i64 t2) := by rw [← hx0]; simp [go_sem]
  have nk : w.heap.size ≠ m := by omega
  rw [hx0]
  have e0 : ∀ x, OnBoard b m s X x0 x → x.cell? ⟨Bm, 0, none⟩ = some (.iface ty val) := fun x h => h.cell m0 nm
  have e1 : ∀ x, OnBoard b m s X x0 x → x.cell? ⟨Bb, 0, none⟩ = some (.pointer (some ⟨b, 0, none⟩)) := fun x h => h.cell b0 nb
  have f0 : ∀ x, OnBoard b m s X x0 x → x.cell? ⟨w.heap.size, 0, none⟩ = some (.int .i64 t0) := fun x h => h.cell k0 nk
  have f1 : ∀ x, OnBoard b m s X x0 x → x.cell? ⟨w.heap.size, 1, none⟩ = some (.int .i64 t1) := fun x h => h.cell k1 nk
  have f2 : ∀ x, OnBoard b m s X x0 x → x.cell? ⟨w.heap.size, 2, none⟩ = some (.int .i64 t2) := fun x h => h.cell k2 nk
  have HG0 := Lib.hid hg0
  have HG := Lib.hid hg
  have HB0 := Lib.hid hb0
  have HGM := Lib.hid hgm
  clear hx0 hg0 hg hb0 hgm m0 b0 k0 k1 k2 hm hb
  refine wp_region_rel (sz := 14) 8 (fun x y => Board x b m s X → OnBoard b m s X x y) [cV ?rv0, cV ?rv1, cV ?rv2, cV ?rv3, fun v x => Board x b m s X ∧ Prs x x.heap.size v (day s (t0, t1, t2)), cV (.func (.method "shearworks/stand.of") #[.iface ty val] #[]), cV (.func (.method "shearworks/stand.of") #[.iface ty val] #[]), cV (.iface ty val)] (fun _ _ => False) (by kernel_rfl) rfl (by kernel_rfl) (fun h => .of_below h (Below.refl _ _).drew) (fun h1 h2 h => (h1 h).trans (h2 (h1 h).board)) ?rgS ?rgO ?rgP ?rgL ?rgE
  case rgO =>
    refine ⟨?_, ?_, ?_, ?_, ?_, ?_, ?_, ?_, trivial⟩
    all_goals
      intro a x hR hA
      rw [if_pos (by rfl)]
      have hR := hR HG0.out
    · have s2 : a.tmps[1]?.getD undef = .pointer (some ⟨Bm, 0, none⟩) := hA.base 1 (by decide)
      clear hA
      refine rg_val_wide _ ?_ (by simp) rfl (.refl); go_simp; rfl
    · have s2 : a.tmps[2]?.getD undef = .pointer (some ⟨Bb, 0, none⟩) := hA.base 2 (by decide)
      clear hA
      refine rg_val_wide _ ?_ (by simp) rfl (.refl); go_simp; rfl
    · have s2 : a.tmps[2]?.getD undef = .pointer (some ⟨Bb, 0, none⟩) := hA.base 2 (by decide)
      clear hA
      refine rg_val_wide _ ?_ (by simp) rfl (.refl); go_simp; rfl
    · have s2 : a.tmps[3]?.getD undef = .pointer (some ⟨w.heap.size, 0, none⟩) := hA.base 3 (by decide)
      clear hA
      refine rg_val_wide _ ?_ (by simp) rfl (.refl); go_simp; rfl
    · have s2 : a.tmps[7]?.getD undef = _ := hA.pre 2 _ rfl (by kernel_rfl)
      have s3 : a.tmps[8]?.getD undef = _ := hA.pre 3 _ rfl (by kernel_rfl)
      clear hA
      refine rg_call_wide rfl (by go_simp; exact ⟨rfl, rfl⟩) ?_
      refine (day_any b m s X (t0, t1, t2) x hs ht hR.board).mono ?_
      rintro e w2 ⟨v, rfl, hv, hb⟩
      exact ⟨⟨hb.board, hv⟩, fun _ => hb⟩
    · have s2 : a.tmps[5]?.getD undef = _ := hA.pre 0 _ rfl (by kernel_rfl)
      clear hA
      refine rg_val_wide _ ?_ (by simp) rfl (.refl)
      go_simp
    · have s2 : a.tmps[10]?.getD undef = _ := hA.pre 5 _ rfl (by kernel_rfl)
      clear hA
      refine rg_val_wide _ ?_ (by simp) rfl (.refl); go_simp
    · have s2 : a.tmps[5]?.getD undef = _ := hA.pre 0 _ rfl (by kernel_rfl)
      clear hA
      refine rg_val_wide _ ?_ (by simp) rfl (.refl); go_simp
  case rgS =>
    intro V hV u x y hR hu
    simp only [List.mem_cons, List.not_mem_nil, or_false] at hV
    rcases hV with rfl | rfl | rfl | rfl | rfl | rfl | rfl | rfl
    all_goals first | exact hu | skip
    obtain ⟨h1, h2⟩ := hu
    obtain ⟨es, ck, hb, _⟩ := h1.kept
    exact ⟨(hR h1).board, h2.frmM hb (hR h1).frm⟩
  case rgP => intro ch a x h; exact h.elim
  case rgL =>
    rintro ⟨a, x, h⟩
    have h' : Ending.outgrown = Ending.returned (.int .i64 (mf (day s (t0, t1, t2)))) ∧ OnBoard b m s X w x := h
    cases h'.1
  case rgE =>
    intro v0 v1 v2 v3 v4 v5 v6 v7 x hk
    obtain ⟨rfl, rfl, rfl, hv4, rfl, rfl, rfl, rfl, hx⟩ := hk
    simp only [List.drop_succ_cons, List.drop_zero, Act.put, List.setIfInBounds_toArray, List.set_cons_succ, List.set_cons_zero]
    have hx' := hx HG0.out
    have hgc := HGM.out x v4 hx'.board hv4.2
    have HGC := Lib.hid hgc
    have HX := Lib.hid hx'
    clear hx hx' hgc hv4 e0 e1 f0 f1 f2
    go_wp2
    refine HGC.out.mono ?_
    rintro e B ⟨rfl, hb⟩
    have HB := Lib.hid hb
    clear hb
    go_wp2
    go_ret
    exact ⟨rfl, ((OnBoard.of_below HG.out HB0.out).trans HX.out).trans (.of_below HX.out.board HB.out)⟩

set_option maxHeartbeats 1000000 in
theorem measured_any (b m : Nat) (s : Stand) (X : Nat → Prop) (ty : Nat) (val : Value) (gm : Nat) (mf : List (Int × Int) → Int) (w : World) (hs : Fit s)
    (hg : Board w b m s X)
    (hna : ∀ w, (nilAhead 270 ty val "shearworks/stand.of").run Try.prog w = .ok (some false) w) (hme : ∀ w, (method 270 ty val "shearworks/stand.of").run Try.prog w = .ok (gm, val) w) (eq : ∀ args w, (callFunc gm args).run Try.prog w = .ok (.enter gm args) w)
    (hgm : ∀ A X v t, t ∈ allSh s → Board A b m s X → Prs A A.heap.size v (day s t) → Calls Try.prog gm #[val, .pointer (some ⟨b, 0, none⟩), v] A fun e B => e = .returned (.int .i64 (mf (day s t))) ∧ Below A.heap.size A B) :
    Calls Try.prog 44 #[.pointer (some ⟨b, 0, none⟩), .iface ty val] w fun e w' => toldE ((truthsL s (everyB s)).map fun t => mf (day s t)) e ∧ OnBoard b m s X w w' := by
  have hml := hg.mlt
  obtain ⟨w1, hw1⟩ : ∃ x, ((w.alloc (.cells #[.pointer (some ⟨b, 0, none⟩)] 70)).alloc (.cells #[.iface ty val] 122)).alloc (.cells #[.int .i64 0, .int .i64 0] 23) = x := ⟨_, rfl⟩
  have hb1 : Below w.heap.size w w1 := by rw [← hw1]; exact (below_two _ _ _).alloc (by simp; omega) _
  have hsz1 : w1.heap.size = w.heap.size + 3 := by rw [← hw1]; simp
  have hg1 : Board w1 b m s (fun k => X k ∨ k = w.heap.size + 2) := hg.grow hb1 (fun k hk => hk.elim .inl fun h => .inr (by omega)) (fun k hk => hk.elim (fun h => by have := hg.xlt k h; omega) fun h => by omega)
  have p0 : w1.cell? ⟨w.heap.size, 0, none⟩ = some (.pointer (some ⟨b, 0, none⟩)) := by rw [← hw1]; simp [go_sem]
  have p1 : w1.cell? ⟨w.heap.size + 1, 0, none⟩ = some (.iface ty val) := by rw [← hw1]; simp [go_sem]
  have r0 : w1.cell? ⟨w.heap.size + 2, 0, none⟩ = some (.int .i64 0) := by rw [← hw1]; simp [go_sem]
  have r1 : w1.cell? ⟨w.heap.size + 2, 1, none⟩ = some (.int .i64 0) := by rw [← hw1]; simp [go_sem]
  have fr0 : w1.frozen? ⟨w.heap.size + 2, 0, none⟩ = false := by rw [← hw1]; simp [go_sem]
  have fr1 : w1.frozen? ⟨w.heap.size + 2, 1, none⟩ = false := by rw [← hw1]; simp [go_sem]
  have hto := told_any b m s (fun k => X k ∨ k = w.heap.size + 2) 81 #[.pointer (some ⟨w.heap.size + 1, 0, none⟩), .pointer (some ⟨w.heap.size, 0, none⟩)] (fun t => mf (day s t)) w1
    (fun A => A.cell? ⟨w.heap.size + 1, 0, none⟩ = some (.iface ty val) ∧ A.cell? ⟨w.heap.size, 0, none⟩ = some (.pointer (some ⟨b, 0, none⟩))) hs (enters_of Try.func81 (by kernel_rfl) rfl) hg1 ⟨p1, p0⟩
    (fun A B h hf => ⟨hf.cell h.1 (by rintro (h | h) <;> simp only at h <;> omega), hf.cell h.2 (by rintro (h | h) <;> simp only at h <;> omega)⟩)
    (fun x hx A Y hA h => measured1_any b m s Y ty val gm mf (w.heap.size + 1) w.heap.size x A hs (tok_all hs x (List.mem_filter.1 hx).1) hA h.1 h.2 (by omega) (by omega) hna hme eq (fun A' v h1 h2 => hgm A' Y v x (List.mem_filter.1 hx).1 h1 h2))
  obtain ⟨L, hL⟩ : ∃ L, (truthsL s (everyB s)).map (fun t => mf (day s t)) = L := ⟨_, rfl⟩
  rw [hL] at hto ⊢
  have hnm : w.heap.size + 2 ≠ m := by omega
  have hw1s : w.heap.size + 2 < w1.heap.size := by omega
  have HB1 := Lib.hid hb1
  have HG := Lib.hid hg
  clear hL hna hme eq hgm hb1 hg1 hg hsz1
  by_cases hl : L = []
  · subst hl
    simp only [toldE, if_pos] at hto
    have HTO := Lib.hid hto
    clear hto
    subst hw1
    go_enter Try.func44, Try.ntmps44
    go_wp2_with (go_at_call 54; refine HTO.out.mono ?_; rintro e w3 ⟨rfl, hon⟩; have HON := Lib.hid hon; clear hon)
    refine ⟨rfl, by simp [toldE], ?_⟩
    exact ⟨(Frm.of_below HB1.out).trans HON.out.frm, HON.out.board.sub fun k hk => .inl hk⟩
  · obtain ⟨jl, hjl⟩ : ∃ x, joinedL (L.map fun n => (n, n)) = x := ⟨_, rfl⟩
    have hte : toldE L (.returned (.agg #[.int .i64 jl.1, .int .i64 jl.2])) := by unfold toldE; rw [if_neg hl, hjl]
    simp only [toldE, if_neg hl, hjl] at hto
    have HTO := Lib.hid hto
    have HTE := Lib.hid hte
    clear hto hte hjl
    subst hw1
    go_enter Try.func44, Try.ntmps44
    go_wp2_with (go_at_call 54; refine HTO.out.mono ?_; rintro e w3 ⟨rfl, hon⟩
                 have r0 := hon.cell r0 hnm
                 have r1 := hon.cell r1 hnm
                 have fr0 := (hon.frm.frozen hw1s hnm).trans fr0
                 have fr1 := (hon.frm.frozen hw1s hnm).trans fr1
                 have hw3s : w.heap.size + 2 < w3.heap.size := Nat.lt_of_lt_of_le hw1s hon.size
                 have HON := Lib.hid hon
                 clear hon)
    refine bodyPost_ret (by simp [results, Try.results44, go_sem, r0, r1, fr0, fr1, hw3s]) rfl ⟨HTE.out, ?_⟩
    have hz : Frm (fun k => k = w.heap.size + 2) w3 ((w3.setCell ⟨w.heap.size + 2, 0, none⟩ (.int .i64 jl.1)).setCell ⟨w.heap.size + 2, 1, none⟩ (.int .i64 jl.2)) :=
      Frm.setCell (S := fun k => k = w.heap.size + 2) (Frm.setCell (S := fun k => k = w.heap.size + 2) (Frm.refl _ _) (.inl rfl) _) (.inl rfl) _
    have hw3 : Frm (fun k => k = m) w w3 := (Frm.of_below HB1.out).trans HON.out.frm
    exact ⟨⟨hz.os.trans hw3.os, hz.tape.trans hw3.tape, hz.output.trans hw3.output, Nat.le_trans hw3.size hz.size, fun k hk hs => (hz.block k (Nat.lt_of_lt_of_le hk hw3.size) (by omega)).trans (hw3.block k hk hs)⟩, (HON.out.board.turn hz fun k hk => .inr hk).sub fun k hk => .inl hk⟩
end Go.Proofs.Ytojbkpnkcpcioaa
