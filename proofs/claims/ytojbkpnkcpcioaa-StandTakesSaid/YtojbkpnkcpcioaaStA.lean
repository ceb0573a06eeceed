/- Walks through the small functions of package stand. -/
import Derived.Test.YtojbkpnkcpcioaaRows
import Derived.Test.YtojbkpnkcpcioaaBaseC
import Derived.Test.YtojbkpnkcpcioaaStM
set_option linter.all false
namespace Go.Proofs.Ytojbkpnkcpcioaa
open Go.RowKit Go.Sh Go.Sh.Stand

def inB (a b c : Int) : Bool := decide (b ≤ a) && decide (a ≤ c)
def spanB (lo hi low high : Int) : Bool := (decide (low ≤ lo) && decide (lo ≤ hi)) && decide (hi ≤ high)

set_option maxHeartbeats 400000 in
theorem within_any (a b c : Int) (w : World) :
    Calls Try.prog 78 #[.int .i64 a, .int .i64 b, .int .i64 c] w fun e w' => e = .returned (.bool (inB a b c)) ∧ w = w' := by
  go_enter Try.func78, Try.ntmps78
  go_wp2
  all_goals (go_ret; exact ⟨retB (by simp [inB]; omega), rfl⟩)

set_option maxHeartbeats 400000 in
theorem isSpan_any (lo hi b c : Int) (w : World) :
    Calls Try.prog 77 #[.agg #[.int .i64 lo, .int .i64 hi], .int .i64 b, .int .i64 c] w fun e w' => e = .returned (.bool (spanB lo hi b c)) ∧ Below w.heap.size w w' := by
  by_cases h1 : b ≤ lo
  · by_cases h2 : lo ≤ hi
    · go_enter Try.func77, Try.ntmps77
      go_wp2
      go_ret; exact ⟨retB (by simp [spanB]; omega), (Below.refl _ _).alloc (Nat.le_refl _) _⟩
    · go_enter Try.func77, Try.ntmps77
      go_wp2
      go_ret; exact ⟨retB (by simp [spanB]; omega), (Below.refl _ _).alloc (Nat.le_refl _) _⟩
  · go_enter Try.func77, Try.ntmps77
    go_wp2
    go_ret; exact ⟨retB (by simp [spanB]; omega), (Below.refl _ _).alloc (Nat.le_refl _) _⟩

set_option maxHeartbeats 400000 in
theorem isKind_any (a : Int) (w : World) :
    Calls Try.prog 53 #[.int .i64 a] w fun e w' => e = .returned (.bool (inB a 0 2)) ∧ w = w' := by
  go_enter Try.func53, Try.ntmps53
  go_wp2_with (go_at_call 78; refine (within_any _ _ _ _).mono ?_; rintro e w' ⟨rfl, rfl⟩)
  go_ret
  exact ⟨rfl, rfl⟩

set_option maxHeartbeats 400000 in
theorem isMinute_any (a : Int) (w : World) :
    Calls Try.prog 49 #[.int .i64 a] w fun e w' => e = .returned (.bool (inB a 0 999)) ∧ w = w' := by
  go_enter Try.func49, Try.ntmps49
  go_wp2_with (go_at_call 78; refine (within_any _ _ _ _).mono ?_; rintro e w' ⟨rfl, rfl⟩)
  go_ret
  exact ⟨rfl, rfl⟩

set_option maxHeartbeats 400000 in
theorem open1_any (a : Int) (w : World) :
    Calls Try.prog 80 #[.int .i64 a] w fun e w' => e = .returned (.bool (!inB a 0 2)) ∧ w = w' := by
  go_enter Try.func80, Try.ntmps80
  go_wp2_with (go_at_call 53; refine (isKind_any _ _).mono ?_; rintro e w' ⟨rfl, rfl⟩)
  go_ret
  exact ⟨rfl, rfl⟩

set_option maxHeartbeats 400000 in
theorem ask_ok (c : Int) (w : World) :
    Calls Try.prog 67 #[.bool true, .int .i64 c] w fun e w' => e = .returned (.tuple #[]) ∧ w = w' := by
  go_enter Try.func67, Try.ntmps67
  go_wp2
  go_end0
  exact ⟨rfl, rfl⟩

/-- The panic of a refusal. -/
def refusal (c : Int) : List PanicEntry := [{ v := .iface 115 (.int .i64 c), recovered := false }]

set_option maxHeartbeats 400000 in
theorem ask_no (c : Int) (w : World) :
    Calls Try.prog 67 #[.bool false, .int .i64 c] w fun e w' => e = .panicked (refusal c) ∧ w = w' := by
  go_enter Try.func67, Try.ntmps67
  go_wp2
  exact ⟨rfl, rfl, rfl⟩

/-- Either way. -/
def AskPost (b : Bool) (c : Int) (w : World) (e : Ending) (w' : World) : Prop := e = (if b then .returned (.tuple #[]) else .panicked (refusal c)) ∧ w = w'
theorem ask_any (b : Bool) (c : Int) (w : World) : Calls Try.prog 67 #[.bool b, .int .i64 c] w (AskPost b c w) := by
  cases b
  · exact (ask_no c w).mono fun _ _ ⟨h1, h2⟩ => ⟨h1, h2⟩
  · exact (ask_ok c w).mono fun _ _ ⟨h1, h2⟩ => ⟨h1, h2⟩

theorem box_below (w : World) (o : Obj) : Below w.heap.size w (w.alloc o) := (Below.refl _ _).alloc (Nat.le_refl _) _

set_option maxHeartbeats 400000 in
theorem counted_any (m : Int) (bv : Value) (v : Value) (l : List (Int × Int)) (w : World) (h : Prs w w.heap.size v l) (hm : l.length < 100) :
    Calls Try.prog 100 #[.agg #[.int .i64 m], bv, v] w fun e w' => e = .returned (.int .i64 (countAt l m)) ∧ Below w.heap.size w w' := by
  obtain ⟨ao, cap, rfl, hlen, hrow⟩ := h
  have HR := Lib.hid hrow; clear hrow
  go_enter Try.func100, Try.ntmps100
  go_wp2
  go_loopw [6, 11] (fun n i wr => ∃ k : Nat, k ≤ l.length ∧ i = .int .i64 k ∧ n = .int .i64 (countAt (l.take k) m) ∧ Below (w.heap.size + 1) (w.alloc (.cells #[.int .i64 m] 85)) wr) (fun _ i _ => l.length - (intOf i).toNat)
  case atStart => exact ⟨0, by omega, rfl, rfl, Below.refl _ _⟩
  case round =>
    obtain ⟨k, hk, rfl, rfl, hb⟩ := hrel
    have hbox : wr.cell? ⟨w.heap.size, 0, none⟩ = some (.int .i64 m) := (hb.cell (by simp)).trans (by simp)
    have hsz : w.heap.size < wr.heap.size := by have := hb.size; simp at this; omega
    by_cases hlt : k < l.length
    · obtain ⟨b, off, rfl, hbl, hx⟩ := HR.out (by intro e; rw [e] at hlt; simp at hlt)
      have c0 : wr.cell? ⟨b, off + k * 2, none⟩ = some (.int .i64 (l[k]).1) := (hb.cell (by simp; omega)).trans ((World.cell?_alloc_lt _ _ _ hbl).trans (by simpa using hx k l[k] (by simp [hlt]) 0 _ rfl))
      have c1 : wr.cell? ⟨b, off + k * 2 + 1, none⟩ = some (.int .i64 (l[k]).2) := (hb.cell (by simp; omega)).trans ((World.cell?_alloc_lt _ _ _ hbl).trans (by simpa using hx k l[k] (by simp [hlt]) 1 _ rfl))
      have hle := countAt_le (l.take k) m
      have hll : (l.take k).length ≤ k := List.length_take_le _ _
      have HS : Hid (countAt (l.take (k + 1)) m = countAt (l.take k) m + if (l[k]).1 ≤ m then 1 else 0) := by
        rw [List.take_succ_eq_append_getElem hlt, countAt_snoc]; exact Lib.hid rfl
      have HB := Lib.hid hb; clear hb
      go_wp2
      all_goals
        go_roundw
        case rel => exact ⟨k + 1, by omega, by go_num, by rw [HS.out]; first | rw [if_pos ‹_›] | (rw [if_neg (by omega)]; go_num), HB.out.alloc hsz _⟩
        case measure => simp [intOf]; omega
    · have HB := Lib.hid hb; clear hb
      go_wp2
      go_ret
      exact ⟨retI (by rw [List.take_of_length_le (by omega)]), (box_below _ _).trans (HB.out.mono (by simp))⟩

set_option maxHeartbeats 400000 in
theorem begunIn_any (m : Int) (bv : Value) (v : Value) (l : List (Int × Int)) (w : World) (h : Prs w w.heap.size v l) (hm : l.length < 100) :
    Calls Try.prog 119 #[.agg #[.int .i64 m], bv, v] w fun e w' => e = .returned (.int .i64 (begunIn l m)) ∧ Below w.heap.size w w' := by
  obtain ⟨ao, cap, rfl, hlen, hrow⟩ := h
  have HR := Lib.hid hrow; clear hrow
  go_enter Try.func119, Try.ntmps119
  go_wp2
  go_loopw [6, 11] (fun n i wr => ∃ k : Nat, k ≤ l.length ∧ i = .int .i64 k ∧ n = .int .i64 (begunIn (l.take k) m) ∧ Below (w.heap.size + 1) (w.alloc (.cells #[.int .i64 m] 91)) wr) (fun _ i _ => l.length - (intOf i).toNat)
  case atStart => exact ⟨0, by omega, rfl, rfl, Below.refl _ _⟩
  case round =>
    obtain ⟨k, hk, rfl, rfl, hb⟩ := hrel
    have hbox : wr.cell? ⟨w.heap.size, 0, none⟩ = some (.int .i64 m) := (hb.cell (by simp)).trans (by simp)
    have hsz : w.heap.size < wr.heap.size := by have := hb.size; simp at this; omega
    by_cases hlt : k < l.length
    · obtain ⟨b, off, rfl, hbl, hx⟩ := HR.out (by intro e; rw [e] at hlt; simp at hlt)
      have c0 : wr.cell? ⟨b, off + k * 2, none⟩ = some (.int .i64 (l[k]).1) := (hb.cell (by simp; omega)).trans ((World.cell?_alloc_lt _ _ _ hbl).trans (by simpa using hx k l[k] (by simp [hlt]) 0 _ rfl))
      have c1 : wr.cell? ⟨b, off + k * 2 + 1, none⟩ = some (.int .i64 (l[k]).2) := (hb.cell (by simp; omega)).trans ((World.cell?_alloc_lt _ _ _ hbl).trans (by simpa using hx k l[k] (by simp [hlt]) 1 _ rfl))
      have hle := begunIn_le (l.take k) m
      have hll : (l.take k).length ≤ k := List.length_take_le _ _
      have HS : Hid (begunIn (l.take (k + 1)) m = begunIn (l.take k) m + if (l[k]).2 = m then 1 else 0) := by
        rw [List.take_succ_eq_append_getElem hlt, begunIn_snoc]; exact Lib.hid rfl
      have HB := Lib.hid hb; clear hb
      by_cases hq : (l[k]).2 = m
      · have hq' : ((l[k]).2 == m) = true := by simp [hq]
        have HQ := Lib.hid hq; clear hq
        go_wp2
        go_roundw
        case rel => exact ⟨k + 1, by omega, by go_num, by rw [HS.out, if_pos HQ.out], HB.out.alloc hsz _⟩
        case measure => simp [intOf]; omega
      · have hq' : ((l[k]).2 == m) = false := by simp [hq]
        have HQ := Lib.hid hq; clear hq
        go_wp2
        go_roundw
        case rel => exact ⟨k + 1, by omega, by go_num, by rw [HS.out, if_neg HQ.out]; go_num, HB.out.alloc hsz _⟩
        case measure => simp [intOf]; omega
    · have HB := Lib.hid hb; clear hb
      go_wp2
      go_ret
      exact ⟨retI (by rw [List.take_of_length_le (by omega)]), (box_below _ _).trans (HB.out.mono (by simp))⟩

set_option maxHeartbeats 400000 in
theorem doneAt_any (k : Nat) (bv : Value) (v : Value) (l : List (Int × Int)) (w : World) (h : Prs w w.heap.size v l) (hk : k < l.length) :
    Calls Try.prog 118 #[.agg #[.int .i64 k], bv, v] w fun e w' => e = .returned (.int .i64 (l.getD k (0, 0)).1) ∧ Below w.heap.size w w' := by
  obtain ⟨ao, cap, rfl, hlen, hrow⟩ := h
  obtain ⟨b, off, rfl, hbl, hx⟩ := hrow (by intro e; rw [e] at hk; simp at hk)
  have c0 : w.cell? ⟨b, off + k * 2, none⟩ = some (.int .i64 (l[k]).1) := by simpa using hx k l[k] (by simp [hk]) 0 _ rfl
  have hg : l.getD k (0, 0) = l[k] := by simp [List.getD, hk]
  rw [hg]
  clear hx hg
  go_enter Try.func118, Try.ntmps118
  go_wp2
  go_ret
  exact ⟨rfl, box_below _ _⟩

theorem begins_skip (rs : List (Int × Int)) (k : Nat) (done : Int) (h : k < rs.length) :
    begins (rs.drop k) k done = if gmax done (rs[k]).1 < (rs[k]).2 then some (k, gmax done (rs[k]).1) else begins (rs.drop (k + 1)) (k + 1) done := by
  rw [List.drop_eq_getElem_cons h, begins]

def begEnd : Option (Nat × Int) → Value
  | some (i, at_) => .tuple #[.int .i64 i, .int .i64 at_, .bool true]
  | none => .tuple #[.int .i64 0, .int .i64 0, .bool false]
theorem ret_of {v u : Value} (h : v = u) : Ending.returned v = .returned u := by rw [h]

set_option maxHeartbeats 400000 in
theorem begins_any (b : Nat) (v : Value) (rs : List (Int × Int)) (run : Nat) (done : Int) (w : World)
    (hb6 : w.cell? ⟨b, 6, none⟩ = some v) (h : Prs w w.heap.size v rs) (hr : run ≤ rs.length) :
    Calls Try.prog 95 #[.pointer (some ⟨b, 0, none⟩), .int .i64 run, .int .i64 done] w fun e w' => e = .returned (begEnd (begins (rs.drop run) run done)) ∧ w = w' := by
  obtain ⟨ao, cap, rfl, hlen, hrow⟩ := h
  have HR := Lib.hid hrow; clear hrow
  obtain ⟨target, ht⟩ : ∃ t, begEnd (begins (rs.drop run) run done) = t := ⟨_, rfl⟩
  rw [ht]
  have HT := Lib.hid ht; clear ht
  go_enter Try.func95, Try.ntmps95
  go_wp2
  go_loop [9] (fun i => ∃ k : Nat, run ≤ k ∧ k ≤ rs.length ∧ i = .int .i64 k ∧ begEnd (begins (rs.drop k) k done) = target) (fun i => rs.length - (intOf i).toNat)
  case atStart => exact ⟨run, by omega, by omega, rfl, HT.out⟩
  case round =>
    obtain ⟨k, hk0, hk, rfl, hk2⟩ := hrel
    have HK := Lib.hid hk2; clear hk2
    by_cases hlt : k < rs.length
    · obtain ⟨rb, off, rfl, hbl, hx⟩ := HR.out (by intro e; rw [e] at hlt; simp at hlt)
      have c0 : w.cell? ⟨rb, off + k * 2, none⟩ = some (.int .i64 (rs[k]).1) := by simpa using hx k rs[k] (by simp [hlt]) 0 _ rfl
      have c1 : w.cell? ⟨rb, off + k * 2 + 1, none⟩ = some (.int .i64 (rs[k]).2) := by simpa using hx k rs[k] (by simp [hlt]) 1 _ rfl
      clear hx
      have hs := begins_skip rs k done hlt
      unfold gmax at hs
      by_cases hd : done < (rs[k]).1
      · rw [if_pos hd] at hs
        by_cases hq : (rs[k]).1 < (rs[k]).2
        · rw [if_pos hq] at hs
          have HS := Lib.hid hs; clear hs
          go_wp2
          go_ret3
          refine ⟨ret_of ?_, rfl⟩
          rw [← HK.out, HS.out]; rfl
        · rw [if_neg hq] at hs
          have HS := Lib.hid hs; clear hs
          go_wp2
          go_round
          case rel => exact ⟨k + 1, by omega, by omega, by go_num, by rw [← HK.out, HS.out]⟩
          case measure => simp [intOf]; omega
      · rw [if_neg hd] at hs
        by_cases hq : done < (rs[k]).2
        · rw [if_pos hq] at hs
          have HS := Lib.hid hs; clear hs
          go_wp2
          go_ret3
          refine ⟨ret_of ?_, rfl⟩
          rw [← HK.out, HS.out]; rfl
        · rw [if_neg hq] at hs
          have HS := Lib.hid hs; clear hs
          go_wp2
          go_round
          case rel => exact ⟨k + 1, by omega, by omega, by go_num, by rw [← HK.out, HS.out]⟩
          case measure => simp [intOf]; omega
    · go_wp2
      go_ret3
      refine ⟨ret_of ?_, rfl⟩
      rw [← HK.out, List.drop_eq_nil_of_le (by omega)]; rfl
end Go.Proofs.Ytojbkpnkcpcioaa
