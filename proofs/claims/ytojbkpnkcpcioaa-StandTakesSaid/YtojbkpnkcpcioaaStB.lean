/- Walks through more small functions of package stand. -/
import Derived.Test.YtojbkpnkcpcioaaStA
set_option linter.all false
namespace Go.Proofs.Ytojbkpnkcpcioaa
open Go.RowKit Go.Sh Go.Sh.Stand

set_option maxHeartbeats 400000 in
theorem after_any (a b c : Int) (at_ k : Int) (w : World) (hk : 0 ≤ k ∧ k ≤ 2) (ha : 0 ≤ a ∧ a ≤ 1000) (hb : 0 ≤ b ∧ b ≤ 1000) (hc : 0 ≤ c ∧ c ≤ 1000) (hat : 0 ≤ at_ ∧ at_ ≤ 100000) :
    Calls Try.prog 94 #[.agg #[.int .i64 a, .int .i64 b, .int .i64 c], .int .i64 at_, .int .i64 k] w fun e w' => e = .returned (.int .i64 (at_ + tk (a, b, c) k)) ∧ Below w.heap.size w w' := by
  obtain rfl | rfl | rfl : k = 0 ∨ k = 1 ∨ k = 2 := by omega
  · go_enter Try.func94, Try.ntmps94
    go_wp2
    go_ret; exact ⟨rfl, box_below _ _⟩
  · go_enter Try.func94, Try.ntmps94
    go_wp2
    go_ret; exact ⟨rfl, box_below _ _⟩
  · go_enter Try.func94, Try.ntmps94
    go_wp2
    go_ret; exact ⟨rfl, box_below _ _⟩

theorem below_two (w : World) (o o' : Obj) : Below w.heap.size w ((w.alloc o).alloc o') := (box_below _ _).alloc (by simp) _

def setK (a b c : Int) (k n : Int) : Shearer := if k = 0 then (n, b, c) else if k = 1 then (a, n, c) else (a, b, n)
set_option maxHeartbeats 400000 in
theorem with_any (a b c : Int) (k n : Int) (w : World) (hk : 0 ≤ k ∧ k ≤ 2) :
    Calls Try.prog 99 #[.agg #[.int .i64 a, .int .i64 b, .int .i64 c], .int .i64 k, .int .i64 n] w fun e w' => e = .returned (.agg #[.int .i64 (setK a b c k n).1, .int .i64 (setK a b c k n).2.1, .int .i64 (setK a b c k n).2.2]) ∧ Below w.heap.size w w' := by
  obtain rfl | rfl | rfl : k = 0 ∨ k = 1 ∨ k = 2 := by omega
  all_goals
    go_enter Try.func99, Try.ntmps99
    go_wp2
    refine bodyPost_ret (by simp [results, Try.results99, go_sem]; exact ⟨rfl, rfl, rfl⟩) rfl ⟨rfl, ?_⟩
    exact below_two _ _ _

set_option maxHeartbeats 400000 in
theorem isSheep_any (b : Nat) (ao : Option Addr) (n cap : Nat) (k : Int) (w : World) (hb : w.cell? ⟨b, 7, none⟩ = some (.slice ao n cap)) (hn : n < 1000) :
    Calls Try.prog 43 #[.pointer (some ⟨b, 0, none⟩), .int .i64 k] w fun e w' => e = .returned (.bool (inB k 0 (n - 1))) ∧ w = w' := by
  go_enter Try.func43, Try.ntmps43
  go_wp2_with (go_at_call 78; refine (within_any _ _ _ _).mono ?_; rintro e w' ⟨rfl, rfl⟩)
  go_ret
  exact ⟨rfl, rfl⟩

set_option maxHeartbeats 400000 in
theorem isRun_any (b : Nat) (ao : Option Addr) (n cap : Nat) (k : Int) (w : World) (hb : w.cell? ⟨b, 6, none⟩ = some (.slice ao n cap)) (hn : n < 1000) :
    Calls Try.prog 58 #[.pointer (some ⟨b, 0, none⟩), .int .i64 k] w fun e w' => e = .returned (.bool (inB k 0 (n - 1))) ∧ w = w' := by
  go_enter Try.func58, Try.ntmps58
  go_wp2_with (go_at_call 78; refine (within_any _ _ _ _).mono ?_; rintro e w' ⟨rfl, rfl⟩)
  go_ret
  exact ⟨rfl, rfl⟩

set_option maxHeartbeats 400000 in
theorem every_any (b : Nat) (ao : Option Addr) (n cap : Nat) (w : World) (hb : w.cell? ⟨b, 8, none⟩ = some (.slice ao n cap)) (hn : n ≤ 4) :
    Calls Try.prog 68 #[.pointer (some ⟨b, 0, none⟩)] w fun e w' => e = .returned (.int .u64 (2 ^ n - 1)) ∧ w = w' := by
  obtain rfl | rfl | rfl | rfl | rfl : n = 0 ∨ n = 1 ∨ n = 2 ∨ n = 3 ∨ n = 4 := by omega
  all_goals
    go_enter Try.func68, Try.ntmps68
    go_wp2
    go_ret
    exact ⟨rfl, rfl⟩

set_option maxHeartbeats 400000 in
theorem over_any (b : Nat) (k : Nat) (rv : Value) (rs : List (Int × Int)) (v : Value) (l : List (Int × Int)) (w : World) (hb6 : w.cell? ⟨b, 6, none⟩ = some rv) (hr : Prs w w.heap.size rv rs) (h : Prs w w.heap.size v l) (hm : l.length < 100) (hk : k < rs.length)
    (hB : 0 ≤ (rs.getD k (0, 0)).2 ∧ (rs.getD k (0, 0)).2 ≤ 1000) (hl : ∀ x ∈ l, 0 ≤ x.1 ∧ x.1 ≤ 1000) :
    Calls Try.prog 120 #[.agg #[.int .i64 k], .pointer (some ⟨b, 0, none⟩), v] w fun e w' => e = .returned (.int .i64 (overOf l k (rs.getD k (0, 0)).2)) ∧ Below w.heap.size w w' := by
  have h' := h
  obtain ⟨ao, cap, rfl, hlen, hrow⟩ := h
  have HR := Lib.hid hrow; clear hrow
  have H := Lib.hid h'; clear h'
  have HL := Lib.hid hl; clear hl
  have HRS := Lib.hid hr; clear hr
  by_cases hz : begunIn l k = 0
  · have hov : overOf l k (rs.getD k (0, 0)).2 = 0 := by unfold overOf; rw [if_pos hz]
    rw [hov]; clear hov
    have hz' : (begunIn l k == 0) = true := by simp [hz]
    have HZ := Lib.hid hz; clear hz
    go_enter Try.func120, Try.ntmps120
    go_wp2_with (go_at_call 119; refine (begunIn_any _ _ _ _ _ (H.out.below (box_below _ _) |>.mono (by simp)) hm).mono ?_; rintro e w' ⟨rfl, hb1⟩)
    go_ret
    exact ⟨rfl, (box_below _ _).trans (hb1.mono (by simp))⟩
  · have hov : overOf l k (rs.getD k (0, 0)).2 = gmax 0 (lastOf l k - (rs.getD k (0, 0)).2) := by unfold overOf; rw [if_neg hz]
    rw [hov]; clear hov
    have hz' : (begunIn l k == 0) = false := by simp [hz]
    have HZ := Lib.hid hz; clear hz
    obtain ⟨bell, hbell⟩ : ∃ x, (rs.getD k (0, 0)).2 = x := ⟨_, rfl⟩
    rw [hbell] at hB ⊢
    have hcells : ∃ rb off cap', rv = .slice (some ⟨rb, off, none⟩) rs.length cap' ∧ rs.length ≤ 9223372036854775807 ∧ w.cell? ⟨rb, off + k * 2 + 1, none⟩ = some (.int .i64 bell) := by
      obtain ⟨ao', cap', rfl, hm', hrow'⟩ := HRS.out
      obtain ⟨rb, off, rfl, _, hx⟩ := hrow' (by intro e; rw [e] at hk; simp at hk)
      exact ⟨rb, off, cap', rfl, hm', by rw [← hbell]; simpa [List.getD, hk] using hx k rs[k] (by simp [hk]) 1 _ rfl⟩
    obtain ⟨rb, off, cap', rfl, hlr, hcb⟩ := hcells
    clear hbell
    go_enter Try.func120, Try.ntmps120
    go_wp2_with (go_at_call 119; refine (begunIn_any _ _ _ _ _ (H.out.below (box_below _ _) |>.mono (by simp)) hm).mono ?_; rintro e w' ⟨rfl, hb1⟩)
    have hbox1 : w'.cell? ⟨w.heap.size, 0, none⟩ = some (.int .i64 k) := (hb1.cell (by simp)).trans (by simp)
    have hs1 : w.heap.size < w'.heap.size := by have := hb1.size; simp at this; omega
    have hb0 : Below w.heap.size w w' := (box_below _ _).trans (hb1.mono (by simp))
    have hcb1 : w'.cell? ⟨rb, off + k * 2 + 1, none⟩ = some (.int .i64 bell) := cell_old hb0 hcb
    have h61 : w'.cell? ⟨b, 6, none⟩ = some (.slice (some ⟨rb, off, none⟩) rs.length cap') := cell_old hb0 hb6
    have H1 := Lib.hid (H.out.below hb0)
    have HB0 := Lib.hid hb0
    clear hb1 hcb hb6 hb0
    go_loopw [7, 18] (fun n i wr => ∃ j : Nat, j ≤ l.length ∧ i = .int .i64 j ∧ n = .int .i64 (lastOf (l.take j) k) ∧ Below w'.heap.size w' wr) (fun _ i _ => l.length - (intOf i).toNat)
    case atStart => exact ⟨0, by omega, rfl, rfl, Below.refl _ _⟩
    case round =>
      obtain ⟨j, hj, rfl, rfl, hb⟩ := hrel
      have hbox : wr.cell? ⟨w.heap.size, 0, none⟩ = some (.int .i64 k) := cell_old hb hbox1
      have hsz : w.heap.size < wr.heap.size := Nat.lt_of_lt_of_le hs1 hb.size
      by_cases hlt : j < l.length
      · obtain ⟨ao2, cap2, hv2, _, hrow2⟩ := H1.out
        cases hv2
        obtain ⟨lb, lo, rfl, hbl, hx⟩ := hrow2 (by intro e; rw [e] at hlt; simp at hlt)
        have c0 : wr.cell? ⟨lb, lo + j * 2, none⟩ = some (.int .i64 (l[j]).1) := cell_old hb (by simpa using hx j l[j] (by simp [hlt]) 0 _ rfl)
        have c1 : wr.cell? ⟨lb, lo + j * 2 + 1, none⟩ = some (.int .i64 (l[j]).2) := cell_old hb (by simpa using hx j l[j] (by simp [hlt]) 1 _ rfl)
        clear hx hrow2
        have HS : Hid (lastOf (l.take (j + 1)) k = if (l[j]).2 = k then (l[j]).1 else lastOf (l.take j) k) := by
          rw [List.take_succ_eq_append_getElem hlt, lastOf_snoc]; exact Lib.hid rfl
        have hsz2 := hb.size
        have HB := Lib.hid hb; clear hb
        by_cases hq : (l[j]).2 = k
        · have hq' : ((l[j]).2 == (k : Int)) = true := by simp [hq]
          have HQ := Lib.hid hq; clear hq
          go_wp2
          go_roundw
          case rel => exact ⟨j + 1, by omega, by go_num, by rw [HS.out, if_pos HQ.out], HB.out.alloc hsz2 _⟩
          case measure => simp [intOf]; omega
        · have hq' : ((l[j]).2 == (k : Int)) = false := by simp [hq]
          have HQ := Lib.hid hq; clear hq
          go_wp2
          go_roundw
          case rel => exact ⟨j + 1, by omega, by go_num, by rw [HS.out, if_neg HQ.out], HB.out.alloc hsz2 _⟩
          case measure => simp [intOf]; omega
      · have hw1 : wr.cell? ⟨rb, off + k * 2 + 1, none⟩ = some (.int .i64 bell) := cell_old hb hcb1
        have hw2 : wr.cell? ⟨b, 6, none⟩ = some (.slice (some ⟨rb, off, none⟩) rs.length cap') := cell_old hb h61
        have hrg := lastOf_range l k HL.out
        have HE : Hid (List.take j l = l) := Lib.hid (List.take_of_length_le (by omega))
        have HB := Lib.hid hb; clear hb hcb1 h61
        rw [HE.out]
        have hki : (k : Int) < (rs.length : Int) := by omega
        go_wp2
        go_quiet (fail)
        go_wp2
        all_goals
          go_ret
          exact ⟨retI (by unfold gmax; first | rw [if_pos (by omega)] | rw [if_neg (by omega)]), below_drewN (HB0.out.trans (HB.out.mono HB0.out.size)) _⟩

theorem any_snoc {α : Type} (l : List α) (p : α → Bool) (x : α) : (l ++ [x]).any p = (l.any p || p x) := by simp

set_option maxHeartbeats 1000000 in
theorem late_any (b : Nat) (k : Nat) (rv : Value) (s : Stand) (v : Value) (l : List (Int × Int)) (w : World) (hb6 : w.cell? ⟨b, 6, none⟩ = some rv) (hr : Prs w w.heap.size rv s.runs) (h : Prs w w.heap.size v l) (hm : l.length < 100) (hk : k < s.runs.length) :
    Calls Try.prog 121 #[.agg #[.int .i64 k], .pointer (some ⟨b, 0, none⟩), v] w fun e w' => e = .returned (.int .i64 (if lateOf s l k then 1 else 0)) ∧ Below w.heap.size w w' := by
  obtain ⟨start, hstart⟩ : ∃ x, (s.runs.getD k (0, 0)).1 = x := ⟨_, rfl⟩
  have hcells : ∃ rb off cap', rv = .slice (some ⟨rb, off, none⟩) s.runs.length cap' ∧ s.runs.length ≤ 9223372036854775807 ∧ w.cell? ⟨rb, off + k * 2, none⟩ = some (.int .i64 start) := by
    obtain ⟨ao', cap', rfl, hm', hrow'⟩ := hr
    obtain ⟨rb, off, rfl, _, hx⟩ := hrow' (by intro e; rw [e] at hk; simp at hk)
    exact ⟨rb, off, cap', rfl, hm', by rw [← hstart]; simpa [List.getD, hk] using hx k s.runs[k] (by simp [hk]) 0 _ rfl⟩
  obtain ⟨rb, off, cap', rfl, hlr, hcb⟩ := hcells
  have hlate : lateOf s l k = l.any fun x => decide (0 ≤ x.2) && (decide (x.2 < (k : Int)) && decide (start < x.1)) := by unfold lateOf; rw [hstart]
  rw [hlate]
  obtain ⟨t, ht⟩ : ∃ t : Int, (if (l.any fun x => decide (0 ≤ x.2) && (decide (x.2 < (k : Int)) && decide (start < x.1))) = true then 1 else 0) = t := ⟨_, rfl⟩
  rw [ht]
  have HGT := Lib.hid ht
  clear hlate hstart hr ht
  obtain ⟨ao, cap, rfl, hlen, hrow⟩ := h
  have HR := Lib.hid hrow; clear hrow
  obtain ⟨rl, hrl⟩ : ∃ n, s.runs.length = n := ⟨_, rfl⟩
  rw [hrl] at hk hlr hb6
  clear hrl
  go_enter Try.func121, Try.ntmps121
  go_wp2
  go_loopw [11] (fun i wr => ∃ j : Nat, j ≤ l.length ∧ i = .int .i64 j ∧ Hid ((l.take j).any (fun x => decide (0 ≤ x.2) && (decide (x.2 < (k : Int)) && decide (start < x.1))) = false) ∧ Below (w.heap.size + 1) (w.alloc (.cells #[.int .i64 k] 96)) wr) (fun i _ => l.length - (intOf i).toNat)
  case atStart => exact ⟨0, by omega, rfl, Lib.hid rfl, Below.refl _ _⟩
  case round =>
    obtain ⟨j, hj, rfl, HA, hb⟩ := hrel
    have hbox : wr.cell? ⟨w.heap.size, 0, none⟩ = some (.int .i64 k) := (hb.cell (by simp)).trans (by simp)
    have hsz : w.heap.size < wr.heap.size := by have := hb.size; simp at this; omega
    have hbw : Below w.heap.size w wr := (box_below _ _).trans (hb.mono (by simp))
    by_cases hlt : j < l.length
    · obtain ⟨lb, lo, rfl, hbl, hx⟩ := HR.out (by intro e; rw [e] at hlt; simp at hlt)
      have c0 : wr.cell? ⟨lb, lo + j * 2, none⟩ = some (.int .i64 (l[j]).1) := cell_old hbw (by simpa using hx j l[j] (by simp [hlt]) 0 _ rfl)
      have c1 : wr.cell? ⟨lb, lo + j * 2 + 1, none⟩ = some (.int .i64 (l[j]).2) := cell_old hbw (by simpa using hx j l[j] (by simp [hlt]) 1 _ rfl)
      have hw1 : wr.cell? ⟨rb, off + k * 2, none⟩ = some (.int .i64 start) := cell_old hbw hcb
      have hw2 : wr.cell? ⟨b, 6, none⟩ = some (.slice (some ⟨rb, off, none⟩) rl cap') := cell_old hbw hb6
      have h3 : rb < wr.heap.size := World.block_lt_of_cell? _ _ hw1
      have h4 : b < wr.heap.size := World.block_lt_of_cell? _ _ hw2
      clear hx
      obtain ⟨x1, hx1⟩ : ∃ x, (l[j]).1 = x := ⟨_, rfl⟩
      obtain ⟨x2, hx2⟩ : ∃ x, (l[j]).2 = x := ⟨_, rfl⟩
      have HS : Hid ((l.take (j + 1)).any (fun x => decide (0 ≤ x.2) && (decide (x.2 < (k : Int)) && decide (start < x.1))) = (decide (0 ≤ x2) && (decide (x2 < (k : Int)) && decide (start < x1)))) := by
        rw [List.take_succ_eq_append_getElem hlt, any_snoc, HA.out, ← hx1, ← hx2]; exact Lib.hid (by simp)
      have HT : Hid ((decide (0 ≤ x2) && (decide (x2 < (k : Int)) && decide (start < x1))) = true → l.any (fun x => decide (0 ≤ x.2) && (decide (x.2 < (k : Int)) && decide (start < x.1))) = true) :=
        Lib.hid fun h => List.any_eq_true.2 ⟨l[j], List.getElem_mem hlt, by rw [hx1, hx2]; exact h⟩
      rw [hx1] at c0
      rw [hx2] at c1
      have hsz2 := hb.size
      have hki : (k : Int) < (rl : Int) := by omega
      have HBW := Lib.hid hbw; clear hbw
      have HB := Lib.hid hb; clear hb hx1 hx2 hcb hb6
      by_cases g1 : 0 ≤ x2
      · by_cases g2 : x2 < (k : Int)
        · by_cases g3 : start < x1
          · go_wp2
            go_quiet (fail)
            go_wp2
            go_ret
            exact ⟨retI (by rw [← HGT.out, if_pos (HT.out (by simp [g1, g2, g3]))]), below_drewN (HBW.out.alloc (by omega) _) _⟩
          · have g3' : decide (start < x1) = false := by simp; omega
            go_wp2
            go_quiet (fail)
            go_wp2
            go_roundw
            case rel => exact ⟨j + 1, by omega, by go_num, Lib.hid (by rw [HS.out]; simp; omega), below_drewN (HB.out.alloc (by omega) _) _⟩
            case measure => simp [intOf]; omega
        · have g2' : decide (x2 < (k : Int)) = false := by simp; omega
          go_wp2
          go_quiet (fail)
          go_wp2
          go_roundw
          case rel => exact ⟨j + 1, by omega, by go_num, Lib.hid (by rw [HS.out]; simp; omega), below_drewN (HB.out.alloc (by omega) _) _⟩
          case measure => simp [intOf]; omega
      · have g1' : decide (0 ≤ x2) = false := by simp; omega
        go_wp2
        go_quiet (fail)
        go_wp2
        go_roundw
        case rel => exact ⟨j + 1, by omega, by go_num, Lib.hid (by rw [HS.out]; simp; omega), below_drewN (HB.out.alloc (by omega) _) _⟩
        case measure => simp [intOf]; omega
    · have HB := Lib.hid hb; clear hb
      have HE : Hid (List.take j l = l) := Lib.hid (List.take_of_length_le (by omega))
      rw [HE.out] at HA
      go_wp2
      go_ret
      exact ⟨retI (by rw [← HGT.out, if_neg (by rw [HA.out]; simp)]), (box_below _ _).trans (HB.out.mono (by simp))⟩
end Go.Proofs.Ytojbkpnkcpcioaa
