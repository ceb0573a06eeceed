/- Walks: joined; the search for a wrong kind; the deferred answer. -/
import Derived.Test.YtojbkpnkcpcioaaStB
set_option linter.all false
namespace Go.Proofs.Ytojbkpnkcpcioaa
open Go.RowKit Go.Sh Go.Sh.Stand

theorem foldl_take_snoc {α β : Type} (f : β → α → β) (b : β) (l : List α) {k : Nat} (h : k < l.length) : (l.take (k + 1)).foldl f b = f ((l.take k).foldl f b) l[k] := by
  rw [List.take_succ_eq_append_getElem h, List.foldl_append]; rfl

set_option maxHeartbeats 1000000 in
theorem joined_any (v : Value) (l : List (Int × Int)) (w : World) (h : Prs w w.heap.size v l) (hm : l ≠ []) :
    Calls Try.prog 96 #[v] w fun e w' => e = .returned (.agg #[.int .i64 (joinedL l).1, .int .i64 (joinedL l).2]) ∧ Below w.heap.size w w' := by
  obtain ⟨ao, cap, rfl, hlen, hrow⟩ := h
  obtain ⟨lb, lo, rfl, hbl, hx⟩ := hrow hm
  have hpos : 0 < l.length := by cases l <;> simp_all
  have c00 : w.cell? ⟨lb, lo, none⟩ = some (.int .i64 (l[0]).1) := by simpa using hx 0 l[0] (by simp [hpos]) 0 _ rfl
  have c01 : w.cell? ⟨lb, lo + 1, none⟩ = some (.int .i64 (l[0]).2) := by simpa using hx 0 l[0] (by simp [hpos]) 1 _ rfl
  have hhd : l.headD (0, 0) = l[0] := by cases l <;> simp_all
  obtain ⟨t, ht⟩ : ∃ t, joinedL l = t := ⟨_, rfl⟩
  unfold joinedL at ht
  rw [hhd] at ht
  unfold joinedL
  rw [hhd, ht]
  have HT := Lib.hid ht
  have HX := Lib.hid hx
  clear hx ht hhd hrow hm
  obtain ⟨h0, hh0⟩ : ∃ x, l[0] = x := ⟨_, rfl⟩
  rw [hh0] at c00 c01 HT
  clear hh0
  go_enter Try.func96, Try.ntmps96
  go_wp2
  go_loopw [11] (fun i wr => ∃ j : Nat, j ≤ l.length ∧ i = .int .i64 j ∧ ∃ p : Int × Int, Hid ((l.take j).foldl jn h0 = p) ∧ Below (w.heap.size + 1) ((w.alloc (.cells #[.int .i64 0, .int .i64 0] 23)).alloc (.cells #[.int .i64 h0.1, .int .i64 h0.2] 23)) wr ∧ w.heap.size + 1 < wr.heap.size ∧
      wr.cell? ⟨w.heap.size + 1, 0, none⟩ = some (.int .i64 p.1) ∧ wr.cell? ⟨w.heap.size + 1, 1, none⟩ = some (.int .i64 p.2) ∧ wr.frozen? ⟨w.heap.size + 1, 0, none⟩ = false ∧ wr.frozen? ⟨w.heap.size + 1, 1, none⟩ = false) (fun i _ => l.length - (intOf i).toNat)
  case atStart => exact ⟨0, by omega, rfl, h0, Lib.hid rfl, Below.refl _ _, by simp, by simp [go_sem], by simp [go_sem], by simp [go_sem], by simp [go_sem]⟩
  case round =>
    obtain ⟨j, hj, rfl, p, HP, hb, hsz, s0, s1, f0, f1⟩ := hrel
    have hbw : Below w.heap.size w wr := (below_two _ _ _).trans (hb.mono (by simp))
    by_cases hlt : j < l.length
    · have c0 : wr.cell? ⟨lb, lo + j * 2, none⟩ = some (.int .i64 (l[j]).1) := cell_old hbw (by simpa using HX.out j l[j] (by simp [hlt]) 0 _ rfl)
      have c1 : wr.cell? ⟨lb, lo + j * 2 + 1, none⟩ = some (.int .i64 (l[j]).2) := cell_old hbw (by simpa using HX.out j l[j] (by simp [hlt]) 1 _ rfl)
      obtain ⟨x, hx⟩ : ∃ x, l[j] = x := ⟨_, rfl⟩
      have HS : Hid ((l.take (j + 1)).foldl jn h0 = jn p x) := Lib.hid (by rw [foldl_take_snoc jn h0 l hlt, HP.out, hx])
      rw [hx] at c0 c1
      clear hx
      have HB := Lib.hid hb; clear hb hbw
      unfold jn gmin gmax at HS
      go_wp2
      go_roundw
      case rel =>
        refine ⟨j + 1, by omega, by go_num, jn p x, HS, ?_, by simp; omega, ?_, ?_, ?_, ?_⟩
        · refine ((HB.out.setCell ?_ _).setCell ?_ _).alloc ?_ _
          · exact Nat.le_refl _
          · exact Nat.le_refl _
          · simp; omega
        all_goals simp [go_sem, jn, gmin, gmax, s0, s1, f0, f1, hsz]
      case measure => simp [intOf]; omega
    · have HE : Hid (List.take j l = l) := Lib.hid (List.take_of_length_le (by omega))
      have r0 : wr.cell? ⟨w.heap.size, 0, none⟩ = some (.int .i64 0) := (hb.cell (by simp)).trans (by simp [go_sem])
      have r1 : wr.cell? ⟨w.heap.size, 1, none⟩ = some (.int .i64 0) := (hb.cell (by simp)).trans (by simp [go_sem])
      have q0 : wr.frozen? ⟨w.heap.size, 0, none⟩ = false := (hb.frozen (by simp)).trans (by simp [go_sem])
      have q1 : wr.frozen? ⟨w.heap.size, 1, none⟩ = false := (hb.frozen (by simp)).trans (by simp [go_sem])
      have HW := Lib.hid hbw; clear hbw hb
      rw [HE.out] at HP
      have hpt : p = t := HP.out.symm.trans HT.out
      subst hpt
      go_wp2
      refine bodyPost_ret (v := .agg #[.int .i64 p.1, .int .i64 p.2]) (by simp [results, Try.results96, go_sem, r0, r1, q0, q1]) rfl ⟨rfl, ?_⟩
      exact (HW.out.setCell (Nat.le_refl _) _).setCell (Nat.le_refl _) _

/-- Where the first wrong kind stands; -1: nowhere. -/
def findI : List Int → Int
  | [] => -1
  | k :: r => if inB k 0 2 then (if findI r < 0 then -1 else findI r + 1) else 0
theorem findI_ge (l : List Int) : -1 ≤ findI l := by
  induction l with
  | nil => decide
  | cons k r ih => unfold findI; split <;> (try split) <;> omega
theorem findI_none (l : List Int) (h : l.all (fun k => inB k 0 2) = true) : findI l = -1 := by
  induction l with
  | nil => rfl
  | cons k r ih =>
    simp only [List.all_cons, Bool.and_eq_true] at h
    unfold findI; rw [if_pos h.1, ih h.2]; rfl
theorem findI_at : ∀ (l : List Int) (j : Nat) (hj : j < l.length), (l.take j).all (fun k => inB k 0 2) = true → inB l[j] 0 2 = false → findI l = j
  | [], j, hj, _, _ => by simp at hj
  | k :: r, 0, _, _, h => by unfold findI; simp at h; rw [if_neg (by simp [h])]; rfl
  | k :: r, j + 1, hj, ha, h => by
    simp only [List.take_succ_cons, List.all_cons, Bool.and_eq_true] at ha
    have := findI_at r j (by simpa using hj) ha.2 (by simpa using h)
    unfold findI; rw [if_pos ha.1, this, if_neg (by omega)]; omega
theorem findI_iff (l : List Int) : (!l.all (fun k => inB k 0 2)) = decide (0 ≤ findI l) := by
  induction l with
  | nil => rfl
  | cons k r ih =>
    have hg := findI_ge r
    unfold findI
    simp only [List.all_cons]
    cases hk : inB k 0 2 with
    | false => simp
    | true =>
      simp only [Bool.true_and, if_true]
      rw [ih]
      split
      · simp; omega
      · simp; omega

set_option maxHeartbeats 400000 in
theorem index80_any (v : Value) (l : List Int) (w : World) (h : Ints w w.heap.size v l) :
    Calls Try.prog 93 #[v, .func (.func 80) #[] #[]] w fun e w' => e = .returned (.int .i64 (findI l)) ∧ w = w' := by
  obtain ⟨ao, cap, rfl, hlen, hrow⟩ := h
  have HR := Lib.hid hrow; clear hrow
  obtain ⟨t, ht⟩ : ∃ t, findI l = t := ⟨_, rfl⟩
  rw [ht]
  have HT := Lib.hid ht; clear ht
  go_enter Try.func93, Try.ntmps93
  go_wp2
  go_loop [5, 8] (fun c i => ∃ j : Nat, j ≤ l.length ∧ i = .int .i64 j ∧ Hid ((l.take j).all (fun k => inB k 0 2) = true)) (fun _ i => l.length - (intOf i).toNat)
  case atStart => exact ⟨0, by omega, rfl, Lib.hid rfl⟩
  case round =>
    obtain ⟨j, hj, rfl, HA⟩ := hrel
    by_cases hlt : j < l.length
    · obtain ⟨lb, lo, rfl, hbl, hx⟩ := HR.out (by intro e; rw [e] at hlt; simp at hlt)
      have c0 : w.cell? ⟨lb, lo + j, none⟩ = some (.int .i64 l[j]) := by simpa using hx j l[j] (by simp [hlt]) 0 _ rfl
      clear hx
      obtain ⟨x, hx⟩ : ∃ x, l[j] = x := ⟨_, rfl⟩
      rw [hx] at c0
      by_cases hq : inB x 0 2 = true
      · have hq' : (!inB x 0 2) = false := by rw [hq]; rfl
        have HS : Hid ((l.take (j + 1)).all (fun k => inB k 0 2) = true) := Lib.hid (by rw [List.take_succ_eq_append_getElem hlt, List.all_append, HA.out, hx]; simp [hq])
        clear hx hq
        go_wp2_with (go_at_call 80; refine (open1_any _ _).mono ?_; rintro e w' ⟨rfl, rfl⟩)
        go_round
        case rel => exact ⟨j + 1, by omega, by go_num, HS⟩
        case measure => simp [intOf]; omega
      · have hq' : (!inB x 0 2) = true := by simpa using hq
        have HS : Hid (t = j) := Lib.hid (by rw [← HT.out]; exact findI_at l j hlt HA.out (by rw [hx]; simpa using hq))
        clear hx hq
        go_wp2_with (go_at_call 80; refine (open1_any _ _).mono ?_; rintro e w' ⟨rfl, rfl⟩)
        go_ret
        exact ⟨retI HS.out.symm, rfl⟩
    · have HS : Hid (t = -1) := Lib.hid (by rw [← HT.out]; exact findI_none l (by have := HA.out; rwa [List.take_of_length_le (by omega)] at this))
      go_wp2
      go_ret
      exact ⟨retI HS.out.symm, rfl⟩

set_option maxHeartbeats 400000 in
theorem contains80_any (v : Value) (l : List Int) (w : World) (h : Ints w w.heap.size v l) :
    Calls Try.prog 79 #[v, .func (.func 80) #[] #[]] w fun e w' => e = .returned (.bool (!l.all (fun k => inB k 0 2))) ∧ w = w' := by
  obtain ⟨t, ht⟩ : ∃ t, findI l = t := ⟨_, rfl⟩
  have hc := findI_iff l
  rw [ht] at hc
  obtain ⟨b, hb⟩ : ∃ b, (!l.all (fun k => inB k 0 2)) = b := ⟨_, rfl⟩
  rw [hb] at hc ⊢
  have HX := Lib.hid (index80_any v l w h)
  rw [ht] at HX
  cases b
  · have hn : t < 0 := by simpa using hc
    clear ht hb hc h
    go_enter Try.func79, Try.ntmps79
    go_wp2_with (go_at_call 93; refine HX.out.mono ?_; rintro e w' ⟨rfl, rfl⟩)
    go_ret
    exact ⟨retB (by simp; omega), rfl⟩
  · have hn : 0 ≤ t := by simpa using hc
    clear ht hb hc h
    go_enter Try.func79, Try.ntmps79
    go_wp2_with (go_at_call 93; refine HX.out.mono ?_; rintro e w' ⟨rfl, rfl⟩)
    go_ret
    exact ⟨retB (by simp), rfl⟩

set_option maxRecDepth 100000 in
/-- The deferred answer to a refusal: the error is laid, the panic is recovered. -/
theorem answer_refused (p : Addr) (x : Int) (c : Int) (older : List PanicEntry) (w : World) (hc : w.cell? p = some (.int .i64 x)) (hz : w.frozen? p = false) :
    CallsD Try.prog 40 #[.pointer (some p)] (.panicking ({ v := .iface 115 (.int .i64 c), recovered := false } :: older)) w fun e u' w' =>
      e = .returned (.tuple #[]) ∧ u' = .panicking ({ v := .iface 115 (.int .i64 c), recovered := true } :: older) ∧ w' = w.setCell p (.int .i64 c) := by
  refine callsD_of_wpS Try.func40 rfl fun c₀ cs hu => ?_
  simp only [Try.ntmps40, List.size_toArray, List.length_cons, List.length_nil, Nat.reduceAdd, Nat.reduceSub, Array.replicate_succ, Array.replicate_zero, List.push_toArray, List.append_toArray, List.nil_append, List.cons_append]
  apply wpS_seq
  apply wpS_region
  simp [wpOpsS, go_sem, recoverD, hu, Exit.thenS]
  refine wpS_of_wp ?_
  refine Code.wp_mono (Q := fun e a' w' => e = .normal ∧ a'.defers = [] ∧ w' = w.setCell p (.int .i64 c)) ?_ ?_
  · rintro e a' w' ⟨rfl, hd, rfl⟩
    exact ⟨hd, _, rfl, _, results_none rfl _ _ _, rfl, rfl, rfl⟩
  clear hu
  have hta : ∀ w, (Instr.typeAssert (.iface 115 (.int .i64 c)) 20 115 true).run Try.prog w = .ok (.tuple #[.int .i64 c, .bool true]) w := fun _ => by kernel_rfl
  go_wp2

theorem answer_idle (p : Addr) (w : World) :
    CallsD Try.prog 40 #[.pointer (some p)] .returning w fun e u' w' => e = .returned (.tuple #[]) ∧ u' = .returning ∧ w' = w := by
  refine callsD_of_wpS Try.func40 rfl fun c₀ cs hu => ?_
  simp only [Try.ntmps40, List.size_toArray, List.length_cons, List.length_nil, Nat.reduceAdd, Nat.reduceSub, Array.replicate_succ, Array.replicate_zero, List.push_toArray, List.append_toArray, List.nil_append, List.cons_append]
  apply wpS_seq
  apply wpS_region
  simp [wpOpsS, go_sem, recoverD, hu, Exit.thenS]
  refine wpS_of_wp ?_
  refine Code.wp_mono (Q := fun e a' w' => e = .normal ∧ a'.defers = [] ∧ w' = w) ?_ ?_
  · rintro e a' w' ⟨rfl, hd, rfl⟩
    exact ⟨hd, .returning, by cases c₀; simp_all, _, results_none rfl _ _ _, rfl, rfl, rfl⟩
  clear hu
  go_wp2
end Go.Proofs.Ytojbkpnkcpcioaa
