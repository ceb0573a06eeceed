/- The walk of Takes. -/
import Derived.Test.YtojbkpnkcpcioaaStN2
set_option linter.all false
namespace Go.Proofs.Ytojbkpnkcpcioaa
open Go.RowKit Go.Sh Go.Sh.Stand Go.Shelf

def takesL (s : Stand) (k : Int) : List Int := (truthsL s (everyB s)).map fun t => tk t k

set_option maxHeartbeats 400000 in
theorem takes1_any (b Bk : Nat) (k : Int) (w : World) (hk : w.cell? ⟨Bk, 0, none⟩ = some (.int .i64 k)) :
    Calls Try.prog 52 #[.pointer (some ⟨b, 0, none⟩), .pointer (some ⟨Bk, 0, none⟩)] w fun e w' => e = .returned (.bool (inB k 0 2)) ∧ Below w.heap.size w w' := by
  have HS := Lib.hid (isKind_any k w)
  go_enter Try.func52, Try.ntmps52
  go_wp2_with (go_at_call 53; refine HS.out.mono ?_; rintro e w' ⟨rfl, rfl⟩)
  go_ret
  exact ⟨rfl, Below.refl _ _⟩

set_option maxHeartbeats 400000 in
theorem takes2_any (t : Shearer) (Bk : Nat) (k : Int) (w : World) (hk : w.cell? ⟨Bk, 0, none⟩ = some (.int .i64 k)) (h : 0 ≤ k ∧ k ≤ 2) :
    Calls Try.prog 55 #[keyV t, .pointer (some ⟨Bk, 0, none⟩)] w fun e w' => e = .returned (.int .i64 (tk t k)) ∧ Below w.heap.size w w' := by
  obtain ⟨t0, t1, t2⟩ := t
  have hlt : Bk < w.heap.size := World.block_lt_of_cell? _ _ hk
  unfold keyV
  obtain rfl | rfl | rfl : k = 0 ∨ k = 1 ∨ k = 2 := by omega
  all_goals
    go_enter Try.func55, Try.ntmps55
    go_wp2
    go_ret
    exact ⟨rfl, box_below _ _⟩

set_option maxRecDepth 100000 in
set_option maxHeartbeats 1000000 in
theorem takes_any (a0 b0 a1 b1 a2 b2 : Int) (rv sv lv : Value) (runs : List (Int × Int)) (sheep : List Int) (looks : List (Int × Int × Int)) (k : Int) (w : World)
    (hr : Prs w w.heap.size rv runs) (hsh : Ints w w.heap.size sv sheep) (hl : Trs w w.heap.size lv looks) (s : Stand) (hs : s = ⟨[(a0, b0), (a1, b1), (a2, b2)], runs, sheep, looks⟩) :
    Calls Try.prog 17 #[.agg #[.int .i64 a0, .int .i64 b0, .int .i64 a1, .int .i64 b1, .int .i64 a2, .int .i64 b2, rv, sv, lv], .int .i64 k] w (Answered s (inB k 0 2) (takesL s k) w) := by
  obtain ⟨w1, hw1⟩ : ∃ x, (((w.alloc (.cells #[.int .i64 a0, .int .i64 b0, .int .i64 a1, .int .i64 b1, .int .i64 a2, .int .i64 b2, rv, sv, lv] 29)).alloc (.cells #[.int .i64 k] 3)).alloc (.cells #[.int .i64 0, .int .i64 0] 23)).alloc (.cells #[.int .i64 0] 32) = x := ⟨_, rfl⟩
  have hb1 : Below w.heap.size w w1 := by rw [← hw1]; exact ((below_two _ _ _).alloc (by simp; omega) _).alloc (by simp; omega) _
  have hsz1 : w1.heap.size = w.heap.size + 4 := by rw [← hw1]; simp
  have hk1 : w1.cell? ⟨w.heap.size + 1, 0, none⟩ = some (.int .i64 k) := by rw [← hw1]; simp [go_sem]
  have x0 : w1.cell? ⟨w.heap.size + 2, 0, none⟩ = some (.int .i64 0) := by rw [← hw1]; simp [go_sem]
  have x1 : w1.cell? ⟨w.heap.size + 2, 1, none⟩ = some (.int .i64 0) := by rw [← hw1]; simp [go_sem]
  have x2 : w1.cell? ⟨w.heap.size + 3, 0, none⟩ = some (.int .i64 0) := by rw [← hw1]; simp [go_sem]
  have y0 : w1.frozen? ⟨w.heap.size + 2, 0, none⟩ = false := by rw [← hw1]; simp [go_sem]
  have y1 : w1.frozen? ⟨w.heap.size + 2, 1, none⟩ = false := by rw [← hw1]; simp [go_sem]
  have y2 : w1.frozen? ⟨w.heap.size + 3, 0, none⟩ = false := by rw [← hw1]; simp [go_sem]
  have hc1 : ∀ j v, #[Value.int .i64 a0, .int .i64 b0, .int .i64 a1, .int .i64 b1, .int .i64 a2, .int .i64 b2, rv, sv, lv][j]? = some v → w1.cell? ⟨w.heap.size, j, none⟩ = some v := by
    intro j v h; rw [← hw1]
    rw [World.cell?_alloc_lt _ _ _ (by simp; omega), World.cell?_alloc_lt _ _ _ (by simp; omega), World.cell?_alloc_lt _ _ _ (by simp), World.cell?_alloc_new]; exact h
  have hr1 := hr.later hb1
  have hsh1 := hsh.later hb1
  have hl1 := hl.later hb1
  have e0 : ∀ x, Below w1.heap.size w1 x → x.cell? ⟨w.heap.size, 0, none⟩ = some (.int .i64 a0) := fun x h => cell_old h (hc1 0 _ rfl)
  have e1 : ∀ x, Below w1.heap.size w1 x → x.cell? ⟨w.heap.size, 1, none⟩ = some (.int .i64 b0) := fun x h => cell_old h (hc1 1 _ rfl)
  have e2 : ∀ x, Below w1.heap.size w1 x → x.cell? ⟨w.heap.size, 2, none⟩ = some (.int .i64 a1) := fun x h => cell_old h (hc1 2 _ rfl)
  have e3 : ∀ x, Below w1.heap.size w1 x → x.cell? ⟨w.heap.size, 3, none⟩ = some (.int .i64 b1) := fun x h => cell_old h (hc1 3 _ rfl)
  have e4 : ∀ x, Below w1.heap.size w1 x → x.cell? ⟨w.heap.size, 4, none⟩ = some (.int .i64 a2) := fun x h => cell_old h (hc1 4 _ rfl)
  have e5 : ∀ x, Below w1.heap.size w1 x → x.cell? ⟨w.heap.size, 5, none⟩ = some (.int .i64 b2) := fun x h => cell_old h (hc1 5 _ rfl)
  have e6 : ∀ x, Below w1.heap.size w1 x → x.cell? ⟨w.heap.size, 6, none⟩ = some rv := fun x h => cell_old h (hc1 6 _ rfl)
  have e7 : ∀ x, Below w1.heap.size w1 x → x.cell? ⟨w.heap.size, 7, none⟩ = some sv := fun x h => cell_old h (hc1 7 _ rfl)
  have e8 : ∀ x, Below w1.heap.size w1 x → x.cell? ⟨w.heap.size, 8, none⟩ = some lv := fun x h => cell_old h (hc1 8 _ rfl)
  have ek : ∀ x, Below w1.heap.size w1 x → x.cell? ⟨w.heap.size + 1, 0, none⟩ = some (.int .i64 k) := fun x h => cell_old h hk1
  have hsheep : s.sheep = sheep := by rw [hs]
  have hmins3 : s.mins.length = 3 := by rw [hs]; rfl
  obtain ⟨okI, hok⟩ : ∃ x, inB k 0 2 = x := ⟨_, rfl⟩
  have hopen : ∀ x, Below w1.heap.size w1 x → Calls Try.prog 41 #[.agg #[.int .i64 a0, .int .i64 b0, .int .i64 a1, .int .i64 b1, .int .i64 a2, .int .i64 b2, rv, sv, lv], .func (.func 52) #[] #[.pointer (some ⟨w.heap.size + 1, 0, none⟩)]] x (OpenPost s okI x) := by
    intro x hx
    rw [hs]
    refine open_any a0 b0 a1 b1 a2 b2 rv sv lv runs sheep looks 52 #[.pointer (some ⟨w.heap.size + 1, 0, none⟩)] okI x (hr1.later hx) (hsh1.later hx) (hl1.later hx) (enters_of Try.func52 (by kernel_rfl) rfl) ?_
    intro A b m hA hBd hv
    have := takes1_any b (w.heap.size + 1) k A (cell_old hA (cell_old hx hk1))
    rw [hok] at this
    exact this
  rw [hok]
  have HO := Lib.hid hopen
  have HS := Lib.hid hs
  have HOK := Lib.hid hok
  have HB1 := Lib.hid hb1
  have HM3 := Lib.hid hmins3
  have HSH := Lib.hid hsheep
  have HSZ := Lib.hid hsz1
  clear hopen hs hok hb1 hr hsh hl hr1 hsh1 hl1 hc1 hmins3 hsheep hsz1
  go_enter_defers Try.func17, Try.ntmps17
  go_upto_region 2 with (fail)
  clear hw1
  simp only [Nat.add_assoc, Nat.reduceAdd]
  have c0 := e0 w1 (Below.refl _ _)
  have c1 := e1 w1 (Below.refl _ _)
  have c2 := e2 w1 (Below.refl _ _)
  have c3 := e3 w1 (Below.refl _ _)
  have c4 := e4 w1 (Below.refl _ _)
  have c5 := e5 w1 (Below.refl _ _)
  have c6 := e6 w1 (Below.refl _ _)
  have c7 := e7 w1 (Below.refl _ _)
  have c8 := e8 w1 (Below.refl _ _)
  clear e0 e1 e2 e3 e4 e5 e6 e7 e8 ek
  obtain ⟨L, hLL⟩ : ∃ L, takesL s k = L := ⟨_, rfl⟩
  rw [hLL]
  have HLL := Lib.hid hLL
  clear hLL
  go_wp2_with (go_at_call 41; refine (HO.out w1 (Below.refl _ _)).mono ?_; rintro e x (⟨h1, rfl, hb⟩ | ⟨h1, h2, rfl, hb⟩ | ⟨h1, h2, b, m, rfl, hb, hbb, hmm, hne, hbd⟩)
               rotate_left 2
               have hfit := fit_of_valid HM3.out h1
               subst h2
               have hkr : 0 ≤ k ∧ k ≤ 2 := by
                 have h0 := HOK.out
                 unfold inB at h0
                 simpa using h0
               have hto := told_any b m s (fun _ => False) 55 #[.pointer (some ⟨w.heap.size + 1, 0, none⟩)] (fun t => tk t k) x (fun A => A.cell? ⟨w.heap.size + 1, 0, none⟩ = some (.int .i64 k)) hfit (enters_of Try.func55 (by kernel_rfl) rfl) hbd (cell_old hb hk1)
                 (fun A B h hf => hf.cell h (by have := HSZ.out; have := hb.size; rintro (h | h) <;> simp only at h <;> omega))
                 (fun t _ A Y hA h => (takes2_any t (w.heap.size + 1) k A h hkr).mono fun e B ⟨h1, h2⟩ => ⟨h1, .of_below hA h2⟩)
               have hL2 : (truthsL s (everyB s)).map (fun t => tk t k) = L := HLL.out
               rw [hL2] at hto
               have HTO := Lib.hid hto
               have HBX := Lib.hid hb
               have HBD := Lib.hid hbd
               clear hto hL2 hb hbd)
  · have z0 := cell_old HBX.out x0
    have z1 := cell_old HBX.out x1
    have z2 := cell_old HBX.out x2
    have u0 := ((bcell HBX.out).2 (w.heap.size + 2) 0 (by have := HSZ.out; omega)).trans y0
    have u1 := ((bcell HBX.out).2 (w.heap.size + 2) 1 (by have := HSZ.out; omega)).trans y1
    have u2 := ((bcell HBX.out).2 (w.heap.size + 3) 0 (by have := HSZ.out; omega)).trans y2
    have n2 : w.heap.size + 2 ≠ m := by have := HSZ.out; omega
    have n3 : w.heap.size + 3 ≠ m := by have := HSZ.out; omega
    have hlt2 : w.heap.size + 2 < x.heap.size := by have := HSZ.out; have := HBX.out.size; omega
    have hlt3 : w.heap.size + 3 < x.heap.size := by have := HSZ.out; have := HBX.out.size; omega
    have hwx := below_trans' HB1.out HBX.out
    have HMB : Hid (∀ (y : World), Frm (fun k => k = m) x y → Below w.heap.size w y) := fun _ hf => hwx.trans (hf.below (fun k hk => by have := HSZ.out; omega) hwx.size)
    clear hwx x0 x1 x2 y0 y1 y2 hk1 c0 c1 c2 c3 c4 c5 c6 c7 c8
    by_cases hl : L = []
    · subst hl
      have hto := HTO.out
      simp only [toldE, if_pos] at hto
      have HRF : Hid (Refuses s true [] 10) := .inr (.inr ⟨h1, rfl, rfl, rfl⟩)
      refine hto.mono ?_
      rintro e y ⟨rfl, hon⟩
      refine end_panic rfl rfl rfl (hon.cell z0 n2) (hon.cell z1 n2) (hon.cell z2 n3) ((hon.frm.frozen hlt3 n3).trans u2) (by omega) ?_
      unfold Answered
      rw [HRF.out.ans]
      exact ⟨rfl, (HMB.out _ hon.frm).setCell (by simp only; omega) _⟩
    · obtain ⟨jl, hjl⟩ : ∃ x, joinedL (L.map fun n => (n, n)) = x := ⟨_, rfl⟩
      have hto := HTO.out
      simp only [toldE, if_neg hl, hjl] at hto
      have HAN : Hid (ansE s true L = (jl, 0)) := Lib.hid (by rw [← hjl]; exact ans_told h1 rfl hl)
      clear hjl
      refine hto.mono ?_
      rintro e y ⟨rfl, hon⟩
      have z0 := hon.cell z0 n2
      have z1 := hon.cell z1 n2
      have z2 := hon.cell z2 n3
      have u0 := (hon.frm.frozen hlt2 n2).trans u0
      have u1 := (hon.frm.frozen hlt2 n2).trans u1
      have u2 := (hon.frm.frozen hlt3 n3).trans u2
      have HON := Lib.hid hon
      clear hon hto
      go_wp2
      refine end_ok (lo := jl.1) (hi := jl.2) (c := 0) rfl rfl rfl (by simp [go_sem, z0, z1, z2]) (by simp [go_sem, z0, z1, z2]) (by simp [go_sem, z0, z1, z2]) ?_
      unfold Answered
      rw [HLL.out, HAN.out]
      exact ⟨rfl, (((HMB.out _ HON.out.frm).setCell (by simp only; omega) _).setCell (by simp only; omega) _).setCell (by simp only; omega) _⟩
  · refine end_panic rfl rfl rfl (cell_old hb x0) (cell_old hb x1) (cell_old hb x2) (((bcell hb).2 _ 0 (by have := HSZ.out; omega)).trans y2) (by omega) ?_
    unfold Answered
    rw [Refuses.ans (.inl ⟨h1, rfl⟩)]
    exact ⟨rfl, (below_trans' HB1.out hb).setCell (by simp only; omega) _⟩
  · refine end_panic rfl rfl rfl (cell_old hb x0) (cell_old hb x1) (cell_old hb x2) (((bcell hb).2 _ 0 (by have := HSZ.out; omega)).trans y2) (by omega) ?_
    unfold Answered
    rw [Refuses.ans (.inr (.inl ⟨h1, rfl, rfl⟩))]
    exact ⟨rfl, (below_trans' HB1.out hb).setCell (by simp only; omega) _⟩
end Go.Proofs.Ytojbkpnkcpcioaa
