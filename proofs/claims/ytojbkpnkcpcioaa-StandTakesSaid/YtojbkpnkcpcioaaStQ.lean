/- The walk of Begun. -/
import Derived.Test.YtojbkpnkcpcioaaStN2
set_option linter.all false
namespace Go.Proofs.Ytojbkpnkcpcioaa
open Go.RowKit Go.Sh Go.Sh.Stand Go.Shelf

def begunL (s : Stand) (k : Int) : List Int := (truthsL s (everyB s)).map fun t => begunIn (day s t) k

set_option maxHeartbeats 400000 in
theorem begun1_any (b Bk : Nat) (ao : Option Addr) (n cap : Nat) (k : Int) (w : World) (hb : w.cell? ⟨b, 6, none⟩ = some (.slice ao n cap)) (hk : w.cell? ⟨Bk, 0, none⟩ = some (.int .i64 k)) (hn : n < 1000) :
    Calls Try.prog 57 #[.pointer (some ⟨b, 0, none⟩), .pointer (some ⟨Bk, 0, none⟩)] w fun e w' => e = .returned (.bool (inB k 0 (n - 1))) ∧ Below w.heap.size w w' := by
  have HS := Lib.hid (isRun_any b ao n cap k w hb hn)
  go_enter Try.func57, Try.ntmps57
  go_wp2_with (go_at_call 58; refine HS.out.mono ?_; rintro e w' ⟨rfl, rfl⟩)
  go_ret
  exact ⟨rfl, Below.refl _ _⟩

set_option maxRecDepth 100000 in
set_option maxHeartbeats 1000000 in
theorem begun_any (a0 b0 a1 b1 a2 b2 : Int) (rv sv lv : Value) (runs : List (Int × Int)) (sheep : List Int) (looks : List (Int × Int × Int)) (k : Int) (w : World)
    (hr : Prs w w.heap.size rv runs) (hsh : Ints w w.heap.size sv sheep) (hl : Trs w w.heap.size lv looks) (s : Stand) (hs : s = ⟨[(a0, b0), (a1, b1), (a2, b2)], runs, sheep, looks⟩) :
    Calls Try.prog 19 #[.agg #[.int .i64 a0, .int .i64 b0, .int .i64 a1, .int .i64 b1, .int .i64 a2, .int .i64 b2, rv, sv, lv], .int .i64 k] w (Answered s (inB k 0 (runs.length - 1)) (begunL s k) w) := by
  obtain ⟨w1, hw1⟩ : ∃ x, (((w.alloc (.cells #[.int .i64 a0, .int .i64 b0, .int .i64 a1, .int .i64 b1, .int .i64 a2, .int .i64 b2, rv, sv, lv] 29)).alloc (.cells #[.int .i64 k] 3)).alloc (.cells #[.int .i64 0, .int .i64 0] 23)).alloc (.cells #[.int .i64 0] 32) = x := ⟨_, rfl⟩
  have hb1 : Below w.heap.size w w1 := by rw [← hw1]; exact ((below_two _ _ _).alloc (by simp; omega) _).alloc (by simp; omega) _
  have hsz1 : w1.heap.size = w.heap.size + 4 := by rw [← hw1]; simp
  have hk1 : w1.cell? ⟨w.heap.size + 1, 0, none⟩ = some (.int .i64 k) := by rw [← hw1]; simp [go_sem]
  have x0 : w1.cell? ⟨w.heap.size + 2, 0, none⟩ = some (.int .i64 0) := by rw [← hw1]; simp [go_sem]
  have x1 : w1.cell? ⟨w.heap.size + 2, 1, none⟩ = some (.int .i64 0) := by rw [← hw1]; simp [go_sem]
  have x2 : w1.cell? ⟨w.heap.size + 3, 0, none⟩ = some (.int .i64 0) := by rw [← hw1]; simp [go_sem]
  have y0 : w1.frozen? ⟨w.heap.size + 2, 0, none⟩ = false := by rw [← hw1]; simp [go_sem]
  have y1 : w1.frozen? ⟨w.heap.size + 2, 1, none⟩ = false := by rw [← hw1]; simp [go_sem]
  have y2 : w1.frozen? ⟨w.heap.size + 3, 0, none⟩ = false := by rw [← hw1]; simp [go_sem]
  have hc1 : ∀ j v, #[Value.int .i64 a0, .int .i64 b0, .int .i64 a1, .int .i64 b1, .int .i64 a2, .int .i64 b2, rv, sv, lv][j]? = some v → w1.cell? ⟨w.heap.size, j, none⟩ = some v := by
    intro j v h; rw [← hw1]
    rw [World.cell?_alloc_lt _ _ _ (by simp; omega), World.cell?_alloc_lt _ _ _ (by simp; omega), World.cell?_alloc_lt _ _ _ (by simp), World.cell?_alloc_new]; exact h
  have hr1 := hr.later hb1
  have hsh1 := hsh.later hb1
  have hl1 := hl.later hb1
  have e0 : ∀ x, Below w1.heap.size w1 x → x.cell? ⟨w.heap.size, 0, none⟩ = some (.int .i64 a0) := fun x h => cell_old h (hc1 0 _ rfl)
  have e1 : ∀ x, Below w1.heap.size w1 x → x.cell? ⟨w.heap.size, 1, none⟩ = some (.int .i64 b0) := fun x h => cell_old h (hc1 1 _ rfl)
  have e2 : ∀ x, Below w1.heap.size w1 x → x.cell? ⟨w.heap.size, 2, none⟩ = some (.int .i64 a1) := fun x h => cell_old h (hc1 2 _ rfl)
  have e3 : ∀ x, Below w1.heap.size w1 x → x.cell? ⟨w.heap.size, 3, none⟩ = some (.int .i64 b1) := fun x h => cell_old h (hc1 3 _ rfl)
  have e4 : ∀ x, Below w1.heap.size w1 x → x.cell? ⟨w.heap.size, 4, none⟩ = some (.int .i64 a2) := fun x h => cell_old h (hc1 4 _ rfl)
  have e5 : ∀ x, Below w1.heap.size w1 x → x.cell? ⟨w.heap.size, 5, none⟩ = some (.int .i64 b2) := fun x h => cell_old h (hc1 5 _ rfl)
  have e6 : ∀ x, Below w1.heap.size w1 x → x.cell? ⟨w.heap.size, 6, none⟩ = some rv := fun x h => cell_old h (hc1 6 _ rfl)
  have e7 : ∀ x, Below w1.heap.size w1 x → x.cell? ⟨w.heap.size, 7, none⟩ = some sv := fun x h => cell_old h (hc1 7 _ rfl)
  have e8 : ∀ x, Below w1.heap.size w1 x → x.cell? ⟨w.heap.size, 8, none⟩ = some lv := fun x h => cell_old h (hc1 8 _ rfl)
  have ek : ∀ x, Below w1.heap.size w1 x → x.cell? ⟨w.heap.size + 1, 0, none⟩ = some (.int .i64 k) := fun x h => cell_old h hk1
  have hsheep : s.sheep = sheep := by rw [hs]
  have hmins3 : s.mins.length = 3 := by rw [hs]; rfl
  obtain ⟨okI, hok⟩ : ∃ x, inB k 0 (runs.length - 1) = x := ⟨_, rfl⟩
  have hopen : ∀ x, Below w1.heap.size w1 x → Calls Try.prog 41 #[.agg #[.int .i64 a0, .int .i64 b0, .int .i64 a1, .int .i64 b1, .int .i64 a2, .int .i64 b2, rv, sv, lv], .func (.func 57) #[] #[.pointer (some ⟨w.heap.size + 1, 0, none⟩)]] x (OpenPost s okI x) := by
    intro x hx
    rw [hs]
    refine open_any a0 b0 a1 b1 a2 b2 rv sv lv runs sheep looks 57 #[.pointer (some ⟨w.heap.size + 1, 0, none⟩)] okI x (hr1.later hx) (hsh1.later hx) (hl1.later hx) (enters_of Try.func57 (by kernel_rfl) rfl) ?_
    intro A b m hA hBd hv
    obtain ⟨v7, h7, ⟨ao, cap, rfl, hln, _⟩, _⟩ := hBd.runs
    have hfit := (fit_of_valid rfl hv).runs
    simp only at hfit h7
    have := begun1_any b (w.heap.size + 1) ao runs.length cap k A h7 (cell_old hA (cell_old hx hk1)) (by omega)
    rw [hok] at this
    exact this
  rw [hok]
  have HO := Lib.hid hopen
  have HS := Lib.hid hs
  have HOK := Lib.hid hok
  have HB1 := Lib.hid hb1
  have HM3 := Lib.hid hmins3
  have HSH := Lib.hid hsheep
  have HSZ := Lib.hid hsz1
  clear hopen hs hok hb1 hr hsh hl hr1 hsh1 hl1 hc1 hmins3 hsheep hsz1
  go_enter_defers Try.func19, Try.ntmps19
  go_wp2
  clear hw1
  simp only [Nat.add_assoc, Nat.reduceAdd]
  refine wp_region_rel (sz := 13) 6 (fun x y => Below x.heap.size x y) [cV ?rv0, cV ?rv1, fun v x => ∃ b m, v = .pointer (some ⟨b, 0, none⟩) ∧ w1.heap.size ≤ b ∧ w1.heap.size ≤ m ∧ validB s = true ∧ okI = true ∧ Board x b m s (fun _ => False), cV ?rv3, cV ?rv4, cV ?rv5]
    (fun ch x => ∃ c, ch = refusal c ∧ Refuses s okI (begunL s k) c ∧ Below w1.heap.size w1 x) (by kernel_rfl) rfl (by kernel_rfl) ((Below.refl _ _).drew) (fun h1 h2 => below_trans' h1 h2) ?rgS ?rgO ?rgP ?rgL ?rgE
  case rgO =>
    refine ⟨?_, ?_, ?_, ?_, ?_, ?_, trivial⟩
    all_goals
      intro a x hR hA
      rw [if_pos (by rfl)]
      have hR : Below w1.heap.size w1 x := hR
    · have s2 : a.tmps[2]?.getD undef = .pointer (some ⟨w.heap.size, 0, none⟩) := hA.base 2 (by decide)
      clear hA
      refine rg_val_wide _ ?_ (by simp) rfl (Below.refl _ _); go_simp; rfl
    · have s2 : a.tmps[3]?.getD undef = .pointer (some ⟨w.heap.size + 1, 0, none⟩) := hA.base 3 (by decide)
      clear hA
      refine rg_val_wide _ ?_ (by simp) rfl (Below.refl _ _); go_simp; rfl
    · have s6 : a.tmps[6]?.getD undef = _ := hA.pre 0 _ rfl (by kernel_rfl)
      have s7 : a.tmps[7]?.getD undef = _ := hA.pre 1 _ rfl (by kernel_rfl)
      clear hA
      refine rg_call_wide rfl (by go_simp; exact ⟨rfl, rfl⟩) ?_
      refine (HO.out x hR).mono ?_
      rintro e w2 (⟨h1, rfl, hb⟩ | ⟨h1, h2, rfl, hb⟩ | ⟨h1, h2, b, m, rfl, hb, hbb, hmm, hne, hbd⟩)
      · exact ⟨1, rfl, .inl ⟨h1, rfl⟩, below_trans' hR hb⟩
      · exact ⟨2, rfl, .inr (.inl ⟨h1, h2, rfl⟩), below_trans' hR hb⟩
      · exact ⟨⟨b, m, rfl, Nat.le_trans hR.size hbb, Nat.le_trans hR.size hmm, h1, h2, hbd⟩, hb⟩
    · have s2 : a.tmps[3]?.getD undef = .pointer (some ⟨w.heap.size + 1, 0, none⟩) := hA.base 3 (by decide)
      clear hA
      refine rg_val_wide _ ?_ (by simp) rfl (Below.refl _ _); go_simp; rfl
    · have s6 : a.tmps[9]?.getD undef = _ := hA.pre 3 _ rfl (by kernel_rfl)
      clear hA
      refine rg_val_wide _ ?_ (by simp) rfl (Below.refl _ _); go_simp; rfl
    · have s6 : a.tmps[10]?.getD undef = _ := hA.pre 4 _ rfl (by kernel_rfl)
      clear hA
      refine rg_val_wide _ ?_ (by simp) rfl (Below.refl _ _); go_simp; rfl
  case rgS =>
    intro V hV u x y hR hu
    simp only [List.mem_cons, List.not_mem_nil, or_false] at hV
    rcases hV with rfl | rfl | rfl | rfl | rfl | rfl
    all_goals first | exact hu | (obtain ⟨b, m, h1, h2, h3, h4, h5, h6⟩ := hu; exact ⟨b, m, h1, h2, h3, h4, h5, h6.later hR⟩)
  case rgP =>
    rintro ch a x ⟨c, rfl, hc, hb⟩ hsl hdf
    have t4 : a.tmps[4]? = some (.pointer (some ⟨w.heap.size + 2, 0, none⟩)) := slot_ptr (hsl 4 (by decide))
    have t5 : a.tmps[5]? = some (.pointer (some ⟨w.heap.size + 3, 0, none⟩)) := slot_ptr (hsl 5 (by decide))
    show Leaves Try.prog Try.f19 a.tmps _ a.defers (.panicking (refusal c)) x
    rw [hdf]
    refine end_panic rfl t4 t5 (cell_old hb x0) (cell_old hb x1) (cell_old hb x2) (((bcell hb).2 _ 0 (by have := HSZ.out; omega)).trans y2) (by omega) ?_
    unfold Answered
    rw [hc.ans]
    exact ⟨rfl, (below_trans' HB1.out hb).setCell (by simp only; omega) _⟩
  case rgL =>
    rintro ⟨a, x, h⟩
    have h' : Answered s okI (begunL s k) w .outgrown x := h
    cases h'.1
  case rgE =>
    intro v0 v1 v2 v3 v4 v5 x hk
    obtain ⟨rfl, rfl, rfl, ⟨b, m, rfl, hbb, hbm, hv, hoi, hbd⟩, rfl, rfl, hx⟩ := hk
    simp only [List.drop_succ_cons, List.drop_zero, Act.put, List.setIfInBounds_toArray, List.set_cons_succ, List.set_cons_zero]
    have hx : Below w1.heap.size w1 x := hx
    subst hoi
    have hfit := fit_of_valid HM3.out hv
    have hme := measured_any b m s (fun _ => False) 91 (.agg #[.int .i64 k]) 119 (fun l => begunIn l k) x hfit hbd (fun _ => by kernel_rfl) (fun _ => by kernel_rfl) (enters_of Try.func119 (by kernel_rfl) rfl)
      (fun A X v t ht hA hp => begunIn_any k _ v _ A hp (by rw [day_len]; have := hfit.sheep; omega))
    have z0 := cell_old hx x0
    have z1 := cell_old hx x1
    have z2 := cell_old hx x2
    have u0 := ((bcell hx).2 (w.heap.size + 2) 0 (by have := HSZ.out; omega)).trans y0
    have u1 := ((bcell hx).2 (w.heap.size + 2) 1 (by have := HSZ.out; omega)).trans y1
    have u2 := ((bcell hx).2 (w.heap.size + 3) 0 (by have := HSZ.out; omega)).trans y2
    have hL : ((truthsL s (everyB s)).map fun t => begunIn (day s t) k) = begunL s k := rfl
    obtain ⟨L, hLL⟩ : ∃ L, begunL s k = L := ⟨_, rfl⟩
    rw [hLL] at hL ⊢
    rw [hL] at hme
    have hwx : Below w.heap.size w x := below_trans' HB1.out hx
    have hxs : w1.heap.size ≤ x.heap.size := hx.size
    have HWX := Lib.hid hwx
    have HLL := Lib.hid hLL
    have HXS := Lib.hid hxs
    clear hwx hxs hx hL hLL hbd e0 e1 e2 e3 e4 e5 e6 e7 e8 ek x0 x1 x2 y0 y1 y2 hk1
    have n2 : w.heap.size + 2 ≠ m := by have := HSZ.out; omega
    have n3 : w.heap.size + 3 ≠ m := by have := HSZ.out; omega
    have hlt2 : w.heap.size + 2 < x.heap.size := by have := HSZ.out; have := HXS.out; omega
    have hlt3 : w.heap.size + 3 < x.heap.size := by have := HSZ.out; have := HXS.out; omega
    have hmB : ∀ (y : World), Frm (fun k => k = m) x y → Below w.heap.size w y := fun _ hf => HWX.out.trans (hf.below (fun k hk => by have := HSZ.out; omega) HWX.out.size)
    have HMB := Lib.hid hmB
    clear hmB
    by_cases hl : L = []
    · subst hl
      simp only [toldE, if_pos] at hme
      have HME := Lib.hid hme
      have hrf : Refuses s true [] 10 := .inr (.inr ⟨hv, rfl, rfl, rfl⟩)
      have HRF := Lib.hid hrf
      clear hme hrf
      go_wp2_with (go_at_call 44; refine HME.out.mono ?_; rintro e y ⟨rfl, hon⟩
                   have z0 := hon.cell z0 n2
                   have z1 := hon.cell z1 n2
                   have z2 := hon.cell z2 n3
                   have u2 := (hon.frm.frozen hlt3 n3).trans u2
                   have HON := Lib.hid hon; clear hon)
      refine end_panic rfl rfl rfl z0 z1 z2 u2 (by omega) ?_
      unfold Answered
      rw [HRF.out.ans]
      exact ⟨rfl, (HMB.out _ HON.out.frm).setCell (by simp only; omega) _⟩
    · obtain ⟨jl, hjl⟩ : ∃ x, joinedL (L.map fun n => (n, n)) = x := ⟨_, rfl⟩
      simp only [toldE, if_neg hl, hjl] at hme
      have han : ansE s true L = (jl, 0) := by rw [← hjl]; exact ans_told hv rfl hl
      have HAN := Lib.hid han
      have HME := Lib.hid hme
      clear hme han hjl
      go_wp2_with (go_at_call 44; refine HME.out.mono ?_; rintro e y ⟨rfl, hon⟩
                   have z0 := hon.cell z0 n2
                   have z1 := hon.cell z1 n2
                   have z2 := hon.cell z2 n3
                   have u0 := (hon.frm.frozen hlt2 n2).trans u0
                   have u1 := (hon.frm.frozen hlt2 n2).trans u1
                   have u2 := (hon.frm.frozen hlt3 n3).trans u2
                   have HON := Lib.hid hon; clear hon)
      refine end_ok (lo := jl.1) (hi := jl.2) (c := 0) rfl rfl rfl (by simp [go_sem, z0, z1, z2]) (by simp [go_sem, z0, z1, z2]) (by simp [go_sem, z0, z1, z2]) ?_
      unfold Answered
      try rw [HLL.out]
      rw [HAN.out]
      exact ⟨rfl, (((HMB.out _ HON.out.frm).setCell (by simp only; omega) _).setCell (by simp only; omega) _).setCell (by simp only; omega) _⟩
end Go.Proofs.Ytojbkpnkcpcioaa
