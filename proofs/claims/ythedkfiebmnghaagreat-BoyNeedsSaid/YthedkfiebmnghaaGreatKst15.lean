/- Texts of the proof, joined. -/
import Derived.Test.YthedkfiebmnghaaGreatKst14
set_option linter.all false
namespace Go.Proofs.YthedkfiebmnghaaGreat
open Go.RowKit Go.Sh Go.Sh.Stand Go.Shelf
theorem info98 : (Tryz.prog.info? 159).map (fun i => (i.zero, i.size, i.bytes)) = some (some (.int .u64 0), 1, 8) := by kernel_rfl
def clashL (s : Stand) : List Nat := (List.range (everyB s + 1)).filter fun set => decide (truthsL s set = [])
def ansC (s : Stand) : Int × Int := if validB s = false then (0, 1) else if truthsL s (everyB s) ≠ [] then (0, 4) else ((least ((clashL s).headD 0) (clashL s).tail : Nat), 0)
def AnsweredC (s : Stand) (w : World) (e : Ending) (w' : World) : Prop := e = .returned (.tuple #[.int .i64 (ansC s).1, .int .i64 (ansC s).2]) ∧ Below w.heap.size w w'
theorem end_panicC {fn : Func} (hres : fn.results = #[.tmp 2, .cell 3 28]) {tmps : Array Value} {N3 : Nat} {n : Int} (h4 : tmps[2]? = some (.int .i64 n)) (h5 : tmps[3]? = some (.pointer (some ⟨N3, 0, none⟩)))
    {c : Int} {x : World} (e0 : x.cell? ⟨N3, 0, none⟩ = some (.int .i64 0)) (f0 : x.frozen? ⟨N3, 0, none⟩ = false)
    {R : Ending → World → Prop} (hR : R (.returned (.tuple #[.int .i64 n, .int .i64 c])) (x.setCell ⟨N3, 0, none⟩ (.int .i64 c))) :
    Leaves Tryz.prog fn tmps R [{ target := .fn (.func 74) #[], args := #[.pointer (some ⟨N3, 0, none⟩)] }] (.panicking (refusal c)) x := by
  refine leaves_cons (f := 74) (args := #[.pointer (some ⟨N3, 0, none⟩)]) (by simp) (by simp [go_sem]) ?_
  refine (answer_refused ⟨N3, 0, none⟩ 0 c [] x e0 f0).mono ?_
  rintro e u' w' ⟨rfl, rfl, rfl⟩
  have k2 : (x.setCell ⟨N3, 0, none⟩ (.int .i64 c)).cell? ⟨N3, 0, none⟩ = some (.int .i64 c) := World.cell?_setCell_same' _ _ _ (by rw [e0]; rfl)
  refine ⟨_, ?_, hR⟩
  simp [results, hres, h4, h5, go_sem, k2]
theorem end_okC {fn : Func} (hres : fn.results = #[.tmp 2, .cell 3 28]) {tmps : Array Value} {N3 : Nat} {n : Int} (h4 : tmps[2]? = some (.int .i64 n)) (h5 : tmps[3]? = some (.pointer (some ⟨N3, 0, none⟩)))
    {x : World} {c : Int} (e0 : x.cell? ⟨N3, 0, none⟩ = some (.int .i64 c))
    {R : Ending → World → Prop} (hR : R (.returned (.tuple #[.int .i64 n, .int .i64 c])) x) :
    Leaves Tryz.prog fn tmps R [{ target := .fn (.func 74) #[], args := #[.pointer (some ⟨N3, 0, none⟩)] }] .returning x := by
  refine leaves_cons (f := 74) (args := #[.pointer (some ⟨N3, 0, none⟩)]) (by simp) (by simp [go_sem]) ?_
  refine (answer_idle ⟨N3, 0, none⟩ x).mono ?_
  rintro e u' w' ⟨rfl, rfl, rfl⟩
  refine ⟨_, ?_, hR⟩
  simp [results, hres, h4, h5, go_sem, e0]
theorem every_lt {s : Stand} (hs : Fit s) : everyB s < 16 := by
  have hll := hs.looks
  unfold everyB
  have : s.looks.length = 0 ∨ s.looks.length = 1 ∨ s.looks.length = 2 ∨ s.looks.length = 3 ∨ s.looks.length = 4 := by omega
  rcases this with h | h | h | h | h <;> rw [h] <;> decide
theorem every_cast {s : Stand} (hs : Fit s) : ((2 : Int) ^ s.looks.length - 1) = ((everyB s : Nat) : Int) := by
  have hll := hs.looks
  unfold everyB
  have : s.looks.length = 0 ∨ s.looks.length = 1 ∨ s.looks.length = 2 ∨ s.looks.length = 3 ∨ s.looks.length = 4 := by omega
  rcases this with h | h | h | h | h <;> rw [h] <;> decide
theorem yes_any (p : Value) (w : World) : Calls Tryz.prog 112 #[p] w fun e w' => e = .returned (.bool true) ∧ Below w.heap.size w w' := by
  go_enter Tryz.func112, Tryz.ntmps112
  go_wp2
  go_ret
  exact ⟨rfl, Below.refl _ _⟩
def clK (s : Stand) (k : Nat) : List Nat := (List.range k).filter fun set => decide (truthsL s set = [])
theorem clK_succ (s : Stand) (k : Nat) : clK s (k + 1) = clK s k ++ if truthsL s k = [] then [k] else [] := by
  unfold clK
  rw [List.range_succ, List.filter_append]
  by_cases h : truthsL s k = [] <;> simp [h]
theorem clK_length (s : Stand) (k : Nat) : (clK s k).length ≤ k := by
  unfold clK
  have := List.length_filter_le (fun set => decide (truthsL s set = [])) (List.range k)
  simpa using this
structure ClAt (w : World) (b m : Nat) (s : Stand) (Bt base : Nat) (k : Nat) (T : Nat → Prop) (v : Value) (wr : World) : Prop where
  row : wr.ownsRow base 159 1 v (clK s k).length (((clK s k).map encU).flatten)
  ro : ∀ j, v.ownBlock = some j → T j
  tb : ∀ j, T j → base ≤ j
  board : Board wr b m s T
  below : Below w.heap.size w wr
  kb : wr.cell? ⟨Bt, 0, none⟩ = some (.pointer (some ⟨b, 0, none⟩))
  ke : wr.cell? ⟨w.heap.size + 1, 0, none⟩ = some (.int .i64 0)
  kf : wr.frozen? ⟨w.heap.size + 1, 0, none⟩ = false
  size : base ≤ wr.heap.size
set_option maxRecDepth 100000 in
set_option maxHeartbeats 1000000 in
theorem clash_any (a0 b0 a1 b1 a2 b2 : Int) (rv sv lv : Value) (runs : List (Int × Int)) (sheep : List Int) (looks : List (Int × Int × Int)) (w : World)
    (hr : Prs w w.heap.size rv runs) (hsh : Ints w w.heap.size sv sheep) (hl : Trs w w.heap.size lv looks) (s : Stand) (hs : s = ⟨[(a0, b0), (a1, b1), (a2, b2)], runs, sheep, looks⟩) :
    Calls Tryz.prog 87 #[.agg #[.int .i64 a0, .int .i64 b0, .int .i64 a1, .int .i64 b1, .int .i64 a2, .int .i64 b2, rv, sv, lv]] w (AnsweredC s w) := by
  obtain ⟨w1, hw1⟩ : ∃ x, (w.alloc (.cells #[.int .i64 a0, .int .i64 b0, .int .i64 a1, .int .i64 b1, .int .i64 a2, .int .i64 b2, rv, sv, lv] 50)).alloc (.cells #[.int .i64 0] 28) = x := ⟨_, rfl⟩
  have hb1 : Below w.heap.size w w1 := by rw [← hw1]; exact below_two _ _ _
  have hsz1 : w1.heap.size = w.heap.size + 2 := by rw [← hw1]; simp
  have x2 : w1.cell? ⟨w.heap.size + 1, 0, none⟩ = some (.int .i64 0) := by rw [← hw1]; simp [go_sem]
  have y2 : w1.frozen? ⟨w.heap.size + 1, 0, none⟩ = false := by rw [← hw1]; simp [go_sem]
  have hc1 : ∀ j v, #[Value.int .i64 a0, .int .i64 b0, .int .i64 a1, .int .i64 b1, .int .i64 a2, .int .i64 b2, rv, sv, lv][j]? = some v → w1.cell? ⟨w.heap.size, j, none⟩ = some v := by
    intro j v h; rw [← hw1]
    rw [World.cell?_alloc_lt _ _ _ (by simp), World.cell?_alloc_new]; exact h
  have c0 := hc1 0 _ rfl
  have c1 := hc1 1 _ rfl
  have c2 := hc1 2 _ rfl
  have c3 := hc1 3 _ rfl
  have c4 := hc1 4 _ rfl
  have c5 := hc1 5 _ rfl
  have c6 := hc1 6 _ rfl
  have c7 := hc1 7 _ rfl
  have c8 := hc1 8 _ rfl
  have hmins3 : s.mins.length = 3 := by rw [hs]; rfl
  have hopen : Calls Tryz.prog 75 #[.agg #[.int .i64 a0, .int .i64 b0, .int .i64 a1, .int .i64 b1, .int .i64 a2, .int .i64 b2, rv, sv, lv], .func (.func 112) #[] #[]] w1 (OpenPost s true w1) := by
    rw [hs]
    exact open_any a0 b0 a1 b1 a2 b2 rv sv lv runs sheep looks 112 #[] true w1 (hr.later hb1) (hsh.later hb1) (hl.later hb1) (enters_of Tryz.func112 (by kernel_rfl) rfl) (fun A b m hA hBd hv => yes_any _ A)
  have HO := Lib.hid hopen
  have HS := Lib.hid hs
  have HB1 := Lib.hid hb1
  have HM3 := Lib.hid hmins3
  have HSZ := Lib.hid hsz1
  clear hopen hs hb1 hr hsh hl hc1 hmins3 hsz1
  go_enter_defers Tryz.func87, Tryz.ntmps87
  go_upto_region 2 with (fail)
  clear hw1
  go_wp2_with (go_at_call 75; refine HO.out.mono ?_; rintro e x (⟨h1, rfl, hb⟩ | ⟨h1, h2, rfl, hb⟩ | ⟨h1, h2, b, m, rfl, hb, hbb, hmm, hne, hbd⟩)
               rotate_left 2
               have HBX := Lib.hid hb
               have HBD := Lib.hid hbd
               clear hb hbd)
  · have hfit := fit_of_valid HM3.out h1
    have hll := hfit.looks
    have hset : everyB s < 16 := every_lt hfit
    obtain ⟨Z1, hZ1⟩ : ∃ z, x.alloc (.cells #[.pointer (some ⟨b, 0, none⟩)] 112) = z := ⟨_, rfl⟩
    have hbz : Below x.heap.size x Z1 := by rw [← hZ1]; exact box_below _ _
    have hzs : Z1.heap.size = x.heap.size + 1 := by rw [← hZ1]; simp
    have hgz := HBD.out.later hbz
    have kb : Z1.cell? ⟨x.heap.size, 0, none⟩ = some (.pointer (some ⟨b, 0, none⟩)) := by rw [← hZ1]; simp [go_sem]
    have ke : Z1.cell? ⟨w.heap.size + 1, 0, none⟩ = some (.int .i64 0) := cell_old hbz (cell_old HBX.out x2)
    have kf : Z1.frozen? ⟨w.heap.size + 1, 0, none⟩ = false := ((bcell hbz).2 _ 0 (by have := HSZ.out; have := HBX.out.size; omega)).trans (((bcell HBX.out).2 _ 0 (by have := HSZ.out; omega)).trans y2)
    have hwz : Below w.heap.size w Z1 := below_trans' (below_trans' HB1.out HBX.out) hbz
    have hws : w.heap.size + 2 ≤ x.heap.size := by have := HSZ.out; have := HBX.out.size; omega
    have hm2 : w.heap.size + 2 ≤ m := by have := HSZ.out; omega
    have hmz := hgz.mlt
    have hmx : m < x.heap.size := HBD.out.mlt
    obtain ⟨lv', h8, ⟨lao, lcap, rfl, _⟩, _⟩ := hgz.looks
    have hev := every_any b lao s.looks.length lcap Z1 h8 hll
    rw [every_cast hfit] at hev
    have hcan := can_any b m x.heap.size (everyB s) s _ Z1 hfit hset hgz kb
    rw [hZ1]
    have HEV := Lib.hid hev
    have HWZ := Lib.hid hwz
    have HGZ := Lib.hid hgz
    have nb : x.heap.size ≠ m := by omega
    have ne1 : w.heap.size + 1 ≠ m := by omega
    clear hev hwz hgz hZ1 hbz h8 c0 c1 c2 c3 c4 c5 c6 c7 c8 x2 y2
    by_cases hcl : truthsL s (everyB s) = []
    · have hd : decide (truthsL s (everyB s) ≠ []) = false := by simp [hcl]
      rw [hd] at hcan
      have HCAN := Lib.hid hcan
      clear hd hcan
      refine HEV.out.mono ?_
      rintro e w' ⟨rfl, rfl⟩
      go_wp2_with (first
        | (go_at_call 113; refine HCAN.out.mono ?_; rintro e Z2 ⟨rfl, hon⟩
           have kf := (hon.frm.frozen (World.block_lt_of_cell? _ _ ke) ne1).trans kf
           have kb := hon.cell kb nb
           have ke := hon.cell ke ne1
           have HON := Lib.hid hon; clear hon)
        | (go_at_call 103; refine (ask_ok 4 _).mono ?_; rintro e w6 ⟨rfl, rfl⟩))
      obtain ⟨lv', h8, ⟨lao, lcap, rfl, _⟩, _⟩ := HON.out.board.looks
      have hev2 := every_any b lao s.looks.length lcap Z2 h8 hll
      rw [every_cast hfit] at hev2
      have HEV2 := Lib.hid hev2
      have hw2 : Below w.heap.size w Z2 := HWZ.out.trans (HON.out.frm.below (fun k hk => by omega) HWZ.out.size)
      have HW2 := Lib.hid hw2
      have hzz : Z1.heap.size ≤ Z2.heap.size := HON.out.size
      clear hev2 hw2 h8
      refine HEV2.out.mono ?_
      rintro e w' ⟨rfl, rfl⟩
      obtain ⟨i0, hi0, hz0, hz1, hz2⟩ := info_parts info98
      go_wp2
      go_loopw [6, 20] (fun v i wr => ∃ (k : Nat) (T : Nat → Prop), i = .int .u64 k ∧ k ≤ everyB s + 1 ∧ ClAt w b m s x.heap.size Z2.heap.size k T v wr) (fun _ i _ => everyB s + 1 - (intOf i).toNat)
      case atStart =>
        exact ⟨0, fun _ => False, rfl, by omega, World.ownsRow_nil _ _ _ _, (by intro j hj; cases hj), fun j h => h.elim, HON.out.board, HW2.out, kb, ke, kf, Nat.le_refl _⟩
      case round =>
        obtain ⟨k, T, rfl, hk, hI⟩ := hrel
        have kb := hI.kb
        have ke := hI.ke
        have kf := hI.kf
        have HI := Lib.hid hI
        clear hI
        by_cases hlt : k < everyB s + 1
        · have cl : ((k : Nat) : Int) < ((everyB s : Nat) : Int) + 1 := by omega
          have hcan2 := can_any b m x.heap.size k s T wr hfit (by omega) HI.out.board HI.out.kb
          by_cases hck : truthsL s k = []
          · have hd : decide (truthsL s k ≠ []) = false := by simp [hck]
            rw [hd] at hcan2
            have HC2 := Lib.hid hcan2
            clear hd hcan2
            obtain ⟨ao, cap, rfl⟩ := owns_slice HI.out.row
            have hckl := clK_length s k
            go_wp2_with (first
              | (go_at_call 113; refine HC2.out.mono ?_; rintro e w5 ⟨rfl, hon⟩
                 have ho5 := ownsRow_frm HI.out.row hon.frm (fun j hj => by have := HI.out.tb j (HI.out.ro j hj); omega)
                 have hb5s : Z2.heap.size ≤ w5.heap.size := Nat.le_trans HI.out.size hon.size
                 have HON5 := Lib.hid hon; clear hon)
              | (at_builtin; refine wpList_append_own_at _ rfl _ _ 165 rfl Z2.heap.size 159 i0 (.int .u64 0) 1 8 Tryz.underlying165 hi0 hz0 hz1 hz2 rfl (by decide) (.slice ao (clK s k).length cap) _ _ rfl (ho5.alloc _) ⟨w5.heap.size, 0, none⟩ 1 1 [.int .u64 k] rfl rfl (cell_one_new _ _ _) (by intro u hu; simp at hu; subst hu; rfl) (by unfold maxLen; omega) (by omega) (by simp; omega) ?_; intro v6 w6 hown6 hgrow6 hnil6 hat6))
            go_roundw
            case rel =>
              have hsz6 := hgrow6.size
              simp only [World.size_alloc] at hsz6
              have hcs : clK s (k + 1) = clK s k ++ [k] := by rw [clK_succ, if_pos hck]
              have hf6 : Frm (fun j => T j) w5 w6 := ((Frm.refl (fun j => T j) w5).alloc (.cells #[.int .u64 k] 159)).grown hgrow6 (fun j hj => .inl (HI.out.ro j hj))
              have hge : ∀ j, (T j ∨ v6.ownBlock = some j) → T j ∨ w5.heap.size ≤ j := by
                rintro j (h | h)
                · exact .inl h
                · rcases hat6 with e | e
                  · rw [e] at h; exact .inl (HI.out.ro j h)
                  · rw [e] at h; cases h; exact .inr (by simp)
              have nT : ∀ j, j < Z2.heap.size → ¬ T j := fun j hj h => by have := HI.out.tb j h; omega
              have hxl : x.heap.size < Z2.heap.size := by omega
              refine ⟨k + 1, fun j => T j ∨ v6.ownBlock = some j, by go_num, by omega, ⟨?_, fun j hj => .inr hj, fun j hj => (hge j hj).elim (HI.out.tb j) (fun h => by omega), HON5.out.board.turnGrow hf6 (fun j hj => hj) hge ?_, ?_, ?_, ?_, ?_, by omega⟩⟩
              · rw [hcs]; simpa [encU] using hown6
              · rintro j (h | h)
                · have := HON5.out.board.xlt j h; omega
                · exact (hown6.lt j h).2
              · have h5 := HI.out.below.trans (HON5.out.frm.below (B := w.heap.size) (fun j hj => by omega) HI.out.below.size)
                exact h5.trans (hf6.below (fun j hj => by have := HI.out.tb j hj; omega) h5.size)
              · exact hf6.cell (HON5.out.cell kb nb) (nT _ hxl)
              · exact hf6.cell (HON5.out.cell ke ne1) (nT _ (by simp only; omega))
              · exact (hf6.frozen (by have := HON5.out.size; have := World.block_lt_of_cell? _ _ ke; simp only at this ⊢; omega) (nT _ (by simp only; omega))).trans ((HON5.out.frm.frozen (World.block_lt_of_cell? _ _ ke) ne1).trans kf)
            case measure => simp [intOf]; omega
          · have hd : decide (truthsL s k ≠ []) = true := by simp [hck]
            rw [hd] at hcan2
            have HC2 := Lib.hid hcan2
            clear hd hcan2
            go_wp2_with (go_at_call 113; refine HC2.out.mono ?_; rintro e w5 ⟨rfl, hon⟩; have HON5 := Lib.hid hon; clear hon)
            go_roundw
            case rel =>
              have hcs : clK s (k + 1) = clK s k := by rw [clK_succ, if_neg hck, List.append_nil]
              refine ⟨k + 1, T, by go_num, by omega, ⟨?_, HI.out.ro, HI.out.tb, HON5.out.board, HI.out.below.trans (HON5.out.frm.below (B := w.heap.size) (fun j hj => by omega) HI.out.below.size), HON5.out.cell kb nb, HON5.out.cell ke ne1, (HON5.out.frm.frozen (World.block_lt_of_cell? _ _ ke) ne1).trans kf, Nat.le_trans HI.out.size HON5.out.size⟩⟩
              rw [hcs]
              exact ownsRow_frm HI.out.row HON5.out.frm (fun j hj => by have := HI.out.tb j (HI.out.ro j hj); omega)
            case measure => simp [intOf]; omega
        · have cl : ¬ ((k : Nat) : Int) < ((everyB s : Nat) : Int) + 1 := by omega
          have hkk : k = everyB s + 1 := by omega
          subst hkk
          have hcl0 : everyB s ∈ clashL s := by unfold clashL; simp [hcl]
          have hne0 : clashL s ≠ [] := fun h => by rw [h] at hcl0; cases hcl0
          have h16 : ∀ y ∈ clashL s, y < 16 := by
            intro y hy
            unfold clashL at hy
            have := List.mem_range.1 (List.mem_filter.1 hy).1
            omega
          have hrow : Uints wr wr.heap.size u6 (clashL s) := RowsAt.of_owns (enc := encU) (size := 1) (fun _ => rfl) (by decide) HI.out.row
          have hmin := minFunc_any u6 (clashL s) wr hrow hne0 h16
          have hl16 : least ((clashL s).headD 0) (clashL s).tail < 16 := by
            rcases least_mem (clashL s).tail ((clashL s).headD 0) with h | h
            · rw [h]
              cases hc : clashL s with
              | nil => exact absurd hc hne0
              | cons a r => exact h16 a (by rw [hc]; exact List.mem_cons_self ..)
            · exact h16 _ (List.mem_of_mem_tail h)
          have han : ansC s = (((least ((clashL s).headD 0) (clashL s).tail : Nat) : Int), 0) := by
            unfold ansC
            rw [if_neg (by simp [h1]), if_neg (by simp [hcl])]
          obtain ⟨ml, hml2⟩ : ∃ y, least ((clashL s).headD 0) (clashL s).tail = y := ⟨_, rfl⟩
          rw [hml2] at hmin hl16 han
          have HMIN := Lib.hid hmin
          have HAN := Lib.hid han
          clear hmin han hml2 hrow h16 hcl0 hne0
          go_wp2_with (go_at_call 116; refine HMIN.out.mono ?_; rintro e w6 ⟨rfl, rfl⟩)
          refine end_okC (n := (ml : Int)) (c := 0) rfl rfl rfl (by simp [go_sem, ke]) ?_
          unfold AnsweredC
          rw [HAN.out]
          exact ⟨rfl, HI.out.below.setCell (by simp only; omega) _⟩
    · have hd : decide (truthsL s (everyB s) ≠ []) = true := by simp [hcl]
      rw [hd] at hcan
      have HCAN := Lib.hid hcan
      clear hd hcan
      refine HEV.out.mono ?_
      rintro e w' ⟨rfl, rfl⟩
      go_wp2_with (first
        | (go_at_call 113; refine HCAN.out.mono ?_; rintro e Z2 ⟨rfl, hon⟩; have HON := Lib.hid hon; clear hon)
        | (go_at_call 103; refine (ask_no 4 _).mono ?_; rintro e w6 ⟨rfl, rfl⟩))
      have hon := HON.out
      refine end_panicC rfl rfl rfl (hon.cell ke ne1) ((hon.frm.frozen (World.block_lt_of_cell? _ _ ke) ne1).trans kf) ?_
      unfold AnsweredC ansC
      rw [if_neg (by simp [h1]), if_pos hcl]
      exact ⟨rfl, (HWZ.out.trans (hon.frm.below (fun k hk => by omega) HWZ.out.size)).setCell (by simp only; omega) _⟩
  · refine end_panicC rfl rfl rfl (cell_old hb x2) (((bcell hb).2 _ 0 (by have := HSZ.out; omega)).trans y2) ?_
    unfold AnsweredC ansC
    rw [if_pos h1]
    exact ⟨rfl, (below_trans' HB1.out hb).setCell (by simp only; omega) _⟩
  · cases h2
end Go.Proofs.YthedkfiebmnghaaGreat
