/- Texts of the proof, joined. -/
import Derived.Test.YthedkfiebmnghaaGreatKst9
set_option linter.all false
namespace Go.Proofs.YthedkfiebmnghaaGreat
open Go.RowKit Go.Sh Go.Sh.Stand
theorem info143 : (Tryz.prog.info? 184).map (fun i => (i.zero, i.size, i.bytes)) = some (some (.agg #[.int .i64 0, .int .i64 0]), 2, 16) := by kernel_rfl
def cV (c : Value) : Value → World → Prop := fun v _ => v = c
structure DayAt (w3 : World) (s : Stand) (t : Shearer) (acc : List (Int × Int)) (run : Nat) (done : Int) (v : Value) (wr : World) : Prop where
  len : acc.length ≤ s.sheep.length
  eq : Hid (acc ++ dayFrom s.runs t (s.sheep.drop acc.length) run done = day s t)
  hrun : run ≤ s.runs.length
  hdone : 0 ≤ done ∧ done ≤ 1000
  own : wr.ownsRow w3.heap.size 184 2 v acc.length ((acc.map enc2).flatten)
  apart : v.ownBlock ≠ some (w3.heap.size + 1)
  n0 : wr.cell? ⟨w3.heap.size + 1, 0, none⟩ = some (.int .i64 done)
  n1 : wr.cell? ⟨w3.heap.size + 1, 1, none⟩ = some (.int .i64 run)
  f0 : wr.frozen? ⟨w3.heap.size + 1, 0, none⟩ = false
  f1 : wr.frozen? ⟨w3.heap.size + 1, 1, none⟩ = false
  below : Below w3.heap.size w3 wr
  size : w3.heap.size + 1 < wr.heap.size
structure DayEnd (w3 : World) (s : Stand) (t : Shearer) (acc : List (Int × Int)) (v : Value) (wr : World) : Prop where
  len : acc.length ≤ s.sheep.length
  eq : acc ++ List.replicate (s.sheep.length - acc.length) (1000, -1) = day s t
  own : wr.ownsRow w3.heap.size 184 2 v acc.length ((acc.map enc2).flatten)
  below : Below w3.heap.size w3 wr
set_option maxRecDepth 100000 in
set_option maxHeartbeats 1000000 in
theorem day_any (b m : Nat) (s : Stand) (X : Nat → Prop) (t : Shearer) (w : World) (hs : Fit s) (ht : Tok t) (hB : Board w b m s X) :
    Calls Tryz.prog 111 #[.pointer (some ⟨b, 0, none⟩), keyV t] w (DayPost b m s X t w) := by
  obtain ⟨l, hl⟩ := key140_of t.1 t.2.1 t.2.2 ht.wf.1 ht.wf.2.1 ht.wf.2.2
  obtain ⟨v, ok, hlk, hor⟩ := hB.kept.lookup key140 Tryz.underlying148 zero124 hl
  have HLK := Lib.hid hlk; clear hlk
  have HL := Lib.hid hl; clear hl
  have h9 := hB.map
  have HB := Lib.hid hB; clear hB
  have HS := Lib.hid hs; clear hs
  have HTK := Lib.hid ht; clear ht
  unfold keyV
  obtain ⟨t0, t1, t2⟩ := t
  rcases hor with ⟨rfl, hv⟩ | ⟨rfl, rfl⟩
  · -- it is kept
    have HV := Lib.hid hv; clear hv
    go_enter Tryz.func111, Tryz.ntmps111
    go_wp2
    obtain ⟨w2, hw2⟩ : ∃ w2, (w.alloc (Obj.cells #[.int .i64 t0, .int .i64 t1, .int .i64 t2] 154)).alloc (Obj.cells #[.int .i64 t0, .int .i64 t1, .int .i64 t2] 181) = w2 := ⟨_, rfl⟩
    have hb2 : Below w.heap.size w w2 := by rw [← hw2]; exact below_two _ _ _
    have q0 : w2.cell? ⟨w.heap.size + 1, 0, none⟩ = some (.int .i64 t0) := by rw [← hw2]; simp [go_sem]
    have q1 : w2.cell? ⟨w.heap.size + 1, 1, none⟩ = some (.int .i64 t1) := by rw [← hw2]; simp [go_sem]
    have q2 : w2.cell? ⟨w.heap.size + 1, 2, none⟩ = some (.int .i64 t2) := by rw [← hw2]; simp [go_sem]
    have h92 := cell_old hb2 h9
    have hmlt : m < w.heap.size := by obtain ⟨es, ck, hb, _⟩ := HB.out.kept; exact (Array.getElem?_eq_some_iff.1 hb).1
    have hq : ∀ n, (Instr.lookup 148 (.map (some m)) (.agg #[.int .i64 t0, .int .i64 t1, .int .i64 t2]) true).run Tryz.prog (w2.drewN n) = .ok (.tuple #[v, .bool true]) (w2.drewN n) := fun n => HLK.out _ (hb2.block m hmlt)
    rw [hw2]
    have HB2 := Lib.hid hb2
    clear hw2 hb2 h9
    go_quiet (fail)
    go_wp2
    go_ret
    obtain ⟨t', hkt, hrd, _⟩ := HV.out
    have ht' : (t0, t1, t2) = t' := by
      obtain ⟨a, b', c⟩ := t'
      simp only [keyV, Value.agg.injEq, Array.mk.injEq, List.cons.injEq, Value.int.injEq, and_true, true_and] at hkt
      obtain ⟨rfl, rfl, rfl⟩ := hkt; rfl
    have hbn := below_drewN HB2.out nq
    exact ⟨v, rfl, ht' ▸ hrd.later hbn, .of_below hbn, HB.out.later hbn⟩
  · -- it is not: the day is gone through
    have h7 := HB.out.sheep
    obtain ⟨sv, hs7, hsv, _⟩ := h7
    obtain ⟨rv, hs6, hrr, _⟩ := HB.out.runs
    have HRR := Lib.hid hrr; clear hrr
    obtain ⟨sao, scap, rfl, hslen, hsrow⟩ := hsv
    have HSR := Lib.hid hsrow; clear hsrow
    go_enter Tryz.func111, Tryz.ntmps111
    go_wp2
    obtain ⟨w2, hw2⟩ : ∃ w2, (w.alloc (Obj.cells #[.int .i64 t0, .int .i64 t1, .int .i64 t2] 154)).alloc (Obj.cells #[.int .i64 t0, .int .i64 t1, .int .i64 t2] 181) = w2 := ⟨_, rfl⟩
    have hb2 : Below w.heap.size w w2 := by rw [← hw2]; exact below_two _ _ _
    have p0 : w2.cell? ⟨w.heap.size, 0, none⟩ = some (.int .i64 t0) := by rw [← hw2]; simp [go_sem]
    have p1 : w2.cell? ⟨w.heap.size, 1, none⟩ = some (.int .i64 t1) := by rw [← hw2]; simp [go_sem]
    have p2 : w2.cell? ⟨w.heap.size, 2, none⟩ = some (.int .i64 t2) := by rw [← hw2]; simp [go_sem]
    have q0 : w2.cell? ⟨w.heap.size + 1, 0, none⟩ = some (.int .i64 t0) := by rw [← hw2]; simp [go_sem]
    have q1 : w2.cell? ⟨w.heap.size + 1, 1, none⟩ = some (.int .i64 t1) := by rw [← hw2]; simp [go_sem]
    have q2 : w2.cell? ⟨w.heap.size + 1, 2, none⟩ = some (.int .i64 t2) := by rw [← hw2]; simp [go_sem]
    have hsz2 : w2.heap.size = w.heap.size + 2 := by rw [← hw2]; simp
    have h92 := cell_old hb2 h9
    have h72 := cell_old hb2 hs7
    have h62 := cell_old hb2 hs6
    have hmlt : m < w.heap.size := by obtain ⟨es, ck, hb, _⟩ := HB.out.kept; exact (Array.getElem?_eq_some_iff.1 hb).1
    have hq : ∀ n, (Instr.lookup 148 (.map (some m)) (.agg #[.int .i64 t0, .int .i64 t1, .int .i64 t2]) true).run Tryz.prog (w2.drewN n) = .ok (.tuple #[.slice none 0 0, .bool false]) (w2.drewN n) := fun n => HLK.out _ (hb2.block m hmlt)
    rw [hw2]
    have HB2 := Lib.hid hb2
    have HSZ2 := Lib.hid hsz2
    have HMLT := Lib.hid hmlt
    clear hw2 hb2 h9 hs7 hs6 hsz2 hmlt
    go_quiet (fail)
    clear hq
    obtain ⟨w3, hw3⟩ : ∃ w3, w2.drewN nq = w3 := ⟨_, rfl⟩
    have hb3 : Below w.heap.size w w3 := by rw [← hw3]; exact below_drewN HB2.out nq
    have hsz3 : w3.heap.size = w.heap.size + 2 := by rw [← hw3]; simpa using HSZ2.out
    have p0 : w3.cell? ⟨w.heap.size, 0, none⟩ = some (.int .i64 t0) := by rw [← hw3]; simpa using p0
    have p1 : w3.cell? ⟨w.heap.size, 1, none⟩ = some (.int .i64 t1) := by rw [← hw3]; simpa using p1
    have p2 : w3.cell? ⟨w.heap.size, 2, none⟩ = some (.int .i64 t2) := by rw [← hw3]; simpa using p2
    have q0 : w3.cell? ⟨w.heap.size + 1, 0, none⟩ = some (.int .i64 t0) := by rw [← hw3]; simpa using q0
    have q1 : w3.cell? ⟨w.heap.size + 1, 1, none⟩ = some (.int .i64 t1) := by rw [← hw3]; simpa using q1
    have q2 : w3.cell? ⟨w.heap.size + 1, 2, none⟩ = some (.int .i64 t2) := by rw [← hw3]; simpa using q2
    have h92 : w3.cell? ⟨b, 9, none⟩ = some (.map (some m)) := by rw [← hw3]; simpa using h92
    have h72 : w3.cell? ⟨b, 7, none⟩ = some (.slice sao s.sheep.length scap) := by rw [← hw3]; simpa using h72
    have h62 : w3.cell? ⟨b, 6, none⟩ = some rv := by rw [← hw3]; simpa using h62
    have hbl : b < w3.heap.size := World.block_lt_of_cell? _ _ h72
    rw [hw3]
    have HB3 := Lib.hid hb3
    have HSZ3 := Lib.hid hsz3
    clear hw3 hb3 hsz3 HB2 HSZ2
    go_upto_block 0 with (fail)
    go_cut [8] (fun v8 wx => ∃ acc : List (Int × Int), DayEnd w3 s (t0, t1, t2) acc v8 wx)
    case first =>
      go_wp2_with fail
      go_loopw [8, 37] (fun v8 i wr => ∃ acc run done, i = .int .i64 ((acc.length : Nat) : Int) ∧ DayAt w3 s (t0, t1, t2) acc run done v8 wr) (fun _ i _ => s.sheep.length - (intOf i).toNat)
      case atStart =>
        refine ⟨[], 0, 0, rfl, ⟨by simp, Lib.hid rfl, by simp, by simp, ?_, by simp [Value.ownBlock], ?_, ?_, ?_, ?_, below_two _ _ _, by simp⟩⟩
        · exact (World.ownsRow_made w3 #[] 0 (Nat.le_refl _) (by simp [maxLen]) (by simp)).alloc _
        all_goals simp [go_sem]
      case round =>
        obtain ⟨acc, run, done, rfl, hI⟩ := hrel
        by_cases hlt : acc.length < s.sheep.length
        · obtain ⟨b0, off, rfl, hbl0, hx⟩ := HSR.out (by intro e; rw [e] at hlt; simp at hlt)
          have c0 : wr.cell? ⟨b0, off + acc.length, none⟩ = some (.int .i64 (s.sheep[acc.length])) := by
            refine cell_old hI.below (cell_old HB3.out ?_)
            simpa using hx acc.length s.sheep[acc.length] (by simp [hlt]) 0 _ rfl
          have hbeg := begins_any b rv s.runs run done wr (cell_old hI.below h62) ((HRR.out.later HB3.out).later hI.below) hI.hrun
          have cl : ((acc.length : Nat) : Int) < ((s.sheep.length : Nat) : Int) := by omega
          obtain ⟨bg, hbg⟩ : ∃ x, begins (s.runs.drop run) run done = x := ⟨_, rfl⟩
          have n0 := hI.n0
          have n1 := hI.n1
          have hI' := Lib.hid hI; clear hI
          have p0' := cell_old hI'.out.below p0
          have p1' := cell_old hI'.out.below p1
          have p2' := cell_old hI'.out.below p2
          cases bg with
          | none =>
            rw [hbg] at hbeg; simp only [begEnd] at hbeg
            have HBG := Lib.hid hbg; clear hbg
            go_wp2_with (go_at_call 128; refine hbeg.mono ?_; rintro e w' ⟨rfl, rfl⟩)
            go_meet
            refine ⟨acc, hI'.out.len, ?_, hI'.out.own, hI'.out.below⟩
            have := hI'.out.eq.out
            rwa [dayFrom_none HBG.out] at this
          | some q =>
            obtain ⟨i, at_⟩ := q
            rw [hbg] at hbeg; simp only [begEnd] at hbeg
            have HBG := Lib.hid hbg; clear hbg
            obtain ⟨pr, hri, hpr, hat1, hat2⟩ := begins_of_drop HBG.out
            have hdn := hI'.out.hdone
            have hri2 : i < s.runs.length := (List.getElem?_eq_some_iff.1 hpr).1
            have hpb := HS.out.runb pr (List.mem_of_getElem? hpr)
            have hat : 0 ≤ at_ ∧ at_ ≤ 600 := by have := gmax_ge done pr.1; omega
            have htk : 1 ≤ tk (t0, t1, t2) s.sheep[acc.length] ∧ tk (t0, t1, t2) s.sheep[acc.length] ≤ 40 := by
              have h0 : 1 ≤ t0 ∧ t0 ≤ 40 := HTK.out.1
              have h1 : 1 ≤ t1 ∧ t1 ≤ 40 := HTK.out.2.1
              have h2 : 1 ≤ t2 ∧ t2 ≤ 40 := HTK.out.2.2
              unfold tk; split
              · exact h0
              · split
                · exact h1
                · exact h2
            have HAT := Lib.hid hat1; clear hat1
            have hk := HS.out.kinds _ (List.getElem_mem hlt)
            have haf := after_any t0 t1 t2 at_ s.sheep[acc.length] wr hk (by have : 1 ≤ t0 ∧ t0 ≤ 40 := HTK.out.1; omega) (by have : 1 ≤ t1 ∧ t1 ≤ 40 := HTK.out.2.1; omega) (by have : 1 ≤ t2 ∧ t2 ≤ 40 := HTK.out.2.2; omega) (by omega)
            have hN := hI'.out.size
            have hlen := HS.out.sheep
            obtain ⟨tkv, htkv⟩ : ∃ x, tk (t0, t1, t2) s.sheep[acc.length] = x := ⟨_, rfl⟩
            rw [htkv] at haf htk
            obtain ⟨i0, hi0, hz0, hz1, hz2⟩ := info_parts info143
            go_wp2_with (first
              | (go_at_call 128; refine hbeg.mono ?_; rintro e w' ⟨rfl, rfl⟩)
              | (go_at_call 127; refine haf.mono ?_; rintro e w4 ⟨rfl, hb4⟩; have n04 := cell_old hb4 n0; have n14 := cell_old hb4 n1; have f04 := (bcell hb4).2 _ 0 hN; have f14 := (bcell hb4).2 _ 1 hN; rw [hI'.out.f0] at f04; rw [hI'.out.f1] at f14
                 have hown4 := ownsRow_below hI'.out.own hb4
                 have HB4 := Lib.hid hb4; clear hb4)
              | (at_builtin; refine wpList_append_own_at _ rfl _ _ 156 rfl w3.heap.size 184 i0 (.agg #[.int .i64 0, .int .i64 0]) 2 16 Tryz.underlying156 hi0 hz0 hz1 hz2 rfl (by decide) u8 _ _ rfl ((ownsRow_setCell (ownsRow_setCell hown4 hI'.out.apart _) hI'.out.apart _).alloc _) ⟨w4.heap.size, 0, none⟩ 1 1 [.int .i64 (at_ + tkv), .int .i64 i] rfl rfl ?c1 ?c2 ?c3 ?c4 ?c5 ?_; rotate_left 5; intro v5 w5 hown5 hgrow5 hnil5 hat5))
            case c1 => simpa using cell_two_new ((w4.setCell ⟨w3.heap.size + 1, 0, none⟩ (.int .i64 (at_ + tkv))).setCell ⟨w3.heap.size + 1, 1, none⟩ (.int .i64 i)) (.int .i64 (at_ + tkv)) (.int .i64 i) 184
            case c2 => intro u hu; simp at hu; rcases hu with rfl | rfl <;> rfl
            case c3 => unfold maxLen; omega
            case c4 => omega
            case c5 => have h1 := HB4.out.size; simp; omega
            go_roundw
            case rel =>
              obtain ⟨g0, g1, g2, g3, g4, g5⟩ := two_set (x := .int .i64 (at_ + tkv)) (y := .int .i64 i) n04 n14 f04 f14 (.cells #[.int .i64 (at_ + tkv), .int .i64 i] 184)
              have hsz5 := hgrow5.size
              simp at hsz5
              refine ⟨acc ++ [(at_ + tkv, (i : Int))], i, at_ + tkv, by simp, ⟨by simp; omega, Lib.hid ?_, by omega, by omega, by simpa [enc2] using hown5, apart_of hat5 hI'.out.apart (by simp; omega), grown_cell hgrow5 g0 hI'.out.apart, grown_cell hgrow5 g1 hI'.out.apart, (grown_frozen hgrow5 (by simp; omega) hI'.out.apart).trans g2, (grown_frozen hgrow5 (by simp; omega) hI'.out.apart).trans g3, ?_, by omega⟩⟩
              · have := hI'.out.eq.out
                rw [dayFrom_some hlt HBG.out, htkv] at this
                simpa using this
              · have hX := (hI'.out.below.trans (HB4.out.mono (by have := hI'.out.size; omega))).trans (g4 w3.heap.size (by omega))
                exact grown_below hX ((ownsRow_setCell (ownsRow_setCell hown4 hI'.out.apart _) hI'.out.apart _).alloc _) hgrow5 (by simp; omega)
            case measure => simp [intOf]; omega
        · have cl : ¬ ((acc.length : Nat) : Int) < ((s.sheep.length : Nat) : Int) := by omega
          have hI' := Lib.hid hI; clear hI
          go_wp2
          go_meet
          refine ⟨acc, hI'.out.len, ?_, hI'.out.own, hI'.out.below⟩
          have := hI'.out.eq.out
          rw [List.drop_eq_nil_of_le (by omega)] at this
          rw [show s.sheep.length - acc.length = 0 by omega]
          simpa [dayFrom] using this
    case rest =>
      obtain ⟨acc, hE⟩ := hcut
      have hlen := HS.out.sheep
      go_wp2_with fail
      go_loopw [8] (fun v8 wr => ∃ acc : List (Int × Int), DayEnd w3 s (t0, t1, t2) acc v8 wr) (fun v8 _ => s.sheep.length - lenV v8)
      case atStart => exact ⟨acc, hE⟩
      case round =>
        obtain ⟨acc, hI⟩ := hrel
        obtain ⟨ao, cap, rfl⟩ := owns_slice hI.own
        have hI' := Lib.hid hI; clear hI
        have h7r := cell_old hI'.out.below h72
        obtain ⟨i0, hi0, hz0, hz1, hz2⟩ := info_parts info143
        by_cases hlt : acc.length < s.sheep.length
        · have cl : ((acc.length : Nat) : Int) < ((s.sheep.length : Nat) : Int) := by omega
          go_wp2_with (at_builtin; refine wpList_append_own_at _ rfl _ _ 156 rfl w3.heap.size 184 i0 (.agg #[.int .i64 0, .int .i64 0]) 2 16 Tryz.underlying156 hi0 hz0 hz1 hz2 rfl (by decide) (.slice ao acc.length cap) _ _ rfl (hI'.out.own.alloc _) ⟨wr.heap.size, 0, none⟩ 1 1 [.int .i64 1000, .int .i64 (-1)] rfl rfl ?c1 ?c2 ?c3 ?c4 ?c5 ?_; rotate_left 5; intro v5 w5 hown5 hgrow5 hnil5 hat5)
          case c1 => exact cell_two_new _ _ _ _
          case c2 => intro u hu; simp at hu; rcases hu with rfl | rfl <;> rfl
          case c3 => unfold maxLen; omega
          case c4 => omega
          case c5 => have := hI'.out.below.size; simp; omega
          go_roundw
          case rel =>
            have hX := hI'.out.below.alloc hI'.out.below.size (.cells #[.int .i64 1000, .int .i64 (-1)] 184)
            refine ⟨acc ++ [(1000, -1)], ⟨by simp; omega, ?_, by simpa [enc2] using hown5, grown_below hX (hI'.out.own.alloc _) hgrow5 (by have := hI'.out.below.size; simp; omega)⟩⟩
            rw [← hI'.out.eq, show s.sheep.length - acc.length = (s.sheep.length - (acc ++ [((1000 : Int), (-1 : Int))]).length) + 1 by simp; omega, List.replicate_succ]
            simp
          case measure =>
            obtain ⟨ao', cap', rfl⟩ := owns_slice hown5
            simp [lenV]; omega
        · have cl : ¬ ((acc.length : Nat) : Int) < ((s.sheep.length : Nat) : Int) := by omega
          go_upto_region 18 with (fail)
          have hbr : Below w.heap.size w wr := HB3.out.trans (hI'.out.below.mono (HB3.out.size))
          have h9r := cell_old hI'.out.below h92
          have q0r := cell_old hI'.out.below q0
          have q1r := cell_old hI'.out.below q1
          have q2r := cell_old hI'.out.below q2
          have hbt := HB.out.later hbr
          have hoff : Off X (.slice ao acc.length cap) := by
            rintro a n c e hn hk
            cases e
            have h1 := HB.out.xlt _ hk
            have h2 := (hI'.out.own.lt a.block rfl).1
            have h3 := HB3.out.size
            omega
          have HOFF := Lib.hid hoff
          clear hoff
          have hday : acc = day s (t0, t1, t2) := by
            have := hI'.out.eq
            rw [show s.sheep.length - acc.length = 0 by omega] at this
            simpa using this
          have hprs : Prs wr wr.heap.size (.slice ao acc.length cap) (day s (t0, t1, t2)) := by
            rw [← hday]; exact RowsAt.of_owns (enc := enc2) (fun _ => rfl) (by decide) hI'.out.own
          clear hday
          have hmr : m < wr.heap.size := by have := HMLT.out; have := hbr.size; omega
          have e0 : ∀ x, Below wr.heap.size wr x → x.cell? ⟨b, 9, none⟩ = some (.map (some m)) := fun x h => cell_old h h9r
          have e1 : ∀ x, Below wr.heap.size wr x → x.cell? ⟨w.heap.size + 1, 0, none⟩ = some (.int .i64 t0) := fun x h => cell_old h q0r
          have e2 : ∀ x, Below wr.heap.size wr x → x.cell? ⟨w.heap.size + 1, 1, none⟩ = some (.int .i64 t1) := fun x h => cell_old h q1r
          have e3 : ∀ x, Below wr.heap.size wr x → x.cell? ⟨w.heap.size + 1, 2, none⟩ = some (.int .i64 t2) := fun x h => cell_old h q2r
          refine wp_region_rel (sz := 85) 6 (fun x y => Below wr.heap.size x y) [cV ?rv0, cV ?rv1, cV ?rv2, cV ?rv3, cV ?rv4, cV ?rv5] (fun _ _ => False) (by kernel_rfl) rfl (by kernel_rfl) ((Below.refl _ _).drew) (fun h1 h2 => h1.trans h2) ?rgS ?rgO ?rgP ?rgL ?rgE
          case rgO =>
            refine ⟨?_, ?_, ?_, ?_, ?_, ?_, trivial⟩
            all_goals
              intro a x hR hA
              rw [if_pos (by rfl)]
            · have s2 : a.tmps[0]?.getD undef = .pointer (some ⟨b, 0, none⟩) := hA.base 0 (by decide)
              clear hA
              refine rg_val_wide _ ?_ (by simp) rfl (Below.refl _ _); go_simp; rfl
            · have s2 : a.tmps[78]?.getD undef = _ := hA.pre 0 _ rfl (by kernel_rfl)
              clear hA
              refine rg_val_wide _ ?_ (by simp) rfl (Below.refl _ _); go_simp; rfl
            · have s2 : a.tmps[79]?.getD undef = _ := hA.pre 1 _ rfl (by kernel_rfl)
              clear hA
              refine rg_val_wide _ ?_ (by simp) rfl (Below.refl _ _); go_simp; rfl
            · have s2 : a.tmps[80]?.getD undef = _ := hA.pre 2 _ rfl (by kernel_rfl)
              clear hA
              refine rg_val_wide _ ?_ (by simp) rfl (Below.refl _ _); go_simp; rfl
            · have s2 : a.tmps[5]?.getD undef = .pointer (some ⟨w.heap.size + 1, 0, none⟩) := hA.base 5 (by decide)
              clear hA
              refine rg_val_wide _ ?_ (by simp) rfl (Below.refl _ _); go_simp; rfl
            · have s2 : a.tmps[8]?.getD undef = .slice ao acc.length cap := hA.base 8 (by decide)
              clear hA
              refine rg_val_wide _ ?_ (by simp) rfl (Below.refl _ _); go_simp; rfl
          case rgS =>
            intro V hV u x y hR hu
            simp only [List.mem_cons, List.not_mem_nil, or_false] at hV
            rcases hV with rfl | rfl | rfl | rfl | rfl | rfl <;> exact hu
          case rgP => intro ch a x h; exact h.elim
          case rgL =>
            rintro ⟨a, x, h⟩
            obtain ⟨_, h1, _⟩ := (show DayPost b m s X (t0, t1, t2) w .outgrown x from h)
            cases h1
          case rgE =>
            intro v0 v1 v2 v3 v4 v5 x hk
            obtain ⟨rfl, rfl, rfl, rfl, rfl, rfl, hx⟩ := hk
            simp only [List.drop_succ_cons, List.drop_zero, Act.put, List.setIfInBounds_toArray, List.set_cons_succ, List.set_cons_zero]
            have hbx := hbt.later hx
            obtain ⟨o, hup, hmi⟩ := hbx.kept.update key140 Tryz.underlying148 HL.out (v := .slice ao acc.length cap) ⟨(t0, t1, t2), rfl, hprs.later hx, HOFF.out⟩
            have hprs' := hprs.later hx
            have HX := Lib.hid hx
            have HMI := Lib.hid hmi
            have HPR := Lib.hid hprs'
            have HBX := Lib.hid hbx
            have HBR := Lib.hid hbr
            clear hx hmi hprs' hbx hbr e0 e1 e2 e3 hprs hbt
            go_wp2
            go_ret
            have hwx : Below w.heap.size w x := HBR.out.trans (HX.out.mono HBR.out.size)
            have hfx : Frm (fun k => k = m) x (x.putObj m o) := Frm.putObj (S := fun k => k = m) (Frm.refl _ _) (Or.inl rfl) o
            obtain ⟨es, ck, hbm, _⟩ := HBX.out.kept
            exact ⟨_, rfl, HPR.out.frmM hbm hfx, (Frm.of_below hwx).trans hfx, HBX.out.put hfx (HMI.out.imp rfl fun k v ⟨t, h1, h2, h3⟩ => ⟨t, h1, h2.frmM hbm hfx, h3⟩)⟩
end Go.Proofs.YthedkfiebmnghaaGreat
namespace Go.Sh.Stand
def lookOk (s : Stand) (t : Shearer) (set : Nat) (i : Nat) : Bool :=
 !(set.testBit i) || (decide ((s.looks.getD i (0, 0, 0)).2.1 ≤ countAt (day s t) (s.looks.getD i (0, 0, 0)).1) && decide (countAt (day s t) (s.looks.getD i (0, 0, 0)).1 ≤ (s.looks.getD i (0, 0, 0)).2.2))
def rightB (s : Stand) (t : Shearer) (set : Nat) : Bool := (List.range s.looks.length).all (lookOk s t set)
theorem all_range_succ (f : Nat → Bool) (k : Nat) : (List.range (k + 1)).all f = ((List.range k).all f && f k) := by
 rw [List.range_succ, List.all_append]; simp
theorem all_range_false (f : Nat → Bool) {k n : Nat} (h : k < n) (hf : f k = false) : (List.range n).all f = false := by
 rw [List.all_eq_false]; exact ⟨k, by simpa using h, by simp [hf]⟩
end Go.Sh.Stand
namespace Go.Proofs.YthedkfiebmnghaaGreat
open Go.RowKit Go.Sh Go.Sh.Stand
theorem OnBoard.trans {b m : Nat} {s : Stand} {X : Nat → Prop} {w w1 w2 : World} (h : OnBoard b m s X w w1) (k : OnBoard b m s X w1 w2) : OnBoard b m s X w w2 := ⟨h.frm.trans k.frm, k.board⟩
theorem OnBoard.of_below {b m : Nat} {s : Stand} {X : Nat → Prop} {w w1 : World} (h : Board w b m s X) (k : Below w.heap.size w w1) : OnBoard b m s X w w1 := ⟨.of_below k, h.later k⟩
theorem OnBoard.refl {b m : Nat} {s : Stand} {X : Nat → Prop} {w : World} (h : Board w b m s X) : OnBoard b m s X w w := .of_below h (Below.refl _ _)
theorem OnBoard.cell {b m : Nat} {s : Stand} {X : Nat → Prop} {w w1 : World} (h : OnBoard b m s X w w1) {a : Addr} {v : Value} (hc : w.cell? a = some v) (hm : a.block ≠ m) : w1.cell? a = some v := h.frm.cell hc hm
theorem OnBoard.size {b m : Nat} {s : Stand} {X : Nat → Prop} {w w1 : World} (h : OnBoard b m s X w w1) : w.heap.size ≤ w1.heap.size := h.frm.size
theorem bits_bit : ∀ set : Nat, set < 16 → ∀ k, k < 4 → bits .and .u64 ((set : Int) / 2 ^ k) 1 = if set.testBit k then 1 else 0 := by decide
set_option maxRecDepth 100000 in
set_option maxHeartbeats 1000000 in
theorem right_any (b m : Nat) (s : Stand) (X : Nat → Prop) (t : Shearer) (set : Nat) (w : World) (hs : Fit s) (ht : Tok t) (hset : set < 16) (hB : Board w b m s X) :
  Calls Tryz.prog 131 #[.pointer (some ⟨b, 0, none⟩), keyV t, .int .u64 set] w fun e w' => e = .returned (.bool (rightB s t set)) ∧ OnBoard b m s X w w' := by
 unfold keyV
 obtain ⟨t0, t1, t2⟩ := t
 have hB1 := hB.later ((Below.refl _ w).alloc (Nat.le_refl _) (.cells #[.int .i64 t0, .int .i64 t1, .int .i64 t2] 154))
 have hml := hB.mlt
 obtain ⟨lv, h8, hlv, _⟩ := hB1.looks
 obtain ⟨lao, lcap, rfl, hlen, hrow⟩ := hlv
 have HR := Lib.hid hrow; clear hrow
 have HB := Lib.hid hB; clear hB
 have HB1 := Lib.hid hB1; clear hB1
 have HS := Lib.hid hs; clear hs
 have HTK := Lib.hid ht; clear ht
 obtain ⟨target, htg⟩ : ∃ x, rightB s (t0, t1, t2) set = x := ⟨_, rfl⟩
 rw [htg]
 have HT := Lib.hid htg; clear htg
 go_enter Tryz.func131, Tryz.ntmps131
 go_wp2
 go_loopw [16] (fun i wr => ∃ k : Nat, k ≤ s.looks.length ∧ i = .int .i64 k ∧ Hid ((List.range k).all (lookOk s (t0, t1, t2) set) = true) ∧ OnBoard b m s X (w.alloc (.cells #[.int .i64 t0, .int .i64 t1, .int .i64 t2] 154)) wr) (fun i _ => s.looks.length - (intOf i).toNat)
 case atStart => exact ⟨0, by omega, rfl, Lib.hid rfl, .refl HB1.out⟩
 case round =>
  obtain ⟨k, hk, rfl, HA, hon⟩ := hrel
  have p0 : wr.cell? ⟨w.heap.size, 0, none⟩ = some (.int .i64 t0) := hon.cell (by simp [go_sem]) (by simp; omega)
  have p1 : wr.cell? ⟨w.heap.size, 1, none⟩ = some (.int .i64 t1) := hon.cell (by simp [go_sem]) (by simp; omega)
  have p2 : wr.cell? ⟨w.heap.size, 2, none⟩ = some (.int .i64 t2) := hon.cell (by simp [go_sem]) (by simp; omega)
  have HON := Lib.hid hon; clear hon
  by_cases hlt : k < s.looks.length
  ·have cl : ((k : Nat) : Int) < ((s.looks.length : Nat) : Int) := by omega
   obtain ⟨b0, off, rfl, hbl0, hx⟩ := HR.out (by intro e; rw [e] at hlt; simp at hlt)
   have hld := HS.out.lookb s.looks[k] (List.getElem_mem hlt)
   obtain ⟨lk, hlk⟩ : ∃ x, s.looks[k] = x := ⟨_, rfl⟩
   rw [hlk] at hld
   obtain ⟨mi, lo, hi⟩ := lk
   have hox : lookOk s (t0, t1, t2) set k = (!(set.testBit k) || inB (countAt (day s (t0, t1, t2)) mi) lo hi) := by
    unfold lookOk; rw [List.getD, List.getElem?_eq_getElem hlt, hlk]; rfl
   have c0 : wr.cell? ⟨b0, off + k * 3, none⟩ = some (.int .i64 mi) := HON.out.cell (by simpa using hx k (mi, lo, hi) (by simp [hlt, hlk]) 0 _ rfl) (by
    obtain ⟨es, ck, hb, _⟩ := HB1.out.kept
    exact ne_of_cell_map (hx k (mi, lo, hi) (by simp [hlt, hlk]) 0 _ rfl) hb)
   have c1 : wr.cell? ⟨b0, off + k * 3 + 1, none⟩ = some (.int .i64 lo) := HON.out.cell (by simpa using hx k (mi, lo, hi) (by simp [hlt, hlk]) 1 _ rfl) (by
    obtain ⟨es, ck, hb, _⟩ := HB1.out.kept
    exact ne_of_cell_map (hx k (mi, lo, hi) (by simp [hlt, hlk]) 1 _ rfl) hb)
   have c2 : wr.cell? ⟨b0, off + k * 3 + 2, none⟩ = some (.int .i64 hi) := HON.out.cell (by simpa using hx k (mi, lo, hi) (by simp [hlt, hlk]) 2 _ rfl) (by
    obtain ⟨es, ck, hb, _⟩ := HB1.out.kept
    exact ne_of_cell_map (hx k (mi, lo, hi) (by simp [hlt, hlk]) 2 _ rfl) hb)
   clear hx
   have HOX := Lib.hid hox; clear hox hlk
   go_upto_region 4 with (fail)
   obtain ⟨x0, hx0⟩ : ∃ x, wr.alloc (Obj.cells #[Value.int IntKind.i64 mi, Value.int IntKind.i64 lo, Value.int IntKind.i64 hi] 120) = x := ⟨_, rfl⟩
   rw [hx0]
   have hon0 : OnBoard b m s X (w.alloc (.cells #[.int .i64 t0, .int .i64 t1, .int .i64 t2] 154)) x0 := by
    rw [← hx0]; exact HON.out.trans (.of_below HON.out.board ((Below.refl _ wr).alloc (Nat.le_refl _) _))
   have hsr : m < wr.heap.size := HON.out.board.mlt
   have l0 : x0.cell? ⟨wr.heap.size, 0, none⟩ = some (.int .i64 mi) := by rw [← hx0]; simp [go_sem]
   have l1 : x0.cell? ⟨wr.heap.size, 1, none⟩ = some (.int .i64 lo) := by rw [← hx0]; simp [go_sem]
   have l2 : x0.cell? ⟨wr.heap.size, 2, none⟩ = some (.int .i64 hi) := by rw [← hx0]; simp [go_sem]
   have r0 : x0.cell? ⟨w.heap.size, 0, none⟩ = some (.int .i64 t0) := hon0.cell (by simp [go_sem]) (by simp; omega)
   have r1 : x0.cell? ⟨w.heap.size, 1, none⟩ = some (.int .i64 t1) := hon0.cell (by simp [go_sem]) (by simp; omega)
   have r2 : x0.cell? ⟨w.heap.size, 2, none⟩ = some (.int .i64 t2) := hon0.cell (by simp [go_sem]) (by simp; omega)
   clear hx0 p0 p1 p2 c0 c1 c2
   have n1 : wr.heap.size ≠ m := by omega
   have n2 : w.heap.size ≠ m := by omega
   have e0 : ∀ x, OnBoard b m s X x0 x → x.cell? ⟨wr.heap.size, 0, none⟩ = some (.int .i64 mi) := fun x h => h.cell l0 n1
   have f0 : ∀ x, OnBoard b m s X x0 x → x.cell? ⟨w.heap.size, 0, none⟩ = some (.int .i64 t0) := fun x h => h.cell r0 n2
   have f1 : ∀ x, OnBoard b m s X x0 x → x.cell? ⟨w.heap.size, 1, none⟩ = some (.int .i64 t1) := fun x h => h.cell r1 n2
   have f2 : ∀ x, OnBoard b m s X x0 x → x.cell? ⟨w.heap.size, 2, none⟩ = some (.int .i64 t2) := fun x h => h.cell r2 n2
   have HON0 := Lib.hid hon0; clear hon0
   refine wp_region_rel (sz := 46) 8 (fun x y => Board x b m s X → OnBoard b m s X x y) [cV ?rv0, cV ?rv1, cV ?rv2, cV ?rv3, cV ?rv4, cV ?rv5, fun v x => Board x b m s X ∧ Prs x x.heap.size v (day s (t0, t1, t2)), cV (.int .i64 (countAt (day s (t0, t1, t2)) mi))] (fun _ _ => False) (by kernel_rfl) rfl (by kernel_rfl) (fun h => .of_below h (Below.refl _ _).drew) (fun h1 h2 h => (h1 h).trans (h2 (h1 h).board)) ?rgS ?rgO ?rgP ?rgL ?rgE
   case rgO =>
    refine ⟨?_, ?_, ?_, ?_, ?_, ?_, ?_, ?_, trivial⟩
    all_goals
     intro a x hR hA
     rw [if_pos (by rfl)]
     have hR := hR HON0.out.board
    ·have s2 : a.tmps[8]?.getD undef = .pointer (some ⟨wr.heap.size, 0, none⟩) := hA.base 8 (by decide)
     clear hA
     refine rg_val_wide _ ?_ (by simp) rfl (.refl); go_simp; rfl
    ·have s2 : a.tmps[21]?.getD undef = _ := hA.pre 0 _ rfl (by kernel_rfl)
     clear hA
     refine rg_val_wide _ ?_ (by simp) rfl (.refl); go_simp; rfl
    ·have s2 : a.tmps[22]?.getD undef = _ := hA.pre 1 _ rfl (by kernel_rfl)
     clear hA
     refine rg_val_wide _ ?_ (by simp) rfl (.refl); go_simp; rfl
    ·have s2 : a.tmps[0]?.getD undef = .pointer (some ⟨b, 0, none⟩) := hA.base 0 (by decide)
     clear hA
     refine rg_val_wide _ ?_ (by simp) rfl (.refl); go_simp; rfl
    ·have s2 : a.tmps[0]?.getD undef = .pointer (some ⟨b, 0, none⟩) := hA.base 0 (by decide)
     clear hA
     refine rg_val_wide _ ?_ (by simp) rfl (.refl); go_simp; rfl
    ·have s2 : a.tmps[4]?.getD undef = .pointer (some ⟨w.heap.size, 0, none⟩) := hA.base 4 (by decide)
     clear hA
     refine rg_val_wide _ ?_ (by simp) rfl (.refl); go_simp; rfl
    ·have s2 : a.tmps[25]?.getD undef = _ := hA.pre 4 _ rfl (by kernel_rfl)
     have s3 : a.tmps[26]?.getD undef = _ := hA.pre 5 _ rfl (by kernel_rfl)
     clear hA
     refine rg_call_wide rfl (by go_simp; exact ⟨rfl, rfl⟩) ?_
     refine (day_any b m s X (t0, t1, t2) x HS.out HTK.out hR.board).mono ?_
     rintro e w2 ⟨v, rfl, hv, hb⟩
     exact ⟨⟨hb.board, hv⟩, fun _ => hb⟩
    ·have s2 : a.tmps[23]?.getD undef = _ := hA.pre 2 _ rfl (by kernel_rfl)
     have s3 : a.tmps[24]?.getD undef = _ := hA.pre 3 _ rfl (by kernel_rfl)
     obtain ⟨_, hp⟩ := hA.pre 6 _ rfl (by kernel_rfl)
     clear hA
     refine rg_call_wide rfl (by go_simp; exact ⟨rfl, rfl⟩) ?_
     refine (counted_any mi _ _ _ x hp (by rw [show (day s (t0, t1, t2)).length = s.sheep.length from dayFrom_length ..]; have := HS.out.sheep; omega)).mono ?_
     rintro e w2 ⟨rfl, hb⟩
     exact ⟨rfl, fun h => .of_below h hb⟩
   case rgS =>
    intro V hV u x y hR hu
    simp only [List.mem_cons, List.not_mem_nil, or_false] at hV
    rcases hV with rfl | rfl | rfl | rfl | rfl | rfl | rfl | rfl
    all_goals first | exact hu | skip
    obtain ⟨h1, h2⟩ := hu
    obtain ⟨es, ck, hb, _⟩ := h1.kept
    exact ⟨(hR h1).board, h2.frmM hb (hR h1).frm⟩
   case rgP => intro ch a x h; exact h.elim
   case rgL =>
    rintro ⟨a, x, h⟩
    have h' : Ending.outgrown = Ending.returned (.bool target) ∧ OnBoard b m s X w x := h
    cases h'.1
   case rgE =>
    intro v0 v1 v2 v3 v4 v5 v6 v7 x hk
    obtain ⟨rfl, hv6, rfl, rfl, rfl, rfl, rfl, rfl, hx⟩ := hk
    simp only [List.drop_succ_cons, List.drop_zero, Act.put, List.setIfInBounds_toArray, List.set_cons_succ, List.set_cons_zero]
    have hon1 := hx HON0.out.board
    clear hx hv6 e0 f0 f1 f2
    have l0' := hon1.cell l0 n1
    have l1' := hon1.cell l1 n1
    have l2' := hon1.cell l2 n1
    have HON1 := Lib.hid hon1; clear hon1
    have hll := HS.out.looks
    have hbits := bits_bit set hset k (by omega)
    have HON2 : Hid (OnBoard b m s X (w.alloc (.cells #[.int .i64 t0, .int .i64 t1, .int .i64 t2] 154)) x) := HON0.out.trans HON1.out
    have hba : Below w.heap.size w (w.alloc (.cells #[.int .i64 t0, .int .i64 t1, .int .i64 t2] 154)) := (Below.refl _ w).alloc (Nat.le_refl _) _
    have HBA := Lib.hid hba; clear hba
    clear hld
    have hne : (countAt (day s (t0, t1, t2)) mi) = (countAt (day s (t0, t1, t2)) mi) := rfl
    obtain ⟨cn, hcn⟩ : ∃ x, countAt (day s (t0, t1, t2)) mi = x := ⟨_, rfl⟩
    rw [hcn] at HOX
    simp only [hcn]
    clear hcn hne
    cases hbt : set.testBit k
    ·rw [hbt] at hbits HOX
     simp only [if_neg (show ¬ (false = true) by decide)] at hbits
     have HNX : Hid ((List.range (k + 1)).all (lookOk s (t0, t1, t2) set) = true) := Lib.hid (by rw [all_range_succ, HA.out, HOX.out]; rfl)
     go_wp2_with (go_at_call 105; refine (within_any _ _ _ _).mono ?_; rintro e w' ⟨rfl, rfl⟩)
     go_roundw
     case rel => exact ⟨k + 1, by omega, by go_num, HNX, HON2.out⟩
     case measure => simp [intOf]; omega
    ·rw [hbt] at hbits HOX
     simp only [if_pos] at hbits
     cases hib : inB cn lo hi
     ·rw [hib] at HOX
      have HNX : Hid (rightB s (t0, t1, t2) set = false) := Lib.hid (all_range_false _ hlt HOX.out)
      go_wp2_with (go_at_call 105; refine (within_any _ _ _ _).mono ?_; rintro e w' ⟨rfl, rfl⟩)
      go_ret
      exact ⟨retB (by rw [← HT.out, HNX.out]), (OnBoard.of_below HB.out HBA.out).trans HON2.out⟩
     ·rw [hib] at HOX
      have HNX : Hid ((List.range (k + 1)).all (lookOk s (t0, t1, t2) set) = true) := Lib.hid (by rw [all_range_succ, HA.out, HOX.out]; rfl)
      go_wp2_with (go_at_call 105; refine (within_any _ _ _ _).mono ?_; rintro e w' ⟨rfl, rfl⟩)
      go_roundw
      case rel => exact ⟨k + 1, by omega, by go_num, HNX, HON2.out⟩
      case measure => simp [intOf]; omega
  ·have cl : ¬ ((k : Nat) : Int) < ((s.looks.length : Nat) : Int) := by omega
   have hba : Below w.heap.size w (w.alloc (.cells #[.int .i64 t0, .int .i64 t1, .int .i64 t2] 154)) := (Below.refl _ w).alloc (Nat.le_refl _) _
   have HBA := Lib.hid hba; clear hba
   go_wp2
   go_ret
   have hk' : k = s.looks.length := by omega
   rw [hk'] at HA
   exact ⟨retB (by rw [← HT.out]; exact HA.out.symm), (OnBoard.of_below HB.out HBA.out).trans HON.out⟩
end Go.Proofs.YthedkfiebmnghaaGreat
