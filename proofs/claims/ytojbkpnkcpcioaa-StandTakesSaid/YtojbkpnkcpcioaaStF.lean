/- The walk of right. -/
import Derived.Test.YtojbkpnkcpcioaaStE
import Derived.Test.YtojbkpnkcpcioaaStM3
set_option linter.all false
namespace Go.Proofs.Ytojbkpnkcpcioaa
open Go.RowKit Go.Sh Go.Sh.Stand

theorem OnBoard.trans {b m : Nat} {s : Stand} {X : Nat → Prop} {w w1 w2 : World} (h : OnBoard b m s X w w1) (k : OnBoard b m s X w1 w2) : OnBoard b m s X w w2 := ⟨h.frm.trans k.frm, k.board⟩
theorem OnBoard.of_below {b m : Nat} {s : Stand} {X : Nat → Prop} {w w1 : World} (h : Board w b m s X) (k : Below w.heap.size w w1) : OnBoard b m s X w w1 := ⟨.of_below k, h.later k⟩
theorem OnBoard.refl {b m : Nat} {s : Stand} {X : Nat → Prop} {w : World} (h : Board w b m s X) : OnBoard b m s X w w := .of_below h (Below.refl _ _)
theorem OnBoard.cell {b m : Nat} {s : Stand} {X : Nat → Prop} {w w1 : World} (h : OnBoard b m s X w w1) {a : Addr} {v : Value} (hc : w.cell? a = some v) (hm : a.block ≠ m) : w1.cell? a = some v := h.frm.cell hc hm
theorem OnBoard.size {b m : Nat} {s : Stand} {X : Nat → Prop} {w w1 : World} (h : OnBoard b m s X w w1) : w.heap.size ≤ w1.heap.size := h.frm.size

theorem bits_bit : ∀ set : Nat, set < 16 → ∀ k, k < 4 → bits .and .u64 ((set : Int) / 2 ^ k) 1 = if set.testBit k then 1 else 0 := by decide

set_option maxRecDepth 100000 in
set_option maxHeartbeats 1000000 in
theorem right_any (b m : Nat) (s : Stand) (X : Nat → Prop) (t : Shearer) (set : Nat) (w : World) (hs : Fit s) (ht : Tok t) (hset : set < 16) (hB : Board w b m s X) :
    Calls Try.prog 86 #[.pointer (some ⟨b, 0, none⟩), keyV t, .int .u64 set] w fun e w' => e = .returned (.bool (rightB s t set)) ∧ OnBoard b m s X w w' := by
  unfold keyV
  obtain ⟨t0, t1, t2⟩ := t
  have hB1 := hB.later ((Below.refl _ w).alloc (Nat.le_refl _) (.cells #[.int .i64 t0, .int .i64 t1, .int .i64 t2] 88))
  have hml := hB.mlt
  obtain ⟨lv, h8, hlv, _⟩ := hB1.looks
  obtain ⟨lao, lcap, rfl, hlen, hrow⟩ := hlv
  have HR := Lib.hid hrow; clear hrow
  have HB := Lib.hid hB; clear hB
  have HB1 := Lib.hid hB1; clear hB1
  have HS := Lib.hid hs; clear hs
  have HTK := Lib.hid ht; clear ht
  obtain ⟨target, htg⟩ : ∃ x, rightB s (t0, t1, t2) set = x := ⟨_, rfl⟩
  rw [htg]
  have HT := Lib.hid htg; clear htg
  go_enter Try.func86, Try.ntmps86
  go_wp2
  go_loopw [16] (fun i wr => ∃ k : Nat, k ≤ s.looks.length ∧ i = .int .i64 k ∧ Hid ((List.range k).all (lookOk s (t0, t1, t2) set) = true) ∧ OnBoard b m s X (w.alloc (.cells #[.int .i64 t0, .int .i64 t1, .int .i64 t2] 88)) wr) (fun i _ => s.looks.length - (intOf i).toNat)
  case atStart => exact ⟨0, by omega, rfl, Lib.hid rfl, .refl HB1.out⟩
  case round =>
    obtain ⟨k, hk, rfl, HA, hon⟩ := hrel
    have p0 : wr.cell? ⟨w.heap.size, 0, none⟩ = some (.int .i64 t0) := hon.cell (by simp [go_sem]) (by simp; omega)
    have p1 : wr.cell? ⟨w.heap.size, 1, none⟩ = some (.int .i64 t1) := hon.cell (by simp [go_sem]) (by simp; omega)
    have p2 : wr.cell? ⟨w.heap.size, 2, none⟩ = some (.int .i64 t2) := hon.cell (by simp [go_sem]) (by simp; omega)
    have HON := Lib.hid hon; clear hon
    by_cases hlt : k < s.looks.length
    · have cl : ((k : Nat) : Int) < ((s.looks.length : Nat) : Int) := by omega
      obtain ⟨b0, off, rfl, hbl0, hx⟩ := HR.out (by intro e; rw [e] at hlt; simp at hlt)
      have hld := HS.out.lookb s.looks[k] (List.getElem_mem hlt)
      obtain ⟨lk, hlk⟩ : ∃ x, s.looks[k] = x := ⟨_, rfl⟩
      rw [hlk] at hld
      obtain ⟨mi, lo, hi⟩ := lk
      have hox : lookOk s (t0, t1, t2) set k = (!(set.testBit k) || inB (countAt (day s (t0, t1, t2)) mi) lo hi) := by
        unfold lookOk; rw [List.getD, List.getElem?_eq_getElem hlt, hlk]; rfl
      have c0 : wr.cell? ⟨b0, off + k * 3, none⟩ = some (.int .i64 mi) := HON.out.cell (by simpa using hx k (mi, lo, hi) (by simp [hlt, hlk]) 0 _ rfl) (by
        obtain ⟨es, ck, hb, _⟩ := HB1.out.kept
        exact ne_of_cell_map (hx k (mi, lo, hi) (by simp [hlt, hlk]) 0 _ rfl) hb)
      have c1 : wr.cell? ⟨b0, off + k * 3 + 1, none⟩ = some (.int .i64 lo) := HON.out.cell (by simpa using hx k (mi, lo, hi) (by simp [hlt, hlk]) 1 _ rfl) (by
        obtain ⟨es, ck, hb, _⟩ := HB1.out.kept
        exact ne_of_cell_map (hx k (mi, lo, hi) (by simp [hlt, hlk]) 1 _ rfl) hb)
      have c2 : wr.cell? ⟨b0, off + k * 3 + 2, none⟩ = some (.int .i64 hi) := HON.out.cell (by simpa using hx k (mi, lo, hi) (by simp [hlt, hlk]) 2 _ rfl) (by
        obtain ⟨es, ck, hb, _⟩ := HB1.out.kept
        exact ne_of_cell_map (hx k (mi, lo, hi) (by simp [hlt, hlk]) 2 _ rfl) hb)
      clear hx
      have HOX := Lib.hid hox; clear hox hlk
      go_upto_region 4 with (fail)
      obtain ⟨x0, hx0⟩ : ∃ x, wr.alloc (Obj.cells #[Value.int IntKind.i64 mi, Value.int IntKind.i64 lo, Value.int IntKind.i64 hi] 58) = x := ⟨_, rfl⟩
      rw [hx0]
      have hon0 : OnBoard b m s X (w.alloc (.cells #[.int .i64 t0, .int .i64 t1, .int .i64 t2] 88)) x0 := by
        rw [← hx0]; exact HON.out.trans (.of_below HON.out.board ((Below.refl _ wr).alloc (Nat.le_refl _) _))
      have hsr : m < wr.heap.size := HON.out.board.mlt
      have l0 : x0.cell? ⟨wr.heap.size, 0, none⟩ = some (.int .i64 mi) := by rw [← hx0]; simp [go_sem]
      have l1 : x0.cell? ⟨wr.heap.size, 1, none⟩ = some (.int .i64 lo) := by rw [← hx0]; simp [go_sem]
      have l2 : x0.cell? ⟨wr.heap.size, 2, none⟩ = some (.int .i64 hi) := by rw [← hx0]; simp [go_sem]
      have r0 : x0.cell? ⟨w.heap.size, 0, none⟩ = some (.int .i64 t0) := hon0.cell (by simp [go_sem]) (by simp; omega)
      have r1 : x0.cell? ⟨w.heap.size, 1, none⟩ = some (.int .i64 t1) := hon0.cell (by simp [go_sem]) (by simp; omega)
      have r2 : x0.cell? ⟨w.heap.size, 2, none⟩ = some (.int .i64 t2) := hon0.cell (by simp [go_sem]) (by simp; omega)
      clear hx0 p0 p1 p2 c0 c1 c2
      have n1 : wr.heap.size ≠ m := by omega
      have n2 : w.heap.size ≠ m := by omega
      have e0 : ∀ x, OnBoard b m s X x0 x → x.cell? ⟨wr.heap.size, 0, none⟩ = some (.int .i64 mi) := fun x h => h.cell l0 n1
      have f0 : ∀ x, OnBoard b m s X x0 x → x.cell? ⟨w.heap.size, 0, none⟩ = some (.int .i64 t0) := fun x h => h.cell r0 n2
      have f1 : ∀ x, OnBoard b m s X x0 x → x.cell? ⟨w.heap.size, 1, none⟩ = some (.int .i64 t1) := fun x h => h.cell r1 n2
      have f2 : ∀ x, OnBoard b m s X x0 x → x.cell? ⟨w.heap.size, 2, none⟩ = some (.int .i64 t2) := fun x h => h.cell r2 n2
      have HON0 := Lib.hid hon0; clear hon0
      refine wp_region_rel (sz := 46) 8 (fun x y => Board x b m s X → OnBoard b m s X x y) [cV ?rv0, cV ?rv1, cV ?rv2, cV ?rv3, cV ?rv4, cV ?rv5, fun v x => Board x b m s X ∧ Prs x x.heap.size v (day s (t0, t1, t2)), cV (.int .i64 (countAt (day s (t0, t1, t2)) mi))] (fun _ _ => False) (by kernel_rfl) rfl (by kernel_rfl) (fun h => .of_below h (Below.refl _ _).drew) (fun h1 h2 h => (h1 h).trans (h2 (h1 h).board)) ?rgS ?rgO ?rgP ?rgL ?rgE
      case rgO =>
        refine ⟨?_, ?_, ?_, ?_, ?_, ?_, ?_, ?_, trivial⟩
        all_goals
          intro a x hR hA
          rw [if_pos (by rfl)]
          have hR := hR HON0.out.board
        · have s2 : a.tmps[8]?.getD undef = .pointer (some ⟨wr.heap.size, 0, none⟩) := hA.base 8 (by decide)
          clear hA
          refine rg_val_wide _ ?_ (by simp) rfl (.refl); go_simp; rfl
        · have s2 : a.tmps[21]?.getD undef = _ := hA.pre 0 _ rfl (by kernel_rfl)
          clear hA
          refine rg_val_wide _ ?_ (by simp) rfl (.refl); go_simp; rfl
        · have s2 : a.tmps[22]?.getD undef = _ := hA.pre 1 _ rfl (by kernel_rfl)
          clear hA
          refine rg_val_wide _ ?_ (by simp) rfl (.refl); go_simp; rfl
        · have s2 : a.tmps[0]?.getD undef = .pointer (some ⟨b, 0, none⟩) := hA.base 0 (by decide)
          clear hA
          refine rg_val_wide _ ?_ (by simp) rfl (.refl); go_simp; rfl
        · have s2 : a.tmps[0]?.getD undef = .pointer (some ⟨b, 0, none⟩) := hA.base 0 (by decide)
          clear hA
          refine rg_val_wide _ ?_ (by simp) rfl (.refl); go_simp; rfl
        · have s2 : a.tmps[4]?.getD undef = .pointer (some ⟨w.heap.size, 0, none⟩) := hA.base 4 (by decide)
          clear hA
          refine rg_val_wide _ ?_ (by simp) rfl (.refl); go_simp; rfl
        · have s2 : a.tmps[25]?.getD undef = _ := hA.pre 4 _ rfl (by kernel_rfl)
          have s3 : a.tmps[26]?.getD undef = _ := hA.pre 5 _ rfl (by kernel_rfl)
          clear hA
          refine rg_call_wide rfl (by go_simp; exact ⟨rfl, rfl⟩) ?_
          refine (day_any b m s X (t0, t1, t2) x HS.out HTK.out hR.board).mono ?_
          rintro e w2 ⟨v, rfl, hv, hb⟩
          exact ⟨⟨hb.board, hv⟩, fun _ => hb⟩
        · have s2 : a.tmps[23]?.getD undef = _ := hA.pre 2 _ rfl (by kernel_rfl)
          have s3 : a.tmps[24]?.getD undef = _ := hA.pre 3 _ rfl (by kernel_rfl)
          obtain ⟨_, hp⟩ := hA.pre 6 _ rfl (by kernel_rfl)
          clear hA
          refine rg_call_wide rfl (by go_simp; exact ⟨rfl, rfl⟩) ?_
          refine (counted_any mi _ _ _ x hp (by rw [show (day s (t0, t1, t2)).length = s.sheep.length from dayFrom_length ..]; have := HS.out.sheep; omega)).mono ?_
          rintro e w2 ⟨rfl, hb⟩
          exact ⟨rfl, fun h => .of_below h hb⟩
      case rgS =>
        intro V hV u x y hR hu
        simp only [List.mem_cons, List.not_mem_nil, or_false] at hV
        rcases hV with rfl | rfl | rfl | rfl | rfl | rfl | rfl | rfl
        all_goals first | exact hu | skip
        obtain ⟨h1, h2⟩ := hu
        obtain ⟨es, ck, hb, _⟩ := h1.kept
        exact ⟨(hR h1).board, h2.frmM hb (hR h1).frm⟩
      case rgP => intro ch a x h; exact h.elim
      case rgL =>
        rintro ⟨a, x, h⟩
        have h' : Ending.outgrown = Ending.returned (.bool target) ∧ OnBoard b m s X w x := h
        cases h'.1
      case rgE =>
        intro v0 v1 v2 v3 v4 v5 v6 v7 x hk
        obtain ⟨rfl, hv6, rfl, rfl, rfl, rfl, rfl, rfl, hx⟩ := hk
        simp only [List.drop_succ_cons, List.drop_zero, Act.put, List.setIfInBounds_toArray, List.set_cons_succ, List.set_cons_zero]
        have hon1 := hx HON0.out.board
        clear hx hv6 e0 f0 f1 f2
        have l0' := hon1.cell l0 n1
        have l1' := hon1.cell l1 n1
        have l2' := hon1.cell l2 n1
        have HON1 := Lib.hid hon1; clear hon1
        have hll := HS.out.looks
        have hbits := bits_bit set hset k (by omega)
        have HON2 : Hid (OnBoard b m s X (w.alloc (.cells #[.int .i64 t0, .int .i64 t1, .int .i64 t2] 88)) x) := HON0.out.trans HON1.out
        have hba : Below w.heap.size w (w.alloc (.cells #[.int .i64 t0, .int .i64 t1, .int .i64 t2] 88)) := (Below.refl _ w).alloc (Nat.le_refl _) _
        have HBA := Lib.hid hba; clear hba
        clear hld
        have hne : (countAt (day s (t0, t1, t2)) mi) = (countAt (day s (t0, t1, t2)) mi) := rfl
        obtain ⟨cn, hcn⟩ : ∃ x, countAt (day s (t0, t1, t2)) mi = x := ⟨_, rfl⟩
        rw [hcn] at HOX
        simp only [hcn]
        clear hcn hne
        cases hbt : set.testBit k
        · rw [hbt] at hbits HOX
          simp only [if_neg (show ¬ (false = true) by decide)] at hbits
          have HNX : Hid ((List.range (k + 1)).all (lookOk s (t0, t1, t2) set) = true) := Lib.hid (by rw [all_range_succ, HA.out, HOX.out]; rfl)
          go_wp2_with (go_at_call 78; refine (within_any _ _ _ _).mono ?_; rintro e w' ⟨rfl, rfl⟩)
          go_roundw
          case rel => exact ⟨k + 1, by omega, by go_num, HNX, HON2.out⟩
          case measure => simp [intOf]; omega
        · rw [hbt] at hbits HOX
          simp only [if_pos] at hbits
          cases hib : inB cn lo hi
          · rw [hib] at HOX
            have HNX : Hid (rightB s (t0, t1, t2) set = false) := Lib.hid (all_range_false _ hlt HOX.out)
            go_wp2_with (go_at_call 78; refine (within_any _ _ _ _).mono ?_; rintro e w' ⟨rfl, rfl⟩)
            go_ret
            exact ⟨retB (by rw [← HT.out, HNX.out]), (OnBoard.of_below HB.out HBA.out).trans HON2.out⟩
          · rw [hib] at HOX
            have HNX : Hid ((List.range (k + 1)).all (lookOk s (t0, t1, t2) set) = true) := Lib.hid (by rw [all_range_succ, HA.out, HOX.out]; rfl)
            go_wp2_with (go_at_call 78; refine (within_any _ _ _ _).mono ?_; rintro e w' ⟨rfl, rfl⟩)
            go_roundw
            case rel => exact ⟨k + 1, by omega, by go_num, HNX, HON2.out⟩
            case measure => simp [intOf]; omega
    · have cl : ¬ ((k : Nat) : Int) < ((s.looks.length : Nat) : Int) := by omega
      have hba : Below w.heap.size w (w.alloc (.cells #[.int .i64 t0, .int .i64 t1, .int .i64 t2] 88)) := (Below.refl _ w).alloc (Nat.le_refl _) _
      have HBA := Lib.hid hba; clear hba
      go_wp2
      go_ret
      have hk' : k = s.looks.length := by omega
      rw [hk'] at HA
      exact ⟨retB (by rw [← HT.out]; exact HA.out.symm), (OnBoard.of_below HB.out HBA.out).trans HON.out⟩
end Go.Proofs.Ytojbkpnkcpcioaa
