/- Texts of the proof, joined. -/
import Derived.Test.YthedkfiebmnghaaGreatKst10
import Derived.Laws.EntriesVeiled
set_option linter.all false
namespace Go.Proofs.YthedkfiebmnghaaGreat
open Go.RowKit Go.Sh Go.Sh.Stand Go.Shelf
attribute [local go_sem] Oper.semAt_some
def setT (t : Shearer) (k : Nat) (n : Int) : Shearer := setK t.1 t.2.1 t.2.2 k n
def subs (s : Stand) : Nat → Nat → Shearer → List Shearer
 | 0, _, t => [t]
 | f + 1, k, t => (List.range ((s.mins.getD k (0, 0)).2 + 1 - (s.mins.getD k (0, 0)).1).toNat).flatMap fun (i : Nat) => subs s f (k + 1) (setT t k ((s.mins.getD k (0, 0)).1 + (i : Nat)))
theorem flat_prefix {α : Type} (g : Nat → List α) {j n : Nat} (h : j ≤ n) : (List.range j).flatMap g <+: (List.range n).flatMap g := by
 obtain ⟨d, rfl⟩ : ∃ d, n = j + d := ⟨n - j, by omega⟩
 rw [List.range_add, List.flatMap_append]
 exact List.prefix_append _ _
theorem flat_succ {α : Type} (g : Nat → List α) (j : Nat) : (List.range (j + 1)).flatMap g = (List.range j).flatMap g ++ g j := by
 rw [List.range_succ, List.flatMap_append]; simp
structure Boxes (b m By Bb Bo l : Nat) (T : Nat → Prop) (A : World) : Prop where
 y : A.cell? ⟨By, 0, none⟩ = some (.func (.yield l) #[] #[])
 p : A.cell? ⟨Bb, 0, none⟩ = some (.pointer (some ⟨b, 0, none⟩))
 o : A.cell? ⟨Bo, 0, none⟩ = some (.func (.func 146) #[] #[.pointer (some ⟨By, 0, none⟩), .pointer (some ⟨Bb, 0, none⟩), .pointer (some ⟨Bo, 0, none⟩)])
 ty : ¬ T By ∧ By ≠ m
 tp : ¬ T Bb ∧ Bb ≠ m
 tb : ¬ T Bo ∧ Bo ≠ m
abbrev OnC (b m : Nat) (s : Stand) (By Bb Bo l : Nat) (xs : List Shearer) (J Jx : (Nat → Prop) → List Shearer → World → Prop) (f k : Nat) : Prop :=
 ∀ (T : Nat → Prop) (pre : List Shearer) (A : World) (t : Shearer), J T pre A → Board A b m s T → (∀ k, T k → k < A.heap.size) → Boxes b m By Bb Bo l T A → pre ++ subs s f k t <+: xs →
  Calls Tryz.prog 146 #[keyV t, .int .i64 k, .pointer (some ⟨By, 0, none⟩), .pointer (some ⟨Bb, 0, none⟩), .pointer (some ⟨Bo, 0, none⟩)] A fun e B =>
   ∃ T', Rnd (fun k => k = m) T T' A B ∧ Board B b m s T' ∧ ((e = .returned (.bool true) ∧ J T' (pre ++ subs s f k t) B) ∨ (e = .returned (.bool false) ∧ ∃ q, q <+: xs ∧ Jx T' q B))
set_option maxRecDepth 100000 in
set_option maxHeartbeats 1000000 in
theorem on_three (b m : Nat) (s : Stand) (By Bb Bo l : Nat) (xs : List Shearer) (J Jx : (Nat → Prop) → List Shearer → World → Prop)
  (hJ : ∀ T s' A B, J T s' A → Board A b m s T → Board B b m s T → (∀ k, T k → k < A.heap.size) → Below A.heap.size A B → J T s' B)
  (hY : ∀ T pre x A, J T pre A → Board A b m s T → (∀ k, T k → k < A.heap.size) → pre ++ [x] <+: xs → YieldAt Fence.wide 0 Tryz.prog l #[keyV x] A fun e B =>
   ∃ T', Rnd (fun k => k = m) T T' A B ∧ Board B b m s T' ∧ ((e = .returned (.bool true) ∧ J T' (pre ++ [x]) B) ∨ (e = .returned (.bool false) ∧ Jx T' (pre ++ [x]) B))) :
  OnC b m s By Bb Bo l xs J Jx 0 3 := by
 intro T pre A t hj hB hT hX hpre
 obtain ⟨A1, hA1⟩ : ∃ x, A.alloc (.cells #[.int .i64 t.1, .int .i64 t.2.1, .int .i64 t.2.2] 154) = x := ⟨_, rfl⟩
 have hb1 : Below A.heap.size A A1 := by rw [← hA1]; exact (Below.refl _ _).alloc (Nat.le_refl _) _
 have hj1 : J T pre A1 := hJ _ _ _ _ hj hB (hB.later hb1) hT hb1
 obtain ⟨fn, tmps, assign, body, hy, hR⟩ := hY T pre t A1 hj1 (hB.later hb1) (fun k hk => Nat.lt_of_lt_of_le (hT k hk) hb1.size) hpre
 have y1 := cell_old hb1 hX.y
 obtain ⟨t0, t1, t2⟩ := t
 have HB1 := Lib.hid hb1
 have HR := Lib.hid hR
 have HJ := Lib.hid hJ
 have HY := Lib.hid hY
 have HB := Lib.hid hB
 have HX := Lib.hid hX
 dsimp only [keyV] at hy
 dsimp only at hA1
 clear hb1 hR hJ hY hB hX hj hj1 hT
 subst hA1
 unfold keyV
 go_enter Tryz.func146, Tryz.ntmps146
 go_wp2
 go_step3
 go_upto_region 2 with (fail)
 refine (wpIn_wide (n := 0)).1 ?_
 gi_wp2
 refine ⟨rfl, HR.out.mono ?_⟩
 rintro e B ⟨T', hr, hb, ⟨rfl, hj⟩ | ⟨rfl, hj⟩⟩
 ·have H1 := Lib.hid hr
  have H2 := Lib.hid hb
  have H3 := Lib.hid hj
  clear hr hb hj
  gi_wp2
  go_wp2
  rw [Exit.noGoto_ret]
  go_ret
  exact ⟨T', H1.out.pre ((Below.refl _ A).alloc (Nat.le_refl _) _), H2.out, .inl ⟨rfl, H3.out⟩⟩
 ·have H1 := Lib.hid hr
  have H2 := Lib.hid hb
  have H3 := Lib.hid hj
  clear hr hb hj
  gi_wp2
  go_wp2
  rw [Exit.noGoto_ret]
  go_ret
  exact ⟨T', H1.out.pre ((Below.refl _ A).alloc (Nat.le_refl _) _), H2.out, .inr ⟨rfl, _, hpre, H3.out⟩⟩
structure OnAt (b m : Nat) (s : Stand) (By Bb Bo l : Nat) (have_ : Nat → List Shearer) (J : (Nat → Prop) → List Shearer → World → Prop) (T : Nat → Prop) (A1 : World) (j : Nat) (T' : Nat → Prop) (wr : World) : Prop where
 rnd : Rnd (fun k => k = m) T T' A1 wr
 board : Board wr b m s T'
 boxes : Boxes b m By Bb Bo l T' wr
 j : J T' (have_ j) wr
set_option maxRecDepth 100000 in
set_option maxHeartbeats 1000000 in
theorem on_step (b m : Nat) (s : Stand) (By Bb Bo l : Nat) (xs : List Shearer) (J Jx : (Nat → Prop) → List Shearer → World → Prop) (f k : Nat) (hk : k ≤ 2) (hs : Fit s)
  (hJ : ∀ T s' A B, J T s' A → Board A b m s T → Board B b m s T → (∀ k, T k → k < A.heap.size) → Below A.heap.size A B → J T s' B)
  (ih : OnC b m s By Bb Bo l xs J Jx f (k + 1)) : OnC b m s By Bb Bo l xs J Jx (f + 1) k := by
 intro T pre A t hj hB hT hX hpre
 obtain ⟨lo, hi, hlh⟩ : ∃ lo hi, s.mins.getD k (0, 0) = (lo, hi) := ⟨_, _, rfl⟩
 have hmi := hB.mins k (by omega)
 rw [hlh] at hmi
 have hbd : 1 ≤ lo ∧ lo ≤ hi ∧ hi ≤ 40 := by
  have h3 := hs.mins
  have := hs.minb (lo, hi) (by rw [← hlh, List.getD, List.getElem?_eq_getElem (by omega)]; exact List.getElem_mem _)
  exact ⟨this.1, this.2.1, this.2.2.1⟩
 obtain ⟨t0, t1, t2⟩ := t
 have HT := Lib.hid hT
 have HJ := Lib.hid hJ
 have HB := Lib.hid hB
 have HX := Lib.hid hX
 have HIH := Lib.hid ih
 have HJ0 := Lib.hid hj
 have HPRE := Lib.hid hpre
 have HLH := Lib.hid hlh
 clear hT hJ hB hX hj ih hpre hlh hs
 unfold keyV
 have k3 : ((k : Nat) : Int) < 3 := by omega
 have k30 : (((k : Nat) : Int) == 3) = false := by simp; omega
 have k31 : ¬ ((k : Nat) : Int) = 3 := by omega
 go_enter Tryz.func146, Tryz.ntmps146
 go_wp2
 go_step3
 go_upto_region 3 with (fail)
 obtain ⟨A1, hA1⟩ : ∃ x, A.alloc (.cells #[.int .i64 t0, .int .i64 t1, .int .i64 t2] 154) = x := ⟨_, rfl⟩
 have hb1 : Below A.heap.size A A1 := by rw [← hA1]; exact (Below.refl _ _).alloc (Nat.le_refl _) _
 have s0 : A1.cell? ⟨A.heap.size, 0, none⟩ = some (.int .i64 t0) := by rw [← hA1]; simp [go_sem]
 have s1 : A1.cell? ⟨A.heap.size, 1, none⟩ = some (.int .i64 t1) := by rw [← hA1]; simp [go_sem]
 have s2 : A1.cell? ⟨A.heap.size, 2, none⟩ = some (.int .i64 t2) := by rw [← hA1]; simp [go_sem]
 have hsz1 : A.heap.size < A1.heap.size := by rw [← hA1]; simp
 have y1 := cell_old hb1 HX.out.y
 have p1 := cell_old hb1 HX.out.p
 have o1 := cell_old hb1 HX.out.o
 have m1 := cell_old hb1 hmi.1
 have m2 := cell_old hb1 hmi.2
 rw [hA1]
 have HB1 := Lib.hid hb1
 clear hA1 hb1 hmi
 go_wp2
 go_step3
 go_wp2
 go_loopw [9] (fun n wr => ∃ (j : Nat) (T' : Nat → Prop), n = .int .i64 (lo + j) ∧ j ≤ (hi + 1 - lo).toNat ∧ OnAt b m s By Bb Bo l (fun j => pre ++ (List.range j).flatMap (fun (i : Nat) => subs s f (k + 1) (setT (t0, t1, t2) k (lo + (i : Nat))))) J T A1 j T' wr) (fun n _ => (hi + 1 - intOf n).toNat)
 case atStart =>
  exact ⟨0, T, by simp, by omega, .refl fun k hk => Nat.lt_of_lt_of_le (HT.out k hk) HB1.out.size, HB.out.later HB1.out, ⟨y1, p1, o1, HX.out.ty, HX.out.tp, HX.out.tb⟩, by simpa using HJ.out _ _ _ _ HJ0.out HB.out (HB.out.later HB1.out) HT.out HB1.out⟩
 case round =>
  obtain ⟨j, T', rfl, hj, hI⟩ := hrel
  have py := hI.boxes.y
  have pb := hI.boxes.p
  have po := hI.boxes.o
  have hmw := hI.board.mins k (by omega)
  rw [HLH.out] at hmw
  have q1 := hmw.1
  have q2 := hmw.2
  clear hmw
  have HI := Lib.hid hI; clear hI
  by_cases hlt : (lo + (j : Int)) ≤ hi
  ·go_upto_region 7 with (fail)
   have e0 : ∀ x, Below wr.heap.size wr x → x.cell? ⟨Bo, 0, none⟩ = _ := fun x h => cell_old h po
   refine wp_region_rel (sz := 45) 7 (fun x y => Below wr.heap.size x y) [cV ?rv0, cV ?rv1, cV ?rv2, cV ?rv3, cV (.agg #[.int .i64 (setT (t0, t1, t2) k (lo + j)).1, .int .i64 (setT (t0, t1, t2) k (lo + j)).2.1, .int .i64 (setT (t0, t1, t2) k (lo + j)).2.2]), cV ?rv5, cV ?rv6] (fun _ _ => False) (by kernel_rfl) rfl (by kernel_rfl) ((Below.refl _ _).drew) (fun h1 h2 => h1.trans h2) ?rgS ?rgO ?rgP ?rgL ?rgE
   case rgO =>
    refine ⟨?_, ?_, ?_, ?_, ?_, ?_, ?_, trivial⟩
    all_goals
     intro a x hR hA
     rw [if_pos (by rfl)]
    ·have s2 : a.tmps[4]?.getD undef = .pointer (some ⟨Bo, 0, none⟩) := hA.base 4 (by decide)
     clear hA
     refine rg_val_wide _ ?_ (by simp) rfl (Below.refl _ _); go_simp; rfl
    ·have s2 : a.tmps[8]?.getD undef = .func (.func 147) #[.agg #[.int .i64 t0, .int .i64 t1, .int .i64 t2]] #[] := hA.base 8 (by decide)
     clear hA
     refine rg_val_wide _ ?_ (by simp) rfl (Below.refl _ _); go_simp; rfl
    ·have s2 : a.tmps[1]?.getD undef = .int .i64 k := hA.base 1 (by decide)
     clear hA
     refine rg_val_wide _ ?_ (by simp) rfl (Below.refl _ _); go_simp; rfl
    ·have s2 : a.tmps[9]?.getD undef = .int .i64 (lo + j) := hA.base 9 (by decide)
     clear hA
     refine rg_val_wide _ ?_ (by simp) rfl (Below.refl _ _); go_simp; rfl
    ·have s2 : a.tmps[38]?.getD undef = _ := hA.pre 1 _ rfl (by kernel_rfl)
     have s3 : a.tmps[39]?.getD undef = _ := hA.pre 2 _ rfl (by kernel_rfl)
     have s4 : a.tmps[40]?.getD undef = _ := hA.pre 3 _ rfl (by kernel_rfl)
     clear hA
     refine rg_call_wide rfl (by go_simp; exact ⟨rfl, rfl⟩) ?_
     refine (with_any t0 t1 t2 k (lo + j) x (by omega)).mono ?_
     rintro e w2 ⟨rfl, hb⟩
     exact ⟨rfl, hb.mono hR.size⟩
    ·have s2 : a.tmps[1]?.getD undef = .int .i64 k := hA.base 1 (by decide)
     clear hA
     refine rg_val_wide _ ?_ (by simp) rfl (Below.refl _ _); go_simp; rfl
    ·have s2 : a.tmps[42]?.getD undef = _ := hA.pre 5 _ rfl (by kernel_rfl)
     clear hA
     refine rg_val_wide _ ?_ (by simp) rfl (Below.refl _ _); go_simp; rfl
   case rgS =>
    intro V hV u x y hR hu
    simp only [List.mem_cons, List.not_mem_nil, or_false] at hV
    rcases hV with rfl | rfl | rfl | rfl | rfl | rfl | rfl <;> exact hu
   case rgP => intro ch a x h; exact h.elim
   case rgL =>
    rintro ⟨a, x, h⟩
    obtain ⟨_, _, _, ⟨h1, _⟩ | ⟨h1, _⟩⟩ : ∃ T', Rnd (fun k => k = m) T T' A x ∧ Board x b m s T' ∧ ((Ending.outgrown = .returned (.bool true) ∧ J T' (pre ++ subs s (f + 1) k (t0, t1, t2)) x) ∨ (Ending.outgrown = .returned (.bool false) ∧ ∃ q, q <+: xs ∧ Jx T' q x)) := h
    ·cases h1
    ·cases h1
   case rgE =>
    intro v0 v1 v2 v3 v4 v5 v6 x hk
    obtain ⟨rfl, rfl, rfl, rfl, rfl, rfl, rfl, hx⟩ := hk
    simp only [List.drop_succ_cons, List.drop_zero, Act.put, List.setIfInBounds_toArray, List.set_cons_succ, List.set_cons_zero]
    have hI := HI.out
    have hbx := hI.board.later hx
    have hTw : ∀ i, T' i → i < wr.heap.size := hI.rnd.lt
    have hjx := HJ.out _ _ _ _ hI.j hI.board hbx hTw hx
    have hsub : subs s (f + 1) k (t0, t1, t2) = (List.range (hi + 1 - lo).toNat).flatMap (fun (i : Nat) => subs s f (k + 1) (setT (t0, t1, t2) k (lo + (i : Nat)))) := by
     rw [subs, HLH.out]
    have hjl : j < (hi + 1 - lo).toNat := by omega
    have hpx : (pre ++ (List.range j).flatMap (fun (i : Nat) => subs s f (k + 1) (setT (t0, t1, t2) k (lo + (i : Nat))))) ++ subs s f (k + 1) (setT (t0, t1, t2) k (lo + j)) <+: xs := by
     refine List.IsPrefix.trans ?_ HPRE.out
     rw [hsub, List.append_assoc]
     refine (List.prefix_append_right_inj pre).2 ?_
     have h1 : (List.range j).flatMap (fun (i : Nat) => subs s f (k + 1) (setT (t0, t1, t2) k (lo + (i : Nat)))) ++ subs s f (k + 1) (setT (t0, t1, t2) k (lo + j)) = (List.range (j + 1)).flatMap (fun (i : Nat) => subs s f (k + 1) (setT (t0, t1, t2) k (lo + (i : Nat)))) := by
      rw [List.range_succ, List.flatMap_append]; simp
     rw [h1]
     exact flat_prefix _ (by omega)
    have hoc := HIH.out T' _ x (setT (t0, t1, t2) k (lo + j)) hjx hbx (fun i hi => Nat.lt_of_lt_of_le (hTw i hi) hx.size) ⟨cell_old hx hI.boxes.y, cell_old hx hI.boxes.p, cell_old hx hI.boxes.o, hI.boxes.ty, hI.boxes.tp, hI.boxes.tb⟩ hpx
    rw [show (((k + 1 : Nat)) : Int) = (k : Int) + 1 by omega] at hoc
    unfold keyV at hoc
    have HOC := Lib.hid hoc
    have HX' := Lib.hid hx
    have HSUB := Lib.hid hsub
    clear hoc hx hsub hpx hjx hbx hTw hI e0
    go_wp2_with (go_at_call 146; refine HOC.out.mono ?_; rintro e B ⟨T2, hr2, hb2, ⟨rfl, hj2⟩ | ⟨rfl, q, hq, hx2⟩⟩)
    ·have hI := HI.out
     go_roundw
     case rel =>
      have hbl := hI.boxes
      have c1 := World.block_lt_of_cell? _ _ hbl.y
      have c2 := World.block_lt_of_cell? _ _ hbl.p
      have c3 := World.block_lt_of_cell? _ _ hbl.o
      have hr3 : Rnd (fun k => k = m) T' T2 wr B := hr2.pre HX'.out
      refine ⟨j + 1, T2, by simp; omega, by omega, hI.rnd.trans hr3, hb2, ⟨?_, ?_, ?_, ⟨(hr3.block c1 hbl.ty.2 hbl.ty.1).2, hbl.ty.2⟩, ⟨(hr3.block c2 hbl.tp.2 hbl.tp.1).2, hbl.tp.2⟩, ⟨(hr3.block c3 hbl.tb.2 hbl.tb.1).2, hbl.tb.2⟩⟩, ?_⟩
      ·rw [World.cell?_of_block (hr3.block c1 hbl.ty.2 hbl.ty.1).1]; exact hbl.y
      ·rw [World.cell?_of_block (hr3.block c2 hbl.tp.2 hbl.tp.1).1]; exact hbl.p
      ·rw [World.cell?_of_block (hr3.block c3 hbl.tb.2 hbl.tb.1).1]; exact hbl.o
      ·show J T2 (pre ++ (List.range (j + 1)).flatMap _) B
       rw [flat_succ, ← List.append_assoc]; exact hj2
     case measure => simp [intOf]; omega
    ·rw [Exit.noGoto_ret]
     go_ret
     have hI := HI.out
     exact ⟨T2, (hI.rnd.trans (hr2.pre HX'.out)).pre HB1.out, hb2, .inr ⟨rfl, q, hq, hx2⟩⟩
  ·go_wp2
   go_ret
   have hI := HI.out
   have hjj : j = (hi + 1 - lo).toNat := by omega
   have hjf := hI.j
   rw [hjj] at hjf
   refine ⟨T', hI.rnd.pre HB1.out, hI.board, .inl ⟨rfl, ?_⟩⟩
   rw [subs, HLH.out]; exact hjf
theorem on_all (b m : Nat) (s : Stand) (By Bb Bo l : Nat) (xs : List Shearer) (J Jx : (Nat → Prop) → List Shearer → World → Prop) (hs : Fit s)
  (hJ : ∀ T s' A B, J T s' A → Board A b m s T → Board B b m s T → (∀ k, T k → k < A.heap.size) → Below A.heap.size A B → J T s' B)
  (hY : ∀ T pre x A, J T pre A → Board A b m s T → (∀ k, T k → k < A.heap.size) → pre ++ [x] <+: xs → YieldAt Fence.wide 0 Tryz.prog l #[keyV x] A fun e B =>
   ∃ T', Rnd (fun k => k = m) T T' A B ∧ Board B b m s T' ∧ ((e = .returned (.bool true) ∧ J T' (pre ++ [x]) B) ∨ (e = .returned (.bool false) ∧ Jx T' (pre ++ [x]) B))) :
  OnC b m s By Bb Bo l xs J Jx 3 0 :=
 on_step b m s By Bb Bo l xs J Jx 2 0 (by omega) hs hJ (on_step b m s By Bb Bo l xs J Jx 1 1 (by omega) hs hJ (on_step b m s By Bb Bo l xs J Jx 0 2 (by omega) hs hJ (on_three b m s By Bb Bo l xs J Jx hJ hY)))
def allSh (s : Stand) : List Shearer := subs s 3 0 (0, 0, 0)
theorem shearers1_seq (b m Bb : Nat) (s : Stand) (w : World) (hs : Fit s) (hb : w.cell? ⟨Bb, 0, none⟩ = some (.pointer (some ⟨b, 0, none⟩))) (hm : Bb ≠ m) :
  Seq Tryz.prog (fun k => k = m) (fun T A => Board A b m s T) (fun k => k = Bb) 145 #[.pointer (some ⟨Bb, 0, none⟩)] (fun t : Shearer => #[keyV t]) (allSh s) w := by
 intro l T J Jx W hW hG hT hU hJ hJx hY h0
 have hB0 := cell_old hW hb
 have HB0 := Lib.hid hB0
 have hBlt := World.block_lt_of_cell? _ _ hB0
 have hjb : ∀ T s' A B, J T s' A → Board A b m s T → Board B b m s T → (∀ k, T k → k < A.heap.size) → Below A.heap.size A B → J T s' B :=
  fun T s' A B hj ha hb ht hab => hJ T s' A B hj ha hb ht (.of_below hab)
 obtain ⟨W1, hW1⟩ : ∃ x, (W.alloc (.cells #[.func (.yield l) #[] #[]] 188)).alloc (.cells #[.func (.func 146) #[] #[.pointer (some ⟨W.heap.size, 0, none⟩), .pointer (some ⟨Bb, 0, none⟩), .pointer (some ⟨W.heap.size + 1, 0, none⟩)]] 205) = x := ⟨_, rfl⟩
 have hb1 : Below W.heap.size W W1 := by rw [← hW1]; exact below_two _ _ _
 have hg1 : Board W1 b m s T := hG.later hb1
 have hml := hG.mlt
 have hx : Boxes b m W.heap.size Bb (W.heap.size + 1) l T W1 := by
  refine ⟨?_, cell_old hb1 hB0, ?_, ⟨fun h => by have := hT _ h; omega, by omega⟩, ⟨hU _ rfl, hm⟩, ⟨fun h => by have := hT _ h; omega, by omega⟩⟩
  ·rw [← hW1]; simp [go_sem]
  ·rw [← hW1]; simp [go_sem]
 have hon := on_all b m s W.heap.size Bb (W.heap.size + 1) l (allSh s) J Jx hs hjb hY T [] W1 (0, 0, 0) (hjb _ _ _ _ h0 hG hg1 hT hb1) hg1 (fun k hk => Nat.lt_of_lt_of_le (hT k hk) hb1.size) hx (by simp [allSh])
 unfold keyV at hon
 refine callsIn_wide.2 ?_
 have HON := Lib.hid hon
 have HB1 := Lib.hid hb1
 clear hon hx hg1 hb1 hjb hJ hJx hY h0 hG hB0 hW hT hU
 subst hW1
 go_enter Tryz.func145, Tryz.ntmps145
 go_wp2_with (go_at_call 146; refine HON.out.mono ?_; rintro e B ⟨T2, hr2, hb2, ⟨rfl, hj2⟩ | ⟨rfl, q, hq, hx2⟩⟩)
 ·go_end0
  exact ⟨⟨_, rfl⟩, T2, hr2.pre HB1.out, hb2, .inl hj2⟩
 ·go_end0
  exact ⟨⟨_, rfl⟩, T2, hr2.pre HB1.out, hb2, .inr ⟨q, hq, hx2⟩⟩
end Go.Proofs.YthedkfiebmnghaaGreat
namespace Go.Proofs.YthedkfiebmnghaaGreat
open Go.RowKit Go.Sh Go.Sh.Stand Go.Shelf
attribute [local go_sem] Oper.semAt_some
theorem cell_ne {A : World} {a : Addr} {u : Value} {l : Nat} {o : Obj} (hc : A.cell? a = some u) (hl : A.heap[l]? = some o) (ho : o.isCells = false) : a.block ≠ l := by
  rintro rfl
  obtain ⟨o2, h2, h3⟩ := cells_of_cell hc
  rw [hl] at h2; cases h2; rw [ho] at h3; cases h3
theorem Off.plus {α : Type} {enc : α → List Value} {size : Nat} (hp : 0 < size) (hs : ∀ x, (enc x).length = size) {w : World} {v : Value} {xs : List α} {X : Nat → Prop} {l : Nat} {o : Obj} (h : Off X v) (hr : RowsAt enc size w w.heap.size v xs) (hl : w.heap[l]? = some o) (ho : o.isCells = false) : Off (fun k => X k ∨ k = l) v := by
  obtain ⟨ao, cap, rfl, hm, hr⟩ := hr
  intro a n c e hn hk
  cases e
  rcases hk with hk | hk
  · exact h _ _ _ rfl hn hk
  · obtain ⟨b', off, hb', hb, hx⟩ := hr (List.length_pos_iff.1 hn)
    cases hb'
    have h0 : 0 < (enc xs[0]).length := by rw [hs]; exact hp
    have := hx 0 xs[0] (by simp [hn]) 0 (enc xs[0])[0] (by simp [h0])
    exact cell_ne this hl ho hk
theorem board_good (b m : Nat) (s : Stand) : GoodW (fun k => k = m) (fun T A => Board A b m s T) where
  below h hb := h.later hb
  put {T A l o} o' h hl ho hm := by
    obtain ⟨rv, r1, r2, r3⟩ := h.runs
    obtain ⟨sv, s1, s2, s3⟩ := h.sheep
    obtain ⟨lv, l1, l2, l3⟩ := h.looks
    exact ⟨fun k hk => ⟨cell_putObj _ (h.mins k hk).1 hl ho, cell_putObj _ (h.mins k hk).2 hl ho⟩, ⟨rv, cell_putObj _ r1 hl ho, r2.putObj _ hl ho, r3⟩, ⟨sv, cell_putObj _ s1 hl ho, s2.putObj _ hl ho, s3⟩, ⟨lv, cell_putObj _ l1 hl ho, l2.putObj _ hl ho, l3⟩,
      cell_putObj _ h.map hl ho, h.kept.imp (World.putObj_heap_other (fun e => hm e.symm)) fun k v ⟨t, h1, h2, h3⟩ => ⟨t, h1, h2.putObj _ hl ho, h3⟩, fun k hk => by simpa using h.xlt k hk, h.xb, h.xm⟩
  add {T A l o} h hl ho hm := by
    obtain ⟨rv, r1, r2, r3⟩ := h.runs
    obtain ⟨sv, s1, s2, s3⟩ := h.sheep
    obtain ⟨lv, l1, l2, l3⟩ := h.looks
    exact ⟨h.mins, ⟨rv, r1, r2, Off.plus (enc := enc2) (size := 2) (by decide) (fun _ => rfl) r3 r2 hl ho⟩, ⟨sv, s1, s2, Off.plus (enc := enc1) (size := 1) (by decide) (fun _ => rfl) s3 s2 hl ho⟩, ⟨lv, l1, l2, Off.plus (enc := enc3) (size := 3) (by decide) (fun _ => rfl) l3 l2 hl ho⟩, h.map,
      h.kept.imp rfl fun k v ⟨t, h1, h2, h3⟩ => ⟨t, h1, h2, Off.plus (enc := enc2) (size := 2) (by decide) (fun _ => rfl) h3 h2 hl ho⟩, fun k hk => hk.elim (h.xlt k) (fun e => by rw [e]; exact (Array.getElem?_eq_some_iff.1 hl).1),
      fun hk => hk.elim h.xb fun e => cell_ne h.map hl ho e, fun hk => hk.elim h.xm fun e => hm e.symm⟩
  sub h hs := h.sub hs
theorem shearers_any (b : Nat) (w : World) : Calls Tryz.prog 130 #[.pointer (some ⟨b, 0, none⟩)] w fun e w' => e = .returned (.func (.func 145) #[] #[.pointer (some ⟨w.heap.size, 0, none⟩)]) ∧ w' = w.alloc (.cells #[.pointer (some ⟨b, 0, none⟩)] 112) := by
  go_enter Tryz.func130, Tryz.ntmps130
  go_wp2
  go_ret
  exact ⟨rfl, rfl⟩
theorem truths_any (b : Nat) (set : Nat) (w : World) : Calls Tryz.prog 114 #[.pointer (some ⟨b, 0, none⟩), .int .u64 set] w fun e w' => e = .returned (.func (.func 129) #[] #[.pointer (some ⟨w.heap.size, 0, none⟩), .pointer (some ⟨w.heap.size + 1, 0, none⟩)]) ∧ w' = (w.alloc (.cells #[.pointer (some ⟨b, 0, none⟩)] 112)).alloc (.cells #[.int .u64 set] 159) := by
  go_enter Tryz.func114, Tryz.ntmps114
  go_wp2
  go_ret
  exact ⟨rfl, rfl⟩
structure TruAt (b set B1 B2 By l n₀ : Nat) (r : Shearer → Bool) (J : (Nat → Prop) → List Shearer → World → Prop) (T : Nat → Prop) (pre : List Shearer) (A : World) : Prop where
  j : J T (pre.filter r) A
  y : A.cell? ⟨By, 0, none⟩ = some (.func (.yield l) #[] #[])
  p : A.cell? ⟨B1, 0, none⟩ = some (.pointer (some ⟨b, 0, none⟩))
  u : A.cell? ⟨B2, 0, none⟩ = some (.int .u64 set)
  ty : ¬ T By
  tp : ¬ T B1
  tu : ¬ T B2
set_option maxRecDepth 100000 in
set_option maxHeartbeats 1000000 in
theorem truths1_seq (b m B1 B2 set : Nat) (s : Stand) (w : World) (hs : Fit s) (hset : set < 16) (h1 : w.cell? ⟨B1, 0, none⟩ = some (.pointer (some ⟨b, 0, none⟩))) (h2 : w.cell? ⟨B2, 0, none⟩ = some (.int .u64 set)) (hm1 : B1 ≠ m) (hm2 : B2 ≠ m)
    (htok : ∀ t ∈ allSh s, Tok t) :
    Seq Tryz.prog (fun k => k = m) (fun T A => Board A b m s T) (fun k => k = B1 ∨ k = B2) 129 #[.pointer (some ⟨B1, 0, none⟩), .pointer (some ⟨B2, 0, none⟩)] (fun t : Shearer => #[keyV t]) ((allSh s).filter (rightB s · set)) w := by
  intro l T J Jx W hW hG hT hU hJ hJx hY h0
  have c1 := cell_old hW h1
  have c2 := cell_old hW h2
  have l1 := World.block_lt_of_cell? _ _ c1
  have l2 := World.block_lt_of_cell? _ _ c2
  simp only at l1 l2
  have u1 := hU B1 (.inl rfl)
  have u2 := hU B2 (.inr rfl)
  have hml := hG.mlt
  refine callsIn_of_wp_marks Tryz.func129 rfl trivial ?_ rfl
  simp only [Tryz.ntmps129, List.size_toArray, List.length_cons, List.length_nil, Nat.reduceAdd, Nat.reduceSub, Array.replicate_succ, Array.replicate_zero, List.push_toArray, List.append_toArray, List.nil_append, List.cons_append]
  have HJ := Lib.hid hJ
  have HJx := Lib.hid hJx
  have HY := Lib.hid hY
  have HG := Lib.hid hG
  have HT := Lib.hid hT
  have HTOK := Lib.hid htok
  have H0 := Lib.hid h0
  clear hJ hJx hY hG hW hT hU htok h0
  gi_wp2_with (refine ⟨trivial, rfl, ?_⟩; gi_at_call 130; refine (callsIn_wide.2 (shearers_any b _)).mono ?_; rintro e w' ⟨rfl, rfl⟩)
  obtain ⟨W2, hW2⟩ : ∃ x, (W.alloc (.cells #[.func (.yield l) #[] #[]] 188)).alloc (.cells #[.pointer (some ⟨b, 0, none⟩)] 112) = x := ⟨_, rfl⟩
  have hb2 : Below W.heap.size W W2 := by rw [← hW2]; exact below_two _ _ _
  have hsz : W2.heap.size = W.heap.size + 2 := by rw [← hW2]; simp
  have hg2 : Board W2 b m s T := HG.out.later hb2
  have q0 : W2.cell? ⟨W.heap.size, 0, none⟩ = some (.func (.yield l) #[] #[]) := by rw [← hW2]; simp [go_sem]
  have q1 : W2.cell? ⟨W.heap.size + 1, 0, none⟩ = some (.pointer (some ⟨b, 0, none⟩)) := by rw [← hW2]; simp [go_sem]
  have d1 := cell_old hb2 c1
  have d2 := cell_old hb2 c2
  rw [hW2]
  clear hW2
  have nT : ∀ k, W.heap.size ≤ k → ¬ T k := fun k hk h => by have := HT.out k h; omega
  refine wpIn_range (gf := 145) (lb := #[.pointer (some ⟨W.heap.size + 1, 0, none⟩)]) rfl (enters_of Tryz.func145 (by kernel_rfl) rfl) (board_good b m s) (shearers1_seq b m (W.heap.size + 1) s W2 hs q1 (by omega)) (Below.refl _ _) (fun _ => rfl)
    (fun k hk => by omega) T (fun k hk => by have := HT.out k hk; omega) (fun k hk => ⟨by rw [hk]; exact nT _ (by omega), by omega⟩) hg2
    (TruAt b set B1 B2 W.heap.size l 0 (rightB s · set) J) (fun c T' pre A => c = .ret ∧ Jx T' (pre.filter (rightB s · set)) A) ?hI ?hIx ?h0
    (fun x a' A => ∃ Bx, Bx ≠ m ∧ A.cell? ⟨Bx, 0, none⟩ = some (.int .i64 x.1) ∧ A.cell? ⟨Bx, 1, none⟩ = some (.int .i64 x.2.1) ∧ A.cell? ⟨Bx, 2, none⟩ = some (.int .i64 x.2.2) ∧
      a' = { tmps := #[.func (.yield l) #[] #[], .pointer (some ⟨B1, 0, none⟩), .pointer (some ⟨B2, 0, none⟩), .pointer (some ⟨W.heap.size, 0, none⟩), .pointer (some ⟨Bx, 0, none⟩), .pointer (some ⟨b, 0, none⟩), .func (.func 145) #[] #[.pointer (some ⟨W.heap.size + 1, 0, none⟩)], keyV x, undef, undef, undef, undef, undef, undef, undef, undef, undef, undef], defers := [] })
    ?hAx ?assign ?body ?done ?stop
  case hI =>
    rintro T' pre A B ⟨hj, hy, hp, hu, t1, t2, t3⟩ hga hgb hlt hf
    refine ⟨HJ.out _ _ _ _ hj hga hgb hlt (hf.mono fun k _ hk => hk.elim .inl fun h => .inr ⟨by omega, h.2⟩), hf.cell hy ?_, hf.cell hp ?_, hf.cell hu ?_, t1, t2, t3⟩
    all_goals simp only; omega
  case hIx =>
    rintro c T' pre A B ⟨rfl, hj⟩ hga hgb hlt hf
    exact ⟨rfl, HJx.out _ _ _ _ hj hga hgb hlt (hf.mono fun k _ hk => hk.elim .inl fun h => .inr ⟨by omega, h.2⟩)⟩
  case h0 =>
    exact ⟨HJ.out _ _ _ _ H0.out HG.out hg2 HT.out (.of_below hb2), q0, d1, d2, nT _ (Nat.le_refl _), u1, u2⟩
  case hAx =>
    rintro x a' A l' o o' ⟨Bx, hm, a0, a1, a2, rfl⟩ hl ho
    exact ⟨Bx, hm, cell_putObj _ a0 hl ho, cell_putObj _ a1 hl ho, cell_putObj _ a2 hl ho, rfl⟩
  case assign =>
    rintro l' T' pre ⟨x0, x1, x2⟩ W' K hI hg hlt hsz' hK
    have HK := Lib.hid hK
    have HI := Lib.hid hI
    clear hK hI
    unfold keyV
    gi_wp2
    exact HK.out _ _ ((Below.refl _ _).alloc (Nat.le_refl _) _) ⟨W'.heap.size, by have := hg.mlt; omega, by simp [go_sem], by simp [go_sem], by simp [go_sem], rfl⟩
  case body =>
    rintro l' T' pre ⟨x0, x1, x2⟩ a' W' hI hg hlt hsz' hf ⟨Bx, hbm, a0, a1, a2, rfl⟩ hpre
    have hmem : (x0, x1, x2) ∈ allSh s := hpre.subset (by simp)
    have hrt := right_any b m s T' (x0, x1, x2) set W' hs (HTOK.out _ hmem) hset hg
    unfold keyV at hrt ⊢
    have hp := hI.p
    have hu := hI.u
    have HI := Lib.hid hI
    have HR := Lib.hid hrt
    have HG' := Lib.hid hg
    have HF := Lib.hid hf
    have HL := Lib.hid hlt
    clear hI hrt hg hf hlt
    have hid : ∀ W4, OnBoard b m s T' W' W4 → TruAt b set B1 B2 W.heap.size l 0 (rightB s · set) J T' pre W4 := by
      intro W4 hon
      obtain ⟨hj, hy, hp, hu, t1, t2, t3⟩ := HI.out
      exact ⟨HJ.out _ _ _ _ hj HG'.out hon.board HL.out (hon.frm.mono fun k _ hk => .inl hk), hon.cell hy (by simp only; omega), hon.cell hp (by simpa using hm1), hon.cell hu (by simpa using hm2), t1, t2, t3⟩
    have HID := Lib.hid hid
    clear hid
    cases hr : rightB s (x0, x1, x2) set with
    | false =>
      rw [hr] at HR
      gi_wp2_with (refine ⟨trivial, rfl, ?_⟩; gi_at_call 131; refine (CallsIn.inRound l' (callsIn_wide.2 HR.out)).mono ?_; rintro e W4 ⟨rfl, hon⟩; have HON := Lib.hid hon; clear hon)
      refine ⟨fun _ h => (by cases h), ?_⟩
      gi_wp2
      refine ⟨T', .of_frm HON.out.frm HL.out, HON.out.board, ?_⟩
      have hi := HID.out W4 HON.out
      exact { hi with j := by rw [List.filter_append]; simpa [List.filter_cons, hr] using hi.j }
    | true =>
      rw [hr] at HR
      have hpr2 : pre.filter (rightB s · set) ++ [(x0, x1, x2)] <+: (allSh s).filter (rightB s · set) := by
        have := hpre.filter (rightB s · set)
        rw [List.filter_append] at this
        simpa [List.filter_cons, hr] using this
      gi_wp2_with (refine ⟨trivial, rfl, ?_⟩; gi_at_call 131; refine (CallsIn.inRound l' (callsIn_wide.2 HR.out)).mono ?_; rintro e W4 ⟨rfl, hon⟩
                   have hi4 := HID.out W4 hon
                   have ht4 : ∀ k, T' k → k < W4.heap.size := fun k hk => Nat.lt_of_lt_of_le (HL.out k hk) hon.size
                   obtain ⟨fn, tmps, assign, body, hy, hRd⟩ := HY.out T' _ (x0, x1, x2) W4 hi4.j hon.board ht4 hpr2
                   unfold keyV at hy
                   have y4 := hi4.y
                   have b0 := hon.cell a0 hbm
                   have b1 := hon.cell a1 hbm
                   have b2 := hon.cell a2 hbm
                   have HRD := Lib.hid hRd
                   have HI4 := Lib.hid hi4
                   have HON := Lib.hid hon
                   clear hon hi4 hRd ht4)
      have hfl : (pre ++ [(x0, x1, x2)]).filter (rightB s · set) = pre.filter (rightB s · set) ++ [(x0, x1, x2)] := by
        rw [List.filter_append]; simp [List.filter_cons, hr]
      have HFL := Lib.hid hfl
      clear hfl
      refine ⟨rfl, RoundIn.mono (show RoundIn (Fence.wide.inRound l') 0 _ _ _ _ _ _ _ _ from HRD.out) ?_⟩
      rintro e B ⟨T2, hr2, hb2, ⟨rfl, hj2⟩ | ⟨rfl, hj2⟩⟩
      · have H1 := Lib.hid hr2
        have H2 := Lib.hid hb2
        have H3 := Lib.hid hj2
        clear hr2 hb2 hj2
        gi_wp2
        refine ⟨T2, (Rnd.of_frm HON.out.frm HL.out).trans H1.out, H2.out, ?_⟩
        have hi := HI4.out
        have k0 := H1.out.block (World.block_lt_of_cell? _ _ hi.y) (show ¬ W.heap.size = m by omega) hi.ty
        have k1 := H1.out.block (World.block_lt_of_cell? _ _ hi.p) hm1 hi.tp
        have k2 := H1.out.block (World.block_lt_of_cell? _ _ hi.u) hm2 hi.tu
        exact ⟨by rw [HFL.out]; exact H3.out, (World.cell?_of_block k0.1).trans hi.y, (World.cell?_of_block k1.1).trans hi.p, (World.cell?_of_block k2.1).trans hi.u, k0.2, k1.2, k2.2⟩
      · have H1 := Lib.hid hr2
        have H2 := Lib.hid hb2
        have H3 := Lib.hid hj2
        clear hr2 hb2 hj2
        gi_wp2
        exact ⟨T2, (Rnd.of_frm HON.out.frm HL.out).trans H1.out, H2.out, rfl, by rw [HFL.out]; exact H3.out⟩
  case done =>
    rintro D T' W' hD hTD hrn hg hI hK
    have hput := (board_good b m s).put (.deferred none) hg hK rfl (show ¬ D = m by omega)
    have hrn' : Rnd (fun k => k = m) T T' W (W'.putObj D (.deferred none)) := by
      have := hrn.pre hb2
      exact ⟨this.frm.putObj (.inr (by omega)) _, this.grow, this.keep, fun k hk => by simpa using this.lt k hk⟩
    have hj' : J T' ((allSh s).filter (rightB s · set)) (W'.putObj D (.deferred none)) :=
      HJ.out _ _ _ _ hI.j hg hput hrn.lt (frm_put _ (.inr ⟨by omega, hTD⟩))
    have H1 := Lib.hid hput
    have H2 := Lib.hid hrn'
    have H3 := Lib.hid hj'
    clear hput hrn' hj' hrn hg hI
    gi_wp2
    refine ⟨by simp, .inl ⟨_, _, rfl, run_takeDeferred hK, ?_⟩⟩
    refine ⟨_, results_none rfl _ _ _, ?_⟩
    exact ⟨⟨_, rfl⟩, T', H2.out, H1.out, .inl H3.out⟩
  case stop =>
    rintro D c T' pre W' hD hTD hrn hg hpre ⟨rfl, hI⟩ hK
    have hput := (board_good b m s).put (.deferred none) hg hK rfl (show ¬ D = m by omega)
    have hrn' : Rnd (fun k => k = m) T T' W (W'.putObj D (.deferred none)) := by
      have := hrn.pre hb2
      exact ⟨this.frm.putObj (.inr (by omega)) _, this.grow, this.keep, fun k hk => by simpa using this.lt k hk⟩
    have hj' : Jx T' (pre.filter (rightB s · set)) (W'.putObj D (.deferred none)) :=
      HJx.out _ _ _ _ hI hg hput hrn.lt (frm_put _ (.inr ⟨by omega, hTD⟩))
    have hpf := hpre.filter (rightB s · set)
    have H1 := Lib.hid hput
    have H2 := Lib.hid hrn'
    have H3 := Lib.hid hj'
    have H4 := Lib.hid hpf
    clear hput hrn' hj' hrn hg hI hpf hpre
    gi_wp2
    refine ⟨by simp, .inl ⟨_, _, rfl, run_takeDeferred hK, ?_⟩⟩
    refine ⟨_, results_none rfl _ _ _, ?_⟩
    exact ⟨⟨_, rfl⟩, T', H2.out, H1.out, .inr ⟨_, H4.out, H3.out⟩⟩
end Go.Proofs.YthedkfiebmnghaaGreat
