/- The walk of measured. -/
import Derived.Test.YtojbkpnkcpcioaaStJ
set_option linter.all false
namespace Go.Proofs.Ytojbkpnkcpcioaa
open Go.RowKit Go.Sh Go.Sh.Stand Go.Shelf

set_option maxRecDepth 100000 in
set_option maxHeartbeats 1000000 in
theorem measured1_any (b m : Nat) (s : Stand) (X : Nat → Prop) (ty : Nat) (val : Value) (gm : Nat) (mf : List (Int × Int) → Int) (Bm Bb : Nat) (t : Shearer) (w : World) (hs : Fit s) (ht : Tok t)
    (hg : Board w b m s X) (hm : w.cell? ⟨Bm, 0, none⟩ = some (.iface ty val)) (hb : w.cell? ⟨Bb, 0, none⟩ = some (.pointer (some ⟨b, 0, none⟩))) (nm : Bm ≠ m) (nb : Bb ≠ m)
    (hna : ∀ w, (nilAhead 270 ty val "shearworks/stand.of").run Try.prog w = .ok (some false) w) (hme : ∀ w, (method 270 ty val "shearworks/stand.of").run Try.prog w = .ok (gm, val) w) (eq : ∀ args w, (callFunc gm args).run Try.prog w = .ok (.enter gm args) w)
    (hgm : ∀ A v, Board A b m s X → Prs A A.heap.size v (day s t) → Calls Try.prog gm #[val, .pointer (some ⟨b, 0, none⟩), v] A fun e B => e = .returned (.int .i64 (mf (day s t))) ∧ Below A.heap.size A B) :
    Calls Try.prog 81 #[keyV t, .pointer (some ⟨Bm, 0, none⟩), .pointer (some ⟨Bb, 0, none⟩)] w fun e w' => e = .returned (.int .i64 (mf (day s t))) ∧ OnBoard b m s X w w' := by
  unfold keyV
  obtain ⟨t0, t1, t2⟩ := t
  go_enter Try.func81, Try.ntmps81
  go_upto_region 1 with (fail)
  obtain ⟨x0, hx0⟩ : ∃ x, w.alloc (.cells #[.int .i64 t0, .int .i64 t1, .int .i64 t2] 88) = x := ⟨_, rfl⟩
  have hb0 : Below w.heap.size w x0 := by rw [← hx0]; exact box_below _ _
  have hg0 := hg.later hb0
  have m0 := cell_old hb0 hm
  have b0 := cell_old hb0 hb
  have hml := hg.mlt
  have k0 : x0.cell? ⟨w.heap.size, 0, none⟩ = some (.int .i64 t0) := by rw [← hx0]; simp [go_sem]
  have k1 : x0.cell? ⟨w.heap.size, 1, none⟩ = some (.int .i64 t1) := by rw [← hx0]; simp [go_sem]
  have k2 : x0.cell? ⟨w.heap.size, 2, none⟩ = some (.int .i64 t2) := by rw [← hx0]; simp [go_sem]
  have nk : w.heap.size ≠ m := by omega
  rw [hx0]
  have e0 : ∀ x, OnBoard b m s X x0 x → x.cell? ⟨Bm, 0, none⟩ = some (.iface ty val) := fun x h => h.cell m0 nm
  have e1 : ∀ x, OnBoard b m s X x0 x → x.cell? ⟨Bb, 0, none⟩ = some (.pointer (some ⟨b, 0, none⟩)) := fun x h => h.cell b0 nb
  have f0 : ∀ x, OnBoard b m s X x0 x → x.cell? ⟨w.heap.size, 0, none⟩ = some (.int .i64 t0) := fun x h => h.cell k0 nk
  have f1 : ∀ x, OnBoard b m s X x0 x → x.cell? ⟨w.heap.size, 1, none⟩ = some (.int .i64 t1) := fun x h => h.cell k1 nk
  have f2 : ∀ x, OnBoard b m s X x0 x → x.cell? ⟨w.heap.size, 2, none⟩ = some (.int .i64 t2) := fun x h => h.cell k2 nk
  have HG0 := Lib.hid hg0
  have HG := Lib.hid hg
  have HB0 := Lib.hid hb0
  have HGM := Lib.hid hgm
  clear hx0 hg0 hg hb0 hgm m0 b0 k0 k1 k2 hm hb
  refine wp_region_rel (sz := 14) 8 (fun x y => Board x b m s X → OnBoard b m s X x y) [cV ?rv0, cV ?rv1, cV ?rv2, cV ?rv3, fun v x => Board x b m s X ∧ Prs x x.heap.size v (day s (t0, t1, t2)), cV (.func (.method "shearworks/stand.of") #[.iface ty val] #[]), cV (.func (.method "shearworks/stand.of") #[.iface ty val] #[]), cV (.iface ty val)] (fun _ _ => False) (by kernel_rfl) rfl (by kernel_rfl) (fun h => .of_below h (Below.refl _ _).drew) (fun h1 h2 h => (h1 h).trans (h2 (h1 h).board)) ?rgS ?rgO ?rgP ?rgL ?rgE
  case rgO =>
    refine ⟨?_, ?_, ?_, ?_, ?_, ?_, ?_, ?_, trivial⟩
    all_goals
      intro a x hR hA
      rw [if_pos (by rfl)]
      have hR := hR HG0.out
    · have s2 : a.tmps[1]?.getD undef = .pointer (some ⟨Bm, 0, none⟩) := hA.base 1 (by decide)
      clear hA
      refine rg_val_wide _ ?_ (by simp) rfl (.refl); go_simp; rfl
    · have s2 : a.tmps[2]?.getD undef = .pointer (some ⟨Bb, 0, none⟩) := hA.base 2 (by decide)
      clear hA
      refine rg_val_wide _ ?_ (by simp) rfl (.refl); go_simp; rfl
    · have s2 : a.tmps[2]?.getD undef = .pointer (some ⟨Bb, 0, none⟩) := hA.base 2 (by decide)
      clear hA
      refine rg_val_wide _ ?_ (by simp) rfl (.refl); go_simp; rfl
    · have s2 : a.tmps[3]?.getD undef = .pointer (some ⟨w.heap.size, 0, none⟩) := hA.base 3 (by decide)
      clear hA
      refine rg_val_wide _ ?_ (by simp) rfl (.refl); go_simp; rfl
    · have s2 : a.tmps[7]?.getD undef = _ := hA.pre 2 _ rfl (by kernel_rfl)
      have s3 : a.tmps[8]?.getD undef = _ := hA.pre 3 _ rfl (by kernel_rfl)
      clear hA
      refine rg_call_wide rfl (by go_simp; exact ⟨rfl, rfl⟩) ?_
      refine (day_any b m s X (t0, t1, t2) x hs ht hR.board).mono ?_
      rintro e w2 ⟨v, rfl, hv, hb⟩
      exact ⟨⟨hb.board, hv⟩, fun _ => hb⟩
    · have s2 : a.tmps[5]?.getD undef = _ := hA.pre 0 _ rfl (by kernel_rfl)
      clear hA
      refine rg_val_wide _ ?_ (by simp) rfl (.refl)
      go_simp
    · have s2 : a.tmps[10]?.getD undef = _ := hA.pre 5 _ rfl (by kernel_rfl)
      clear hA
      refine rg_val_wide _ ?_ (by simp) rfl (.refl); go_simp
    · have s2 : a.tmps[5]?.getD undef = _ := hA.pre 0 _ rfl (by kernel_rfl)
      clear hA
      refine rg_val_wide _ ?_ (by simp) rfl (.refl); go_simp
  case rgS =>
    intro V hV u x y hR hu
    simp only [List.mem_cons, List.not_mem_nil, or_false] at hV
    rcases hV with rfl | rfl | rfl | rfl | rfl | rfl | rfl | rfl
    all_goals first | exact hu | skip
    obtain ⟨h1, h2⟩ := hu
    obtain ⟨es, ck, hb, _⟩ := h1.kept
    exact ⟨(hR h1).board, h2.frmM hb (hR h1).frm⟩
  case rgP => intro ch a x h; exact h.elim
  case rgL =>
    rintro ⟨a, x, h⟩
    have h' : Ending.outgrown = Ending.returned (.int .i64 (mf (day s (t0, t1, t2)))) ∧ OnBoard b m s X w x := h
    cases h'.1
  case rgE =>
    intro v0 v1 v2 v3 v4 v5 v6 v7 x hk
    obtain ⟨rfl, rfl, rfl, hv4, rfl, rfl, rfl, rfl, hx⟩ := hk
    simp only [List.drop_succ_cons, List.drop_zero, Act.put, List.setIfInBounds_toArray, List.set_cons_succ, List.set_cons_zero]
    have hx' := hx HG0.out
    have hgc := HGM.out x v4 hx'.board hv4.2
    have HGC := Lib.hid hgc
    have HX := Lib.hid hx'
    clear hx hx' hgc hv4 e0 e1 f0 f1 f2
    go_wp2
    refine HGC.out.mono ?_
    rintro e B ⟨rfl, hb⟩
    have HB := Lib.hid hb
    clear hb
    go_wp2
    go_ret
    exact ⟨rfl, ((OnBoard.of_below HG.out HB0.out).trans HX.out).trans (.of_below HX.out.board HB.out)⟩

set_option maxHeartbeats 1000000 in
theorem measured_any (b m : Nat) (s : Stand) (X : Nat → Prop) (ty : Nat) (val : Value) (gm : Nat) (mf : List (Int × Int) → Int) (w : World) (hs : Fit s)
    (hg : Board w b m s X)
    (hna : ∀ w, (nilAhead 270 ty val "shearworks/stand.of").run Try.prog w = .ok (some false) w) (hme : ∀ w, (method 270 ty val "shearworks/stand.of").run Try.prog w = .ok (gm, val) w) (eq : ∀ args w, (callFunc gm args).run Try.prog w = .ok (.enter gm args) w)
    (hgm : ∀ A X v t, t ∈ allSh s → Board A b m s X → Prs A A.heap.size v (day s t) → Calls Try.prog gm #[val, .pointer (some ⟨b, 0, none⟩), v] A fun e B => e = .returned (.int .i64 (mf (day s t))) ∧ Below A.heap.size A B) :
    Calls Try.prog 44 #[.pointer (some ⟨b, 0, none⟩), .iface ty val] w fun e w' => toldE ((truthsL s (everyB s)).map fun t => mf (day s t)) e ∧ OnBoard b m s X w w' := by
  have hml := hg.mlt
  obtain ⟨w1, hw1⟩ : ∃ x, ((w.alloc (.cells #[.pointer (some ⟨b, 0, none⟩)] 70)).alloc (.cells #[.iface ty val] 122)).alloc (.cells #[.int .i64 0, .int .i64 0] 23) = x := ⟨_, rfl⟩
  have hb1 : Below w.heap.size w w1 := by rw [← hw1]; exact (below_two _ _ _).alloc (by simp; omega) _
  have hsz1 : w1.heap.size = w.heap.size + 3 := by rw [← hw1]; simp
  have hg1 : Board w1 b m s (fun k => X k ∨ k = w.heap.size + 2) := hg.grow hb1 (fun k hk => hk.elim .inl fun h => .inr (by omega)) (fun k hk => hk.elim (fun h => by have := hg.xlt k h; omega) fun h => by omega)
  have p0 : w1.cell? ⟨w.heap.size, 0, none⟩ = some (.pointer (some ⟨b, 0, none⟩)) := by rw [← hw1]; simp [go_sem]
  have p1 : w1.cell? ⟨w.heap.size + 1, 0, none⟩ = some (.iface ty val) := by rw [← hw1]; simp [go_sem]
  have r0 : w1.cell? ⟨w.heap.size + 2, 0, none⟩ = some (.int .i64 0) := by rw [← hw1]; simp [go_sem]
  have r1 : w1.cell? ⟨w.heap.size + 2, 1, none⟩ = some (.int .i64 0) := by rw [← hw1]; simp [go_sem]
  have fr0 : w1.frozen? ⟨w.heap.size + 2, 0, none⟩ = false := by rw [← hw1]; simp [go_sem]
  have fr1 : w1.frozen? ⟨w.heap.size + 2, 1, none⟩ = false := by rw [← hw1]; simp [go_sem]
  have hto := told_any b m s (fun k => X k ∨ k = w.heap.size + 2) 81 #[.pointer (some ⟨w.heap.size + 1, 0, none⟩), .pointer (some ⟨w.heap.size, 0, none⟩)] (fun t => mf (day s t)) w1
    (fun A => A.cell? ⟨w.heap.size + 1, 0, none⟩ = some (.iface ty val) ∧ A.cell? ⟨w.heap.size, 0, none⟩ = some (.pointer (some ⟨b, 0, none⟩))) hs (enters_of Try.func81 (by kernel_rfl) rfl) hg1 ⟨p1, p0⟩
    (fun A B h hf => ⟨hf.cell h.1 (by rintro (h | h) <;> simp only at h <;> omega), hf.cell h.2 (by rintro (h | h) <;> simp only at h <;> omega)⟩)
    (fun x hx A Y hA h => measured1_any b m s Y ty val gm mf (w.heap.size + 1) w.heap.size x A hs (tok_all hs x (List.mem_filter.1 hx).1) hA h.1 h.2 (by omega) (by omega) hna hme eq (fun A' v h1 h2 => hgm A' Y v x (List.mem_filter.1 hx).1 h1 h2))
  obtain ⟨L, hL⟩ : ∃ L, (truthsL s (everyB s)).map (fun t => mf (day s t)) = L := ⟨_, rfl⟩
  rw [hL] at hto ⊢
  have hnm : w.heap.size + 2 ≠ m := by omega
  have hw1s : w.heap.size + 2 < w1.heap.size := by omega
  have HB1 := Lib.hid hb1
  have HG := Lib.hid hg
  clear hL hna hme eq hgm hb1 hg1 hg hsz1
  by_cases hl : L = []
  · subst hl
    simp only [toldE, if_pos] at hto
    have HTO := Lib.hid hto
    clear hto
    subst hw1
    go_enter Try.func44, Try.ntmps44
    go_wp2_with (go_at_call 54; refine HTO.out.mono ?_; rintro e w3 ⟨rfl, hon⟩; have HON := Lib.hid hon; clear hon)
    refine ⟨rfl, by simp [toldE], ?_⟩
    exact ⟨(Frm.of_below HB1.out).trans HON.out.frm, HON.out.board.sub fun k hk => .inl hk⟩
  · obtain ⟨jl, hjl⟩ : ∃ x, joinedL (L.map fun n => (n, n)) = x := ⟨_, rfl⟩
    have hte : toldE L (.returned (.agg #[.int .i64 jl.1, .int .i64 jl.2])) := by unfold toldE; rw [if_neg hl, hjl]
    simp only [toldE, if_neg hl, hjl] at hto
    have HTO := Lib.hid hto
    have HTE := Lib.hid hte
    clear hto hte hjl
    subst hw1
    go_enter Try.func44, Try.ntmps44
    go_wp2_with (go_at_call 54; refine HTO.out.mono ?_; rintro e w3 ⟨rfl, hon⟩
                 have r0 := hon.cell r0 hnm
                 have r1 := hon.cell r1 hnm
                 have fr0 := (hon.frm.frozen hw1s hnm).trans fr0
                 have fr1 := (hon.frm.frozen hw1s hnm).trans fr1
                 have hw3s : w.heap.size + 2 < w3.heap.size := Nat.lt_of_lt_of_le hw1s hon.size
                 have HON := Lib.hid hon
                 clear hon)
    refine bodyPost_ret (by simp [results, Try.results44, go_sem, r0, r1, fr0, fr1, hw3s]) rfl ⟨HTE.out, ?_⟩
    have hz : Frm (fun k => k = w.heap.size + 2) w3 ((w3.setCell ⟨w.heap.size + 2, 0, none⟩ (.int .i64 jl.1)).setCell ⟨w.heap.size + 2, 1, none⟩ (.int .i64 jl.2)) :=
      Frm.setCell (S := fun k => k = w.heap.size + 2) (Frm.setCell (S := fun k => k = w.heap.size + 2) (Frm.refl _ _) (.inl rfl) _) (.inl rfl) _
    have hw3 : Frm (fun k => k = m) w w3 := (Frm.of_below HB1.out).trans HON.out.frm
    exact ⟨⟨hz.os.trans hw3.os, hz.tape.trans hw3.tape, hz.output.trans hw3.output, Nat.le_trans hw3.size hz.size, fun k hk hs => (hz.block k (Nat.lt_of_lt_of_le hk hw3.size) (by omega)).trans (hw3.block k hk hs)⟩, (HON.out.board.turn hz fun k hk => .inr hk).sub fun k hk => .inl hk⟩
end Go.Proofs.Ytojbkpnkcpcioaa
