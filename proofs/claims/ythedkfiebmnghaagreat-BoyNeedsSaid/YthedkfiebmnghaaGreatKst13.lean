/- Texts of the proof, joined. -/
import Derived.Test.YthedkfiebmnghaaGreatKst12
set_option linter.all false
namespace Go.Proofs.YthedkfiebmnghaaGreat
open Go.RowKit Go.Sh Go.Sh.Stand Go.Shelf
set_option maxRecDepth 100000 in
set_option maxHeartbeats 1000000 in
theorem measured1_any (b m : Nat) (s : Stand) (X : Nat → Prop) (ty : Nat) (val : Value) (gm : Nat) (mf : List (Int × Int) → Int) (Bm Bb : Nat) (t : Shearer) (w : World) (hs : Fit s) (ht : Tok t)
    (hg : Board w b m s X) (hm : w.cell? ⟨Bm, 0, none⟩ = some (.iface ty val)) (hb : w.cell? ⟨Bb, 0, none⟩ = some (.pointer (some ⟨b, 0, none⟩))) (nm : Bm ≠ m) (nb : Bb ≠ m)
    (hna : ∀ w, (nilAhead 332 ty val "shearworks/stand.of").run Tryz.prog w = .ok (some false) w) (hme : ∀ w, (method 332 ty val "shearworks/stand.of").run Tryz.prog w = .ok (gm, val) w) (eq : ∀ args w, (callFunc gm args).run Tryz.prog w = .ok (.enter gm args) w)
    (hgm : ∀ A v, Board A b m s X → Prs A A.heap.size v (day s t) → Calls Tryz.prog gm #[val, .pointer (some ⟨b, 0, none⟩), v] A fun e B => e = .returned (.int .i64 (mf (day s t))) ∧ Below A.heap.size A B) :
    Calls Tryz.prog 110 #[keyV t, .pointer (some ⟨Bm, 0, none⟩), .pointer (some ⟨Bb, 0, none⟩)] w fun e w' => e = .returned (.int .i64 (mf (day s t))) ∧ OnBoard b m s X w w' := by
  unfold keyV
  obtain ⟨t0, t1, t2⟩ := t
  go_enter Tryz.func110, Tryz.ntmps110
  go_upto_region 1 with (fail)
  obtain ⟨x0, hx0⟩ : ∃ x, w.alloc (.cells #[.int .i64 t0, .int .i64 t1, .int .i64 t2] 154) = x := ⟨_, rfl⟩
  have hb0 : Below w.heap.size w x0 := by rw [← hx0]; exact box_below _ _
  have hg0 := hg.later hb0
  have m0 := cell_old hb0 hm
  have b0 := cell_old hb0 hb
  have hml := hg.mlt
  have k0 : x0.cell? ⟨w.heap.size, 0, none⟩ = some (.int .i64 t0) := by rw [← hx0]; simp [go_sem]
  have k1 : x0.cell? ⟨w.heap.size, 1, none⟩ = some (.int .i64 t1) := by rw [← hx0]; simp [go_sem]
  have k2 : x0.cell? ⟨w.heap.size, 2, none⟩ = some (.int .i64 t2) := by rw [← hx0]; simp [go_sem]
  have nk : w.heap.size ≠ m := by omega
  rw [hx0]
  have e0 : ∀ x, OnBoard b m s X x0 x → x.cell? ⟨Bm, 0, none⟩ = some (.iface ty val) := fun x h => h.cell m0 nm
  have e1 : ∀ x, OnBoard b m s X x0 x → x.cell? ⟨Bb, 0, none⟩ = some (.pointer (some ⟨b, 0, none⟩)) := fun x h => h.cell b0 nb
  have f0 : ∀ x, OnBoard b m s X x0 x → x.cell? ⟨w.heap.size, 0, none⟩ = some (.int .i64 t0) := fun x h => h.cell k0 nk
  have f1 : ∀ x, OnBoard b m s X x0 x → x.cell? ⟨w.heap.size, 1, none⟩ = some (.int .i64 t1) := fun x h => h.cell k1 nk
  have f2 : ∀ x, OnBoard b m s X x0 x → x.cell? ⟨w.heap.size, 2, none⟩ = some (.int .i64 t2) := fun x h => h.cell k2 nk
  have HG0 := Lib.hid hg0
  have HG := Lib.hid hg
  have HB0 := Lib.hid hb0
  have HGM := Lib.hid hgm
  clear hx0 hg0 hg hb0 hgm m0 b0 k0 k1 k2 hm hb
  refine wp_region_rel (sz := 14) 8 (fun x y => Board x b m s X → OnBoard b m s X x y) [cV ?rv0, cV ?rv1, cV ?rv2, cV ?rv3, fun v x => Board x b m s X ∧ Prs x x.heap.size v (day s (t0, t1, t2)), cV (.func (.method "shearworks/stand.of") #[.iface ty val] #[]), cV (.func (.method "shearworks/stand.of") #[.iface ty val] #[]), cV (.iface ty val)] (fun _ _ => False) (by kernel_rfl) rfl (by kernel_rfl) (fun h => .of_below h (Below.refl _ _).drew) (fun h1 h2 h => (h1 h).trans (h2 (h1 h).board)) ?rgS ?rgO ?rgP ?rgL ?rgE
  case rgO =>
    refine ⟨?_, ?_, ?_, ?_, ?_, ?_, ?_, ?_, trivial⟩
    all_goals
      intro a x hR hA
      rw [if_pos (by rfl)]
      have hR := hR HG0.out
    · have s2 : a.tmps[1]?.getD undef = .pointer (some ⟨Bm, 0, none⟩) := hA.base 1 (by decide)
      clear hA
      refine rg_val_wide _ ?_ (by simp) rfl (.refl); go_simp; rfl
    · have s2 : a.tmps[2]?.getD undef = .pointer (some ⟨Bb, 0, none⟩) := hA.base 2 (by decide)
      clear hA
      refine rg_val_wide _ ?_ (by simp) rfl (.refl); go_simp; rfl
    · have s2 : a.tmps[2]?.getD undef = .pointer (some ⟨Bb, 0, none⟩) := hA.base 2 (by decide)
      clear hA
      refine rg_val_wide _ ?_ (by simp) rfl (.refl); go_simp; rfl
    · have s2 : a.tmps[3]?.getD undef = .pointer (some ⟨w.heap.size, 0, none⟩) := hA.base 3 (by decide)
      clear hA
      refine rg_val_wide _ ?_ (by simp) rfl (.refl); go_simp; rfl
    · have s2 : a.tmps[7]?.getD undef = _ := hA.pre 2 _ rfl (by kernel_rfl)
      have s3 : a.tmps[8]?.getD undef = _ := hA.pre 3 _ rfl (by kernel_rfl)
      clear hA
      refine rg_call_wide rfl (by go_simp; exact ⟨rfl, rfl⟩) ?_
      refine (day_any b m s X (t0, t1, t2) x hs ht hR.board).mono ?_
      rintro e w2 ⟨v, rfl, hv, hb⟩
      exact ⟨⟨hb.board, hv⟩, fun _ => hb⟩
    · have s2 : a.tmps[5]?.getD undef = _ := hA.pre 0 _ rfl (by kernel_rfl)
      clear hA
      refine rg_val_wide _ ?_ (by simp) rfl (.refl)
      go_simp
    · have s2 : a.tmps[10]?.getD undef = _ := hA.pre 5 _ rfl (by kernel_rfl)
      clear hA
      refine rg_val_wide _ ?_ (by simp) rfl (.refl); go_simp
    · have s2 : a.tmps[5]?.getD undef = _ := hA.pre 0 _ rfl (by kernel_rfl)
      clear hA
      refine rg_val_wide _ ?_ (by simp) rfl (.refl); go_simp
  case rgS =>
    intro V hV u x y hR hu
    simp only [List.mem_cons, List.not_mem_nil, or_false] at hV
    rcases hV with rfl | rfl | rfl | rfl | rfl | rfl | rfl | rfl
    all_goals first | exact hu | skip
    obtain ⟨h1, h2⟩ := hu
    obtain ⟨es, ck, hb, _⟩ := h1.kept
    exact ⟨(hR h1).board, h2.frmM hb (hR h1).frm⟩
  case rgP => intro ch a x h; exact h.elim
  case rgL =>
    rintro ⟨a, x, h⟩
    have h' : Ending.outgrown = Ending.returned (.int .i64 (mf (day s (t0, t1, t2)))) ∧ OnBoard b m s X w x := h
    cases h'.1
  case rgE =>
    intro v0 v1 v2 v3 v4 v5 v6 v7 x hk
    obtain ⟨rfl, rfl, rfl, hv4, rfl, rfl, rfl, rfl, hx⟩ := hk
    simp only [List.drop_succ_cons, List.drop_zero, Act.put, List.setIfInBounds_toArray, List.set_cons_succ, List.set_cons_zero]
    have hx' := hx HG0.out
    have hgc := HGM.out x v4 hx'.board hv4.2
    have HGC := Lib.hid hgc
    have HX := Lib.hid hx'
    clear hx hx' hgc hv4 e0 e1 f0 f1 f2
    go_wp2
    refine HGC.out.mono ?_
    rintro e B ⟨rfl, hb⟩
    have HB := Lib.hid hb
    clear hb
    go_wp2
    go_ret
    exact ⟨rfl, ((OnBoard.of_below HG.out HB0.out).trans HX.out).trans (.of_below HX.out.board HB.out)⟩
set_option maxHeartbeats 1000000 in
theorem measured_any (b m : Nat) (s : Stand) (X : Nat → Prop) (ty : Nat) (val : Value) (gm : Nat) (mf : List (Int × Int) → Int) (w : World) (hs : Fit s)
    (hg : Board w b m s X)
    (hna : ∀ w, (nilAhead 332 ty val "shearworks/stand.of").run Tryz.prog w = .ok (some false) w) (hme : ∀ w, (method 332 ty val "shearworks/stand.of").run Tryz.prog w = .ok (gm, val) w) (eq : ∀ args w, (callFunc gm args).run Tryz.prog w = .ok (.enter gm args) w)
    (hgm : ∀ A X v t, t ∈ allSh s → Board A b m s X → Prs A A.heap.size v (day s t) → Calls Tryz.prog gm #[val, .pointer (some ⟨b, 0, none⟩), v] A fun e B => e = .returned (.int .i64 (mf (day s t))) ∧ Below A.heap.size A B) :
    Calls Tryz.prog 78 #[.pointer (some ⟨b, 0, none⟩), .iface ty val] w fun e w' => toldE ((truthsL s (everyB s)).map fun t => mf (day s t)) e ∧ OnBoard b m s X w w' := by
  have hml := hg.mlt
  obtain ⟨w1, hw1⟩ : ∃ x, ((w.alloc (.cells #[.pointer (some ⟨b, 0, none⟩)] 112)).alloc (.cells #[.iface ty val] 152)).alloc (.cells #[.int .i64 0, .int .i64 0] 45) = x := ⟨_, rfl⟩
  have hb1 : Below w.heap.size w w1 := by rw [← hw1]; exact (below_two _ _ _).alloc (by simp; omega) _
  have hsz1 : w1.heap.size = w.heap.size + 3 := by rw [← hw1]; simp
  have hg1 : Board w1 b m s (fun k => X k ∨ k = w.heap.size + 2) := hg.grow hb1 (fun k hk => hk.elim .inl fun h => .inr (by omega)) (fun k hk => hk.elim (fun h => by have := hg.xlt k h; omega) fun h => by omega)
  have p0 : w1.cell? ⟨w.heap.size, 0, none⟩ = some (.pointer (some ⟨b, 0, none⟩)) := by rw [← hw1]; simp [go_sem]
  have p1 : w1.cell? ⟨w.heap.size + 1, 0, none⟩ = some (.iface ty val) := by rw [← hw1]; simp [go_sem]
  have r0 : w1.cell? ⟨w.heap.size + 2, 0, none⟩ = some (.int .i64 0) := by rw [← hw1]; simp [go_sem]
  have r1 : w1.cell? ⟨w.heap.size + 2, 1, none⟩ = some (.int .i64 0) := by rw [← hw1]; simp [go_sem]
  have fr0 : w1.frozen? ⟨w.heap.size + 2, 0, none⟩ = false := by rw [← hw1]; simp [go_sem]
  have fr1 : w1.frozen? ⟨w.heap.size + 2, 1, none⟩ = false := by rw [← hw1]; simp [go_sem]
  have hto := told_any b m s (fun k => X k ∨ k = w.heap.size + 2) 110 #[.pointer (some ⟨w.heap.size + 1, 0, none⟩), .pointer (some ⟨w.heap.size, 0, none⟩)] (fun t => mf (day s t)) w1
    (fun A => A.cell? ⟨w.heap.size + 1, 0, none⟩ = some (.iface ty val) ∧ A.cell? ⟨w.heap.size, 0, none⟩ = some (.pointer (some ⟨b, 0, none⟩))) hs (enters_of Tryz.func110 (by kernel_rfl) rfl) hg1 ⟨p1, p0⟩
    (fun A B h hf => ⟨hf.cell h.1 (by rintro (h | h) <;> simp only at h <;> omega), hf.cell h.2 (by rintro (h | h) <;> simp only at h <;> omega)⟩)
    (fun x hx A Y hA h => measured1_any b m s Y ty val gm mf (w.heap.size + 1) w.heap.size x A hs (tok_all hs x (List.mem_filter.1 hx).1) hA h.1 h.2 (by omega) (by omega) hna hme eq (fun A' v h1 h2 => hgm A' Y v x (List.mem_filter.1 hx).1 h1 h2))
  obtain ⟨L, hL⟩ : ∃ L, (truthsL s (everyB s)).map (fun t => mf (day s t)) = L := ⟨_, rfl⟩
  rw [hL] at hto ⊢
  have hnm : w.heap.size + 2 ≠ m := by omega
  have hw1s : w.heap.size + 2 < w1.heap.size := by omega
  have HB1 := Lib.hid hb1
  have HG := Lib.hid hg
  clear hL hna hme eq hgm hb1 hg1 hg hsz1
  by_cases hl : L = []
  · subst hl
    simp only [toldE, if_pos] at hto
    have HTO := Lib.hid hto
    clear hto
    subst hw1
    go_enter Tryz.func78, Tryz.ntmps78
    go_wp2_with (go_at_call 109; refine HTO.out.mono ?_; rintro e w3 ⟨rfl, hon⟩; have HON := Lib.hid hon; clear hon)
    refine ⟨rfl, by simp [toldE], ?_⟩
    exact ⟨(Frm.of_below HB1.out).trans HON.out.frm, HON.out.board.sub fun k hk => .inl hk⟩
  · obtain ⟨jl, hjl⟩ : ∃ x, joinedL (L.map fun n => (n, n)) = x := ⟨_, rfl⟩
    have hte : toldE L (.returned (.agg #[.int .i64 jl.1, .int .i64 jl.2])) := by unfold toldE; rw [if_neg hl, hjl]
    simp only [toldE, if_neg hl, hjl] at hto
    have HTO := Lib.hid hto
    have HTE := Lib.hid hte
    clear hto hte hjl
    subst hw1
    go_enter Tryz.func78, Tryz.ntmps78
    go_wp2_with (go_at_call 109; refine HTO.out.mono ?_; rintro e w3 ⟨rfl, hon⟩
                 have r0 := hon.cell r0 hnm
                 have r1 := hon.cell r1 hnm
                 have fr0 := (hon.frm.frozen hw1s hnm).trans fr0
                 have fr1 := (hon.frm.frozen hw1s hnm).trans fr1
                 have hw3s : w.heap.size + 2 < w3.heap.size := Nat.lt_of_lt_of_le hw1s hon.size
                 have HON := Lib.hid hon
                 clear hon)
    refine bodyPost_ret (by simp [results, Tryz.results78, go_sem, r0, r1, fr0, fr1, hw3s]) rfl ⟨HTE.out, ?_⟩
    have hz : Frm (fun k => k = w.heap.size + 2) w3 ((w3.setCell ⟨w.heap.size + 2, 0, none⟩ (.int .i64 jl.1)).setCell ⟨w.heap.size + 2, 1, none⟩ (.int .i64 jl.2)) :=
      Frm.setCell (S := fun k => k = w.heap.size + 2) (Frm.setCell (S := fun k => k = w.heap.size + 2) (Frm.refl _ _) (.inl rfl) _) (.inl rfl) _
    have hw3 : Frm (fun k => k = m) w w3 := (Frm.of_below HB1.out).trans HON.out.frm
    exact ⟨⟨hz.os.trans hw3.os, hz.tape.trans hw3.tape, hz.output.trans hw3.output, Nat.le_trans hw3.size hz.size, fun k hk hs => (hz.block k (Nat.lt_of_lt_of_le hk hw3.size) (by omega)).trans (hw3.block k hk hs)⟩, (HON.out.board.turn hz fun k hk => .inr hk).sub fun k hk => .inl hk⟩
end Go.Proofs.YthedkfiebmnghaaGreat
namespace Go.Sh.Stand
def inR (a b c : Int) : Bool := decide (b ≤ a) && decide (a ≤ c)
def minB (p : Int × Int) : Bool := ((decide (1 ≤ p.1) && decide (p.1 ≤ p.2)) && decide (p.2 ≤ 40)) && decide (p.2 - p.1 ≤ 4)
def runsB : List (Int × Int) → Int → Bool
 | [], _ => true
 | (st, be) :: r, bell => (inR st bell 600 && inR be (st + 1) 600) && runsB r be
def lookB (x : Int × Int × Int) : Bool := inR x.1 0 600 && ((decide (0 ≤ x.2.1) && decide (x.2.1 ≤ x.2.2)) && decide (x.2.2 ≤ 16))
def lensB (s : Stand) : Bool := (inR s.runs.length 1 4 && decide ((s.sheep.length : Int) ≤ 16)) && decide ((s.looks.length : Int) ≤ 4)
def validB (s : Stand) : Bool := s.mins.all minB && (lensB s && (runsB s.runs 0 && (s.sheep.all (fun k => inR k 0 2) && s.looks.all lookB)))
end Go.Sh.Stand
namespace Go.Proofs.YthedkfiebmnghaaGreat
open Go.RowKit Go.Sh Go.Sh.Stand Go.Shelf
theorem info58 : (Tryz.prog.info? 120).map (fun i => (i.zero, i.size, i.bytes)) = some (some (.agg #[.int .i64 0, .int .i64 0, .int .i64 0]), 3, 24) := by kernel_rfl
def OpenPost (s : Stand) (okI : Bool) (w : World) (e : Ending) (w' : World) : Prop :=
  (validB s = false ∧ e = .panicked (refusal 1) ∧ Below w.heap.size w w') ∨
  (validB s = true ∧ okI = false ∧ e = .panicked (refusal 2) ∧ Below w.heap.size w w') ∨
  (validB s = true ∧ okI = true ∧ ∃ b m, e = .returned (.pointer (some ⟨b, 0, none⟩)) ∧ Below w.heap.size w w' ∧ w.heap.size ≤ b ∧ w.heap.size ≤ m ∧ b ≠ m ∧ Board w' b m s (fun _ => False))
set_option maxRecDepth 100000 in
set_option maxHeartbeats 1000000 in
theorem open_any (a0 b0 a1 b1 a2 b2 : Int) (rv sv lv : Value) (runs : List (Int × Int)) (sheep : List Int) (looks : List (Int × Int × Int)) (gi : Nat) (lbi : Array Value) (okI : Bool) (w : World)
    (hr : Prs w w.heap.size rv runs) (hsh : Ints w w.heap.size sv sheep) (hl : Trs w w.heap.size lv looks) (eq : ∀ args w, (callFunc gi args).run Tryz.prog w = .ok (.enter gi args) w)
    (hi : ∀ A b m, Below w.heap.size w A → Board A b m ⟨[(a0, b0), (a1, b1), (a2, b2)], runs, sheep, looks⟩ (fun _ => False) → validB ⟨[(a0, b0), (a1, b1), (a2, b2)], runs, sheep, looks⟩ = true →
      Calls Tryz.prog gi (#[.pointer (some ⟨b, 0, none⟩)] ++ lbi) A fun e B => e = .returned (.bool okI) ∧ Below A.heap.size A B) :
    Calls Tryz.prog 75 #[.agg #[.int .i64 a0, .int .i64 b0, .int .i64 a1, .int .i64 b1, .int .i64 a2, .int .i64 b2, rv, sv, lv], .func (.func gi) #[] lbi] w (OpenPost ⟨[(a0, b0), (a1, b1), (a2, b2)], runs, sheep, looks⟩ okI w) := by
  obtain ⟨s, hs⟩ : ∃ s : Stand, s = ⟨[(a0, b0), (a1, b1), (a2, b2)], runs, sheep, looks⟩ := ⟨_, rfl⟩
  rw [← hs] at hi ⊢
  obtain ⟨W1, hW1⟩ : ∃ x, w.alloc (.cells #[.int .i64 a0, .int .i64 b0, .int .i64 a1, .int .i64 b1, .int .i64 a2, .int .i64 b2, rv, sv, lv] 50) = x := ⟨_, rfl⟩
  have hb1 : Below w.heap.size w W1 := by rw [← hW1]; exact box_below _ _
  have HI := Lib.hid hi
  have HS := Lib.hid hs
  have HR := Lib.hid hr
  have HSH := Lib.hid hsh
  have HL := Lib.hid hl
  have HB1 := Lib.hid hb1
  obtain ⟨rao, rcap, rfl, hrl, _⟩ := hr
  obtain ⟨sao, scap, rfl, hsl, _⟩ := hsh
  obtain ⟨lao, lcap, rfl, hll, _⟩ := hl
  clear hi hb1 hs
  have hsz1 : W1.heap.size = w.heap.size + 1 := by rw [← hW1]; simp
  have c6 : W1.cell? ⟨w.heap.size, 6, none⟩ = some (.slice rao runs.length rcap) := by rw [← hW1]; simp [go_sem]
  have c7 : W1.cell? ⟨w.heap.size, 7, none⟩ = some (.slice sao sheep.length scap) := by rw [← hW1]; simp [go_sem]
  have c8 : W1.cell? ⟨w.heap.size, 8, none⟩ = some (.slice lao looks.length lcap) := by rw [← hW1]; simp [go_sem]
  have d0 : W1.cell? ⟨w.heap.size, 0, none⟩ = some (.int .i64 a0) := by rw [← hW1]; simp [go_sem]
  have d1 : W1.cell? ⟨w.heap.size, 1, none⟩ = some (.int .i64 b0) := by rw [← hW1]; simp [go_sem]
  have d2 : W1.cell? ⟨w.heap.size, 2, none⟩ = some (.int .i64 a1) := by rw [← hW1]; simp [go_sem]
  have d3 : W1.cell? ⟨w.heap.size, 3, none⟩ = some (.int .i64 b1) := by rw [← hW1]; simp [go_sem]
  have d4 : W1.cell? ⟨w.heap.size, 4, none⟩ = some (.int .i64 a2) := by rw [← hW1]; simp [go_sem]
  have d5 : W1.cell? ⟨w.heap.size, 5, none⟩ = some (.int .i64 b2) := by rw [← hW1]; simp [go_sem]
  have HC : Hid ((W1.cell? ⟨w.heap.size, 0, none⟩ = some (.int .i64 a0) ∧ W1.cell? ⟨w.heap.size, 1, none⟩ = some (.int .i64 b0) ∧ W1.cell? ⟨w.heap.size, 2, none⟩ = some (.int .i64 a1) ∧ W1.cell? ⟨w.heap.size, 3, none⟩ = some (.int .i64 b1) ∧ W1.cell? ⟨w.heap.size, 4, none⟩ = some (.int .i64 a2) ∧ W1.cell? ⟨w.heap.size, 5, none⟩ = some (.int .i64 b2)) ∧
      W1.cell? ⟨w.heap.size, 6, none⟩ = some (.slice rao runs.length rcap) ∧ W1.cell? ⟨w.heap.size, 7, none⟩ = some (.slice sao sheep.length scap) ∧ W1.cell? ⟨w.heap.size, 8, none⟩ = some (.slice lao looks.length lcap)) := ⟨⟨d0, d1, d2, d3, d4, d5⟩, c6, c7, c8⟩
  go_enter Tryz.func75, Tryz.ntmps75
  go_wp2
  clear hW1
  go_loopw [16] (fun i wr => ∃ k : Nat, k ≤ 3 ∧ i = .int .i64 k ∧ Hid (([(a0, b0), (a1, b1), (a2, b2)].take k).all minB = true) ∧ Below W1.heap.size W1 wr) (fun i _ => 3 - (intOf i).toNat)
  case atStart => exact ⟨0, by omega, rfl, Lib.hid rfl, Below.refl _ _⟩
  case round =>
    obtain ⟨k, hk, rfl, HA, hbw⟩ := hrel
    have HBW := Lib.hid hbw
    clear hbw
    have hmn : s.mins = [(a0, b0), (a1, b1), (a2, b2)] := by rw [HS.out]
    by_cases hk3 : k < 3
    · have cl : ((k : Nat) : Int) < 3 := by omega
      obtain ⟨⟨a, b⟩, hix, hgk⟩ : ∃ p : Int × Int, (∀ w, (Instr.index 46 (.agg #[.int .i64 a0, .int .i64 b0, .int .i64 a1, .int .i64 b1, .int .i64 a2, .int .i64 b2]) (.int .i64 k)).run Tryz.prog w = .ok (.agg #[.int .i64 p.1, .int .i64 p.2]) w) ∧ [(a0, b0), (a1, b1), (a2, b2)][k]? = some p := by
        obtain rfl | rfl | rfl : k = 0 ∨ k = 1 ∨ k = 2 := by omega
        · exact ⟨(a0, b0), fun _ => by kernel_rfl, rfl⟩
        · exact ⟨(a1, b1), fun _ => by kernel_rfl, rfl⟩
        · exact ⟨(a2, b2), fun _ => by kernel_rfl, rfl⟩
      have HGK := Lib.hid hgk
      clear hgk
      have hnx : minB (a, b) = true → ([(a0, b0), (a1, b1), (a2, b2)].take (k + 1)).all minB = true := by
        intro h
        have hkl : k < [(a0, b0), (a1, b1), (a2, b2)].length := by simpa using hk3
        rw [List.take_succ_eq_append_getElem hkl, List.all_append, HA.out]
        have : [(a0, b0), (a1, b1), (a2, b2)][k] = (a, b) := by have := HGK.out; rw [List.getElem?_eq_getElem hkl] at this; exact Option.some.inj this
        rw [this]; simp [h]
      have hno : minB (a, b) = false → validB s = false := by
        intro h
        unfold validB
        rw [hmn, show [(a0, b0), (a1, b1), (a2, b2)].all minB = false from List.all_eq_false.2 ⟨(a, b), List.mem_of_getElem? HGK.out, by simp [h]⟩]
        rfl
      have HNX := Lib.hid hnx
      have HNO := Lib.hid hno
      clear hnx hno hmn
      cases h1 : spanB a b 1 40
      · have hv := HNO.out (by unfold minB; unfold spanB at h1; rw [h1]; rfl)
        have HV := Lib.hid hv
        clear hv
        go_wp2_with (first
          | (go_at_call 104; refine (isSpan_any _ _ _ _ _).mono ?_; rintro e w5 ⟨rfl, hb5⟩; rw [h1]; have HB5 := Lib.hid hb5; clear hb5)
          | (go_at_call 103; refine (ask_no 1 _).mono ?_; rintro e w6 ⟨rfl, rfl⟩))
        refine ⟨rfl, .inl ⟨HV.out, rfl, ?_⟩⟩
        exact below_trans' (below_trans' (below_trans' HB1.out HBW.out) (box_below _ _)) HB5.out
      · have hab : 1 ≤ a ∧ a ≤ b ∧ b ≤ 40 := by unfold spanB at h1; simpa [and_assoc] using h1
        by_cases h2 : b - a ≤ 4
        · have hv := HNX.out (by unfold minB; unfold spanB at h1; rw [h1]; simpa using h2)
          have HV := Lib.hid hv
          clear hv
          go_wp2_with (first
            | (go_at_call 104; refine (isSpan_any _ _ _ _ _).mono ?_; rintro e w5 ⟨rfl, hb5⟩; rw [h1]
               have x0 : w5.cell? ⟨wr.heap.size, 0, none⟩ = some (.int .i64 a) := cell_old hb5 (by simp [go_sem])
               have x1 : w5.cell? ⟨wr.heap.size, 1, none⟩ = some (.int .i64 b) := cell_old hb5 (by simp [go_sem])
               have HB5 := Lib.hid hb5; clear hb5)
            | (go_at_call 103; refine (ask_ok 1 _).mono ?_; rintro e w6 ⟨rfl, rfl⟩))
          go_roundw
          case rel => exact ⟨k + 1, by omega, by go_num, HV, below_trans HBW.out (below_trans' (box_below _ _) HB5.out) HBW.out.size⟩
          case measure => simp [intOf]; omega
        · have hv := HNO.out (by unfold minB; unfold spanB at h1; rw [h1]; simpa using h2)
          have HV := Lib.hid hv
          clear hv
          have h2' : decide (b - a ≤ 4) = false := by simpa using h2
          go_wp2_with (first
            | (go_at_call 104; refine (isSpan_any _ _ _ _ _).mono ?_; rintro e w5 ⟨rfl, hb5⟩; rw [h1]
               have x0 : w5.cell? ⟨wr.heap.size, 0, none⟩ = some (.int .i64 a) := cell_old hb5 (by simp [go_sem])
               have x1 : w5.cell? ⟨wr.heap.size, 1, none⟩ = some (.int .i64 b) := cell_old hb5 (by simp [go_sem])
               have HB5 := Lib.hid hb5; clear hb5)
            | (go_at_call 103; refine (ask_no 1 _).mono ?_; rintro e w6 ⟨rfl, rfl⟩))
          refine ⟨rfl, .inl ⟨HV.out, rfl, ?_⟩⟩
          exact below_trans' (below_trans' (below_trans' HB1.out HBW.out) (box_below _ _)) HB5.out
    · have hk' : k = 3 := by omega
      subst hk'
      have HA3 : Hid (s.mins.all minB = true) := Lib.hid (by rw [hmn]; exact HA.out)
      have cl : ¬ ((3 : Nat) : Int) < 3 := by omega
      go_upto_region 6 with (fail)
      have e6 := cell_old HBW.out c6
      have e7 := cell_old HBW.out c7
      have e8 := cell_old HBW.out c8
      have hbl : w.heap.size < wr.heap.size := by have := HBW.out.size; omega
      have hle : lensB s = ((inB runs.length 1 4 && decide ((sheep.length : Int) ≤ 16)) && decide ((looks.length : Int) ≤ 4)) := by rw [HS.out]; rfl
      have hnoL : lensB s = false → validB s = false := fun h => by unfold validB; rw [h]; simp
      have HLE := Lib.hid hle
      have HNL := Lib.hid hnoL
      have HBW0 : Hid (Below w.heap.size w wr) := below_trans' HB1.out HBW.out
      clear hle hnoL hmn c6 c7 c8 d0 d1 d2 d3 d4 d5 HA
      cases h3 : inB runs.length 1 4
      · have hv := HNL.out (by rw [HLE.out, h3]; rfl)
        have HV := Lib.hid hv
        clear hv
        go_wp2_with (first
          | (go_at_call 105; refine (within_any _ _ _ _).mono ?_; rintro e w' ⟨rfl, rfl⟩; rw [h3])
          | (go_at_call 103; refine (ask_no 1 _).mono ?_; rintro e w6 ⟨rfl, rfl⟩))
        exact ⟨rfl, .inl ⟨HV.out, rfl, HBW0.out⟩⟩
      · by_cases h4 : (sheep.length : Int) ≤ 16
        · by_cases h5 : (looks.length : Int) ≤ 4
          · have hrr : 1 ≤ runs.length ∧ runs.length ≤ 4 := by unfold inB at h3; simp at h3; omega
            go_upto_region 7 with (first
              | (go_at_call 105; refine (within_any _ _ _ _).mono ?_; rintro e w' ⟨rfl, rfl⟩; rw [h3])
              | (go_at_call 103; refine (ask_ok 1 _).mono ?_; rintro e w6 ⟨rfl, rfl⟩))
            have HLT : Hid (lensB s = true) := Lib.hid (by rw [HLE.out, h3]; simp; omega)
            have hnoR : runsB s.runs 0 = false → validB s = false := fun h => by unfold validB; rw [h]; simp
            have hsr : s.runs = runs := by rw [HS.out]
            rw [hsr] at hnoR
            have HNR := Lib.hid hnoR
            have HSR := Lib.hid hsr
            clear hnoR hsr HNL HLE
            go_wp2
            go_loopw [7, 51] (fun bell i wq => ∃ (k : Nat) (bl : Int), k ≤ runs.length ∧ i = .int .i64 k ∧ bell = .int .i64 bl ∧ (0 ≤ bl ∧ bl ≤ 600) ∧ Hid (runsB (runs.drop k) bl = runsB runs 0) ∧ Below wr.heap.size wr wq) (fun _ i _ => runs.length - (intOf i).toNat)
            case atStart => exact ⟨0, 0, by omega, rfl, rfl, by omega, Lib.hid rfl, Below.refl _ _⟩
            case round =>
              obtain ⟨k, bl, hk, rfl, rfl, hbl2, HRB, hbq⟩ := hrel
              have HBQ0 : Hid (Below w.heap.size w wr) := below_trans' HBW0.out hbq
              have HBQ := Lib.hid hbq
              clear hbq
              by_cases hlt : k < runs.length
              · have cl : ((k : Nat) : Int) < ((runs.length : Nat) : Int) := by omega
                obtain ⟨_, _, hre, _, hrow⟩ := HR.out
                cases hre
                obtain ⟨b3, off, rfl, hbl3, hx⟩ := hrow (by intro e; rw [e] at hlt; simp at hlt)
                obtain ⟨p, hp⟩ : ∃ p, runs[k] = p := ⟨_, rfl⟩
                obtain ⟨st, be⟩ := p
                have r0 : wr.cell? ⟨b3, off + k * 2, none⟩ = some (.int .i64 st) := cell_old HBQ0.out (by simpa using hx k (st, be) (by simp [hlt, hp]) 0 _ rfl)
                have r1 : wr.cell? ⟨b3, off + k * 2 + 1, none⟩ = some (.int .i64 be) := cell_old HBQ0.out (by simpa using hx k (st, be) (by simp [hlt, hp]) 1 _ rfl)
                have hstep : runsB runs 0 = ((inB st bl 600 && inB be (st + 1) 600) && runsB (runs.drop (k + 1)) be) := by
                  rw [← HRB.out, List.drop_eq_getElem_cons hlt, hp]; rfl
                have HST := Lib.hid hstep
                clear hstep hx hrow hp
                cases h6 : inB st bl 600
                · have HV : Hid (validB s = false) := Lib.hid (HNR.out (by rw [HST.out, h6]; rfl))
                  go_wp2_with (first
                    | (go_at_call 105; refine (within_any _ _ _ _).mono ?_; rintro e w' ⟨rfl, rfl⟩; rw [h6])
                    | (go_at_call 103; refine (ask_no 1 _).mono ?_; rintro e w6 ⟨rfl, rfl⟩))
                  exact ⟨rfl, .inl ⟨HV.out, rfl, below_trans' HBQ0.out (box_below _ _)⟩⟩
                · have hst : bl ≤ st ∧ st ≤ 600 := by unfold inB at h6; simpa using h6
                  cases h7 : inB be (st + 1) 600
                  · have HV : Hid (validB s = false) := Lib.hid (HNR.out (by rw [HST.out, h7]; simp))
                    go_wp2_with (first
                      | (go_at_call 105; refine (within_any _ _ _ _).mono ?_; rintro e w' ⟨rfl, rfl⟩; first | rw [h6] | rw [h7])
                      | (go_at_call 103; refine (ask_no 1 _).mono ?_; rintro e w6 ⟨rfl, rfl⟩))
                    exact ⟨rfl, .inl ⟨HV.out, rfl, below_trans' HBQ0.out (box_below _ _)⟩⟩
                  · have hbe : st + 1 ≤ be ∧ be ≤ 600 := by unfold inB at h7; simpa using h7
                    have HRN : Hid (runsB (runs.drop (k + 1)) be = runsB runs 0) := Lib.hid (by rw [HST.out, h6, h7]; rfl)
                    go_wp2_with (first
                      | (go_at_call 105; refine (within_any _ _ _ _).mono ?_; rintro e w' ⟨rfl, rfl⟩; first | rw [h6] | rw [h7])
                      | (go_at_call 103; refine (ask_ok 1 _).mono ?_; rintro e w6 ⟨rfl, rfl⟩))
                    go_roundw
                    case rel => exact ⟨k + 1, be, by omega, by go_num, rfl, by omega, HRN, below_trans' HBQ.out (box_below _ _)⟩
                    case measure => simp [intOf]; omega
              · have cl : ¬ ((k : Nat) : Int) < ((runs.length : Nat) : Int) := by omega
                have HRT : Hid (runsB runs 0 = true) := Lib.hid (by rw [← HRB.out, List.drop_eq_nil_of_le (by omega)]; rfl)
                go_upto_region 14 with (fail)
                have g6 := cell_old HBQ.out e6
                have g7 := cell_old HBQ.out e7
                have g8 := cell_old HBQ.out e8
                have HSK := Lib.hid (HSH.out.later HBQ0.out)
                have hnoS : sheep.all (fun k => inR k 0 2) = false → validB s = false := fun h => by unfold validB; rw [HS.out]; simp only; rw [h]; simp
                have HNS := Lib.hid hnoS
                clear hnoS e6 e7 e8
                cases h8 : sheep.all (fun k => inB k 0 2)
                · have HV : Hid (validB s = false) := Lib.hid (HNS.out h8)
                  go_wp2_with (first
                    | (go_at_call 106; refine (contains80_any _ _ _ HSK.out).mono ?_; rintro e w' ⟨rfl, rfl⟩; rw [h8])
                    | (go_at_call 103; refine (ask_no 1 _).mono ?_; rintro e w6 ⟨rfl, rfl⟩))
                  exact ⟨rfl, .inl ⟨HV.out, rfl, HBQ0.out⟩⟩
                · have HSO : Hid (sheep.all (fun k => inR k 0 2) = true) := Lib.hid h8
                  obtain ⟨i0, hi0, hz0, hz1, hz2⟩ := info_parts info58
                  have hlk : looks.length ≤ 4 := by omega
                  go_upto_region 16 with (first
                    | (go_at_call 106; refine (contains80_any _ _ _ HSK.out).mono ?_; rintro e w' ⟨rfl, rfl⟩; rw [h8])
                    | (go_at_call 103; refine (ask_ok 1 _).mono ?_; rintro e w6 ⟨rfl, rfl⟩)
                    | (at_make; refine wpList_make_full _ rfl _ _ 48 rfl wr.heap.size 120 i0 (.agg #[.int .i64 0, .int .i64 0, .int .i64 0]) 3 Tryz.underlying48 hi0 hz0 hz1 .i64 .i64 _ _ looks.length rfl rfl rfl rfl (by rw [hz2]; omega) (by unfold maxLen; omega) (Nat.le_refl _) ?_; intro w4 hown4 hgrow4))
                  have hcur : ∃ cur, w4.heap[wr.heap.size]? = some (.cells cur 120 (0, 0)) ∧ cur.size = looks.length * 3 := by
                    rcases hown4.2 with ⟨h, _⟩ | ⟨g, cap, cur, hv, hb, hh, hnc, hcm, hcs, htk⟩
                    · cases h
                    · cases hv; exact ⟨cur, hh, by rw [hcs]⟩
                  obtain ⟨cur, hcur1, hcur2⟩ := hcur
                  have hb4 : Below wr.heap.size wr w4 := (Below.refl _ _).grown hgrow4 (Nat.le_refl _) (fun k e => by cases e)
                  have HB4 := Lib.hid hb4
                  have HLK : Hid (Trs w4 w4.heap.size (.slice lao looks.length lcap) looks) := Lib.hid ((HL.out.later HBQ0.out).later hb4)
                  have j6 := cell_old hb4 g6
                  have j7 := cell_old hb4 g7
                  have j8 := cell_old hb4 g8
                  clear hown4 hgrow4 hb4 g6 g7 g8
                  go_wp2_with (refine wpList_copy_rows (enc := enc3) (size := 3) (fun _ => rfl) (by intro x v hv; simp [enc3] at hv; rcases hv with rfl | rfl | rfl <;> rfl) (by decide) rfl _ _ 48 48 rfl 120 Tryz.underlying48 (by rw [hi0]; simp [hz1]) wr.heap.size (.slice lao looks.length lcap) looks rfl rfl HLK.out cur 120 hcur1 hcur2 wr.heap.size w4 (Below.refl _ _) (Nat.le_refl _) ?_; intro w5 hown5 hb5)
                  have hb45 : Below wr.heap.size wr w5 := HB4.out.trans hb5
                  have HB45 : Hid (Below w.heap.size w w5) := below_trans' HBQ0.out hb45
                  have HO5 : Hid (Trs w5 w5.heap.size (.slice (some ⟨wr.heap.size, 0, none⟩) looks.length looks.length) looks) := hown5
                  have HB15 : Hid (Below W1.heap.size W1 w5) := below_trans' (below_trans' HBW.out HBQ.out) hb45
                  clear hb5 hown5 hb45 j6 j7 j8 hcur1 hcur2
                  obtain ⟨gB, hgB⟩ : ∃ g, wr.heap.size = g := ⟨_, rfl⟩
                  rw [hgB] at HO5 ⊢
                  clear hgB
                  go_loopw [86] (fun i wq => ∃ (k : Nat), k ≤ looks.length ∧ i = .int .i64 k ∧ Hid ((looks.take k).all lookB = true) ∧ Below w5.heap.size w5 wq) (fun i _ => looks.length - (intOf i).toNat)
                  case atStart => exact ⟨0, by omega, rfl, Lib.hid rfl, Below.refl _ _⟩
                  case round =>
                    obtain ⟨k, hk, rfl, HLB, hbz⟩ := hrel
                    have HBZ := Lib.hid hbz
                    clear hbz
                    by_cases hlt : k < looks.length
                    · have cl : ((k : Nat) : Int) < ((looks.length : Nat) : Int) := by omega
                      obtain ⟨_, _, hre, _, hrow⟩ := HO5.out
                      cases hre
                      obtain ⟨b3, off, hre2, hbl3, hx⟩ := hrow (by intro e; rw [e] at hlt; simp at hlt)
                      cases hre2
                      obtain ⟨p, hp⟩ : ∃ p, looks[k] = p := ⟨_, rfl⟩
                      obtain ⟨mi, lo, hi'⟩ := p
                      have r0 := cell_old HBZ.out (hx k (mi, lo, hi') (by simp [hlt, hp]) 0 _ rfl)
                      have r1 := cell_old HBZ.out (hx k (mi, lo, hi') (by simp [hlt, hp]) 1 _ rfl)
                      have r2 := cell_old HBZ.out (hx k (mi, lo, hi') (by simp [hlt, hp]) 2 _ rfl)
                      simp only [Nat.zero_add, Nat.add_zero] at r0 r1 r2
                      have hmem : (mi, lo, hi') ∈ looks := by rw [← hp]; exact List.getElem_mem _
                      have hnoK : lookB (mi, lo, hi') = false → validB s = false := by
                        intro h
                        have : looks.all lookB = false := List.all_eq_false.2 ⟨_, hmem, by simp [h]⟩
                        unfold validB; rw [HS.out]; simp only; rw [this]; simp
                      have hyes : lookB (mi, lo, hi') = true → (looks.take (k + 1)).all lookB = true := by
                        intro h
                        rw [List.take_succ_eq_append_getElem hlt, List.all_append, HLB.out, hp]; simp [h]
                      have HNK := Lib.hid hnoK
                      have HYK := Lib.hid hyes
                      clear hnoK hyes hx hrow hp hmem
                      cases h9 : inB mi 0 600
                      · have HV : Hid (validB s = false) := Lib.hid (HNK.out (by unfold lookB; rw [show inR mi 0 600 = inB mi 0 600 from rfl, h9]; rfl))
                        go_wp2_with (first
                          | (go_at_call 105; refine (within_any _ _ _ _).mono ?_; rintro e w' ⟨rfl, rfl⟩; rw [h9])
                          | (go_at_call 103; refine (ask_no 1 _).mono ?_; rintro e w6 ⟨rfl, rfl⟩))
                        exact ⟨rfl, .inl ⟨HV.out, rfl, below_trans' (below_trans' HB45.out HBZ.out) (box_below _ _)⟩⟩
                      · cases h10 : spanB lo hi' 0 16
                        · have HV : Hid (validB s = false) := Lib.hid (HNK.out (by unfold lookB; unfold spanB at h10; rw [h10]; simp))
                          go_wp2_with (first
                            | (go_at_call 105; refine (within_any _ _ _ _).mono ?_; rintro e w' ⟨rfl, rfl⟩; rw [h9])
                            | (go_at_call 104; refine (isSpan_any _ _ _ _ _).mono ?_; rintro e w7 ⟨rfl, hb7⟩; rw [h10]; have HB7 := Lib.hid hb7; clear hb7)
                            | (go_at_call 103; refine (ask_no 1 _).mono ?_; rintro e w6 ⟨rfl, rfl⟩))
                          exact ⟨rfl, .inl ⟨HV.out, rfl, below_trans' (below_trans' (below_trans' HB45.out HBZ.out) (box_below _ _)) HB7.out⟩⟩
                        · have HV := Lib.hid (HYK.out (by unfold lookB; unfold spanB at h10; rw [show inR mi 0 600 = inB mi 0 600 from rfl, h9, h10]; rfl))
                          go_wp2_with (first
                            | (go_at_call 105; refine (within_any _ _ _ _).mono ?_; rintro e w' ⟨rfl, rfl⟩; rw [h9])
                            | (go_at_call 104; refine (isSpan_any _ _ _ _ _).mono ?_; rintro e w7 ⟨rfl, hb7⟩; rw [h10]; have HB7 := Lib.hid hb7; clear hb7)
                            | (go_at_call 103; refine (ask_ok 1 _).mono ?_; rintro e w6 ⟨rfl, rfl⟩))
                          go_roundw
                          case rel => exact ⟨k + 1, by omega, by go_num, HV, below_trans' (below_trans' HBZ.out (box_below _ _)) HB7.out⟩
                          case measure => simp [intOf]; omega
                    · have cl : ¬ ((k : Nat) : Int) < ((looks.length : Nat) : Int) := by omega
                      have hkk : k = looks.length := by omega
                      have HVB : Hid (validB s = true) := Lib.hid (by
                        have h1 := HLB.out
                        rw [hkk, List.take_length] at h1
                        unfold validB
                        rw [HA3.out, HLT.out, HSR.out, HRT.out, HS.out]
                        simp only
                        rw [HSO.out, h1]; rfl)
                      have hb1z : Below W1.heap.size W1 wr := below_trans' HB15.out HBZ.out
                      obtain ⟨⟨z0, z1, z2, z3, z4, z5⟩, z6, z7, z8⟩ := HC.out
                      replace z0 := cell_old hb1z z0
                      replace z1 := cell_old hb1z z1
                      replace z2 := cell_old hb1z z2
                      replace z3 := cell_old hb1z z3
                      replace z4 := cell_old hb1z z4
                      replace z5 := cell_old hb1z z5
                      replace z6 := cell_old hb1z z6
                      replace z7 := cell_old hb1z z7
                      replace z8 := cell_old hb1z z8
                      have hmm := @run_makeMap Tryz.prog
                      clear hb1z
                      go_upto_region 24 with (fail)
                      obtain ⟨WF, hWF⟩ : ∃ x, (wr.alloc (Obj.map #[] 0)).alloc (Obj.cells #[.int .i64 a0, .int .i64 b0, .int .i64 a1, .int .i64 b1, .int .i64 a2, .int .i64 b2, .slice rao runs.length rcap, .slice sao sheep.length scap, .slice (some ⟨gB, 0, none⟩) looks.length looks.length, .map (some wr.heap.size)] 150) = x := ⟨_, rfl⟩
                      rw [hWF]
                      have hbF : Below wr.heap.size wr WF := by rw [← hWF]; exact below_two _ _ _
                      have hb5F : Below w5.heap.size w5 WF := below_trans' HBZ.out hbF
                      have hb0F : Below w.heap.size w WF := below_trans' HB45.out hb5F
                      have hcF : ∀ j v, #[Value.int .i64 a0, .int .i64 b0, .int .i64 a1, .int .i64 b1, .int .i64 a2, .int .i64 b2, .slice rao runs.length rcap, .slice sao sheep.length scap, .slice (some ⟨gB, 0, none⟩) looks.length looks.length, .map (some wr.heap.size)][j]? = some v → WF.cell? ⟨wr.heap.size + 1, j, none⟩ = some v := by
                        intro j v h
                        have h0 := World.cell?_alloc_new (wr.alloc (Obj.map #[] 0)) #[Value.int .i64 a0, .int .i64 b0, .int .i64 a1, .int .i64 b1, .int .i64 a2, .int .i64 b2, .slice rao runs.length rcap, .slice sao sheep.length scap, .slice (some ⟨gB, 0, none⟩) looks.length looks.length, .map (some wr.heap.size)] 150 j
                        rw [World.size_alloc] at h0
                        rw [← hWF, h0]; exact h
                      have hmF : MapIv Tryz.prog 181 WF wr.heap.size fun k v => ∃ t, k = keyV t ∧ Prs WF WF.heap.size v (day s t) ∧ Off (fun _ => False) v := by
                        have h0 : MapIv Tryz.prog 181 (wr.alloc (.map #[] 0)) wr.heap.size fun k v => ∃ t, k = keyV t ∧ Prs WF WF.heap.size v (day s t) ∧ Off (fun _ => False) v := MapIv.made wr
                        refine h0.imp ?_ fun _ _ h => h
                        rw [← hWF]; exact Below.heap_alloc _ _ _ (by simp)
                      have hBd : Board WF (wr.heap.size + 1) wr.heap.size s (fun _ => False) := by
                        refine ⟨?_, ⟨_, hcF 6 _ rfl, by rw [HSR.out]; exact HR.out.later hb0F, fun _ _ _ _ _ h => h⟩, ⟨_, hcF 7 _ rfl, by rw [HS.out]; exact HSH.out.later hb0F, fun _ _ _ _ _ h => h⟩, ⟨_, hcF 8 _ rfl, by rw [HS.out]; exact HO5.out.later hb5F, fun _ _ _ _ _ h => h⟩, hcF 9 _ rfl, hmF, fun k h => h.elim, fun h => h, fun h => h⟩
                        intro k hk
                        rw [HS.out]
                        obtain rfl | rfl | rfl : k = 0 ∨ k = 1 ∨ k = 2 := by omega
                        · exact ⟨hcF 0 _ rfl, hcF 1 _ rfl⟩
                        · exact ⟨hcF 2 _ rfl, hcF 3 _ rfl⟩
                        · exact ⟨hcF 4 _ rfl, hcF 5 _ rfl⟩
                      have hcall := HI.out WF _ _ hb0F hBd HVB.out
                      have hws : w.heap.size ≤ wr.heap.size := by have := HB45.out.size; have := HBZ.out.size; omega
                      have HCALL := Lib.hid hcall
                      have HBD := Lib.hid hBd
                      have HB0F := Lib.hid hb0F
                      clear hcall hBd hb0F hb5F hbF hcF hmF z0 z1 z2 z3 z4 z5 z6 z7 z8 hmm hWF
                      go_wp2
                      refine HCALL.out.mono ?_
                      rintro e B ⟨rfl, hbB⟩
                      have HBB := Lib.hid hbB
                      clear hbB
                      cases okI
                      · go_wp2_with (go_at_call 103; refine (ask_no 2 _).mono ?_; rintro e w6 ⟨rfl, rfl⟩)
                        exact ⟨rfl, .inr (.inl ⟨HVB.out, rfl, rfl, below_trans' HB0F.out HBB.out⟩)⟩
                      · go_wp2_with (go_at_call 103; refine (ask_ok 2 _).mono ?_; rintro e w6 ⟨rfl, rfl⟩)
                        go_ret
                        exact .inr (.inr ⟨HVB.out, rfl, _, _, rfl, below_trans' HB0F.out HBB.out, by omega, hws, by omega, HBD.out.later HBB.out⟩)
          · have h5' : decide ((looks.length : Int) ≤ 4) = false := by simpa using h5
            have hv := HNL.out (by rw [HLE.out]; simp; intro _ _; omega)
            have HV := Lib.hid hv
            clear hv
            go_wp2_with (first
              | (go_at_call 105; refine (within_any _ _ _ _).mono ?_; rintro e w' ⟨rfl, rfl⟩; rw [h3])
              | (go_at_call 103; refine (ask_no 1 _).mono ?_; rintro e w6 ⟨rfl, rfl⟩))
            exact ⟨rfl, .inl ⟨HV.out, rfl, HBW0.out⟩⟩
        · have h4' : decide ((sheep.length : Int) ≤ 16) = false := by simpa using h4
          have hv := HNL.out (by rw [HLE.out]; simp; intro _ _; omega)
          have HV := Lib.hid hv
          clear hv
          go_wp2_with (first
            | (go_at_call 105; refine (within_any _ _ _ _).mono ?_; rintro e w' ⟨rfl, rfl⟩; rw [h3])
            | (go_at_call 103; refine (ask_no 1 _).mono ?_; rintro e w6 ⟨rfl, rfl⟩))
          exact ⟨rfl, .inl ⟨HV.out, rfl, HBW0.out⟩⟩
end Go.Proofs.YthedkfiebmnghaaGreat
