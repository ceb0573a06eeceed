/- Texts of the proof, joined. -/
import Derived.Test.YthedkfiebmnghaaGreatKst11
import Derived.Maps.OwnIn
set_option linter.all false
namespace Go.Proofs.YthedkfiebmnghaaGreat
open Go.RowKit Go.Sh Go.Sh.Stand Go.Shelf
attribute [local go_sem] Oper.semAt_some
theorem info23 : (Tryz.prog.info? 45).map (fun i => (i.zero, i.size, i.bytes)) = some (some (.agg #[.int .i64 0, .int .i64 0]), 2, 16) := by kernel_rfl
structure SpanAt (w : World) (m : Nat) (Br Bl n₀ : Nat) (gv : Value) (f : Shearer → Int) (Cl : World → Prop) (T : Nat → Prop) (pre : List Shearer) (A : World) : Prop where
  r : A.cell? ⟨Br, 0, none⟩ = some gv
  tr : ¬ T Br
  row : ∃ v, A.cell? ⟨Bl, 0, none⟩ = some v ∧ A.ownsRow n₀ 45 2 v pre.length ((pre.map fun x => enc2 (f x, f x)).flatten) ∧ ∀ k, v.ownBlock = some k → T k ∧ k ≠ Bl
  fr : A.frozen? ⟨Bl, 0, none⟩ = false
  tl : T Bl
  cl : Cl A
  c0 : A.cell? ⟨Br + 1, 0, none⟩ = some (.int .i64 0)
  c1 : A.cell? ⟨Br + 1, 1, none⟩ = some (.int .i64 0)
  f0 : A.frozen? ⟨Br + 1, 0, none⟩ = false
  f1 : A.frozen? ⟨Br + 1, 1, none⟩ = false
  tb : T (Br + 1)
  old : ∀ k, k < w.heap.size → k ≠ m → A.heap[k]? = w.heap[k]?
  own : ∀ v k, A.cell? ⟨Bl, 0, none⟩ = some v → v.ownBlock = some k → k ≠ Br + 1
def spanOut (l : List Int) : Value := if l = [] then .tuple #[.agg #[.int .i64 0, .int .i64 0], .bool false] else .tuple #[.agg #[.int .i64 (joinedL (l.map fun n => (n, n))).1, .int .i64 (joinedL (l.map fun n => (n, n))).2], .bool true]
set_option maxRecDepth 100000 in
set_option maxHeartbeats 1000000 in
theorem spanned_any (b m : Nat) (s : Stand) (gf : Nat) (lb : Array Value) (U : Nat → Prop) (xs : List Shearer) (X : Nat → Prop) (gq : Nat) (lbq : Array Value) (f : Shearer → Int) (w : World) (Cl : World → Prop)
    (eg : ∀ args w, (callFunc gf args).run Tryz.prog w = .ok (.enter gf args) w) (eq : ∀ args w, (callFunc gq args).run Tryz.prog w = .ok (.enter gq args) w)
    (hg : Board w b m s X) (hseq : ∀ w', Below w.heap.size w w' → Seq Tryz.prog (fun k => k = m) (fun T A => Board A b m s T) U gf lb (fun t : Shearer => #[keyV t]) xs w') (hU : ∀ k, U k → k < w.heap.size ∧ ¬ X k) (hlen : xs.length ≤ 1000)
    (hcl : Cl w) (hcf : ∀ A B, Cl A → Frm (fun k => k = m ∨ w.heap.size ≤ k) A B → Cl B)
    (hf : ∀ x ∈ xs, ∀ A Y, Board A b m s Y → Cl A → Calls Tryz.prog gq (#[keyV x] ++ lbq) A fun e B => e = .returned (.int .i64 (f x)) ∧ OnBoard b m s Y A B) :
    Calls Tryz.prog 126 #[.func (.func gf) #[] lb, .agg #[.func (.func gq) #[] lbq]] w fun e w' => e = .returned (spanOut (xs.map f)) ∧ OnBoard b m s X w w' := by
  have hml := hg.mlt
  refine (callsIn_wide (n := 0)).1 ?_
  refine callsIn_of_wp_marks Tryz.func126 rfl trivial ?_ rfl
  simp only [Tryz.ntmps126, List.size_toArray, List.length_cons, List.length_nil, Nat.reduceAdd, Nat.reduceSub, Array.replicate_succ, Array.replicate_zero, List.push_toArray, List.append_toArray, List.nil_append, List.cons_append]
  have HSEQ := Lib.hid hseq
  have HG := Lib.hid hg
  have HF := Lib.hid hf
  have HCF := Lib.hid hcf
  have HU := Lib.hid hU
  have HCL := Lib.hid hcl
  clear hseq hg hf hcf hU hcl
  gi_wp2
  obtain ⟨W2, hW2⟩ : ∃ x, (((w.alloc (Obj.cells #[Value.func (Fn.func gq) #[] lbq] 179)).alloc (Obj.cells #[Value.int IntKind.i64 0, Value.int IntKind.i64 0] 45)).alloc (Obj.cells #[Value.slice none 0 0] 203)) = x := ⟨_, rfl⟩
  have hb2 : Below w.heap.size w W2 := by rw [← hW2]; exact (below_two _ _ _).alloc (by simp; omega) _
  have hsz : W2.heap.size = w.heap.size + 3 := by rw [← hW2]; simp
  have hg2 : Board W2 b m s (fun k => X k ∨ k = w.heap.size + 1 ∨ k = w.heap.size + 2) := HG.out.grow hb2 (fun k hk => hk.elim .inl fun h => .inr (by omega)) (fun k hk => hk.elim (fun h => by have := HG.out.xlt k h; omega) (fun h => by omega))
  have q0 : W2.cell? ⟨w.heap.size, 0, none⟩ = some (.func (.func gq) #[] lbq) := by rw [← hW2]; simp [go_sem]
  have q1 : W2.cell? ⟨w.heap.size + 1, 0, none⟩ = some (.int .i64 0) := by rw [← hW2]; simp [go_sem]
  have q2 : W2.cell? ⟨w.heap.size + 1, 1, none⟩ = some (.int .i64 0) := by rw [← hW2]; simp [go_sem]
  have q3 : W2.cell? ⟨w.heap.size + 2, 0, none⟩ = some (.slice none 0 0) := by rw [← hW2]; simp [go_sem]
  have g1 : W2.frozen? ⟨w.heap.size + 1, 0, none⟩ = false := by rw [← hW2]; simp [go_sem]
  have g2 : W2.frozen? ⟨w.heap.size + 1, 1, none⟩ = false := by rw [← hW2]; simp [go_sem]
  have g3 : W2.frozen? ⟨w.heap.size + 2, 0, none⟩ = false := by rw [← hW2]; simp [go_sem]
  rw [hW2]
  clear hW2
  rw [show w.heap.size + 1 + 1 = w.heap.size + 2 by omega]
  obtain ⟨i0, hi0, hz0, hz1, hz2⟩ := info_parts info23
  refine wpIn_range (gf := gf) (lb := lb) rfl eg (board_good b m s) (HSEQ.out W2 hb2) (Below.refl _ _) (fun _ => rfl)
    (fun k hk => by omega) (fun k => X k ∨ k = w.heap.size + 1 ∨ k = w.heap.size + 2) (fun k hk => hk.elim (fun h => by have := HG.out.xlt k h; omega) (fun h => by omega)) (fun k hk => ⟨fun h => h.elim (HU.out k hk).2 (fun h => by have := (HU.out k hk).1; omega), by have := (HU.out k hk).1; omega⟩) hg2
    (SpanAt w m w.heap.size (w.heap.size + 2) w.heap.size (.func (.func gq) #[] lbq) f Cl) (fun c T' pre A => False) ?hI ?hIx ?h0
    (fun x a' A => ∃ Bx, Bx ≠ m ∧ A.cell? ⟨Bx, 0, none⟩ = some (.int .i64 x.1) ∧ A.cell? ⟨Bx, 1, none⟩ = some (.int .i64 x.2.1) ∧ A.cell? ⟨Bx, 2, none⟩ = some (.int .i64 x.2.2) ∧
      a' = { tmps := #[.func (.func gf) #[] lb, .agg #[.func (.func gq) #[] lbq], undef, .pointer (some ⟨w.heap.size, 0, none⟩), .pointer (some ⟨w.heap.size + 1, 0, none⟩), .bool false, .pointer (some ⟨w.heap.size + 2, 0, none⟩), .pointer (some ⟨Bx, 0, none⟩), undef, .func (.func gf) #[] lb, keyV x, undef, undef, undef, undef, undef, undef, undef, undef, undef, undef, undef, undef, undef, undef, undef, undef], defers := [] })
    ?hAx ?assign ?body ?done ?stop
  case hI =>
    rintro T' pre A B ⟨hr, tr, ⟨v, hv, ho, hvo⟩, hfr, tl, hc, rc0, rc1, rf0, rf1, tb, hold, hov⟩ hga hgb hlt hff
    have hbb : w.heap.size + 1 < A.heap.size := World.block_lt_of_cell? _ _ rc0
    have hnb : ¬ ((w.heap.size + 1 = m) ∨ (W2.heap.size ≤ w.heap.size + 1 ∧ ¬ T' (w.heap.size + 1))) := by rintro (h | h) <;> omega
    have hbl : w.heap.size + 2 < A.heap.size := World.block_lt_of_cell? _ _ hv
    have hnl : ¬ ((w.heap.size + 2 = m) ∨ (W2.heap.size ≤ w.heap.size + 2 ∧ ¬ T' (w.heap.size + 2))) := by rintro (h | h) <;> omega
    refine ⟨hff.cell hr (by rintro (h | h) <;> simp at h <;> omega), tr, ⟨v, hff.cell hv hnl, ownsRow_frm ho hff ?_, hvo⟩, (hff.frozen hbl hnl).trans hfr, tl, HCF.out _ _ hc (hff.mono fun k _ hk => hk.elim .inl fun h => .inr (by omega)), hff.cell rc0 hnb, hff.cell rc1 hnb, (hff.frozen hbb hnb).trans rf0, (hff.frozen hbb hnb).trans rf1, tb, fun k hk hm => (hff.block k (by have := hbb; omega) (by rintro (h | h) <;> omega)).trans (hold k hk hm), fun v' k' h1 h2 => hov v' k' (by rw [hff.cell hv hnl] at h1; cases h1; exact hv) h2⟩
    intro k hk h
    have h1 := (ho.lt k hk).1
    rcases h with h | h
    · omega
    · exact h.2 (hvo k hk).1
  case hIx => intro c T' pre A B h; exact h.elim
  case h0 =>
    exact ⟨q0, fun h => h.elim (fun h => by have := HG.out.xlt _ h; omega) (fun h => by omega), ⟨.slice none 0 0, q3, World.ownsRow_nil _ _ _ _, by intro k hk; cases hk⟩, g3, .inr (.inr rfl), HCF.out _ _ HCL.out (.of_below hb2), q1, q2, g1, g2, .inr (.inl rfl), fun k hk _ => hb2.block k hk, by intro v k hv hk; rw [q3] at hv; cases hv; cases hk⟩
  case hAx =>
    rintro x a' A l' o o' ⟨Bx, hm, a0, a1, a2, rfl⟩ hl ho
    exact ⟨Bx, hm, cell_putObj _ a0 hl ho, cell_putObj _ a1 hl ho, cell_putObj _ a2 hl ho, rfl⟩
  case assign =>
    rintro l' T' pre ⟨x0, x1, x2⟩ W' K hI hg hlt hsz' hK
    have HK := Lib.hid hK
    have HI := Lib.hid hI
    clear hK hI
    unfold keyV
    gi_wp2
    exact HK.out _ _ ((Below.refl _ _).alloc (Nat.le_refl _) _) ⟨W'.heap.size, by have := hg.mlt; omega, by simp [go_sem], by simp [go_sem], by simp [go_sem], rfl⟩
  case body =>
    rintro l' T' pre ⟨x0, x1, x2⟩ a' W' hI hg hlt hsz' hff ⟨Bx, hbm, a0, a1, a2, rfl⟩ hpre
    have hmem : (x0, x1, x2) ∈ xs := hpre.subset (by simp)
    have hrt := HF.out (x0, x1, x2) hmem W' T' hg hI.cl
    have hpl : pre.length < xs.length := by have := hpre.length_le; simp at this; omega
    unfold keyV at hrt ⊢
    have hr := hI.r
    have HI := Lib.hid hI
    have HR := Lib.hid hrt
    have HG' := Lib.hid hg
    have HFF := Lib.hid hff
    have HL := Lib.hid hlt
    clear hI hrt hg hff hlt
    gi_wp2
    refine ⟨trivial, rfl, CallsIn.mono (CallsIn.inRound l' (callsIn_wide.2 HR.out)) ?_⟩
    rintro e W4 ⟨rfl, hon⟩
    have h4 : SpanAt w m w.heap.size (w.heap.size + 2) w.heap.size (.func (.func gq) #[] lbq) f Cl T' pre W4 := by
      obtain ⟨hr, tr, ⟨v, hv, ho, hvo⟩, hfr, tl, hc, rc0, rc1, rf0, rf1, tb, hold, hov⟩ := HI.out
      have hbb : w.heap.size + 1 < W'.heap.size := World.block_lt_of_cell? _ _ rc0
      have hnl : w.heap.size + 2 ≠ m := by omega
      have hnb : w.heap.size + 1 ≠ m := by omega
      have hbl : w.heap.size + 2 < W'.heap.size := World.block_lt_of_cell? _ _ hv
      refine ⟨hon.cell hr (by simp only; omega), tr, ⟨v, hon.cell hv (by simp only; omega), ownsRow_frm ho hon.frm ?_, hvo⟩, (hon.frm.frozen hbl (by simp only; omega)).trans hfr, tl, HCF.out _ _ hc (hon.frm.mono fun k _ hk => .inl hk), hon.cell rc0 hnb, hon.cell rc1 hnb, (hon.frm.frozen hbb hnb).trans rf0, (hon.frm.frozen hbb hnb).trans rf1, tb, fun k hk hm => (hon.frm.block k (by omega) hm).trans (hold k hk hm), fun v' k' h1 h2 => hov v' k' (by rw [hon.cell hv hnl] at h1; cases h1; exact hv) h2⟩
      intro k hk h
      have h1 := (ho.lt k hk).1
      omega
    obtain ⟨hr4, tr4, ⟨v, hv4, ho4, hvo4⟩, hfr4, tl4, hc4, rc04, rc14, rf04, rf14, tb4, hold4, hov4⟩ := h4
    have HOLD4 := Lib.hid hold4
    clear hold4
    have hov4' := fun k => hov4 v k hv4
    clear hov4
    have HOV := Lib.hid hov4'
    clear hov4'
    have hbb4 : w.heap.size + 1 < W4.heap.size := World.block_lt_of_cell? _ _ rc04
    have hbl4 : w.heap.size + 2 < W4.heap.size := World.block_lt_of_cell? _ _ hv4
    obtain ⟨nx, hnx⟩ : ∃ n, f (x0, x1, x2) = n := ⟨_, rfl⟩
    have HON := Lib.hid hon
    have HNX := Lib.hid hnx
    have HVO := Lib.hid hvo4
    have HC4 := Lib.hid hc4
    have HTL := Lib.hid tl4
    rw [hnx]
    clear hon hnx hvo4 hc4 tl4
    have hvn : v.ownBlock ≠ some (w.heap.size + 1) := fun h => HOV.out _ h rfl
    have hvb : v.ownBlock ≠ some (w.heap.size + 2) := fun h => (HVO.out _ h).2 rfl
    obtain ⟨ao, cap, rfl⟩ := owns_slice ho4
    gi_wp2_with (gi_at_builtin; refine wpListIn_append_own_at _ rfl _ _ 203 rfl w.heap.size 45 i0 (.agg #[.int .i64 0, .int .i64 0]) 2 16 Tryz.underlying203 hi0 hz0 hz1 hz2 rfl (by decide) (.slice ao pre.length cap) _ _ rfl (ho4.alloc _) ⟨W4.heap.size, 0, none⟩ 1 1 [.int .i64 nx, .int .i64 nx] rfl rfl ?c1 ?c2 ?c3 ?c4 ?c5 ?_; rotate_left 5; intro v5 w5 hown5 hgrow5 hnil5 hat5
                 have hbx := grown_cell hgrow5 ((World.cell?_alloc_lt _ _ _ hbl4).trans hv4) hvb
                 have hbf := (grown_frozen hgrow5 (a := ⟨w.heap.size + 2, 0, none⟩) (by simp; omega) hvb).trans ((World.frozen?_alloc_past _ _ _ hbl4).trans hfr4)
                 obtain ⟨ao5, cap5, rfl⟩ := owns_slice hown5)
    case c1 => exact cell_two_new _ _ _ _
    case c2 => intro u hu; simp at hu; rcases hu with rfl | rfl <;> rfl
    case c3 => unfold maxLen; omega
    case c4 => omega
    case c5 => simp; omega
    obtain ⟨T2, hT2⟩ : ∃ T2 : Nat → Prop, T2 = fun k => T' k ∨ (Value.slice ao5 (pre.length + 1) cap5).ownBlock = some k := ⟨_, rfl⟩
    have hs5 := hgrow5.size
    simp only [World.size_alloc] at hs5
    have hs4 := HON.out.size
    have hge : ∀ k, T2 k → T' k ∨ W4.heap.size ≤ k := by
      rw [hT2]
      rintro k (hk | hk)
      · exact .inl hk
      · rcases hat5 with e | e
        · rw [e] at hk; exact .inl (HVO.out k hk).1
        · rw [e] at hk; cases hk; exact .inr (by simp)
    have hf5' : Frm (fun k => T' k ∧ w.heap.size ≤ k) W4 (w5.setCell ⟨w.heap.size + 2, 0, none⟩ (.slice ao5 (pre.length + 1) cap5)) :=
      (((Frm.refl (fun k => T' k ∧ w.heap.size ≤ k) W4).alloc (.cells #[.int .i64 nx, .int .i64 nx] 45)).grown hgrow5 (fun k hk => .inl ⟨(HVO.out k hk).1, (ho4.lt k hk).1⟩)).setCell (.inl ⟨HTL.out, by simp only; omega⟩) _
    have hf5 : Frm (fun k => T' k) W4 (w5.setCell ⟨w.heap.size + 2, 0, none⟩ (.slice ao5 (pre.length + 1) cap5)) := hf5'.mono fun k _ hk => hk.1
    have hlt2 : ∀ k, T2 k → k < (w5.setCell ⟨w.heap.size + 2, 0, none⟩ (.slice ao5 (pre.length + 1) cap5)).heap.size := by
      rw [hT2]
      rintro k (hk | hk)
      · have := HL.out k hk; simp; omega
      · have := (hown5.lt k hk).2; simpa using this
    have hrn : Rnd (fun k => k = m) T' T2 W' (w5.setCell ⟨w.heap.size + 2, 0, none⟩ (.slice ao5 (pre.length + 1) cap5)) :=
      ⟨(HON.out.frm.mono fun k _ hk => .inl hk).trans (hf5.mono fun k _ hk => .inr hk), fun k hk => (hge k hk).elim .inl fun h => .inr (by omega), fun k hk => by rw [hT2]; exact .inl hk, hlt2⟩
    have hbd : Board (w5.setCell ⟨w.heap.size + 2, 0, none⟩ (.slice ao5 (pre.length + 1) cap5)) b m s T2 :=
      HON.out.board.turnGrow hf5 (fun k hk => hk) hge hlt2
    refine ⟨T2, hrn, hbd, ?_⟩
    have hr5 : w5.cell? ⟨w.heap.size, 0, none⟩ = some (.func (.func gq) #[] lbq) := by
      refine grown_cell hgrow5 ((World.cell?_alloc_lt _ _ _ (World.block_lt_of_cell? _ _ hr4)).trans hr4) fun h => tr4 (HVO.out _ h).1
    have hnb : (Value.slice ao5 (pre.length + 1) cap5).ownBlock ≠ some (w.heap.size + 2) := apart_of hat5 hvb (by simp; omega)
    have hnr : ¬ T2 w.heap.size := fun h => (hge _ h).elim tr4 fun h => by omega
    refine ⟨?_, hnr, ⟨_, ?_, ?_, fun k hk => ⟨by rw [hT2]; exact .inr hk, fun e => hnb (by rw [← e]; exact hk)⟩⟩, ?_, by rw [hT2]; exact .inl HTL.out, HCF.out _ _ HC4.out (hf5'.mono fun k hk ht => .inr ht.2), ?_, ?_, ?_, ?_, by rw [hT2]; exact .inl tb4, fun k hk hm => (hf5'.block k (by omega) (fun h => by omega)).trans (HOLD4.out k hk hm), ?_⟩
    · simp [go_sem, hr5]
    · simp [go_sem, hbx]
    · have h6 := ownsRow_setCell hown5 (a := ⟨w.heap.size + 2, 0, none⟩) hnb (.slice ao5 (pre.length + 1) cap5)
      simpa [enc2, HNX.out] using h6
    · rw [World.frozen?_setCell]; exact hbf
    · have h6 := grown_cell hgrow5 ((World.cell?_alloc_lt _ _ _ hbb4).trans rc04) hvn
      simp [go_sem, h6]
    · have h6 := grown_cell hgrow5 ((World.cell?_alloc_lt _ _ _ hbb4).trans rc14) hvn
      simp [go_sem, h6]
    · rw [World.frozen?_setCell]
      exact (grown_frozen hgrow5 (a := ⟨w.heap.size + 1, 0, none⟩) (by simp; omega) hvn).trans ((World.frozen?_alloc_past _ _ _ hbb4).trans rf04)
    · rw [World.frozen?_setCell]
      exact (grown_frozen hgrow5 (a := ⟨w.heap.size + 1, 1, none⟩) (by simp; omega) hvn).trans ((World.frozen?_alloc_past _ _ _ hbb4).trans rf14)
    · intro v' k' h1 h2
      have h3 : (w5.setCell ⟨w.heap.size + 2, 0, none⟩ (.slice ao5 (pre.length + 1) cap5)).cell? ⟨w.heap.size + 2, 0, none⟩ = some (.slice ao5 (pre.length + 1) cap5) := by simp [go_sem, hbx]
      rw [h3] at h1
      cases h1
      rintro rfl
      exact apart_of hat5 hvn (by simp; omega) h2
  case done =>
    rintro D T' W' hD hTD hrn hg hI hK
    obtain ⟨hr, tr, ⟨v, hv, ho, hvo⟩, hfr, tl, hc, e1, e2, k1, k2, tb, hold, hov⟩ := hI
    obtain ⟨ao, cap, rfl⟩ := owns_slice ho
    have hon : ∀ (Z : World), Frm (fun k => k = w.heap.size + 1) W' Z → OnBoard b m s X w (Z.putObj D (.deferred none)) := by
      intro Z hz
      have hKz : Z.heap[D]? = some (.deferred (some [])) := (hz.block D (Array.getElem?_eq_some_iff.1 hK).1 (by omega)).trans hK
      have hput := (board_good b m s).put (.deferred none) (hg.turn hz fun k hk => by rw [hk]; exact tb) hKz rfl (show ¬ D = m by omega)
      have h1 := hrn.pre hb2
      refine ⟨⟨hz.os.trans h1.frm.os, hz.tape.trans h1.frm.tape, hz.output.trans h1.frm.output, by have := h1.frm.size; have := hz.size; simp; omega, fun k hk hs => ?_⟩, hput.sub fun k hk => hrn.keep k (.inl hk)⟩
      rw [World.putObj_heap_other (by omega), hz.block k (by have := h1.frm.size; omega) (by omega)]
      exact hold k hk hs
    have HON := Lib.hid hon
    have HO := Lib.hid ho
    have HGD := Lib.hid hg
    have HRN := Lib.hid hrn
    clear hon ho hvo hc tl tr hrn hg hov tb hold
    by_cases hxs : xs = []
    · subst hxs
      gi_wp2
      obtain ⟨Z, hZ⟩ : ∃ Z, (W'.setCell ⟨w.heap.size + 1, 0, none⟩ (.int .i64 0)).setCell ⟨w.heap.size + 1, 1, none⟩ (.int .i64 0) = Z := ⟨_, rfl⟩
      have hz : Frm (fun k => k = w.heap.size + 1) W' Z := by rw [← hZ]; exact Frm.setCell (S := fun k => k = w.heap.size + 1) (Frm.setCell (S := fun k => k = w.heap.size + 1) (Frm.refl _ _) (.inl rfl) _) (.inl rfl) _
      have z0 : Z.cell? ⟨w.heap.size + 1, 0, none⟩ = some (.int .i64 0) := by rw [← hZ]; simp [go_sem, e1, e2]
      have z1 : Z.cell? ⟨w.heap.size + 1, 1, none⟩ = some (.int .i64 0) := by rw [← hZ]; simp [go_sem, e1, e2]
      rw [hZ]
      have hKz : Z.heap[D]? = some (.deferred (some [])) := (hz.block D (Array.getElem?_eq_some_iff.1 hK).1 (by omega)).trans hK
      have y0 := cell_putObj (.deferred none) z0 hKz rfl
      have y1 := cell_putObj (.deferred none) z1 hKz rfl
      refine ⟨by simp, .inl ⟨_, _, rfl, run_takeDeferred hKz, ?_⟩⟩
      refine ⟨.tuple #[.agg #[.int .i64 0, .int .i64 0], .bool false], ?_, by simp [spanOut], HON.out Z hz⟩
      simp [results, Tryz.results126, go_sem, y0, y1]
    · have hpr : Prs W' W'.heap.size (.slice ao xs.length cap) (xs.map fun x => (f x, f x)) := by
        have h0 := HO.out
        have := RowsAt.of_owns (enc := enc2) (size := 2) (l := xs.map fun x => (f x, f x)) (fun _ => rfl) (by decide) (e := 45) (base := w.heap.size) (w := W') (v := .slice ao xs.length cap) (by simpa [List.map_map, Function.comp_def] using h0)
        exact this
      have hjn := joined_any _ _ W' hpr (by simpa using hxs)
      have hps2 : 0 < xs.length := List.length_pos_iff.2 hxs
      have hpz : (((xs.length : Nat) : Int) == 0) = false := by simp; omega
      have HJN := Lib.hid hjn
      have hso : spanOut (xs.map f) = .tuple #[.agg #[.int .i64 (joinedL (xs.map fun x => (f x, f x))).1, .int .i64 (joinedL (xs.map fun x => (f x, f x))).2], .bool true] := by
        unfold spanOut; rw [if_neg (by simpa using hxs), List.map_map]; rfl
      have HSO := Lib.hid hso
      obtain ⟨jl, hjl⟩ : ∃ x, joinedL (xs.map fun x => (f x, f x)) = x := ⟨_, rfl⟩
      rw [hjl] at HJN HSO
      clear hso hjl hjn hpr
      gi_wp2_with (refine ⟨trivial, rfl, ?_⟩; gi_at_call 144; refine (callsIn_wide.2 HJN.out).mono ?_; rintro e W5 ⟨rfl, hb5⟩
                   have e1 := cell_old hb5 e1
                   have e2 := cell_old hb5 e2
                   have hbk : w.heap.size + 1 < W'.heap.size := World.block_lt_of_cell? _ _ ‹W'.cell? ⟨w.heap.size + 1, 0, none⟩ = _›
                   have k1 := ((bcell hb5).2 (w.heap.size + 1) 0 hbk).trans k1
                   have k2 := ((bcell hb5).2 (w.heap.size + 1) 1 hbk).trans k2
                   have HB5 := Lib.hid hb5
                   clear hb5)
      obtain ⟨Z, hZ⟩ : ∃ Z, (W5.setCell ⟨w.heap.size + 1, 0, none⟩ (.int .i64 jl.1)).setCell ⟨w.heap.size + 1, 1, none⟩ (.int .i64 jl.2) = Z := ⟨_, rfl⟩
      have hz : Frm (fun k => k = w.heap.size + 1) W' Z := by rw [← hZ]; exact Frm.setCell (S := fun k => k = w.heap.size + 1) (Frm.setCell (S := fun k => k = w.heap.size + 1) (Frm.of_below HB5.out) (.inl rfl) _) (.inl rfl) _
      have z0 : Z.cell? ⟨w.heap.size + 1, 0, none⟩ = some (.int .i64 jl.1) := by rw [← hZ]; simp [go_sem, e1, e2]
      have z1 : Z.cell? ⟨w.heap.size + 1, 1, none⟩ = some (.int .i64 jl.2) := by rw [← hZ]; simp [go_sem, e1, e2]
      rw [hZ]
      have hKz : Z.heap[D]? = some (.deferred (some [])) := (hz.block D (Array.getElem?_eq_some_iff.1 hK).1 (by omega)).trans hK
      have y0 := cell_putObj (.deferred none) z0 hKz rfl
      have y1 := cell_putObj (.deferred none) z1 hKz rfl
      refine ⟨by simp, .inl ⟨_, _, rfl, run_takeDeferred hKz, ?_⟩⟩
      refine ⟨.tuple #[.agg #[.int .i64 jl.1, .int .i64 jl.2], .bool true], ?_, by rw [HSO.out], HON.out Z hz⟩
      simp [results, Tryz.results126, go_sem, y0, y1]
  case stop =>
    rintro D c T' pre W' hD hTD hrn hg hpre hI hK
    exact hI.elim
end Go.Proofs.YthedkfiebmnghaaGreat
namespace Go.Proofs.YthedkfiebmnghaaGreat
open Go.RowKit Go.Sh Go.Sh.Stand Go.Shelf
def everyB (s : Stand) : Nat := 2 ^ s.looks.length - 1
def truthsL (s : Stand) (set : Nat) : List Shearer := (allSh s).filter (rightB s · set)
theorem subs_length (s : Stand) (hs : Fit s) : ∀ f k t, k + f ≤ 3 → (subs s f k t).length ≤ 5 ^ f
  | 0, _, _, _ => by simp [subs]
  | f + 1, k, t, h => by
    have h3 := hs.mins
    have hb := hs.minb (s.mins.getD k (0, 0)) (by rw [List.getD, List.getElem?_eq_getElem (by omega)]; exact List.getElem_mem _)
    rw [subs]
    have key : ∀ n : Nat, n ≤ 5 → ∀ g : Nat → List Shearer, (∀ i, (g i).length ≤ 5 ^ f) → ((List.range n).flatMap g).length ≤ n * 5 ^ f := by
      intro n
      induction n with
      | zero => intro _ g _; simp
      | succ n ih =>
        intro hn g hg
        rw [flat_succ, List.length_append]
        have h1 := ih (by omega) g hg
        have h2 := hg n
        rw [Nat.succ_mul]; omega
    have h5 := key ((s.mins.getD k (0, 0)).2 + 1 - (s.mins.getD k (0, 0)).1).toNat (by omega) (fun (i : Nat) => subs s f (k + 1) (setT t k ((s.mins.getD k (0, 0)).1 + (i : Nat)))) (fun i => subs_length s hs f (k + 1) _ (by omega))
    refine Nat.le_trans h5 ?_
    rw [Nat.pow_succ, Nat.mul_comm (5 ^ f)]
    exact Nat.mul_le_mul_right _ (by omega)
theorem truthsL_length (s : Stand) (hs : Fit s) (set : Nat) : (truthsL s set).length ≤ 1000 := by
  have h1 := List.length_filter_le (rightB s · set) (allSh s)
  have h2 := subs_length s hs 3 0 (0, 0, 0) (by omega)
  unfold truthsL allSh at *
  omega
theorem mem_subs {s : Stand} (hs : Fit s) : ∀ f k t x, k + f = 3 → (∀ j, j < k → ∀ a b c, t = (a, b, c) → (j = 0 → 1 ≤ a ∧ a ≤ 40) ∧ (j = 1 → 1 ≤ b ∧ b ≤ 40) ∧ (j = 2 → 1 ≤ c ∧ c ≤ 40)) → x ∈ subs s f k t → Tok x
  | 0, k, (a, b, c), x, h, ht, hx => by
    simp [subs] at hx
    subst hx
    exact ⟨(ht 0 (by omega) a b c rfl).1 rfl, (ht 1 (by omega) a b c rfl).2.1 rfl, (ht 2 (by omega) a b c rfl).2.2 rfl⟩
  | f + 1, k, (a, b, c), x, h, ht, hx => by
    rw [subs] at hx
    obtain ⟨i, hi, hx⟩ := List.mem_flatMap.1 hx
    have h3 := hs.mins
    have hb := hs.minb (s.mins.getD k (0, 0)) (by rw [List.getD, List.getElem?_eq_getElem (by omega)]; exact List.getElem_mem _)
    refine mem_subs hs f (k + 1) _ x (by omega) ?_ hx
    intro j hj a' b' c' he
    have hi' : (i : Int) < (s.mins.getD k (0, 0)).2 + 1 - (s.mins.getD k (0, 0)).1 := by have := List.mem_range.1 hi; omega
    have hn : 1 ≤ (s.mins.getD k (0, 0)).1 + (i : Int) ∧ (s.mins.getD k (0, 0)).1 + (i : Int) ≤ 40 := by omega
    generalize (s.mins.getD k (0, 0)).1 + (i : Int) = n at he hn
    have hh := ht j
    unfold setT setK at he
    have hk : k = 0 ∨ k = 1 ∨ k = 2 := by omega
    rcases hk with rfl | rfl | rfl
    · simp at he; obtain ⟨rfl, rfl, rfl⟩ := he
      have : j = 0 := by omega
      subst this; simp; exact hn
    · simp at he; obtain ⟨rfl, rfl, rfl⟩ := he
      have : j = 0 ∨ j = 1 := by omega
      rcases this with rfl | rfl
      · have := (ht 0 (by omega) a b c rfl).1 rfl
        simp; exact this
      · simp; exact hn
    · simp at he; obtain ⟨rfl, rfl, rfl⟩ := he
      have : j = 0 ∨ j = 1 ∨ j = 2 := by omega
      rcases this with rfl | rfl | rfl
      · have := (ht 0 (by omega) a b c rfl).1 rfl
        simp; exact this
      · have := (ht 1 (by omega) a b c rfl).2.1 rfl
        simp; exact this
      · simp; exact hn
theorem tok_all {s : Stand} (hs : Fit s) : ∀ t ∈ allSh s, Tok t := fun t ht => mem_subs hs 3 0 (0, 0, 0) t (by omega) (fun j hj => by omega) ht
def toldE (l : List Int) (e : Ending) : Prop := if l = [] then e = .panicked (refusal 10) else e = .returned (.agg #[.int .i64 (joinedL (l.map fun n => (n, n))).1, .int .i64 (joinedL (l.map fun n => (n, n))).2])
set_option maxRecDepth 100000 in
set_option maxHeartbeats 1000000 in
theorem told_any (b m : Nat) (s : Stand) (X : Nat → Prop) (gq : Nat) (lbq : Array Value) (f : Shearer → Int) (w : World) (Cl : World → Prop) (hs : Fit s)
    (eq : ∀ args w, (callFunc gq args).run Tryz.prog w = .ok (.enter gq args) w)
    (hg : Board w b m s X) (hcl : Cl w) (hcf : ∀ A B, Cl A → Frm (fun k => k = m ∨ w.heap.size ≤ k) A B → Cl B)
    (hf : ∀ x ∈ truthsL s (everyB s), ∀ A Y, Board A b m s Y → Cl A → Calls Tryz.prog gq (#[keyV x] ++ lbq) A fun e B => e = .returned (.int .i64 (f x)) ∧ OnBoard b m s Y A B) :
    Calls Tryz.prog 109 #[.pointer (some ⟨b, 0, none⟩), .func (.func gq) #[] lbq] w fun e w' => toldE ((truthsL s (everyB s)).map f) e ∧ OnBoard b m s X w w' := by
  have hml := hg.mlt
  have hll := hs.looks
  have hset : everyB s < 16 := by
    unfold everyB
    have : s.looks.length = 0 ∨ s.looks.length = 1 ∨ s.looks.length = 2 ∨ s.looks.length = 3 ∨ s.looks.length = 4 := by omega
    rcases this with h | h | h | h | h <;> rw [h] <;> decide
  obtain ⟨w1, hw1⟩ : ∃ x, w.alloc (.cells #[.int .i64 0, .int .i64 0] 45) = x := ⟨_, rfl⟩
  have hb1 : Below w.heap.size w w1 := by rw [← hw1]; exact box_below _ _
  have hsz1 : w1.heap.size = w.heap.size + 1 := by rw [← hw1]; simp
  have hg1 : Board w1 b m s (fun k => X k ∨ k = w.heap.size) := hg.grow hb1 (fun k hk => hk.elim .inl fun h => .inr (by omega)) (fun k hk => hk.elim (fun h => by have := hg.xlt k h; omega) fun h => by omega)
  obtain ⟨w2, hw2⟩ : ∃ x, (w1.alloc (.cells #[.pointer (some ⟨b, 0, none⟩)] 112)).alloc (.cells #[.int .u64 (everyB s)] 159) = x := ⟨_, rfl⟩
  have hb2 : Below w1.heap.size w1 w2 := by rw [← hw2]; exact below_two _ _ _
  have hsz2 : w2.heap.size = w1.heap.size + 2 := by rw [← hw2]; simp
  have p1 : w2.cell? ⟨w1.heap.size, 0, none⟩ = some (.pointer (some ⟨b, 0, none⟩)) := by rw [← hw2]; simp [go_sem]
  have p2 : w2.cell? ⟨w1.heap.size + 1, 0, none⟩ = some (.int .u64 (everyB s)) := by rw [← hw2]; simp [go_sem]
  have hb12 := below_trans' hb1 hb2
  have hsp := spanned_any b m s 129 #[.pointer (some ⟨w1.heap.size, 0, none⟩), .pointer (some ⟨w1.heap.size + 1, 0, none⟩)] (fun k => k = w1.heap.size ∨ k = w1.heap.size + 1) (truthsL s (everyB s)) (fun k => X k ∨ k = w.heap.size) gq lbq f w2 Cl (enters_of Tryz.func129 (by kernel_rfl) rfl) eq (hg1.later hb2)
    (fun w' hw' => truths1_seq b m w1.heap.size (w1.heap.size + 1) (everyB s) s w' hs hset (cell_old hw' p1) (cell_old hw' p2) (by omega) (by omega) (tok_all hs))
    (fun k hk => ⟨by omega, fun h => h.elim (fun h => by have := hg.xlt k h; omega) fun h => by omega⟩) (truthsL_length s hs _) (hcf _ _ hcl (.of_below hb12)) (fun A B ha hab => hcf A B ha (hab.mono fun k _ hk => hk.elim .inl fun h => .inr (by have := hb12.size; omega))) hf
  obtain ⟨lv, h8, ⟨lao, lcap, rfl, _⟩, _⟩ := hg1.looks
  have hev := every_any b lao s.looks.length lcap w1 h8 hll
  have hcast : ((2 : Int) ^ s.looks.length - 1) = ((everyB s : Nat) : Int) := by
    unfold everyB
    have : s.looks.length = 0 ∨ s.looks.length = 1 ∨ s.looks.length = 2 ∨ s.looks.length = 3 ∨ s.looks.length = 4 := by omega
    rcases this with h | h | h | h | h <;> rw [h] <;> decide
  rw [hcast] at hev
  have htr := truths_any b (everyB s) w1
  rw [hw2] at htr
  rw [hsz1, show w.heap.size + 1 + 1 = w.heap.size + 2 from rfl] at hsp htr
  have HEV := Lib.hid hev
  have HTR := Lib.hid htr
  have HON12 : Hid (Below w.heap.size w w2) := hb12
  have hw1s : w.heap.size < w2.heap.size := by omega
  have r0 : w2.cell? ⟨w.heap.size, 0, none⟩ = some (.int .i64 0) := cell_old hb2 (by rw [← hw1]; simp [go_sem])
  have r1 : w2.cell? ⟨w.heap.size, 1, none⟩ = some (.int .i64 0) := cell_old hb2 (by rw [← hw1]; simp [go_sem])
  have fr0 : w2.frozen? ⟨w.heap.size, 0, none⟩ = false := ((bcell hb2).2 _ 0 (by omega)).trans (by rw [← hw1]; simp [go_sem])
  have fr1 : w2.frozen? ⟨w.heap.size, 1, none⟩ = false := ((bcell hb2).2 _ 1 (by omega)).trans (by rw [← hw1]; simp [go_sem])
  obtain ⟨L, hL⟩ : ∃ L, (truthsL s (everyB s)).map f = L := ⟨_, rfl⟩
  rw [hL] at hsp ⊢
  have hw12 : w1 = w.alloc (.cells #[.int .i64 0, .int .i64 0] 45) := hw1.symm
  have HG := Lib.hid hg
  have HB12 := Lib.hid hb12
  clear hL hev htr hf hcf hcl hg hg1 hb1 hb2 p1 p2 hw2 hcast hset h8 hb12
  by_cases hl : L = []
  · subst hl
    simp only [spanOut, if_pos] at hsp
    have HSP := Lib.hid hsp
    clear hsp
    subst hw12
    go_enter Tryz.func109, Tryz.ntmps109
    go_wp2_with (first
      | (go_at_call 115; refine HEV.out.mono ?_; rintro e w' ⟨rfl, rfl⟩)
      | (go_at_call 114; refine HTR.out.mono ?_; rintro e w' ⟨rfl, rfl⟩)
      | (go_at_call 126; refine HSP.out.mono ?_; rintro e w3 ⟨rfl, hon⟩; have HON := Lib.hid hon; clear hon)
      | (go_at_call 103; refine (ask_no 10 _).mono ?_; rintro e w' ⟨rfl, rfl⟩))
    refine ⟨rfl, by simp [toldE], ?_⟩
    exact ⟨((Frm.of_below HON12.out).trans HON.out.frm).trans (.of_below (box_below _ _)), (HON.out.board.later (box_below _ _)).sub fun k hk => .inl hk⟩
  · simp only [spanOut, if_neg hl] at hsp
    have HSP := Lib.hid hsp
    clear hsp
    obtain ⟨jl, hjl⟩ : ∃ x, joinedL (L.map fun n => (n, n)) = x := ⟨_, rfl⟩
    rw [hjl] at HSP
    have hte : toldE L (.returned (.agg #[.int .i64 jl.1, .int .i64 jl.2])) := by unfold toldE; rw [if_neg hl, hjl]
    have HTE := Lib.hid hte
    clear hte hjl
    subst hw12
    have hnm : w.heap.size ≠ m := by omega
    go_enter Tryz.func109, Tryz.ntmps109
    go_wp2_with (first
      | (go_at_call 115; refine HEV.out.mono ?_; rintro e w' ⟨rfl, rfl⟩)
      | (go_at_call 114; refine HTR.out.mono ?_; rintro e w' ⟨rfl, rfl⟩)
      | (go_at_call 126; refine HSP.out.mono ?_; rintro e w3 ⟨rfl, hon⟩
         have r0 := hon.cell r0 hnm
         have r1 := hon.cell r1 hnm
         have fr0 := (hon.frm.frozen hw1s hnm).trans fr0
         have fr1 := (hon.frm.frozen hw1s hnm).trans fr1
         have hw3s : w.heap.size < w3.heap.size := Nat.lt_of_lt_of_le hw1s hon.size
         have HON := Lib.hid hon
         clear hon)
      | (go_at_call 103; refine (ask_ok 10 _).mono ?_; rintro e w' ⟨rfl, rfl⟩))
    refine bodyPost_ret (by simp [results, Tryz.results109, go_sem, r0, r1, fr0, fr1, hw3s]) rfl ⟨HTE.out, ?_⟩
    have hz : Frm (fun k => k = w.heap.size) w3 (((w3.setCell ⟨w.heap.size, 0, none⟩ (.int .i64 jl.1)).setCell ⟨w.heap.size, 1, none⟩ (.int .i64 jl.2)).alloc (.cells #[.int .i64 jl.1, .int .i64 jl.2] 45)) :=
      Frm.alloc (Frm.setCell (S := fun k => k = w.heap.size) (Frm.setCell (S := fun k => k = w.heap.size) (Frm.refl _ _) (.inl rfl) _) (.inl rfl) _) _
    have hw3 : Frm (fun k => k = m) w w3 := (Frm.of_below HON12.out).trans HON.out.frm
    refine ⟨⟨hz.os.trans hw3.os, hz.tape.trans hw3.tape, hz.output.trans hw3.output, Nat.le_trans hw3.size hz.size, fun k hk hs => (hz.block k (Nat.lt_of_lt_of_le hk hw3.size) (by omega)).trans (hw3.block k hk hs)⟩, (HON.out.board.turn hz fun k hk => .inr hk).sub fun k hk => .inl hk⟩
end Go.Proofs.YthedkfiebmnghaaGreat
