/- The walk of spanned. -/
import Derived.Test.YtojbkpnkcpcioaaStH
import Derived.Test.YtojbkpnkcpcioaaBaseE
import Derived.Maps.OwnIn
set_option linter.all false
namespace Go.Proofs.Ytojbkpnkcpcioaa
open Go.RowKit Go.Sh Go.Sh.Stand Go.Shelf
attribute [local go_sem] Oper.semAt_some
theorem info23 : (Try.prog.info? 23).map (fun i => (i.zero, i.size, i.bytes)) = some (some (.agg #[.int .i64 0, .int .i64 0]), 2, 16) := by kernel_rfl

structure SpanAt (w : World) (m : Nat) (Br Bl n₀ : Nat) (gv : Value) (f : Shearer → Int) (Cl : World → Prop) (T : Nat → Prop) (pre : List Shearer) (A : World) : Prop where
  r : A.cell? ⟨Br, 0, none⟩ = some gv
  tr : ¬ T Br
  row : ∃ v, A.cell? ⟨Bl, 0, none⟩ = some v ∧ A.ownsRow n₀ 23 2 v pre.length ((pre.map fun x => enc2 (f x, f x)).flatten) ∧ ∀ k, v.ownBlock = some k → T k ∧ k ≠ Bl
  fr : A.frozen? ⟨Bl, 0, none⟩ = false
  tl : T Bl
  cl : Cl A
  c0 : A.cell? ⟨Br + 1, 0, none⟩ = some (.int .i64 0)
  c1 : A.cell? ⟨Br + 1, 1, none⟩ = some (.int .i64 0)
  f0 : A.frozen? ⟨Br + 1, 0, none⟩ = false
  f1 : A.frozen? ⟨Br + 1, 1, none⟩ = false
  tb : T (Br + 1)
  old : ∀ k, k < w.heap.size → k ≠ m → A.heap[k]? = w.heap[k]?
  own : ∀ v k, A.cell? ⟨Bl, 0, none⟩ = some v → v.ownBlock = some k → k ≠ Br + 1

def spanOut (l : List Int) : Value := if l = [] then .tuple #[.agg #[.int .i64 0, .int .i64 0], .bool false] else .tuple #[.agg #[.int .i64 (joinedL (l.map fun n => (n, n))).1, .int .i64 (joinedL (l.map fun n => (n, n))).2], .bool true]

set_option maxRecDepth 100000 in
set_option maxHeartbeats 1000000 in
theorem spanned_any (b m : Nat) (s : Stand) (gf : Nat) (lb : Array Value) (U : Nat → Prop) (xs : List Shearer) (X : Nat → Prop) (gq : Nat) (lbq : Array Value) (f : Shearer → Int) (w : World) (Cl : World → Prop)
    (eg : ∀ args w, (callFunc gf args).run Try.prog w = .ok (.enter gf args) w) (eq : ∀ args w, (callFunc gq args).run Try.prog w = .ok (.enter gq args) w)
    (hg : Board w b m s X) (hseq : ∀ w', Below w.heap.size w w' → Seq Try.prog (fun k => k = m) (fun T A => Board A b m s T) U gf lb (fun t : Shearer => #[keyV t]) xs w') (hU : ∀ k, U k → k < w.heap.size ∧ ¬ X k) (hlen : xs.length ≤ 1000)
    (hcl : Cl w) (hcf : ∀ A B, Cl A → Frm (fun k => k = m ∨ w.heap.size ≤ k) A B → Cl B)
    (hf : ∀ x ∈ xs, ∀ A Y, Board A b m s Y → Cl A → Calls Try.prog gq (#[keyV x] ++ lbq) A fun e B => e = .returned (.int .i64 (f x)) ∧ OnBoard b m s Y A B) :
    Calls Try.prog 83 #[.func (.func gf) #[] lb, .agg #[.func (.func gq) #[] lbq]] w fun e w' => e = .returned (spanOut (xs.map f)) ∧ OnBoard b m s X w w' := by
  have hml := hg.mlt
  refine (callsIn_wide (n := 0)).1 ?_
  refine callsIn_of_wp_marks Try.func83 rfl trivial ?_ rfl
  simp only [Try.ntmps83, List.size_toArray, List.length_cons, List.length_nil, Nat.reduceAdd, Nat.reduceSub, Array.replicate_succ, Array.replicate_zero, List.push_toArray, List.append_toArray, List.nil_append, List.cons_append]
  have HSEQ := Lib.hid hseq
  have HG := Lib.hid hg
  have HF := Lib.hid hf
  have HCF := Lib.hid hcf
  have HU := Lib.hid hU
  have HCL := Lib.hid hcl
  clear hseq hg hf hcf hU hcl
  gi_wp2
  obtain ⟨W2, hW2⟩ : ∃ x, (((w.alloc (Obj.cells #[Value.func (Fn.func gq) #[] lbq] 129)).alloc (Obj.cells #[Value.int IntKind.i64 0, Value.int IntKind.i64 0] 23)).alloc (Obj.cells #[Value.slice none 0 0] 148)) = x := ⟨_, rfl⟩
  have hb2 : Below w.heap.size w W2 := by rw [← hW2]; exact (below_two _ _ _).alloc (by simp; omega) _
  have hsz : W2.heap.size = w.heap.size + 3 := by rw [← hW2]; simp
  have hg2 : Board W2 b m s (fun k => X k ∨ k = w.heap.size + 1 ∨ k = w.heap.size + 2) := HG.out.grow hb2 (fun k hk => hk.elim .inl fun h => .inr (by omega)) (fun k hk => hk.elim (fun h => by have := HG.out.xlt k h; omega) (fun h => by omega))
  have q0 : W2.cell? ⟨w.heap.size, 0, none⟩ = some (.func (.func gq) #[] lbq) := by rw [← hW2]; simp [go_sem]
  have q1 : W2.cell? ⟨w.heap.size + 1, 0, none⟩ = some (.int .i64 0) := by rw [← hW2]; simp [go_sem]
  have q2 : W2.cell? ⟨w.heap.size + 1, 1, none⟩ = some (.int .i64 0) := by rw [← hW2]; simp [go_sem]
  have q3 : W2.cell? ⟨w.heap.size + 2, 0, none⟩ = some (.slice none 0 0) := by rw [← hW2]; simp [go_sem]
  have g1 : W2.frozen? ⟨w.heap.size + 1, 0, none⟩ = false := by rw [← hW2]; simp [go_sem]
  have g2 : W2.frozen? ⟨w.heap.size + 1, 1, none⟩ = false := by rw [← hW2]; simp [go_sem]
  have g3 : W2.frozen? ⟨w.heap.size + 2, 0, none⟩ = false := by rw [← hW2]; simp [go_sem]
  rw [hW2]
  clear hW2
  rw [show w.heap.size + 1 + 1 = w.heap.size + 2 by omega]
  obtain ⟨i0, hi0, hz0, hz1, hz2⟩ := info_parts info23
  refine wpIn_range (gf := gf) (lb := lb) rfl eg (board_good b m s) (HSEQ.out W2 hb2) (Below.refl _ _) (fun _ => rfl)
    (fun k hk => by omega) (fun k => X k ∨ k = w.heap.size + 1 ∨ k = w.heap.size + 2) (fun k hk => hk.elim (fun h => by have := HG.out.xlt k h; omega) (fun h => by omega)) (fun k hk => ⟨fun h => h.elim (HU.out k hk).2 (fun h => by have := (HU.out k hk).1; omega), by have := (HU.out k hk).1; omega⟩) hg2
    (SpanAt w m w.heap.size (w.heap.size + 2) w.heap.size (.func (.func gq) #[] lbq) f Cl) (fun c T' pre A => False) ?hI ?hIx ?h0
    (fun x a' A => ∃ Bx, Bx ≠ m ∧ A.cell? ⟨Bx, 0, none⟩ = some (.int .i64 x.1) ∧ A.cell? ⟨Bx, 1, none⟩ = some (.int .i64 x.2.1) ∧ A.cell? ⟨Bx, 2, none⟩ = some (.int .i64 x.2.2) ∧
      a' = { tmps := #[.func (.func gf) #[] lb, .agg #[.func (.func gq) #[] lbq], undef, .pointer (some ⟨w.heap.size, 0, none⟩), .pointer (some ⟨w.heap.size + 1, 0, none⟩), .bool false, .pointer (some ⟨w.heap.size + 2, 0, none⟩), .pointer (some ⟨Bx, 0, none⟩), undef, .func (.func gf) #[] lb, keyV x, undef, undef, undef, undef, undef, undef, undef, undef, undef, undef, undef, undef, undef, undef, undef, undef], defers := [] })
    ?hAx ?assign ?body ?done ?stop
  case hI =>
    rintro T' pre A B ⟨hr, tr, ⟨v, hv, ho, hvo⟩, hfr, tl, hc, rc0, rc1, rf0, rf1, tb, hold, hov⟩ hga hgb hlt hff
    have hbb : w.heap.size + 1 < A.heap.size := World.block_lt_of_cell? _ _ rc0
    have hnb : ¬ ((w.heap.size + 1 = m) ∨ (W2.heap.size ≤ w.heap.size + 1 ∧ ¬ T' (w.heap.size + 1))) := by rintro (h | h) <;> omega
    have hbl : w.heap.size + 2 < A.heap.size := World.block_lt_of_cell? _ _ hv
    have hnl : ¬ ((w.heap.size + 2 = m) ∨ (W2.heap.size ≤ w.heap.size + 2 ∧ ¬ T' (w.heap.size + 2))) := by rintro (h | h) <;> omega
    refine ⟨hff.cell hr (by rintro (h | h) <;> simp at h <;> omega), tr, ⟨v, hff.cell hv hnl, ownsRow_frm ho hff ?_, hvo⟩, (hff.frozen hbl hnl).trans hfr, tl, HCF.out _ _ hc (hff.mono fun k _ hk => hk.elim .inl fun h => .inr (by omega)), hff.cell rc0 hnb, hff.cell rc1 hnb, (hff.frozen hbb hnb).trans rf0, (hff.frozen hbb hnb).trans rf1, tb, fun k hk hm => (hff.block k (by have := hbb; omega) (by rintro (h | h) <;> omega)).trans (hold k hk hm), fun v' k' h1 h2 => hov v' k' (by rw [hff.cell hv hnl] at h1; cases h1; exact hv) h2⟩
    intro k hk h
    have h1 := (ho.lt k hk).1
    rcases h with h | h
    · omega
    · exact h.2 (hvo k hk).1
  case hIx => intro c T' pre A B h; exact h.elim
  case h0 =>
    exact ⟨q0, fun h => h.elim (fun h => by have := HG.out.xlt _ h; omega) (fun h => by omega), ⟨.slice none 0 0, q3, World.ownsRow_nil _ _ _ _, by intro k hk; cases hk⟩, g3, .inr (.inr rfl), HCF.out _ _ HCL.out (.of_below hb2), q1, q2, g1, g2, .inr (.inl rfl), fun k hk _ => hb2.block k hk, by intro v k hv hk; rw [q3] at hv; cases hv; cases hk⟩
  case hAx =>
    rintro x a' A l' o o' ⟨Bx, hm, a0, a1, a2, rfl⟩ hl ho
    exact ⟨Bx, hm, cell_putObj _ a0 hl ho, cell_putObj _ a1 hl ho, cell_putObj _ a2 hl ho, rfl⟩
  case assign =>
    rintro l' T' pre ⟨x0, x1, x2⟩ W' K hI hg hlt hsz' hK
    have HK := Lib.hid hK
    have HI := Lib.hid hI
    clear hK hI
    unfold keyV
    gi_wp2
    exact HK.out _ _ ((Below.refl _ _).alloc (Nat.le_refl _) _) ⟨W'.heap.size, by have := hg.mlt; omega, by simp [go_sem], by simp [go_sem], by simp [go_sem], rfl⟩
  case body =>
    rintro l' T' pre ⟨x0, x1, x2⟩ a' W' hI hg hlt hsz' hff ⟨Bx, hbm, a0, a1, a2, rfl⟩ hpre
    have hmem : (x0, x1, x2) ∈ xs := hpre.subset (by simp)
    have hrt := HF.out (x0, x1, x2) hmem W' T' hg hI.cl
    have hpl : pre.length < xs.length := by have := hpre.length_le; simp at this; omega
    unfold keyV at hrt ⊢
    have hr := hI.r
    have HI := Lib.hid hI
    have HR := Lib.hid hrt
    have HG' := Lib.hid hg
    have HFF := Lib.hid hff
    have HL := Lib.hid hlt
    clear hI hrt hg hff hlt
    gi_wp2
    refine ⟨trivial, rfl, CallsIn.mono (CallsIn.inRound l' (callsIn_wide.2 HR.out)) ?_⟩
    rintro e W4 ⟨rfl, hon⟩
    have h4 : SpanAt w m w.heap.size (w.heap.size + 2) w.heap.size (.func (.func gq) #[] lbq) f Cl T' pre W4 := by
      obtain ⟨hr, tr, ⟨v, hv, ho, hvo⟩, hfr, tl, hc, rc0, rc1, rf0, rf1, tb, hold, hov⟩ := HI.out
      have hbb : w.heap.size + 1 < W'.heap.size := World.block_lt_of_cell? _ _ rc0
      have hnl : w.heap.size + 2 ≠ m := by omega
      have hnb : w.heap.size + 1 ≠ m := by omega
      have hbl : w.heap.size + 2 < W'.heap.size := World.block_lt_of_cell? _ _ hv
      refine ⟨hon.cell hr (by simp only; omega), tr, ⟨v, hon.cell hv (by simp only; omega), ownsRow_frm ho hon.frm ?_, hvo⟩, (hon.frm.frozen hbl (by simp only; omega)).trans hfr, tl, HCF.out _ _ hc (hon.frm.mono fun k _ hk => .inl hk), hon.cell rc0 hnb, hon.cell rc1 hnb, (hon.frm.frozen hbb hnb).trans rf0, (hon.frm.frozen hbb hnb).trans rf1, tb, fun k hk hm => (hon.frm.block k (by omega) hm).trans (hold k hk hm), fun v' k' h1 h2 => hov v' k' (by rw [hon.cell hv hnl] at h1; cases h1; exact hv) h2⟩
      intro k hk h
      have h1 := (ho.lt k hk).1
      omega
    obtain ⟨hr4, tr4, ⟨v, hv4, ho4, hvo4⟩, hfr4, tl4, hc4, rc04, rc14, rf04, rf14, tb4, hold4, hov4⟩ := h4
    have HOLD4 := Lib.hid hold4
    clear hold4
    have hov4' := fun k => hov4 v k hv4
    clear hov4
    have HOV := Lib.hid hov4'
    clear hov4'
    have hbb4 : w.heap.size + 1 < W4.heap.size := World.block_lt_of_cell? _ _ rc04
    have hbl4 : w.heap.size + 2 < W4.heap.size := World.block_lt_of_cell? _ _ hv4
    obtain ⟨nx, hnx⟩ : ∃ n, f (x0, x1, x2) = n := ⟨_, rfl⟩
    have HON := Lib.hid hon
    have HNX := Lib.hid hnx
    have HVO := Lib.hid hvo4
    have HC4 := Lib.hid hc4
    have HTL := Lib.hid tl4
    rw [hnx]
    clear hon hnx hvo4 hc4 tl4
    have hvn : v.ownBlock ≠ some (w.heap.size + 1) := fun h => HOV.out _ h rfl
    have hvb : v.ownBlock ≠ some (w.heap.size + 2) := fun h => (HVO.out _ h).2 rfl
    obtain ⟨ao, cap, rfl⟩ := owns_slice ho4
    gi_wp2_with (gi_at_builtin; refine wpListIn_append_own_at _ rfl _ _ 148 rfl w.heap.size 23 i0 (.agg #[.int .i64 0, .int .i64 0]) 2 16 Try.underlying148 hi0 hz0 hz1 hz2 rfl (by decide) (.slice ao pre.length cap) _ _ rfl (ho4.alloc _) ⟨W4.heap.size, 0, none⟩ 1 1 [.int .i64 nx, .int .i64 nx] rfl rfl ?c1 ?c2 ?c3 ?c4 ?c5 ?_; rotate_left 5; intro v5 w5 hown5 hgrow5 hnil5 hat5
                 have hbx := grown_cell hgrow5 ((World.cell?_alloc_lt _ _ _ hbl4).trans hv4) hvb
                 have hbf := (grown_frozen hgrow5 (a := ⟨w.heap.size + 2, 0, none⟩) (by simp; omega) hvb).trans ((World.frozen?_alloc_past _ _ _ hbl4).trans hfr4)
                 obtain ⟨ao5, cap5, rfl⟩ := owns_slice hown5)
    case c1 => exact cell_two_new _ _ _ _
    case c2 => intro u hu; simp at hu; rcases hu with rfl | rfl <;> rfl
    case c3 => unfold maxLen; omega
    case c4 => omega
    case c5 => simp; omega
    obtain ⟨T2, hT2⟩ : ∃ T2 : Nat → Prop, T2 = fun k => T' k ∨ (Value.slice ao5 (pre.length + 1) cap5).ownBlock = some k := ⟨_, rfl⟩
    have hs5 := hgrow5.size
    simp only [World.size_alloc] at hs5
    have hs4 := HON.out.size
    have hge : ∀ k, T2 k → T' k ∨ W4.heap.size ≤ k := by
      rw [hT2]
      rintro k (hk | hk)
      · exact .inl hk
      · rcases hat5 with e | e
        · rw [e] at hk; exact .inl (HVO.out k hk).1
        · rw [e] at hk; cases hk; exact .inr (by simp)
    have hf5' : Frm (fun k => T' k ∧ w.heap.size ≤ k) W4 (w5.setCell ⟨w.heap.size + 2, 0, none⟩ (.slice ao5 (pre.length + 1) cap5)) :=
      (((Frm.refl (fun k => T' k ∧ w.heap.size ≤ k) W4).alloc (.cells #[.int .i64 nx, .int .i64 nx] 23)).grown hgrow5 (fun k hk => .inl ⟨(HVO.out k hk).1, (ho4.lt k hk).1⟩)).setCell (.inl ⟨HTL.out, by simp only; omega⟩) _
    have hf5 : Frm (fun k => T' k) W4 (w5.setCell ⟨w.heap.size + 2, 0, none⟩ (.slice ao5 (pre.length + 1) cap5)) := hf5'.mono fun k _ hk => hk.1
    have hlt2 : ∀ k, T2 k → k < (w5.setCell ⟨w.heap.size + 2, 0, none⟩ (.slice ao5 (pre.length + 1) cap5)).heap.size := by
      rw [hT2]
      rintro k (hk | hk)
      · have := HL.out k hk; simp; omega
      · have := (hown5.lt k hk).2; simpa using this
    have hrn : Rnd (fun k => k = m) T' T2 W' (w5.setCell ⟨w.heap.size + 2, 0, none⟩ (.slice ao5 (pre.length + 1) cap5)) :=
      ⟨(HON.out.frm.mono fun k _ hk => .inl hk).trans (hf5.mono fun k _ hk => .inr hk), fun k hk => (hge k hk).elim .inl fun h => .inr (by omega), fun k hk => by rw [hT2]; exact .inl hk, hlt2⟩
    have hbd : Board (w5.setCell ⟨w.heap.size + 2, 0, none⟩ (.slice ao5 (pre.length + 1) cap5)) b m s T2 :=
      HON.out.board.turnGrow hf5 (fun k hk => hk) hge hlt2
    refine ⟨T2, hrn, hbd, ?_⟩
    have hr5 : w5.cell? ⟨w.heap.size, 0, none⟩ = some (.func (.func gq) #[] lbq) := by
      refine grown_cell hgrow5 ((World.cell?_alloc_lt _ _ _ (World.block_lt_of_cell? _ _ hr4)).trans hr4) fun h => tr4 (HVO.out _ h).1
    have hnb : (Value.slice ao5 (pre.length + 1) cap5).ownBlock ≠ some (w.heap.size + 2) := apart_of hat5 hvb (by simp; omega)
    have hnr : ¬ T2 w.heap.size := fun h => (hge _ h).elim tr4 fun h => by omega
    refine ⟨?_, hnr, ⟨_, ?_, ?_, fun k hk => ⟨by rw [hT2]; exact .inr hk, fun e => hnb (by rw [← e]; exact hk)⟩⟩, ?_, by rw [hT2]; exact .inl HTL.out, HCF.out _ _ HC4.out (hf5'.mono fun k hk ht => .inr ht.2), ?_, ?_, ?_, ?_, by rw [hT2]; exact .inl tb4, fun k hk hm => (hf5'.block k (by omega) (fun h => by omega)).trans (HOLD4.out k hk hm), ?_⟩
    · simp [go_sem, hr5]
    · simp [go_sem, hbx]
    · have h6 := ownsRow_setCell hown5 (a := ⟨w.heap.size + 2, 0, none⟩) hnb (.slice ao5 (pre.length + 1) cap5)
      simpa [enc2, HNX.out] using h6
    · rw [World.frozen?_setCell]; exact hbf
    · have h6 := grown_cell hgrow5 ((World.cell?_alloc_lt _ _ _ hbb4).trans rc04) hvn
      simp [go_sem, h6]
    · have h6 := grown_cell hgrow5 ((World.cell?_alloc_lt _ _ _ hbb4).trans rc14) hvn
      simp [go_sem, h6]
    · rw [World.frozen?_setCell]
      exact (grown_frozen hgrow5 (a := ⟨w.heap.size + 1, 0, none⟩) (by simp; omega) hvn).trans ((World.frozen?_alloc_past _ _ _ hbb4).trans rf04)
    · rw [World.frozen?_setCell]
      exact (grown_frozen hgrow5 (a := ⟨w.heap.size + 1, 1, none⟩) (by simp; omega) hvn).trans ((World.frozen?_alloc_past _ _ _ hbb4).trans rf14)
    · intro v' k' h1 h2
      have h3 : (w5.setCell ⟨w.heap.size + 2, 0, none⟩ (.slice ao5 (pre.length + 1) cap5)).cell? ⟨w.heap.size + 2, 0, none⟩ = some (.slice ao5 (pre.length + 1) cap5) := by simp [go_sem, hbx]
      rw [h3] at h1
      cases h1
      rintro rfl
      exact apart_of hat5 hvn (by simp; omega) h2
  case done =>
    rintro D T' W' hD hTD hrn hg hI hK
    obtain ⟨hr, tr, ⟨v, hv, ho, hvo⟩, hfr, tl, hc, e1, e2, k1, k2, tb, hold, hov⟩ := hI
    obtain ⟨ao, cap, rfl⟩ := owns_slice ho
    have hon : ∀ (Z : World), Frm (fun k => k = w.heap.size + 1) W' Z → OnBoard b m s X w (Z.putObj D (.deferred none)) := by
      intro Z hz
      have hKz : Z.heap[D]? = some (.deferred (some [])) := (hz.block D (Array.getElem?_eq_some_iff.1 hK).1 (by omega)).trans hK
      have hput := (board_good b m s).put (.deferred none) (hg.turn hz fun k hk => by rw [hk]; exact tb) hKz rfl (show ¬ D = m by omega)
      have h1 := hrn.pre hb2
      refine ⟨⟨hz.os.trans h1.frm.os, hz.tape.trans h1.frm.tape, hz.output.trans h1.frm.output, by have := h1.frm.size; have := hz.size; simp; omega, fun k hk hs => ?_⟩, hput.sub fun k hk => hrn.keep k (.inl hk)⟩
      rw [World.putObj_heap_other (by omega), hz.block k (by have := h1.frm.size; omega) (by omega)]
      exact hold k hk hs
    have HON := Lib.hid hon
    have HO := Lib.hid ho
    have HGD := Lib.hid hg
    have HRN := Lib.hid hrn
    clear hon ho hvo hc tl tr hrn hg hov tb hold
    by_cases hxs : xs = []
    · subst hxs
      gi_wp2
      obtain ⟨Z, hZ⟩ : ∃ Z, (W'.setCell ⟨w.heap.size + 1, 0, none⟩ (.int .i64 0)).setCell ⟨w.heap.size + 1, 1, none⟩ (.int .i64 0) = Z := ⟨_, rfl⟩
      have hz : Frm (fun k => k = w.heap.size + 1) W' Z := by rw [← hZ]; exact Frm.setCell (S := fun k => k = w.heap.size + 1) (Frm.setCell (S := fun k => k = w.heap.size + 1) (Frm.refl _ _) (.inl rfl) _) (.inl rfl) _
      have z0 : Z.cell? ⟨w.heap.size + 1, 0, none⟩ = some (.int .i64 0) := by rw [← hZ]; simp [go_sem, e1, e2]
      have z1 : Z.cell? ⟨w.heap.size + 1, 1, none⟩ = some (.int .i64 0) := by rw [← hZ]; simp [go_sem, e1, e2]
      rw [hZ]
      have hKz : Z.heap[D]? = some (.deferred (some [])) := (hz.block D (Array.getElem?_eq_some_iff.1 hK).1 (by omega)).trans hK
      have y0 := cell_putObj (.deferred none) z0 hKz rfl
      have y1 := cell_putObj (.deferred none) z1 hKz rfl
      refine ⟨by simp, .inl ⟨_, _, rfl, run_takeDeferred hKz, ?_⟩⟩
      refine ⟨.tuple #[.agg #[.int .i64 0, .int .i64 0], .bool false], ?_, by simp [spanOut], HON.out Z hz⟩
      simp [results, Try.results83, go_sem, y0, y1]
    · have hpr : Prs W' W'.heap.size (.slice ao xs.length cap) (xs.map fun x => (f x, f x)) := by
        have h0 := HO.out
        have := RowsAt.of_owns (enc := enc2) (size := 2) (l := xs.map fun x => (f x, f x)) (fun _ => rfl) (by decide) (e := 23) (base := w.heap.size) (w := W') (v := .slice ao xs.length cap) (by simpa [List.map_map, Function.comp_def] using h0)
        exact this
      have hjn := joined_any _ _ W' hpr (by simpa using hxs)
      have hps2 : 0 < xs.length := List.length_pos_iff.2 hxs
      have hpz : (((xs.length : Nat) : Int) == 0) = false := by simp; omega
      have HJN := Lib.hid hjn
      have hso : spanOut (xs.map f) = .tuple #[.agg #[.int .i64 (joinedL (xs.map fun x => (f x, f x))).1, .int .i64 (joinedL (xs.map fun x => (f x, f x))).2], .bool true] := by
        unfold spanOut; rw [if_neg (by simpa using hxs), List.map_map]; rfl
      have HSO := Lib.hid hso
      obtain ⟨jl, hjl⟩ : ∃ x, joinedL (xs.map fun x => (f x, f x)) = x := ⟨_, rfl⟩
      rw [hjl] at HJN HSO
      clear hso hjl hjn hpr
      gi_wp2_with (refine ⟨trivial, rfl, ?_⟩; gi_at_call 96; refine (callsIn_wide.2 HJN.out).mono ?_; rintro e W5 ⟨rfl, hb5⟩
                   have e1 := cell_old hb5 e1
                   have e2 := cell_old hb5 e2
                   have hbk : w.heap.size + 1 < W'.heap.size := World.block_lt_of_cell? _ _ ‹W'.cell? ⟨w.heap.size + 1, 0, none⟩ = _›
                   have k1 := ((bcell hb5).2 (w.heap.size + 1) 0 hbk).trans k1
                   have k2 := ((bcell hb5).2 (w.heap.size + 1) 1 hbk).trans k2
                   have HB5 := Lib.hid hb5
                   clear hb5)
      obtain ⟨Z, hZ⟩ : ∃ Z, (W5.setCell ⟨w.heap.size + 1, 0, none⟩ (.int .i64 jl.1)).setCell ⟨w.heap.size + 1, 1, none⟩ (.int .i64 jl.2) = Z := ⟨_, rfl⟩
      have hz : Frm (fun k => k = w.heap.size + 1) W' Z := by rw [← hZ]; exact Frm.setCell (S := fun k => k = w.heap.size + 1) (Frm.setCell (S := fun k => k = w.heap.size + 1) (Frm.of_below HB5.out) (.inl rfl) _) (.inl rfl) _
      have z0 : Z.cell? ⟨w.heap.size + 1, 0, none⟩ = some (.int .i64 jl.1) := by rw [← hZ]; simp [go_sem, e1, e2]
      have z1 : Z.cell? ⟨w.heap.size + 1, 1, none⟩ = some (.int .i64 jl.2) := by rw [← hZ]; simp [go_sem, e1, e2]
      rw [hZ]
      have hKz : Z.heap[D]? = some (.deferred (some [])) := (hz.block D (Array.getElem?_eq_some_iff.1 hK).1 (by omega)).trans hK
      have y0 := cell_putObj (.deferred none) z0 hKz rfl
      have y1 := cell_putObj (.deferred none) z1 hKz rfl
      refine ⟨by simp, .inl ⟨_, _, rfl, run_takeDeferred hKz, ?_⟩⟩
      refine ⟨.tuple #[.agg #[.int .i64 jl.1, .int .i64 jl.2], .bool true], ?_, by rw [HSO.out], HON.out Z hz⟩
      simp [results, Try.results83, go_sem, y0, y1]
  case stop =>
    rintro D c T' pre W' hD hTD hrn hg hpre hI hK
    exact hI.elim
end Go.Proofs.Ytojbkpnkcpcioaa
