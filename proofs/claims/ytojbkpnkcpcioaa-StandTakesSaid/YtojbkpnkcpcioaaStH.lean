/- The walk of the iterator over the truths. -/
import Derived.Test.YtojbkpnkcpcioaaStG
set_option linter.all false
namespace Go.Proofs.Ytojbkpnkcpcioaa
open Go.RowKit Go.Sh Go.Sh.Stand Go.Shelf
attribute [local go_sem] Oper.semAt_some

theorem cell_ne {A : World} {a : Addr} {u : Value} {l : Nat} {o : Obj} (hc : A.cell? a = some u) (hl : A.heap[l]? = some o) (ho : o.isCells = false) : a.block ≠ l := by
  rintro rfl
  obtain ⟨o2, h2, h3⟩ := cells_of_cell hc
  rw [hl] at h2; cases h2; rw [ho] at h3; cases h3

theorem Off.plus {α : Type} {enc : α → List Value} {size : Nat} (hp : 0 < size) (hs : ∀ x, (enc x).length = size) {w : World} {v : Value} {xs : List α} {X : Nat → Prop} {l : Nat} {o : Obj} (h : Off X v) (hr : RowsAt enc size w w.heap.size v xs) (hl : w.heap[l]? = some o) (ho : o.isCells = false) : Off (fun k => X k ∨ k = l) v := by
  obtain ⟨ao, cap, rfl, hm, hr⟩ := hr
  intro a n c e hn hk
  cases e
  rcases hk with hk | hk
  · exact h _ _ _ rfl hn hk
  · obtain ⟨b', off, hb', hb, hx⟩ := hr (List.length_pos_iff.1 hn)
    cases hb'
    have h0 : 0 < (enc xs[0]).length := by rw [hs]; exact hp
    have := hx 0 xs[0] (by simp [hn]) 0 (enc xs[0])[0] (by simp [h0])
    exact cell_ne this hl ho hk

theorem board_good (b m : Nat) (s : Stand) : GoodW (fun k => k = m) (fun T A => Board A b m s T) where
  below h hb := h.later hb
  put {T A l o} o' h hl ho hm := by
    obtain ⟨rv, r1, r2, r3⟩ := h.runs
    obtain ⟨sv, s1, s2, s3⟩ := h.sheep
    obtain ⟨lv, l1, l2, l3⟩ := h.looks
    exact ⟨fun k hk => ⟨cell_putObj _ (h.mins k hk).1 hl ho, cell_putObj _ (h.mins k hk).2 hl ho⟩, ⟨rv, cell_putObj _ r1 hl ho, r2.putObj _ hl ho, r3⟩, ⟨sv, cell_putObj _ s1 hl ho, s2.putObj _ hl ho, s3⟩, ⟨lv, cell_putObj _ l1 hl ho, l2.putObj _ hl ho, l3⟩,
      cell_putObj _ h.map hl ho, h.kept.imp (World.putObj_heap_other (fun e => hm e.symm)) fun k v ⟨t, h1, h2, h3⟩ => ⟨t, h1, h2.putObj _ hl ho, h3⟩, fun k hk => by simpa using h.xlt k hk, h.xb, h.xm⟩
  add {T A l o} h hl ho hm := by
    obtain ⟨rv, r1, r2, r3⟩ := h.runs
    obtain ⟨sv, s1, s2, s3⟩ := h.sheep
    obtain ⟨lv, l1, l2, l3⟩ := h.looks
    exact ⟨h.mins, ⟨rv, r1, r2, Off.plus (enc := enc2) (size := 2) (by decide) (fun _ => rfl) r3 r2 hl ho⟩, ⟨sv, s1, s2, Off.plus (enc := enc1) (size := 1) (by decide) (fun _ => rfl) s3 s2 hl ho⟩, ⟨lv, l1, l2, Off.plus (enc := enc3) (size := 3) (by decide) (fun _ => rfl) l3 l2 hl ho⟩, h.map,
      h.kept.imp rfl fun k v ⟨t, h1, h2, h3⟩ => ⟨t, h1, h2, Off.plus (enc := enc2) (size := 2) (by decide) (fun _ => rfl) h3 h2 hl ho⟩, fun k hk => hk.elim (h.xlt k) (fun e => by rw [e]; exact (Array.getElem?_eq_some_iff.1 hl).1),
      fun hk => hk.elim h.xb fun e => cell_ne h.map hl ho e, fun hk => hk.elim h.xm fun e => hm e.symm⟩
  sub h hs := h.sub hs

theorem shearers_any (b : Nat) (w : World) : Calls Try.prog 85 #[.pointer (some ⟨b, 0, none⟩)] w fun e w' => e = .returned (.func (.func 97) #[] #[.pointer (some ⟨w.heap.size, 0, none⟩)]) ∧ w' = w.alloc (.cells #[.pointer (some ⟨b, 0, none⟩)] 70) := by
  go_enter Try.func85, Try.ntmps85
  go_wp2
  go_ret
  exact ⟨rfl, rfl⟩

theorem truths_any (b : Nat) (set : Nat) (w : World) : Calls Try.prog 66 #[.pointer (some ⟨b, 0, none⟩), .int .u64 set] w fun e w' => e = .returned (.func (.func 84) #[] #[.pointer (some ⟨w.heap.size, 0, none⟩), .pointer (some ⟨w.heap.size + 1, 0, none⟩)]) ∧ w' = (w.alloc (.cells #[.pointer (some ⟨b, 0, none⟩)] 70)).alloc (.cells #[.int .u64 set] 98) := by
  go_enter Try.func66, Try.ntmps66
  go_wp2
  go_ret
  exact ⟨rfl, rfl⟩

/-- What the loop of truths knows between two rounds. -/
structure TruAt (b set B1 B2 By l n₀ : Nat) (r : Shearer → Bool) (J : (Nat → Prop) → List Shearer → World → Prop) (T : Nat → Prop) (pre : List Shearer) (A : World) : Prop where
  j : J T (pre.filter r) A
  y : A.cell? ⟨By, 0, none⟩ = some (.func (.yield l) #[] #[])
  p : A.cell? ⟨B1, 0, none⟩ = some (.pointer (some ⟨b, 0, none⟩))
  u : A.cell? ⟨B2, 0, none⟩ = some (.int .u64 set)
  ty : ¬ T By
  tp : ¬ T B1
  tu : ¬ T B2

set_option maxRecDepth 100000 in
set_option maxHeartbeats 1000000 in
theorem truths1_seq (b m B1 B2 set : Nat) (s : Stand) (w : World) (hs : Fit s) (hset : set < 16) (h1 : w.cell? ⟨B1, 0, none⟩ = some (.pointer (some ⟨b, 0, none⟩))) (h2 : w.cell? ⟨B2, 0, none⟩ = some (.int .u64 set)) (hm1 : B1 ≠ m) (hm2 : B2 ≠ m)
    (htok : ∀ t ∈ allSh s, Tok t) :
    Seq Try.prog (fun k => k = m) (fun T A => Board A b m s T) (fun k => k = B1 ∨ k = B2) 84 #[.pointer (some ⟨B1, 0, none⟩), .pointer (some ⟨B2, 0, none⟩)] (fun t : Shearer => #[keyV t]) ((allSh s).filter (rightB s · set)) w := by
  intro l T J Jx W hW hG hT hU hJ hJx hY h0
  have c1 := cell_old hW h1
  have c2 := cell_old hW h2
  have l1 := World.block_lt_of_cell? _ _ c1
  have l2 := World.block_lt_of_cell? _ _ c2
  simp only at l1 l2
  have u1 := hU B1 (.inl rfl)
  have u2 := hU B2 (.inr rfl)
  have hml := hG.mlt
  refine callsIn_of_wp_marks Try.func84 rfl trivial ?_ rfl
  simp only [Try.ntmps84, List.size_toArray, List.length_cons, List.length_nil, Nat.reduceAdd, Nat.reduceSub, Array.replicate_succ, Array.replicate_zero, List.push_toArray, List.append_toArray, List.nil_append, List.cons_append]
  have HJ := Lib.hid hJ
  have HJx := Lib.hid hJx
  have HY := Lib.hid hY
  have HG := Lib.hid hG
  have HT := Lib.hid hT
  have HTOK := Lib.hid htok
  have H0 := Lib.hid h0
  clear hJ hJx hY hG hW hT hU htok h0
  gi_wp2_with (refine ⟨trivial, rfl, ?_⟩; gi_at_call 85; refine (callsIn_wide.2 (shearers_any b _)).mono ?_; rintro e w' ⟨rfl, rfl⟩)
  obtain ⟨W2, hW2⟩ : ∃ x, (W.alloc (.cells #[.func (.yield l) #[] #[]] 130)).alloc (.cells #[.pointer (some ⟨b, 0, none⟩)] 70) = x := ⟨_, rfl⟩
  have hb2 : Below W.heap.size W W2 := by rw [← hW2]; exact below_two _ _ _
  have hsz : W2.heap.size = W.heap.size + 2 := by rw [← hW2]; simp
  have hg2 : Board W2 b m s T := HG.out.later hb2
  have q0 : W2.cell? ⟨W.heap.size, 0, none⟩ = some (.func (.yield l) #[] #[]) := by rw [← hW2]; simp [go_sem]
  have q1 : W2.cell? ⟨W.heap.size + 1, 0, none⟩ = some (.pointer (some ⟨b, 0, none⟩)) := by rw [← hW2]; simp [go_sem]
  have d1 := cell_old hb2 c1
  have d2 := cell_old hb2 c2
  rw [hW2]
  clear hW2
  have nT : ∀ k, W.heap.size ≤ k → ¬ T k := fun k hk h => by have := HT.out k h; omega
  refine wpIn_range (gf := 97) (lb := #[.pointer (some ⟨W.heap.size + 1, 0, none⟩)]) rfl (enters_of Try.func97 (by kernel_rfl) rfl) (board_good b m s) (shearers1_seq b m (W.heap.size + 1) s W2 hs q1 (by omega)) (Below.refl _ _) (fun _ => rfl)
    (fun k hk => by omega) T (fun k hk => by have := HT.out k hk; omega) (fun k hk => ⟨by rw [hk]; exact nT _ (by omega), by omega⟩) hg2
    (TruAt b set B1 B2 W.heap.size l 0 (rightB s · set) J) (fun c T' pre A => c = .ret ∧ Jx T' (pre.filter (rightB s · set)) A) ?hI ?hIx ?h0
    (fun x a' A => ∃ Bx, Bx ≠ m ∧ A.cell? ⟨Bx, 0, none⟩ = some (.int .i64 x.1) ∧ A.cell? ⟨Bx, 1, none⟩ = some (.int .i64 x.2.1) ∧ A.cell? ⟨Bx, 2, none⟩ = some (.int .i64 x.2.2) ∧
      a' = { tmps := #[.func (.yield l) #[] #[], .pointer (some ⟨B1, 0, none⟩), .pointer (some ⟨B2, 0, none⟩), .pointer (some ⟨W.heap.size, 0, none⟩), .pointer (some ⟨Bx, 0, none⟩), .pointer (some ⟨b, 0, none⟩), .func (.func 97) #[] #[.pointer (some ⟨W.heap.size + 1, 0, none⟩)], keyV x, undef, undef, undef, undef, undef, undef, undef, undef, undef, undef], defers := [] })
    ?hAx ?assign ?body ?done ?stop
  case hI =>
    rintro T' pre A B ⟨hj, hy, hp, hu, t1, t2, t3⟩ hga hgb hlt hf
    refine ⟨HJ.out _ _ _ _ hj hga hgb hlt (hf.mono fun k _ hk => hk.elim .inl fun h => .inr ⟨by omega, h.2⟩), hf.cell hy ?_, hf.cell hp ?_, hf.cell hu ?_, t1, t2, t3⟩
    all_goals simp only; omega
  case hIx =>
    rintro c T' pre A B ⟨rfl, hj⟩ hga hgb hlt hf
    exact ⟨rfl, HJx.out _ _ _ _ hj hga hgb hlt (hf.mono fun k _ hk => hk.elim .inl fun h => .inr ⟨by omega, h.2⟩)⟩
  case h0 =>
    exact ⟨HJ.out _ _ _ _ H0.out HG.out hg2 HT.out (.of_below hb2), q0, d1, d2, nT _ (Nat.le_refl _), u1, u2⟩
  case hAx =>
    rintro x a' A l' o o' ⟨Bx, hm, a0, a1, a2, rfl⟩ hl ho
    exact ⟨Bx, hm, cell_putObj _ a0 hl ho, cell_putObj _ a1 hl ho, cell_putObj _ a2 hl ho, rfl⟩
  case assign =>
    rintro l' T' pre ⟨x0, x1, x2⟩ W' K hI hg hlt hsz' hK
    have HK := Lib.hid hK
    have HI := Lib.hid hI
    clear hK hI
    unfold keyV
    gi_wp2
    exact HK.out _ _ ((Below.refl _ _).alloc (Nat.le_refl _) _) ⟨W'.heap.size, by have := hg.mlt; omega, by simp [go_sem], by simp [go_sem], by simp [go_sem], rfl⟩
  case body =>
    rintro l' T' pre ⟨x0, x1, x2⟩ a' W' hI hg hlt hsz' hf ⟨Bx, hbm, a0, a1, a2, rfl⟩ hpre
    have hmem : (x0, x1, x2) ∈ allSh s := hpre.subset (by simp)
    have hrt := right_any b m s T' (x0, x1, x2) set W' hs (HTOK.out _ hmem) hset hg
    unfold keyV at hrt ⊢
    have hp := hI.p
    have hu := hI.u
    have HI := Lib.hid hI
    have HR := Lib.hid hrt
    have HG' := Lib.hid hg
    have HF := Lib.hid hf
    have HL := Lib.hid hlt
    clear hI hrt hg hf hlt
    have hid : ∀ W4, OnBoard b m s T' W' W4 → TruAt b set B1 B2 W.heap.size l 0 (rightB s · set) J T' pre W4 := by
      intro W4 hon
      obtain ⟨hj, hy, hp, hu, t1, t2, t3⟩ := HI.out
      exact ⟨HJ.out _ _ _ _ hj HG'.out hon.board HL.out (hon.frm.mono fun k _ hk => .inl hk), hon.cell hy (by simp only; omega), hon.cell hp (by simpa using hm1), hon.cell hu (by simpa using hm2), t1, t2, t3⟩
    have HID := Lib.hid hid
    clear hid
    cases hr : rightB s (x0, x1, x2) set with
    | false =>
      rw [hr] at HR
      gi_wp2_with (refine ⟨trivial, rfl, ?_⟩; gi_at_call 86; refine (CallsIn.inRound l' (callsIn_wide.2 HR.out)).mono ?_; rintro e W4 ⟨rfl, hon⟩; have HON := Lib.hid hon; clear hon)
      refine ⟨fun _ h => (by cases h), ?_⟩
      gi_wp2
      refine ⟨T', .of_frm HON.out.frm HL.out, HON.out.board, ?_⟩
      have hi := HID.out W4 HON.out
      exact { hi with j := by rw [List.filter_append]; simpa [List.filter_cons, hr] using hi.j }
    | true =>
      rw [hr] at HR
      have hpr2 : pre.filter (rightB s · set) ++ [(x0, x1, x2)] <+: (allSh s).filter (rightB s · set) := by
        have := hpre.filter (rightB s · set)
        rw [List.filter_append] at this
        simpa [List.filter_cons, hr] using this
      gi_wp2_with (refine ⟨trivial, rfl, ?_⟩; gi_at_call 86; refine (CallsIn.inRound l' (callsIn_wide.2 HR.out)).mono ?_; rintro e W4 ⟨rfl, hon⟩
                   have hi4 := HID.out W4 hon
                   have ht4 : ∀ k, T' k → k < W4.heap.size := fun k hk => Nat.lt_of_lt_of_le (HL.out k hk) hon.size
                   obtain ⟨fn, tmps, assign, body, hy, hRd⟩ := HY.out T' _ (x0, x1, x2) W4 hi4.j hon.board ht4 hpr2
                   unfold keyV at hy
                   have y4 := hi4.y
                   have b0 := hon.cell a0 hbm
                   have b1 := hon.cell a1 hbm
                   have b2 := hon.cell a2 hbm
                   have HRD := Lib.hid hRd
                   have HI4 := Lib.hid hi4
                   have HON := Lib.hid hon
                   clear hon hi4 hRd ht4)
      have hfl : (pre ++ [(x0, x1, x2)]).filter (rightB s · set) = pre.filter (rightB s · set) ++ [(x0, x1, x2)] := by
        rw [List.filter_append]; simp [List.filter_cons, hr]
      have HFL := Lib.hid hfl
      clear hfl
      refine ⟨rfl, RoundIn.mono (show RoundIn (Fence.wide.inRound l') 0 _ _ _ _ _ _ _ _ from HRD.out) ?_⟩
      rintro e B ⟨T2, hr2, hb2, ⟨rfl, hj2⟩ | ⟨rfl, hj2⟩⟩
      · have H1 := Lib.hid hr2
        have H2 := Lib.hid hb2
        have H3 := Lib.hid hj2
        clear hr2 hb2 hj2
        gi_wp2
        refine ⟨T2, (Rnd.of_frm HON.out.frm HL.out).trans H1.out, H2.out, ?_⟩
        have hi := HI4.out
        have k0 := H1.out.block (World.block_lt_of_cell? _ _ hi.y) (show ¬ W.heap.size = m by omega) hi.ty
        have k1 := H1.out.block (World.block_lt_of_cell? _ _ hi.p) hm1 hi.tp
        have k2 := H1.out.block (World.block_lt_of_cell? _ _ hi.u) hm2 hi.tu
        exact ⟨by rw [HFL.out]; exact H3.out, (World.cell?_of_block k0.1).trans hi.y, (World.cell?_of_block k1.1).trans hi.p, (World.cell?_of_block k2.1).trans hi.u, k0.2, k1.2, k2.2⟩
      · have H1 := Lib.hid hr2
        have H2 := Lib.hid hb2
        have H3 := Lib.hid hj2
        clear hr2 hb2 hj2
        gi_wp2
        exact ⟨T2, (Rnd.of_frm HON.out.frm HL.out).trans H1.out, H2.out, rfl, by rw [HFL.out]; exact H3.out⟩
  case done =>
    rintro D T' W' hD hTD hrn hg hI hK
    have hput := (board_good b m s).put (.deferred none) hg hK rfl (show ¬ D = m by omega)
    have hrn' : Rnd (fun k => k = m) T T' W (W'.putObj D (.deferred none)) := by
      have := hrn.pre hb2
      exact ⟨this.frm.putObj (.inr (by omega)) _, this.grow, this.keep, fun k hk => by simpa using this.lt k hk⟩
    have hj' : J T' ((allSh s).filter (rightB s · set)) (W'.putObj D (.deferred none)) :=
      HJ.out _ _ _ _ hI.j hg hput hrn.lt (frm_put _ (.inr ⟨by omega, hTD⟩))
    have H1 := Lib.hid hput
    have H2 := Lib.hid hrn'
    have H3 := Lib.hid hj'
    clear hput hrn' hj' hrn hg hI
    gi_wp2
    refine ⟨by simp, .inl ⟨_, _, rfl, run_takeDeferred hK, ?_⟩⟩
    refine ⟨_, results_none rfl _ _ _, ?_⟩
    exact ⟨⟨_, rfl⟩, T', H2.out, H1.out, .inl H3.out⟩
  case stop =>
    rintro D c T' pre W' hD hTD hrn hg hpre ⟨rfl, hI⟩ hK
    have hput := (board_good b m s).put (.deferred none) hg hK rfl (show ¬ D = m by omega)
    have hrn' : Rnd (fun k => k = m) T T' W (W'.putObj D (.deferred none)) := by
      have := hrn.pre hb2
      exact ⟨this.frm.putObj (.inr (by omega)) _, this.grow, this.keep, fun k hk => by simpa using this.lt k hk⟩
    have hj' : Jx T' (pre.filter (rightB s · set)) (W'.putObj D (.deferred none)) :=
      HJx.out _ _ _ _ hI hg hput hrn.lt (frm_put _ (.inr ⟨by omega, hTD⟩))
    have hpf := hpre.filter (rightB s · set)
    have H1 := Lib.hid hput
    have H2 := Lib.hid hrn'
    have H3 := Lib.hid hj'
    have H4 := Lib.hid hpf
    clear hput hrn' hj' hrn hg hI hpf hpre
    gi_wp2
    refine ⟨by simp, .inl ⟨_, _, rfl, run_takeDeferred hK, ?_⟩⟩
    refine ⟨_, results_none rfl _ _ _, ?_⟩
    exact ⟨⟨_, rfl⟩, T', H2.out, H1.out, .inr ⟨_, H4.out, H3.out⟩⟩
end Go.Proofs.Ytojbkpnkcpcioaa
