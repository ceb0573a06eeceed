/- Whether there is a truth (Clash$2); how many bits a set has; the least of sets. -/
import Derived.Test.YtojbkpnkcpcioaaStN2
set_option linter.all false
namespace Go.Proofs.Ytojbkpnkcpcioaa
open Go.RowKit Go.Sh Go.Sh.Stand Go.Shelf
attribute [local go_sem] Oper.semAt_some

structure CanAt (w : World) (m : Nat) (Rc : Nat) (T : Nat → Prop) (A : World) (v : Bool) : Prop where
  c : A.cell? ⟨Rc, 0, none⟩ = some (.bool v)
  f : A.frozen? ⟨Rc, 0, none⟩ = false
  t : T Rc
  old : ∀ k, k < w.heap.size → k ≠ m → A.heap[k]? = w.heap[k]?

set_option maxRecDepth 100000 in
set_option maxHeartbeats 1000000 in
theorem can_any (b m Bb set : Nat) (s : Stand) (X : Nat → Prop) (w : World) (hs : Fit s) (hset : set < 16) (hg : Board w b m s X) (hb : w.cell? ⟨Bb, 0, none⟩ = some (.pointer (some ⟨b, 0, none⟩))) :
    Calls Try.prog 65 #[.int .u64 set, .pointer (some ⟨Bb, 0, none⟩)] w fun e w' => e = .returned (.bool (decide (truthsL s set ≠ []))) ∧ OnBoard b m s X w w' := by
  have hml := hg.mlt
  have hBb := World.block_lt_of_cell? _ _ hb
  simp only at hBb
  refine (callsIn_wide (n := 0)).1 ?_
  refine callsIn_of_wp_marks Try.func65 rfl trivial ?_ rfl
  simp only [Try.ntmps65, List.size_toArray, List.length_cons, List.length_nil, Nat.reduceAdd, Nat.reduceSub, Array.replicate_succ, Array.replicate_zero, List.push_toArray, List.append_toArray, List.nil_append, List.cons_append]
  have HG := Lib.hid hg
  clear hg
  gi_wp2_with (refine ⟨trivial, rfl, ?_⟩; gi_at_call 66; refine (callsIn_wide.2 (truths_any b set _)).mono ?_; rintro e w' ⟨rfl, rfl⟩)
  obtain ⟨W2, hW2⟩ : ∃ x, ((w.alloc (.cells #[.bool false] 4)).alloc (.cells #[.pointer (some ⟨b, 0, none⟩)] 70)).alloc (.cells #[.int .u64 set] 98) = x := ⟨_, rfl⟩
  have hb2 : Below w.heap.size w W2 := by rw [← hW2]; exact (below_two _ _ _).alloc (by simp; omega) _
  have hsz : W2.heap.size = w.heap.size + 3 := by rw [← hW2]; simp
  have hg2 : Board W2 b m s (fun k => X k ∨ k = w.heap.size) := HG.out.grow hb2 (fun k hk => hk.elim .inl fun h => .inr (by omega)) (fun k hk => hk.elim (fun h => by have := HG.out.xlt k h; omega) fun h => by omega)
  have q0 : W2.cell? ⟨w.heap.size, 0, none⟩ = some (.bool false) := by rw [← hW2]; simp [go_sem]
  have q1 : W2.cell? ⟨w.heap.size + 1, 0, none⟩ = some (.pointer (some ⟨b, 0, none⟩)) := by rw [← hW2]; simp [go_sem]
  have q2 : W2.cell? ⟨w.heap.size + 2, 0, none⟩ = some (.int .u64 set) := by rw [← hW2]; simp [go_sem]
  have g0 : W2.frozen? ⟨w.heap.size, 0, none⟩ = false := by rw [← hW2]; simp [go_sem]
  rw [hW2]
  clear hW2
  rw [show w.heap.size + 1 + 1 = w.heap.size + 2 by omega]
  have hfin : ∀ (v : Bool) (D : Nat) (T' : Nat → Prop) (Z : World), W2.heap.size ≤ D → Rnd (fun k => k = m) (fun k => X k ∨ k = w.heap.size) T' W2 Z → Board Z b m s T' → CanAt w m w.heap.size T' Z v → Z.heap[D]? = some (.deferred (some [])) →
      OnBoard b m s X w (Z.putObj D (.deferred none)) ∧ (Z.putObj D (.deferred none)).cell? ⟨w.heap.size, 0, none⟩ = some (.bool v) := by
    intro v D T' Z hD hrn hg hc hK
    have hput := (board_good b m s).put (.deferred none) hg hK rfl (show ¬ D = m by omega)
    have h1 := hrn.pre hb2
    refine ⟨⟨⟨h1.frm.os, h1.frm.tape, h1.frm.output, by simpa using h1.frm.size, fun k hk hs => ?_⟩, hput.sub fun k hk => hrn.keep k (.inl hk)⟩, cell_putObj _ hc.c hK rfl⟩
    rw [World.putObj_heap_other (by omega)]
    exact hc.old k hk hs
  have HFIN := Lib.hid hfin
  clear hfin
  refine wpIn_range (gf := 84) (lb := #[.pointer (some ⟨w.heap.size + 1, 0, none⟩), .pointer (some ⟨w.heap.size + 2, 0, none⟩)]) rfl (enters_of Try.func84 (by kernel_rfl) rfl) (board_good b m s) (truths1_seq b m (w.heap.size + 1) (w.heap.size + 2) set s W2 hs hset q1 q2 (by omega) (by omega) (tok_all hs)) (Below.refl _ _) (fun _ => rfl)
    (fun k hk => by omega) (fun k => X k ∨ k = w.heap.size) (fun k hk => hk.elim (fun h => by have := HG.out.xlt k h; omega) (fun h => by omega)) (fun k hk => ⟨fun h => h.elim (fun h => by have := HG.out.xlt k h; omega) (fun h => by omega), by omega⟩) hg2
    (fun T pre A => pre = [] ∧ CanAt w m w.heap.size T A false) (fun c T pre A => c = .ret ∧ pre ≠ [] ∧ CanAt w m w.heap.size T A true) ?hI ?hIx ?h0
    (fun x a' A => a' = { tmps := #[.int .u64 set, .pointer (some ⟨Bb, 0, none⟩), undef, .pointer (some ⟨w.heap.size, 0, none⟩), .pointer (some ⟨b, 0, none⟩), .int .u64 set, .func (.func 84) #[] #[.pointer (some ⟨w.heap.size + 1, 0, none⟩), .pointer (some ⟨w.heap.size + 2, 0, none⟩)], keyV x], defers := [] })
    ?hAx ?assign ?body ?done ?stop
  case hI =>
    rintro T' pre A B ⟨hp, hc⟩ hga hgb hlt hff
    have hbl := World.block_lt_of_cell? _ _ hc.c
    have hnl : ¬ ((w.heap.size = m) ∨ (W2.heap.size ≤ w.heap.size ∧ ¬ T' w.heap.size)) := by rintro (h | h) <;> omega
    exact ⟨hp, hff.cell hc.c hnl, (hff.frozen hbl hnl).trans hc.f, hc.t, fun k hk hm => (hff.block k (by simp only at hbl; omega) (by rintro (h | h) <;> omega)).trans (hc.old k hk hm)⟩
  case hIx =>
    rintro c T' pre A B ⟨rfl, hp, hc⟩ hga hgb hlt hff
    have hbl := World.block_lt_of_cell? _ _ hc.c
    have hnl : ¬ ((w.heap.size = m) ∨ (W2.heap.size ≤ w.heap.size ∧ ¬ T' w.heap.size)) := by rintro (h | h) <;> omega
    exact ⟨rfl, hp, hff.cell hc.c hnl, (hff.frozen hbl hnl).trans hc.f, hc.t, fun k hk hm => (hff.block k (by simp only at hbl; omega) (by rintro (h | h) <;> omega)).trans (hc.old k hk hm)⟩
  case h0 => exact ⟨rfl, q0, g0, .inr rfl, fun k hk _ => hb2.block k hk⟩
  case hAx => rintro x a' A l' o o' rfl hl ho; rfl
  case assign =>
    rintro l' T' pre x W' K hI hg hlt hsz' hK
    have HK := Lib.hid hK
    clear hK
    gi_wp2
    exact HK.out _ _ (Below.refl _ _) (by simp [Array.zip, Array.zipWith, Array.zipWithMAux])
  case body =>
    rintro l' T' pre x a' W' ⟨hp, hc⟩ hg hlt hsz' hff rfl hpre
    have hcc := hc.c
    have hcf := hc.f
    have hbl := World.block_lt_of_cell? _ _ hcc
    simp only at hbl
    have HC := Lib.hid hc
    have HG' := Lib.hid hg
    have HL := Lib.hid hlt
    have HP := Lib.hid hpre
    clear hc hg hlt hff hpre
    gi_wp2
    have hz : Frm (fun k => k = w.heap.size) W' (W'.setCell ⟨w.heap.size, 0, none⟩ (.bool true)) := Frm.setCell (S := fun k => k = w.heap.size) (Frm.refl _ _) (.inl rfl) _
    refine ⟨T', ⟨hz.mono fun k _ hk => .inr (by rw [hk]; exact HC.out.t), fun _ h => .inl h, fun _ h => h, fun k hk => by simpa using HL.out k hk⟩, HG'.out.turn hz (fun k hk => by rw [hk]; exact HC.out.t), rfl, by simp, by simp [go_sem, hcc], by rw [World.frozen?_setCell]; exact hcf, HC.out.t, fun k hk hm => ?_⟩
    rw [Below.heap_setCell _ _ _ _ (by simp only; omega)]
    exact HC.out.old k hk hm
  case done =>
    rintro D T' W' hD hTD hrn hg ⟨hxs, hc⟩ hK
    have hcc := hc.c
    have hcf := hc.f
    have hbl := World.block_lt_of_cell? _ _ hcc
    simp only at hbl
    have hz : Frm (fun k => k = w.heap.size) W' (W'.setCell ⟨w.heap.size, 0, none⟩ (.bool false)) := Frm.setCell (S := fun k => k = w.heap.size) (Frm.refl _ _) (.inl rfl) _
    have hrn2 : Rnd (fun k => k = m) (fun k => X k ∨ k = w.heap.size) T' W2 (W'.setCell ⟨w.heap.size, 0, none⟩ (.bool false)) :=
      hrn.trans ⟨hz.mono fun k _ hk => .inr (by rw [hk]; exact hc.t), fun _ h => .inl h, fun _ h => h, fun k hk => by simpa using hrn.lt k hk⟩
    have hK2 : (W'.setCell ⟨w.heap.size, 0, none⟩ (.bool false)).heap[D]? = some (.deferred (some [])) := by rw [Below.heap_setCell _ _ _ _ (by simp only; omega)]; exact hK
    have hf := HFIN.out false D T' _ hD hrn2 (hg.turn hz (fun k hk => by rw [hk]; exact hc.t)) ⟨by simp [go_sem, hcc], by rw [World.frozen?_setCell]; exact hcf, hc.t, fun k hk hm => by rw [Below.heap_setCell _ _ _ _ (by simp only; omega)]; exact hc.old k hk hm⟩ hK2
    have HF := Lib.hid hf
    have HK2 := Lib.hid hK2
    have HXS : Hid (truthsL s set = []) := hxs
    clear hf hK2 hrn2 hz hrn hg hc hxs
    gi_wp2
    refine ⟨by simp, .inl ⟨_, _, rfl, run_takeDeferred HK2.out, ?_⟩⟩
    have y0 := HF.out.2
    refine ⟨.bool false, ?_, ?_⟩
    · simp [results, Try.results65, go_sem, y0]
    · exact ⟨retB (by simp [HXS.out]), HF.out.1⟩
  case stop =>
    rintro D c T' pre W' hD hTD hrn hg hpre ⟨rfl, hne, hc⟩ hK
    have hf := HFIN.out true D T' _ hD hrn hg hc hK
    have HF := Lib.hid hf
    have HXS : Hid (truthsL s set ≠ []) := fun h => hne (List.prefix_nil.1 (by rw [← h]; exact hpre))
    clear hf hrn hg hc hpre hne
    gi_wp2
    refine ⟨by simp, .inl ⟨_, _, rfl, run_takeDeferred hK, ?_⟩⟩
    have y0 := HF.out.2
    refine ⟨.bool true, ?_, ?_⟩
    · simp [results, Try.results65, go_sem, y0]
    · exact ⟨retB (by simp [HXS.out]), HF.out.1⟩
end Go.Proofs.Ytojbkpnkcpcioaa
