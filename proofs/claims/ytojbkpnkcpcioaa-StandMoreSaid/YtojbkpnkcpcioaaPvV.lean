/- The logic of plain data: joins of branches, slices of one's own taken as data. Seat-independent. -/
import Derived.Test.YtojbkpnkcpcioaaPvW
set_option linter.all false
namespace Go.Pv
open Go Go.RowKit Go.Sh
variable {K : Kx}

/-- Where branches meet. -/
theorem aw_join {ι : Type} {c rest : Code} {Q0 : Exit → St → Prop} {st : St} (S : ι → St) (h2 : ∀ j, AW K rest Q0 (S j)) (h1 : AW K c (thenA (fun st' => ∃ j, Weak K st' (S j)) Q0) st) : AW K c (thenA (AW K rest Q0) Q0) st :=
  h1.mono fun e st' h => by
    cases e with
    | normal => obtain ⟨j, hj⟩ := h; exact aw_weak hj (h2 j)
    | _ => exact h

/-- The same, of a state some of whose entries turn. -/
theorem aw_join_ov {ι : Type} {c rest : Code} {Q0 : Exit → St → Prop} {st : St} (fo : ι → List (Nat × AV)) (ho : ι → List (Nat × Obj')) (h1 : AW K c (thenA (fun st' => ∃ j, Weak K st' (ov st (fo j) (ho j))) Q0) st) (h2 : ∀ j, AW K rest Q0 (ov st (fo j) (ho j))) : AW K c (thenA (AW K rest Q0) Q0) st :=
  aw_join _ h2 h1
theorem aw_join_keep {ι : Type} {c rest : Code} {Q0 : Exit → St → Prop} {st st0 : St} (slots : List Nat) (_ : keep st slots = some st0) (fo : ι → List (Nat × AV)) (ho : ι → List (Nat × Obj')) (h1 : AW K c (thenA (fun st' => ∃ j, Weak K st' (ov st0 (fo j) (ho j))) Q0) st) (h2 : ∀ j, AW K rest Q0 (ov st0 (fo j) (ho j))) : AW K c (thenA (AW K rest Q0) Q0) st :=
  aw_join _ h2 h1

theorem own_data {s : Sit} (H : Heap0 s) {t n : Nat} {u : Value} {E : TypeId} {k : Nat} {rows : List (List PV)} (ht : s.h t = some (.arr E k rows true)) (h : RelC s (.own t n) u) : RelP s.Safe s.w (.sl (rows.take n)) u := by
  obtain ⟨E', k', rows', sh, l, h1, h2, h3, h4, h5⟩ := h
  rw [ht] at h1; cases h1
  rcases Nat.lt_or_ge n rows.length with hlt | hge
  · exact (h5 hlt).2
  · have hn : n = rows.length := by omega
    subst hn
    obtain ⟨val, xs, h6, h7, h8, h9⟩ := H.objs _ _ ht
    rw [h2] at h6; cases h6
    rw [h4 rfl]
    exact relP_take (own_shared H ht h2 h7 h8 h9)

/-- A slice of one's own in a box's cell, taken as data. -/
theorem weak_dataB {st : St} (b j : Nat) {cs : List AC} {t n : Nat} {E : TypeId} {k : Nat} {rows : List (List PV)} (hb : AL.get st.hp b = some (.box cs)) (hc : cs[j]? = some (.own t n)) (ht : AL.get st.hp t = some (.arr E k rows true)) :
    Weak K st { st with hp := AL.set st.hp b (.box (cs.set j (.p (.sl (rows.take n))))) } := by
  intro σ a w hr
  obtain ⟨blk, vs, ty, h1, h2, h3⟩ := hr.heap.objs b _ hb
  have hbox : RelCs (sit K σ st w) (cs.set j (.p (.sl (rows.take n)))) vs := by
    refine ⟨by simpa using h3.1, fun i c hi => ?_⟩
    by_cases hij : i = j
    · subst hij
      have hlt : i < cs.length := (List.getElem?_eq_some_iff.1 hc).1
      rw [List.getElem?_set_self (by simpa using hlt)] at hi
      cases hi
      obtain ⟨x, hx, hrx⟩ := h3.2 i _ hc
      exact ⟨x, hx, own_data hr.heap ht hrx⟩
    · rw [List.getElem?_set_ne (by omega)] at hi
      exact h3.2 i c hi
  obtain ⟨q1, q2⟩ := set_box hr.heap hb h1 (cs' := cs.set j (.p (.sl (rows.take n)))) (vs' := vs) (ty := ty) (w' := w) rfl (fun _ _ => rfl) h2 hbox
  have hu2 := hr.upd (id := b) (Turn.put (w' := w) q1 q2 (fun _ _ => rfl) (Nat.le_refl _) rfl rfl rfl)
  have hb1 := hr.lt b _ hb
  simp only [St.upd, if_pos hb1] at hu2
  exact ⟨_, hu2⟩

/-- A slice of one's own in a slot, taken as data. -/
theorem weak_dataS {st : St} (d : Nat) {t n : Nat} {E : TypeId} {k : Nat} {rows : List (List PV)} (hd : AL.get st.fr d = some (.one (.own t n))) (ht : AL.get st.hp t = some (.arr E k rows true)) :
    Weak K st { st with fr := AL.set st.fr d (.one (.p (.sl (rows.take n)))) } := by
  intro σ a w hr
  refine ⟨σ, hr.heap, fun t' av ht' => ?_, hr.lt, hr.df, hr.nt, hr.frm⟩
  have ht' : AL.get (AL.set st.fr d (.one (.p (.sl (rows.take n))))) t' = some av := ht'
  rw [AL.get_set] at ht'
  split at ht'
  · rename_i he
    cases ht'
    subst he
    exact ⟨(hr.fr t' _ hd).1, own_data hr.heap ht (hr.fr t' _ hd).2⟩
  · exact hr.fr t' av ht'
end Go.Pv
