/- Maps by structs, of which only an invariant on the entries is kept. Seat-independent. -/
import Derived.Test.YtojbkpnkcpcioaaBaseC
import Derived.DeepKeys4
import Derived.WideKeyMaps
import Derived.RangeFuncFrom
set_option linter.all false
namespace Go.Sh
open Go Go.RowKit Go.WideMaps

theorem Frm.putObj {S : Nat → Prop} {a w : World} (h : Frm S a w) {m : Nat} (hm : S m ∨ a.heap.size ≤ m) (o : Obj) : Frm S a (w.putObj m o) :=
  ⟨h.os, h.tape, h.output, by simp; exact h.size, fun k hk hs => (World.putObj_heap_other (by rintro rfl; rcases hm with hm | hm; exact hs hm; omega)).trans (h.block k hk hs)⟩

/-- Each entry of the map has a key, no two the same, and meets I. -/
def MapInv (P : Program) (k : TypeId) (w : World) (m : Nat) (I : Value → Value → Prop) : Prop :=
  ∃ es ck, w.heap[m]? = some (.map es ck) ∧ (es.toList.map (·.key)).Nodup ∧ ∀ e ∈ es.toList, (∃ l, keyOf P k e.key = some l) ∧ I e.key e.val

theorem MapInv.imp {P : Program} {k : TypeId} {w w' : World} {m : Nat} {I I' : Value → Value → Prop} (h : MapInv P k w m I) (hw : w'.heap[m]? = w.heap[m]?) (hi : ∀ a b, I a b → I' a b) : MapInv P k w' m I' := by
  obtain ⟨es, ck, hb, hn, h⟩ := h
  exact ⟨es, ck, hw.trans hb, hn, fun e he => ⟨(h e he).1, hi _ _ (h e he).2⟩⟩

theorem MapInv.made {P : Program} {k : TypeId} {I : Value → Value → Prop} (w : World) : MapInv P k (w.alloc (.map #[] 0)) w.heap.size I :=
  ⟨#[], 0, World.alloc_heap_new w _, by simp, by simp⟩

theorem nodup_key {es : Array MapEntry} (hn : (es.toList.map (·.key)).Nodup) {i j : Nat} {e e' : MapEntry} (hi : es[i]? = some e) (hj : es[j]? = some e') (h : e.key = e'.key) : i = j := by
  have h1 : (es.toList.map (·.key))[i]? = some e.key := by simp [hi]
  have h2 : (es.toList.map (·.key))[j]? = some e'.key := by simp [hj]
  obtain ⟨hi', e1⟩ := List.getElem?_eq_some_iff.1 h1
  obtain ⟨hj', e2⟩ := List.getElem?_eq_some_iff.1 h2
  have hp := List.pairwise_iff_getElem.1 hn
  rcases Nat.lt_trichotomy i j with hlt | heq | hlt
  · exact absurd (by rw [e1, e2, h]) (hp i j hi' hj' hlt)
  · exact heq
  · exact absurd (by rw [e1, e2, h]) (hp j i hj' hi' hlt)

/-- The look-up: one value, whatever else of the world has turned. -/
theorem MapInv.lookup {P : Program} {t k e : TypeId} {w : World} {m : Nat} {I : Value → Value → Prop} (K : KeyLaw P k) (ht : P.underlying t = some (.map k e)) {z : Value} (hz : ∀ w, (zeroValue e).run P w = .ok z w)
    (h : MapInv P k w m I) {key : Value} {l : Lit} (hk : keyOf P k key = some l) :
    ∃ v ok, (∀ w', w'.heap[m]? = w.heap[m]? → (Instr.lookup t (.map (some m)) key true).run P w' = .ok (.tuple #[v, .bool ok]) w') ∧ ((ok = true ∧ I key v) ∨ (ok = false ∧ v = z)) := by
  obtain ⟨es, ck, hb, hn, h⟩ := h
  rcases K.find w hk es.toList (fun e he => (h e he).1) with ⟨_, hno⟩ | ⟨j, e0, _, hj, hkey⟩
  · refine ⟨z, false, fun w' hw => ?_, .inr ⟨rfl, rfl⟩⟩
    have hb' := hw.trans hb
    have hc := K.check w' es.isEmpty hk
    rcases K.find w' hk es.toList (fun e he => (h e he).1) with ⟨hf, _⟩ | ⟨j, e0, hf, hj, hkey⟩
    · simp [Instr.lookup, run_underlying ht, run_getObj_map w' m es ck hb', hc, hf, hz]
    · exact absurd hkey (hno e0 (List.mem_of_getElem? hj))
  · have hj0 : es[j]? = some e0 := by simpa using hj
    refine ⟨e0.val, true, fun w' hw => ?_, .inl ⟨rfl, by rw [← hkey]; exact (h e0 (List.mem_of_getElem? hj)).2⟩⟩
    have hb' := hw.trans hb
    have hc := K.check w' es.isEmpty hk
    rcases K.find w' hk es.toList (fun e he => (h e he).1) with ⟨_, hno⟩ | ⟨j', e1, hf, hj', hkey'⟩
    · exact absurd hkey (hno e0 (List.mem_of_getElem? hj))
    · have hj1 : es[j']? = some e1 := by simpa using hj'
      have := nodup_key hn hj0 hj1 (hkey.trans hkey'.symm)
      subst this
      rw [hj0] at hj1
      cases hj1
      simp [Instr.lookup, run_underlying ht, run_getObj_map w' m es ck hb', hc, hf]

theorem MapInv.update {P : Program} {t k e : TypeId} {w : World} {m : Nat} {I : Value → Value → Prop} (K : KeyLaw P k) (ht : P.underlying t = some (.map k e))
    (h : MapInv P k w m I) {key v : Value} {l : Lit} (hk : keyOf P k key = some l) (hv : I key v) :
    ∃ o, (Instr.mapUpdate t (.map (some m)) key v).run P w = .ok () (w.putObj m o) ∧ MapInv P k (w.putObj m o) m I := by
  obtain ⟨es, ck, hb, hn, h⟩ := h
  have hlt : m < w.heap.size := (Array.getElem?_eq_some_iff.1 hb).1
  have hc := K.check w false hk
  rcases K.find w hk es.toList (fun e he => (h e he).1) with ⟨hf, hno⟩ | ⟨j, e0, hf, hj, hkey⟩
  · refine ⟨.map (es.push { key, val := v, born := ck }) (ck + 1), ?_, _, _, World.putObj_heap_same hlt, ?_, ?_⟩
    · simp [Instr.mapUpdate, run_underlying ht, run_getObj_map w m es ck hb, hc, hf, setObj, Sem.run, hb, World.putObj]
    · simp only [Array.toList_push, List.map_append, List.map_cons, List.map_nil]
      refine List.nodup_append.2 ⟨hn, by simp, ?_⟩
      intro a ha b hb'
      simp at hb'
      subst hb'
      obtain ⟨e, he, rfl⟩ := List.mem_map.1 ha
      exact hno e he
    · intro e he
      simp at he
      rcases he with he | rfl
      · exact h e (by simpa using he)
      · exact ⟨⟨l, hk⟩, hv⟩
  · have hst := K.stays w hk
    have hj' : es[j]? = some e0 := by simpa using hj
    refine ⟨.map (es.modify j fun e => { e with key, val := v }) ck, ?_, _, _, World.putObj_heap_same hlt, ?_, ?_⟩
    · simp [Instr.mapUpdate, run_underlying ht, run_getObj_map w m es ck hb, hc, hf, hj', hkey, hst, setObj, Sem.run, hb, World.putObj]
    · have hsame : (es.modify j fun e => { e with key, val := v }).toList.map (·.key) = es.toList.map (·.key) := by
        apply List.ext_getElem?
        intro i
        simp only [List.getElem?_map, Array.getElem?_toList, Array.getElem?_modify]
        split
        · rename_i e; subst e; simp [hj', hkey]
        · rfl
      rw [hsame]; exact hn
    · intro e he
      rw [Array.mem_toList_iff] at he
      obtain ⟨i, hi, hie⟩ := Array.mem_iff_getElem.1 he
      rw [Array.getElem_modify] at hie
      split at hie
      · subst hie; exact ⟨⟨l, hk⟩, hv⟩
      · subst hie
        exact h _ (by rw [Array.mem_toList_iff]; exact Array.getElem_mem _)

/-- A block that holds a cell is no map. -/
theorem ne_of_cell_map {w : World} {a : Addr} {u : Value} {m : Nat} {es : Array MapEntry} {ck : Nat} (hc : w.cell? a = some u) (hm : w.heap[m]? = some (.map es ck)) : a.block ≠ m := by
  intro e
  unfold World.cell? at hc
  rw [e, hm] at hc
  simp at hc

theorem RowsAt.frmM {α : Type} {enc : α → List Value} {size : Nat} {w w' : World} {v : Value} {l : List α} {m : Nat} {es : Array MapEntry} {ck : Nat} (h : RowsAt enc size w w.heap.size v l) (hm : w.heap[m]? = some (.map es ck)) (hf : Frm (fun k => k = m) w w') : RowsAt enc size w' w'.heap.size v l :=
  h.of_cells hf.size fun b o u _ hc => hf.cell hc (ne_of_cell_map hc hm)
theorem RowsAt.later {α : Type} {enc : α → List Value} {size : Nat} {w w' : World} {v : Value} {l : List α} (h : RowsAt enc size w w.heap.size v l) (hf : Below w.heap.size w w') : RowsAt enc size w' w'.heap.size v l :=
  (h.below hf).mono hf.size
end Go.Sh
