/- Texts of the proof, joined. -/
import Derived.Test.YthedkfiebmnghaaGreatKba0
import Derived.DeepKeys4
import Derived.WideKeyMaps
import Derived.RangeFuncFrom
import Derived.Maps.AppendAt
import Derived.OwnWalk
import Derived.RangeFuncNested
import Derived.RangeFuncBound
import Derived.RangeFuncCalls
import Derived.RangeFuncLeaves
import Derived.Shelf.Abstract
import Derived.Shelf.RegionOpen
import Derived.OwnWalkIn
import Derived.TacticsInMore
import Derived.LoopNIn
import Derived.LoopIn
import Derived.Laws.CopyOwn
set_option linter.all false
namespace Go.Sh
open Go Go.RowKit Go.WideMaps
theorem Frm.putObj {S : Nat → Prop} {a w : World} (h : Frm S a w) {m : Nat} (hm : S m ∨ a.heap.size ≤ m) (o : Obj) : Frm S a (w.putObj m o) :=
 ⟨h.os, h.tape, h.output, by simp; exact h.size, fun k hk hs => (World.putObj_heap_other (by rintro rfl; rcases hm with hm | hm; exact hs hm; omega)).trans (h.block k hk hs)⟩
structure MI where
 yes : Value → Value → Prop
 all : Value → Value → Prop
def MapInv (P : Program) (k : TypeId) (w : World) (m : Nat) (I : MI) : Prop :=
 ∃ es ck, w.heap[m]? = some (.map es ck) ∧ (es.toList.map (·.key)).Nodup ∧ (∀ e ∈ es.toList, (∃ l, keyOf P k e.key = some l) ∧ I.yes e.key e.val) ∧ (∀ a b, I.all a b → ∃ e ∈ es.toList, e.key = a ∧ e.val = b)
theorem MapInv.imp {P : Program} {k : TypeId} {w w' : World} {m : Nat} {I I' : MI} (h : MapInv P k w m I) (hw : w'.heap[m]? = w.heap[m]?) (hi : ∀ a b, I.yes a b → I'.yes a b) (ha : ∀ a b, I'.all a b → I.all a b) : MapInv P k w' m I' := by
 obtain ⟨es, ck, hb, hn, h, hA⟩ := h
 exact ⟨es, ck, hw.trans hb, hn, fun e he => ⟨(h e he).1, hi _ _ (h e he).2⟩, fun a b h => hA a b (ha a b h)⟩
theorem MapInv.made {P : Program} {k : TypeId} {I : MI} (w : World) (h0 : ∀ a b, ¬ I.all a b) : MapInv P k (w.alloc (.map #[] 0)) w.heap.size I :=
 ⟨#[], 0, World.alloc_heap_new w _, by simp, by simp, fun a b h => (h0 a b h).elim⟩
theorem nodup_key {es : Array MapEntry} (hn : (es.toList.map (·.key)).Nodup) {i j : Nat} {e e' : MapEntry} (hi : es[i]? = some e) (hj : es[j]? = some e') (h : e.key = e'.key) : i = j := by
 have h1 : (es.toList.map (·.key))[i]? = some e.key := by simp [hi]
 have h2 : (es.toList.map (·.key))[j]? = some e'.key := by simp [hj]
 obtain ⟨hi', e1⟩ := List.getElem?_eq_some_iff.1 h1
 obtain ⟨hj', e2⟩ := List.getElem?_eq_some_iff.1 h2
 have hp := List.pairwise_iff_getElem.1 hn
 rcases Nat.lt_trichotomy i j with hlt | heq | hlt
 ·exact absurd (by rw [e1, e2, h]) (hp i j hi' hj' hlt)
 ·exact heq
 ·exact absurd (by rw [e1, e2, h]) (hp j i hj' hi' hlt)
theorem MapInv.lookup {P : Program} {t k e : TypeId} {w : World} {m : Nat} {I : MI} (K : KeyLaw P k) (ht : P.underlying t = some (.map k e)) {z : Value} (hz : ∀ w, (zeroValue e).run P w = .ok z w)
  (h : MapInv P k w m I) {key : Value} {l : Lit} (hk : keyOf P k key = some l) :
  ∃ v ok, (∀ w', w'.heap[m]? = w.heap[m]? → (Instr.lookup t (.map (some m)) key true).run P w' = .ok (.tuple #[v, .bool ok]) w') ∧ ((ok = true ∧ I.yes key v) ∨ (ok = false ∧ v = z ∧ ∀ b, ¬ I.all key b)) := by
 obtain ⟨es, ck, hb, hn, h, hA⟩ := h
 rcases K.find w hk es.toList (fun e he => (h e he).1) with ⟨_, hno⟩ | ⟨j, e0, _, hj, hkey⟩
 ·refine ⟨z, false, fun w' hw => ?_, .inr ⟨rfl, rfl, fun b hb => let ⟨e, he, hek, _⟩ := hA _ _ hb; hno e he hek⟩⟩
  have hb' := hw.trans hb
  have hc := K.check w' es.isEmpty hk
  rcases K.find w' hk es.toList (fun e he => (h e he).1) with ⟨hf, _⟩ | ⟨j, e0, hf, hj, hkey⟩
  ·simp [Instr.lookup, run_underlying ht, run_getObj_map w' m es ck hb', hc, hf, hz]
  ·exact absurd hkey (hno e0 (List.mem_of_getElem? hj))
 ·have hj0 : es[j]? = some e0 := by simpa using hj
  refine ⟨e0.val, true, fun w' hw => ?_, .inl ⟨rfl, by rw [← hkey]; exact (h e0 (List.mem_of_getElem? hj)).2⟩⟩
  have hb' := hw.trans hb
  have hc := K.check w' es.isEmpty hk
  rcases K.find w' hk es.toList (fun e he => (h e he).1) with ⟨_, hno⟩ | ⟨j', e1, hf, hj', hkey'⟩
  ·exact absurd hkey (hno e0 (List.mem_of_getElem? hj))
  ·have hj1 : es[j']? = some e1 := by simpa using hj'
   have := nodup_key hn hj0 hj1 (hkey.trans hkey'.symm)
   subst this
   rw [hj0] at hj1
   cases hj1
   simp [Instr.lookup, run_underlying ht, run_getObj_map w' m es ck hb', hc, hf]
theorem MapInv.update {P : Program} {t k e : TypeId} {w : World} {m : Nat} {I I' : MI} (K : KeyLaw P k) (ht : P.underlying t = some (.map k e))
  (h : MapInv P k w m I) {key v : Value} {l : Lit} (hk : keyOf P k key = some l) (hv : I'.yes key v) (hy : ∀ a b, a ≠ key → I.yes a b → I'.yes a b) (ha : ∀ a b, I'.all a b → (a = key ∧ b = v) ∨ (a ≠ key ∧ I.all a b)) :
  ∃ o, (Instr.mapUpdate t (.map (some m)) key v).run P w = .ok () (w.putObj m o) ∧ MapInv P k (w.putObj m o) m I' := by
 obtain ⟨es, ck, hb, hn, h, hA⟩ := h
 have hlt : m < w.heap.size := (Array.getElem?_eq_some_iff.1 hb).1
 have hc := K.check w false hk
 rcases K.find w hk es.toList (fun e he => (h e he).1) with ⟨hf, hno⟩ | ⟨j, e0, hf, hj, hkey⟩
 ·refine ⟨.map (es.push { key, val := v, born := ck }) (ck + 1), ?_, _, _, World.putObj_heap_same hlt, ?_, ?_, ?_⟩
  ·simp [Instr.mapUpdate, run_underlying ht, run_getObj_map w m es ck hb, hc, hf, setObj, Sem.run, hb, World.putObj]
  ·simp only [Array.toList_push, List.map_append, List.map_cons, List.map_nil]
   refine List.nodup_append.2 ⟨hn, by simp, ?_⟩
   intro a hm1 b hb'
   simp at hb'
   subst hb'
   obtain ⟨e, he, rfl⟩ := List.mem_map.1 hm1
   exact hno e he
  ·intro e he
   simp at he
   rcases he with he | rfl
   ·exact ⟨(h e (by simpa using he)).1, hy _ _ (hno e (by simpa using he)) (h e (by simpa using he)).2⟩
   ·exact ⟨⟨l, hk⟩, hv⟩
  ·intro a b hab
   rcases ha a b hab with ⟨rfl, rfl⟩ | ⟨_, h0⟩
   ·exact ⟨{ key := a, val := b, born := ck }, by simp, rfl, rfl⟩
   ·obtain ⟨e, he, h1, h2⟩ := hA a b h0
    exact ⟨e, by simp; exact .inl (by simpa using he), h1, h2⟩
 ·have hst := K.stays w hk
  have hj' : es[j]? = some e0 := by simpa using hj
  refine ⟨.map (es.modify j fun e => { e with key, val := v }) ck, ?_, _, _, World.putObj_heap_same hlt, ?_, ?_, ?_⟩
  ·simp [Instr.mapUpdate, run_underlying ht, run_getObj_map w m es ck hb, hc, hf, hj', hkey, hst, setObj, Sem.run, hb, World.putObj]
  ·have hsame : (es.modify j fun e => { e with key, val := v }).toList.map (·.key) = es.toList.map (·.key) := by
    apply List.ext_getElem?
    intro i
    simp only [List.getElem?_map, Array.getElem?_toList, Array.getElem?_modify]
    split
    ·rename_i e; subst e; simp [hj', hkey]
    ·rfl
   rw [hsame]; exact hn
  ·intro e he
   rw [Array.mem_toList_iff] at he
   obtain ⟨i, hi, hie⟩ := Array.mem_iff_getElem.1 he
   rw [Array.getElem_modify] at hie
   split at hie
   ·subst hie; exact ⟨⟨l, hk⟩, hv⟩
   ·rename_i hne
    subst hie
    have hmem : es[i]'(by simpa using hi) ∈ es.toList := by rw [Array.mem_toList_iff]; exact Array.getElem_mem _
    refine ⟨(h _ hmem).1, hy _ _ (fun hk' => hne ?_) (h _ hmem).2⟩
    exact nodup_key hn hj' (Array.getElem?_eq_getElem (by simpa using hi)) (hkey.trans hk'.symm)
  ·intro a b hab
   have hgm : ∀ i : Nat, (es.modify j fun e => { e with key, val := v }).toList[i]? = if i = j then es[i]?.map fun e => { e with key, val := v } else es[i]? := by
    intro i
    rw [Array.getElem?_toList, Array.getElem?_modify]
    by_cases hij : j = i
    ·rw [if_pos hij, if_pos hij.symm]
    ·rw [if_neg hij, if_neg (fun e => hij e.symm)]
   rcases ha a b hab with ⟨rfl, rfl⟩ | ⟨hne, h0⟩
   ·exact ⟨{ e0 with key := a, val := b }, List.mem_of_getElem? (i := j) (by rw [hgm, if_pos rfl, hj']; rfl), rfl, rfl⟩
   ·obtain ⟨e, he, h1, h2⟩ := hA a b h0
    obtain ⟨i, hi, hie⟩ := List.getElem_of_mem he
    have hi2 : es.toList[i]? = some e := by rw [List.getElem?_eq_getElem hi, hie]
    refine ⟨e, List.mem_of_getElem? (i := i) ?_, h1, h2⟩
    rw [hgm, if_neg, ← Array.getElem?_toList]
    ·exact hi2
    ·rintro rfl
     rw [Array.getElem?_toList, hj'] at hi2
     cases hi2
     exact hne (h1.symm.trans hkey)
theorem ne_of_cell_map {w : World} {a : Addr} {u : Value} {m : Nat} {es : Array MapEntry} {ck : Nat} (hc : w.cell? a = some u) (hm : w.heap[m]? = some (.map es ck)) : a.block ≠ m := by
 intro e
 unfold World.cell? at hc
 rw [e, hm] at hc
 simp at hc
theorem RowsAt.frmM {α : Type} {enc : α → List Value} {size : Nat} {w w' : World} {v : Value} {l : List α} {m : Nat} {es : Array MapEntry} {ck : Nat} (h : RowsAt enc size w w.heap.size v l) (hm : w.heap[m]? = some (.map es ck)) (hf : Frm (fun k => k = m) w w') : RowsAt enc size w' w'.heap.size v l :=
 h.of_cells hf.size fun b o u _ hc => hf.cell hc (ne_of_cell_map hc hm)
theorem RowsAt.later {α : Type} {enc : α → List Value} {size : Nat} {w w' : World} {v : Value} {l : List α} (h : RowsAt enc size w w.heap.size v l) (hf : Below w.heap.size w w') : RowsAt enc size w' w'.heap.size v l :=
 (h.below hf).mono hf.size
end Go.Sh
namespace Go
open Go.WideMaps Go.RowKit Go.Sh
def MapIv (P : Program) (k : TypeId) (w : World) (m : Nat) (I : Value → Value → Prop) : Prop := MapInv P k w m ⟨I, fun _ _ => False⟩
theorem MapIv.imp {P : Program} {k : TypeId} {w w' : World} {m : Nat} {I I' : Value → Value → Prop} (h : MapIv P k w m I) (hw : w'.heap[m]? = w.heap[m]?) (hi : ∀ a b, I a b → I' a b) : MapIv P k w' m I' :=
 MapInv.imp h hw hi (fun _ _ h => h)
theorem MapIv.made {P : Program} {k : TypeId} {I : Value → Value → Prop} (w : World) : MapIv P k (w.alloc (.map #[] 0)) w.heap.size I := MapInv.made w (fun _ _ h => h)
theorem MapIv.lookup {P : Program} {t k e : TypeId} {w : World} {m : Nat} {I : Value → Value → Prop} (K : KeyLaw P k) (ht : P.underlying t = some (.map k e)) {z : Value} (hz : ∀ w, (zeroValue e).run P w = .ok z w)
  (h : MapIv P k w m I) {key : Value} {l : Lit} (hk : keyOf P k key = some l) :
  ∃ v ok, (∀ w', w'.heap[m]? = w.heap[m]? → (Instr.lookup t (.map (some m)) key true).run P w' = .ok (.tuple #[v, .bool ok]) w') ∧ ((ok = true ∧ I key v) ∨ (ok = false ∧ v = z)) := by
 obtain ⟨v, ok, h1, h2⟩ := MapInv.lookup K ht hz h hk
 exact ⟨v, ok, h1, h2.imp id fun h => ⟨h.1, h.2.1⟩⟩
theorem MapIv.update {P : Program} {t k e : TypeId} {w : World} {m : Nat} {I : Value → Value → Prop} (K : KeyLaw P k) (ht : P.underlying t = some (.map k e))
  (h : MapIv P k w m I) {key v : Value} {l : Lit} (hk : keyOf P k key = some l) (hv : I key v) :
  ∃ o, (Instr.mapUpdate t (.map (some m)) key v).run P w = .ok () (w.putObj m o) ∧ MapIv P k (w.putObj m o) m I :=
 MapInv.update K ht h hk hv (fun _ _ _ h => h) (fun _ _ h => h.elim)
end Go
namespace Go.Sh
open Go Go.RowKit
theorem cell_two_new (w : World) (x y : Value) (t : TypeId) : ∀ j u, [x, y][j]? = some u → (w.alloc (.cells #[x, y] t)).cell? ((⟨w.heap.size, 0, none⟩ : Addr).add j) = some u := by
 intro j u hj
 match j, hj with
 | 0, hj => simp at hj; subst hj; simp [Addr.add]
 | 1, hj => simp at hj; subst hj; simp [Addr.add]
 | j + 2, hj => simp at hj
theorem apart_of {v v' : Value} {n N : Nat} (hat : v'.ownBlock = v.ownBlock ∨ v'.ownBlock = some n) (h : v.ownBlock ≠ some N) (hn : N < n) : v'.ownBlock ≠ some N := by
 rcases hat with e | e <;> rw [e]
 ·exact h
 ·intro e; cases e; exact Nat.lt_irrefl _ hn
theorem grown_cell {w w' : World} {row : Option Nat} (h : w.grownBy w' row) {a : Addr} {u : Value} (hc : w.cell? a = some u) (hr : row ≠ some a.block) : w'.cell? a = some u := by
 rw [World.cell?_of_block (h.block _ (World.block_lt_of_cell? _ _ hc) (fun e => hr e.symm))]; exact hc
theorem grown_frozen {w w' : World} {row : Option Nat} (h : w.grownBy w' row) {a : Addr} (ha : a.block < w.heap.size) (hr : row ≠ some a.block) : w'.frozen? a = w.frozen? a :=
 World.frozen?_of_block (h.block _ ha (fun e => hr e.symm))
theorem grown_below {B : Nat} {a w w' : World} {v : Value} {e : TypeId} {size n : Nat} {xs : List Value} (h : Below B a w) (ho : w.ownsRow B e size v n xs) (hg : w.grownBy w' v.ownBlock) (hB : B ≤ w.heap.size) : Below B a w' := by
 refine h.trans ⟨hg.os, hg.tape, hg.output, hg.size, fun k hk => ?_⟩
 refine hg.block k (Nat.lt_of_lt_of_le hk hB) fun e => ?_
 have := (ho.lt k e.symm).1
 omega
theorem two_set {w : World} {N : Nat} {x y u v : Value} (h0 : w.cell? ⟨N, 0, none⟩ = some u) (h1 : w.cell? ⟨N, 1, none⟩ = some v) (f0 : w.frozen? ⟨N, 0, none⟩ = false) (f1 : w.frozen? ⟨N, 1, none⟩ = false) (o : Obj) :
  (((w.setCell ⟨N, 0, none⟩ x).setCell ⟨N, 1, none⟩ y).alloc o).cell? ⟨N, 0, none⟩ = some x ∧ (((w.setCell ⟨N, 0, none⟩ x).setCell ⟨N, 1, none⟩ y).alloc o).cell? ⟨N, 1, none⟩ = some y ∧
  (((w.setCell ⟨N, 0, none⟩ x).setCell ⟨N, 1, none⟩ y).alloc o).frozen? ⟨N, 0, none⟩ = false ∧ (((w.setCell ⟨N, 0, none⟩ x).setCell ⟨N, 1, none⟩ y).alloc o).frozen? ⟨N, 1, none⟩ = false ∧
  (∀ B, B ≤ N → Below B w (((w.setCell ⟨N, 0, none⟩ x).setCell ⟨N, 1, none⟩ y).alloc o)) ∧ N < w.heap.size := by
 have hN : N < w.heap.size := World.block_lt_of_cell? _ _ h0
 refine ⟨?_, ?_, ?_, ?_, ?_, hN⟩
 ·rw [World.cell?_alloc_lt _ _ _ (by simpa using hN)]; simp [go_sem, h0, h1]
 ·rw [World.cell?_alloc_lt _ _ _ (by simpa using hN)]; simp [go_sem, h0, h1]
 ·rw [World.frozen?_alloc_past _ _ _ (by simpa using hN)]; simp [go_sem, f0]
 ·rw [World.frozen?_alloc_past _ _ _ (by simpa using hN)]; simp [go_sem, f1]
 ·intro B hB
  exact (((Below.refl B w).setCell hB _).setCell hB _).alloc (by simp; omega) _
theorem ownsRow_frm {w w' : World} {base : Nat} {e : TypeId} {size : Nat} {v : Value} {n : Nat} {xs : List Value} {S : Nat → Prop} (h : w.ownsRow base e size v n xs) (hf : Frm S w w') (hs : ∀ k, v.ownBlock = some k → ¬ S k) : w'.ownsRow base e size v n xs := by
 obtain ⟨hx, h⟩ := h
 refine ⟨hx, ?_⟩
 rcases h with h | ⟨g, cap, cur, rfl, hb, hh, hr⟩
 ·exact Or.inl h
 ·exact Or.inr ⟨g, cap, cur, rfl, hb, (hf.block g (Array.getElem?_eq_some_iff.1 hh).1 (hs g rfl)).trans hh, hr⟩
def lenV : Value → Nat
 | .slice _ n _ => n
 | _ => 0
theorem owns_slice {w : World} {B : Nat} {v : Value} {e : TypeId} {size n : Nat} {xs : List Value} (h : w.ownsRow B e size v n xs) : ∃ ao cap, v = .slice ao n cap := by
 rcases h.2 with ⟨rfl, rfl⟩ | ⟨g, cap, cur, rfl, _⟩
 ·exact ⟨_, _, rfl⟩
 ·exact ⟨_, _, rfl⟩
structure Rnd (S T T' : Nat → Prop) (A B : World) : Prop where
 frm : Frm (fun k => S k ∨ T k) A B
 grow : ∀ k, T' k → T k ∨ A.heap.size ≤ k
 keep : ∀ k, T k → T' k
 lt : ∀ k, T' k → k < B.heap.size
theorem Rnd.trans {S T T' T'' : Nat → Prop} {A B C : World} (h : Rnd S T T' A B) (k : Rnd S T' T'' B C) : Rnd S T T'' A C :=
 ⟨⟨k.frm.os.trans h.frm.os, k.frm.tape.trans h.frm.tape, k.frm.output.trans h.frm.output, Nat.le_trans h.frm.size k.frm.size, fun i hi hs => by
   refine (k.frm.block i (Nat.lt_of_lt_of_le hi h.frm.size) fun hq => ?_).trans (h.frm.block i hi hs)
   rcases hq with hq | hq
   ·exact hs (.inl hq)
   ·rcases h.grow i hq with ht | hge
    ·exact hs (.inr ht)
    ·omega⟩,
  fun i hi => by
   rcases k.grow i hi with ht | hge
   ·exact h.grow i ht
   ·exact .inr (Nat.le_trans h.frm.size hge),
  fun i hi => k.keep i (h.keep i hi), k.lt⟩
theorem Rnd.refl {S T : Nat → Prop} {A : World} (h : ∀ k, T k → k < A.heap.size) : Rnd S T T A A := ⟨Frm.refl _ _, fun _ h => .inl h, fun _ h => h, h⟩
theorem Rnd.of_frm {S T : Nat → Prop} {A B : World} (h : Frm S A B) (ht : ∀ k, T k → k < A.heap.size) : Rnd S T T A B :=
 ⟨h.mono fun _ _ hs => .inl hs, fun _ h => .inl h, fun _ h => h, fun k hk => Nat.lt_of_lt_of_le (ht k hk) h.size⟩
theorem Rnd.block {S T T' : Nat → Prop} {A B : World} (h : Rnd S T T' A B) {k : Nat} (hk : k < A.heap.size) (hs : ¬ S k) (ht : ¬ T k) : B.heap[k]? = A.heap[k]? ∧ ¬ T' k :=
 ⟨h.frm.block k hk (fun hq => hq.elim hs ht), fun h' => (h.grow k h').elim ht (fun hge => by omega)⟩
theorem Rnd.pre {S T T' : Nat → Prop} {A B C : World} (h : Rnd S T T' B C) (hb : Below A.heap.size A B) : Rnd S T T' A C :=
 ⟨(Frm.of_below hb).trans h.frm, fun k hk => (h.grow k hk).elim .inl fun h => .inr (Nat.le_trans hb.size h), h.keep, h.lt⟩
structure GoodW (S : Nat → Prop) (G : (Nat → Prop) → World → Prop) : Prop where
 below : ∀ {T A B}, G T A → Below A.heap.size A B → G T B
 put : ∀ {T A l o} (o' : Obj), G T A → A.heap[l]? = some o → o.isCells = false → ¬ S l → G T (A.putObj l o')
 add : ∀ {T A l o}, G T A → A.heap[l]? = some o → o.isCells = false → ¬ S l → G (fun k => T k ∨ k = l) A
 sub : ∀ {T T' A}, G T A → (∀ k, T' k → T k) → G T' A
theorem RowsAt.putObj {α : Type} {enc : α → List Value} {size : Nat} {w : World} {v : Value} {xs : List α} {l : Nat} {o : Obj} (o' : Obj) (h : RowsAt enc size w w.heap.size v xs) (hl : w.heap[l]? = some o) (ho : o.isCells = false) : RowsAt enc size (w.putObj l o') (w.putObj l o').heap.size v xs :=
 h.of_cells (by simp) fun b' off' u' _ hc => by
  rw [World.cell?_of_block (World.putObj_heap_other ?_)]; exact hc
  rintro rfl
  obtain ⟨o2, h2, h3⟩ := cells_of_cell hc
  simp only at h2
  rw [hl] at h2; cases h2; rw [ho] at h3; cases h3
theorem cell_putObj {w : World} {a : Addr} {v : Value} {l : Nat} {o : Obj} (o' : Obj) (h : w.cell? a = some v) (hl : w.heap[l]? = some o) (ho : o.isCells = false) : (w.putObj l o').cell? a = some v := by
 rw [World.cell?_of_block (World.putObj_heap_other ?_)]; exact h
 rintro rfl
 obtain ⟨o2, h2, h3⟩ := cells_of_cell h
 rw [hl] at h2; cases h2; rw [ho] at h3; cases h3
def Abd {β : Type} (S : Nat → Prop) (G : (Nat → Prop) → World → Prop) (n₀ : Nat) (J : (Nat → Prop) → β → World → Prop) : Prop :=
 ∀ T s A B, J T s A → G T A → G T B → (∀ k, T k → k < A.heap.size) → Frm (fun k => S k ∨ (n₀ ≤ k ∧ ¬ T k)) A B → J T s B
def Seq {α : Type} (P : Program) (S : Nat → Prop) (G : (Nat → Prop) → World → Prop) (U : Nat → Prop) (g : Nat) (lb : Array Value) (encs : α → Array Value) (xs : List α) (w : World) : Prop :=
 ∀ (l : Nat) (T : Nat → Prop) (J Jx : (Nat → Prop) → List α → World → Prop) (W : World), Below w.heap.size w W → G T W → (∀ k, T k → k < W.heap.size) → (∀ k, U k → ¬ T k) →
  Abd S G W.heap.size J → Abd S G W.heap.size Jx →
  (∀ T pre x A, J T pre A → G T A → (∀ k, T k → k < A.heap.size) → pre ++ [x] <+: xs → YieldAt Fence.wide 0 P l (encs x) A fun e B =>
   ∃ T', Rnd S T T' A B ∧ G T' B ∧ ((e = .returned (.bool true) ∧ J T' (pre ++ [x]) B) ∨ (e = .returned (.bool false) ∧ Jx T' (pre ++ [x]) B))) →
  J T [] W →
  CallsIn Fence.wide 0 P g (#[.func (.yield l) #[] #[]] ++ lb) W fun e B => (∃ v, e = .returned v) ∧ ∃ T', Rnd S T T' W B ∧ G T' B ∧ (J T' xs B ∨ ∃ pre, pre <+: xs ∧ Jx T' pre B)
def rngPost {α : Type} (S : Nat → Prop) (G : (Nat → Prop) → World → Prop) (I : (Nat → Prop) → List α → World → Prop) (Ix : Code → (Nat → Prop) → List α → World → Prop) (xs : List α) (T : Nat → Prop) (W : World) : Exit → Act → World → Prop
 | .normal, _, B => ∃ T', Rnd S T T' W B ∧ G T' B ∧ I T' xs B
 | .ret, _, B => ∃ T', Rnd S T T' W B ∧ G T' B ∧ Ix .ret T' xs B
 | .exit id, _, B => ∃ T', Rnd S T T' W B ∧ G T' B ∧ Ix (.exit id) T' xs B
 | .goto t, _, B => ∃ T', Rnd S T T' W B ∧ G T' B ∧ Ix (.goto t) T' xs B
 | .panic _, _, _ => False
 | .outgrown, _, _ => False
variable {P : Program}
theorem frm_put {S : Nat → Prop} {A : World} {l : Nat} (o : Obj) (h : S l) : Frm S A (A.putObj l o) := Frm.putObj (Frm.refl _ _) (.inl h) o
theorem wpIn_range {α : Type} {g : Operand} {ps : Array Tmp} {assign body : Code} {Q : Exit → Act → World → Prop} {a : Act} {w : World}
  {gf : Nat} {lb : Array Value} (hg : a.eval g = .func (.func gf) #[] lb) (eg : ∀ args w, (callFunc gf args).run P w = .ok (.enter gf args) w)
  {S : Nat → Prop} {G : (Nat → Prop) → World → Prop} (hG : GoodW S G) {U : Nat → Prop} {encs : α → Array Value} {xs : List α} {w0 : World} (hseq : Seq P S G U gf lb encs xs w0) (hb0 : Below w0.heap.size w0 w) (hps : ∀ x, (encs x).size = ps.size)
  (hS : ∀ k, S k → k < w.heap.size) (T0 : Nat → Prop) (hT0 : ∀ k, T0 k → k < w.heap.size) (hU : ∀ k, U k → ¬ T0 k ∧ k < w.heap.size) (hgw : G T0 w)
  (I : (Nat → Prop) → List α → World → Prop) (Ix : Code → (Nat → Prop) → List α → World → Prop) (hI : Abd S G w.heap.size I) (hIx : ∀ c, Abd S G w.heap.size (Ix c)) (h0 : I T0 [] w)
  (Ax : α → Act → World → Prop) (hAx : ∀ x a' A l o o', Ax x a' A → A.heap[l]? = some o → o.isCells = false → Ax x a' (A.putObj l o'))
  (hassign : ∀ (l : Nat) (T : Nat → Prop) (pre : List α) (x : α) (W : World) (K : Act → World → Prop), I T pre W → G T W → (∀ k, T k → k < W.heap.size) → w.heap.size ≤ W.heap.size → (∀ a' W', Below W.heap.size W W' → Ax x a' W' → K a' W') →
   assign.wpIn (Fence.wide.inRound l) 0 P (Exit.then K (fun _ _ _ => False)) { tmps := (ps.zip (encs x)).foldl (fun t (p, v) => t.setIfInBounds p v) a.tmps, defers := [] } W)
  (hbody : ∀ (l : Nat) (T : Nat → Prop) (pre : List α) (x : α) (a' : Act) (W : World), I T pre W → G T W → (∀ k, T k → k < W.heap.size) → w.heap.size ≤ W.heap.size → Rnd S T0 T w W → Ax x a' W → pre ++ [x] <+: xs → body.wpIn (Fence.wide.inRound l) 0 P (rngPost S G I Ix (pre ++ [x]) T W) a' W)
  (hdone : ∀ (D : Nat) (T : Nat → Prop) (W : World), w.heap.size ≤ D → ¬ T D → Rnd S T0 T w W → G T W → I T xs W → W.heap[D]? = some (.deferred (some [])) → Q .normal { a with defers := { target := .collected D, args := #[] } :: a.defers } W)
  (hstop : ∀ (D : Nat) (c : Code) (T : Nat → Prop) (pre : List α) (W : World), w.heap.size ≤ D → ¬ T D → Rnd S T0 T w W → G T W → pre <+: xs → Ix c T pre W → W.heap[D]? = some (.deferred (some [])) → c.wpIn Fence.wide 0 P Q { a with defers := { target := .collected D, args := #[] } :: a.defers } W) :
  (Code.rangeFunc g ps assign body).wpIn Fence.wide 0 P Q a w := by
 refine wpIn_rangeFunc ?_
 intro fn hfn
 obtain ⟨rec, hrec⟩ : ∃ rec : LoopState → Option Code → Loop, rec = fun st pe => { state := st, pending := pe, fn, tmps := a.tmps, params := ps, assign, body, defers := w.heap.size } := ⟨_, rfl⟩
 obtain ⟨W1, hW1⟩ : ∃ W1, (w.alloc (.deferred (some []))).alloc (.loop (rec .ready none)) = W1 := ⟨_, rfl⟩
 have hL1 : W1.heap[w.heap.size + 1]? = some (.loop (rec .ready none)) := by
  rw [← hW1]; have := World.alloc_heap_new (w.alloc (.deferred (some []))) (.loop (rec .ready none)); rwa [World.size_alloc] at this
 have hK1 : W1.heap[w.heap.size]? = some (.deferred (some [])) := by
  rw [← hW1]; exact (Below.heap_alloc _ _ _ (by simp)).trans (World.alloc_heap_new w _)
 have hbw : Below w.heap.size w W1 := by rw [← hW1]; exact ((Below.refl _ w).alloc (Nat.le_refl _) _).alloc (by simp) _
 have hs1 : W1.heap.size = w.heap.size + 2 := by rw [← hW1]; simp
 have hg1 : G T0 W1 := hG.below hgw hbw
 have hI1 : I T0 [] W1 := hI _ _ _ _ h0 hgw hg1 hT0 (.of_below hbw)
 refine ⟨w.heap.size + 1, [{ target := .collected w.heap.size, args := #[] }], W1, { target := .fn (.func gf) lb, args := #[.func (.yield (w.heap.size + 1)) #[] #[]] }, W1, gf,
  #[.func (.yield (w.heap.size + 1)) #[] #[]] ++ lb, W1, ?_, ?_, ?_, ?_, ?_, ?_⟩
 ·rw [← hW1, hrec]; exact run_enterLoop_outer _ _ _ _ _
 ·simp only [resolve, hg]
  simp [go_sem]
 ·intro f' _; trivial
 ·simp [invoke, go_sem, eg]
 ·intro h; cases h
 ·-- the set of the caller's blocks, with the record
  refine (hseq (w.heap.size + 1) (fun k => T0 k ∨ k = w.heap.size + 1)
   (fun T pre W => ∃ T', (T = fun k => T' k ∨ k = w.heap.size + 1) ∧ I T' pre W ∧ Rnd S T0 T' w W ∧ ¬ T' w.heap.size ∧ ¬ T' (w.heap.size + 1) ∧ W.heap[w.heap.size + 1]? = some (.loop (rec .ready none)) ∧ W.heap[w.heap.size]? = some (.deferred (some [])))
   (fun T pre W => ∃ c T', (T = fun k => T' k ∨ k = w.heap.size + 1) ∧ Ix c T' pre W ∧ Rnd S T0 T' w W ∧ ¬ T' w.heap.size ∧ ¬ T' (w.heap.size + 1) ∧ W.heap[w.heap.size + 1]? = some (.loop (rec .done (some c))) ∧ W.heap[w.heap.size]? = some (.deferred (some [])))
   W1 (hb0.trans (hbw.mono hb0.size)) (hG.add hg1 hL1 rfl (fun h => by have := hS _ h; omega)) ?_ ?_ ?_ ?_ ?_ ?_).mono ?_
  ·rintro k (hk | rfl)
   ·have := hT0 k hk; omega
   ·omega
  ·rintro k hk (ht | rfl)
   ·exact (hU k hk).1 ht
   ·have := (hU _ hk).2; omega
  ·rintro T pre A B ⟨T', rfl, hi, hr, hd, hl, hL, hK⟩ hgA hgB hlt hf
   have hf' : Frm (fun k => S k ∨ (w.heap.size ≤ k ∧ ¬ T' k)) A B := hf.mono fun k _ hk => hk.elim .inl fun h => .inr ⟨by have := h.1; omega, fun h' => h.2 (.inl h')⟩
   refine ⟨T', rfl, hI _ _ _ _ hi (hG.sub hgA fun _ => .inl) (hG.sub hgB fun _ => .inl) (fun k hk => hlt k (.inl hk)) hf', ?_, hd, hl, ?_, ?_⟩
   ·refine ⟨⟨hf.os.trans hr.frm.os, hf.tape.trans hr.frm.tape, hf.output.trans hr.frm.output, Nat.le_trans hr.frm.size hf.size, fun k hk hs => ?_⟩, hr.grow, hr.keep, fun k hk => Nat.lt_of_lt_of_le (hr.lt k hk) hf.size⟩
    refine (hf.block k (Nat.lt_of_lt_of_le hk hr.frm.size) fun hq => ?_).trans (hr.frm.block k hk hs)
    rcases hq with hq | hq
    ·exact hs (.inl hq)
    ·have := hq.1; omega
   ·refine (hf.block _ (Array.getElem?_eq_some_iff.1 hL).1 fun hq => ?_).trans hL
    rcases hq with hq | hq
    ·have := hS _ hq; omega
    ·exact hq.2 (.inr rfl)
   ·refine (hf.block _ (Array.getElem?_eq_some_iff.1 hK).1 fun hq => ?_).trans hK
    rcases hq with hq | hq
    ·have := hS _ hq; omega
    ·have := hq.1; omega
  ·rintro T pre A B ⟨c, T', rfl, hi, hr, hd, hl, hL, hK⟩ hgA hgB hlt hf
   have hf' : Frm (fun k => S k ∨ (w.heap.size ≤ k ∧ ¬ T' k)) A B := hf.mono fun k _ hk => hk.elim .inl fun h => .inr ⟨by have := h.1; omega, fun h' => h.2 (.inl h')⟩
   refine ⟨c, T', rfl, hIx c _ _ _ _ hi (hG.sub hgA fun _ => .inl) (hG.sub hgB fun _ => .inl) (fun k hk => hlt k (.inl hk)) hf', ?_, hd, hl, ?_, ?_⟩
   ·refine ⟨⟨hf.os.trans hr.frm.os, hf.tape.trans hr.frm.tape, hf.output.trans hr.frm.output, Nat.le_trans hr.frm.size hf.size, fun k hk hs => ?_⟩, hr.grow, hr.keep, fun k hk => Nat.lt_of_lt_of_le (hr.lt k hk) hf.size⟩
    refine (hf.block k (Nat.lt_of_lt_of_le hk hr.frm.size) fun hq => ?_).trans (hr.frm.block k hk hs)
    rcases hq with hq | hq
    ·exact hs (.inl hq)
    ·have := hq.1; omega
   ·refine (hf.block _ (Array.getElem?_eq_some_iff.1 hL).1 fun hq => ?_).trans hL
    rcases hq with hq | hq
    ·have := hS _ hq; omega
    ·exact hq.2 (.inr rfl)
   ·refine (hf.block _ (Array.getElem?_eq_some_iff.1 hK).1 fun hq => ?_).trans hK
    rcases hq with hq | hq
    ·have := hS _ hq; omega
    ·have := hq.1; omega
  ·-- ONE ROUND
   rintro T pre x W ⟨T', rfl, hi, hrn, hd, hnl, hl, hk⟩ hgW0 hlt hpre
   have hgW : G T' W := hG.sub hgW0 fun _ => .inl
   have hTlt : ∀ k, T' k → k < W.heap.size := fun k hk => hlt k (.inl hk)
   have hsW : w.heap.size ≤ W.heap.size := hrn.frm.size
   have hy := run_yield (P := P) (args := encs x) hl (by rw [hrec]; exact hps x)
   rw [hrec] at hy
   refine ⟨fn, _, assign, body, hy, roundIn_of_wpIn hfn (hassign _ T' pre x W _ hi hgW hTlt hsW ?_)⟩
   clear hy
   intro a' Wa hba hax
   have hla : Wa.heap[w.heap.size + 1]? = some (.loop (rec .ready none)) := (hba.block _ (Array.getElem?_eq_some_iff.1 hl).1).trans hl
   have hka : Wa.heap[w.heap.size]? = some (.deferred (some [])) := (hba.block _ (Array.getElem?_eq_some_iff.1 hk).1).trans hk
   refine ⟨_, run_beginRound hla (by rw [hrec]), ?_⟩
   obtain ⟨Wb, hWb⟩ : ∃ Wb, Wa.putObj (w.heap.size + 1) (.loop { rec .ready none with state := .busy }) = Wb := ⟨_, rfl⟩
   have hnS : ¬ S (w.heap.size + 1) := fun h => by have := hS _ h; omega
   have hnSD : ¬ S w.heap.size := fun h => by have := hS _ h; omega
   have hga : G T' Wa := hG.below hgW hba
   have hgb : G T' Wb := by rw [← hWb]; exact hG.put _ hga hla rfl hnS
   have hlb : Wb.heap[w.heap.size + 1]? = some (.loop { rec .ready none with state := .busy }) := by rw [← hWb]; exact World.putObj_heap_same (Array.getElem?_eq_some_iff.1 hla).1
   have hkb : Wb.heap[w.heap.size]? = some (.deferred (some [])) := by rw [← hWb]; exact (World.putObj_heap_other (by omega)).trans hka
   have hfab : Frm (fun k => S k ∨ (w.heap.size ≤ k ∧ ¬ T' k)) W Wb := by
    rw [← hWb]; exact (Frm.of_below hba).putObj (.inl (.inr ⟨by omega, hnl⟩)) _
   have hib : I T' pre Wb := hI _ _ _ _ hi hgW hgb hTlt hfab
   have haxb : Ax x a' Wb := by rw [← hWb]; exact hAx _ _ _ _ _ _ hax hla rfl
   have hsb : W.heap.size ≤ Wb.heap.size := hfab.size
   have hfwb : Frm (fun k => S k ∨ T0 k) w Wb := by
    rw [← hWb]; exact (hrn.frm.trans (.of_below hba)).putObj (.inr (by omega)) _
   rw [hWb]
   refine wpIn_mono (hbody _ T' pre x a' Wb hib hgb (fun k hk => Nat.lt_of_lt_of_le (hTlt k hk) hsb) (Nat.le_trans hsW hsb) ⟨hfwb, hrn.grow, hrn.keep, fun k hk => Nat.lt_of_lt_of_le (hTlt k hk) hsb⟩ haxb hpre) ?_
   have fin : ∀ (jump : Option Code) (T2 : Nat → Prop) (W3 : World), Rnd S T' T2 Wb W3 → G T2 W3 →
     (Instr.endRound (w.heap.size + 1) jump).run P W3 = .ok (.bool jump.isNone) (W3.putObj (w.heap.size + 1) (.loop (rec (if jump.isNone then .ready else .done) jump))) ∧
     Rnd S (fun k => T' k ∨ k = w.heap.size + 1) (fun k => T2 k ∨ k = w.heap.size + 1) W (W3.putObj (w.heap.size + 1) (.loop (rec (if jump.isNone then .ready else .done) jump))) ∧
     (G T2 (W3.putObj (w.heap.size + 1) (.loop (rec (if jump.isNone then .ready else .done) jump))) ∧ G (fun k => T2 k ∨ k = w.heap.size + 1) (W3.putObj (w.heap.size + 1) (.loop (rec (if jump.isNone then .ready else .done) jump)))) ∧
     Rnd S T0 T2 w (W3.putObj (w.heap.size + 1) (.loop (rec (if jump.isNone then .ready else .done) jump))) ∧
     Frm (fun k => S k ∨ (w.heap.size ≤ k ∧ ¬ T2 k)) W3 (W3.putObj (w.heap.size + 1) (.loop (rec (if jump.isNone then .ready else .done) jump))) ∧
     ¬ T2 w.heap.size ∧ ¬ T2 (w.heap.size + 1) ∧
     (W3.putObj (w.heap.size + 1) (.loop (rec (if jump.isNone then .ready else .done) jump))).heap[w.heap.size + 1]? = some (.loop (rec (if jump.isNone then .ready else .done) jump)) ∧
     (W3.putObj (w.heap.size + 1) (.loop (rec (if jump.isNone then .ready else .done) jump))).heap[w.heap.size]? = some (.deferred (some [])) := fun jump T2 W3 hr3 hg3 => by
    have b1 := hr3.block (Array.getElem?_eq_some_iff.1 hlb).1 hnS hnl
    have b2 := hr3.block (Array.getElem?_eq_some_iff.1 hkb).1 hnSD hd
    have hl3 : W3.heap[w.heap.size + 1]? = some (.loop { rec .ready none with state := .busy }) := b1.1.trans hlb
    have hk3 : W3.heap[w.heap.size]? = some (.deferred (some [])) := b2.1.trans hkb
    have hrun := run_endRound (P := P) jump hl3
    have hl3' := hl3
    rw [hrec] at hrun hl3' ⊢
    have hfW : Frm (fun k => S k ∨ (T' k ∨ k = w.heap.size + 1)) W W3 := by
     have h1 : Frm (fun k => S k ∨ (T' k ∨ k = w.heap.size + 1)) W Wb := by rw [← hWb]; exact (Frm.of_below hba).putObj (.inl (.inr (.inr rfl))) _
     exact h1.trans (hr3.frm.mono fun k _ hk => hk.elim .inl fun h => .inr (.inl h))
    have hTW : ∀ k, T2 k → T' k ∨ W.heap.size ≤ k := fun k hk => (hr3.grow k hk).elim .inl fun h => .inr (Nat.le_trans hsb h)
    refine ⟨hrun, ⟨hfW.putObj (.inl (.inr (.inr rfl))) _, fun k hk => hk.elim (fun h => (hTW k h).elim (fun h => .inl (.inl h)) .inr) (fun h => .inl (.inr h)), fun k hk => hk.elim (fun h => .inl (hr3.keep k h)) .inr, ?_⟩, ⟨hG.put _ hg3 hl3' rfl hnS, hG.add (hG.put _ hg3 hl3' rfl hnS) (World.putObj_heap_same (Array.getElem?_eq_some_iff.1 hl3).1) rfl hnS⟩, ?_, frm_put _ (.inr ⟨by omega, b1.2⟩), b2.2, b1.2, World.putObj_heap_same (Array.getElem?_eq_some_iff.1 hl3).1, (World.putObj_heap_other (by omega)).trans hk3⟩
    ·rintro k (hk | rfl)
     ·simpa using hr3.lt k hk
     ·simpa using (Array.getElem?_eq_some_iff.1 hl3).1
    ·have h1 : Rnd S T0 T' w Wb := ⟨hfwb, hrn.grow, hrn.keep, fun k hk => Nat.lt_of_lt_of_le (hTlt k hk) hsb⟩
     have h2 := h1.trans hr3
     exact ⟨h2.frm.putObj (.inr (by omega)) _, h2.grow, h2.keep, fun k hk => by simpa using h2.lt k hk⟩
   rintro e a3 W3 hp
   cases e with
   | normal =>
    obtain ⟨T2, hr3, hg3, hi3⟩ := hp
    obtain ⟨f1, f2, ⟨f3, f3'⟩, f4, f5, f6, f7, f8, f9⟩ := fin none T2 W3 hr3 hg3
    exact ⟨_, _, f1, _, f2, f3', .inl ⟨rfl, T2, rfl, hI _ _ _ _ hi3 hg3 f3 hr3.lt f5, f4, f6, f7, f8, f9⟩⟩
   | ret =>
    obtain ⟨T2, hr3, hg3, hi3⟩ := hp
    obtain ⟨f1, f2, ⟨f3, f3'⟩, f4, f5, f6, f7, f8, f9⟩ := fin (some .ret) T2 W3 hr3 hg3
    exact ⟨_, _, f1, _, f2, f3', .inr ⟨rfl, .ret, T2, rfl, hIx _ _ _ _ _ hi3 hg3 f3 hr3.lt f5, f4, f6, f7, f8, f9⟩⟩
   | exit id =>
    obtain ⟨T2, hr3, hg3, hi3⟩ := hp
    obtain ⟨f1, f2, ⟨f3, f3'⟩, f4, f5, f6, f7, f8, f9⟩ := fin (some (.exit id)) T2 W3 hr3 hg3
    exact ⟨_, _, f1, _, f2, f3', .inr ⟨rfl, .exit id, T2, rfl, hIx _ _ _ _ _ hi3 hg3 f3 hr3.lt f5, f4, f6, f7, f8, f9⟩⟩
   | goto t =>
    obtain ⟨T2, hr3, hg3, hi3⟩ := hp
    obtain ⟨f1, f2, ⟨f3, f3'⟩, f4, f5, f6, f7, f8, f9⟩ := fin (some (.goto t)) T2 W3 hr3 hg3
    exact ⟨_, _, f1, _, f2, f3', .inr ⟨rfl, .goto t, T2, rfl, hIx _ _ _ _ _ hi3 hg3 f3 hr3.lt f5, f4, f6, f7, f8, f9⟩⟩
   | panic ch => exact hp.elim
   | outgrown => exact hp.elim
  ·exact ⟨T0, rfl, hI1, ⟨.of_below hbw, fun _ h => .inl h, fun _ h => h, fun k hk => by have := hT0 k hk; omega⟩, fun h => by have := hT0 _ h; omega, fun h => by have := hT0 _ h; omega, hL1, hK1⟩
  ·-- BEHIND THE ITERATOR
   have hnS : ¬ S (w.heap.size + 1) := fun h => by have := hS _ h; omega
   rintro e W2 ⟨⟨v, rfl⟩, T, _, hg2, (⟨T', rfl, hi, hr, hd, hnl, hl, hk⟩ | ⟨pre, hpre, c, T', rfl, hi, hr, hd, hnl, hl, hk⟩)⟩
   ·have hg2 := hG.sub (T' := T') hg2 fun _ => .inl
    have hg3 := fun o' => hG.put (l := w.heap.size + 1) o' hg2 hl rfl hnS
    refine ⟨none, _, by have := run_endLoop (P := P) hl (by rw [hrec]; simp); rw [hrec] at this; exact this, hdone _ T' _ (Nat.le_refl _) hd ⟨hr.frm.putObj (.inr (by omega)) _, hr.grow, hr.keep, fun k hk => by simpa using hr.lt k hk⟩ (hg3 _) (hI _ _ _ _ hi hg2 (hg3 _) hr.lt (frm_put _ (.inr ⟨by omega, hnl⟩))) ((World.putObj_heap_other (by omega)).trans hk)⟩
   ·have hg2 := hG.sub (T' := T') hg2 fun _ => .inl
    have hg3 := fun o' => hG.put (l := w.heap.size + 1) o' hg2 hl rfl hnS
    refine ⟨some c, _, by have := run_endLoop (P := P) hl (by rw [hrec]; simp); rw [hrec] at this; exact this, hstop _ c T' pre _ (Nat.le_refl _) hd ⟨hr.frm.putObj (.inr (by omega)) _, hr.grow, hr.keep, fun k hk => by simpa using hr.lt k hk⟩ (hg3 _) hpre (hIx c _ _ _ _ hi hg2 (hg3 _) hr.lt (frm_put _ (.inr ⟨by omega, hnl⟩))) ((World.putObj_heap_other (by omega)).trans hk)⟩
variable {P : Program}
theorem run_copy_rowN (w : World) (dT sT ty elem : TypeId) (g o dLen dCap : Nat) (a : Addr) (sLen sCap size : Nat) (cur : Array Value) (t : TypeId) (cs : List Value)
  (hu : P.underlying dT = some (.slice elem)) (hs : (P.info? elem).map (·.size) = some size)
  (hg : w.heap[g]? = some (.cells cur t (0, 0))) (hn : cs.length = Nat.min sLen dLen * size)
  (hsrc : ∀ j v, cs[j]? = some v → w.cell? (a.add j) = some v) (hfit : o + cs.length ≤ cur.size) (h1 : ∀ v ∈ cs, v.oneCell' = true) :
  (Builtin.copy_ #[dT, sT] ty #[.slice (some ⟨g, o, none⟩) dLen dCap, .slice (some a) sLen sCap]).run P w =
   .ok (goInt (Nat.min sLen dLen)) (w.setRow g (cur.toList.take o ++ cs ++ cur.toList.drop (o + cs.length)).toArray) := by
 have hl := run_loadCells_list (P := P) w a cs hsrc
 have hst := run_storeCells_at P g o t cs 0 cur w hg (by simpa using hfit) h1
 cases hq : P.info? elem with
 | none => simp [hq] at hs
 | some i =>
  have hi : i.size = size := by simpa [hq] using hs
  simp [Builtin.copy_, run_underlying hu, Builtin.lenOf, Builtin.firstCells, sizeOf, typeInfo, hq, hi, ← hn, hl, hst]
theorem run_copy_noneN (w : World) (dT sT ty elem : TypeId) (d a : Option Addr) (dCap sCap size : Nat) (hu : P.underlying dT = some (.slice elem)) (hs : (P.info? elem).map (·.size) = some size) :
  (Builtin.copy_ #[dT, sT] ty #[.slice d 0 dCap, .slice a 0 sCap]).run P w = .ok (goInt 0) w := by
 cases hq : P.info? elem with
 | none => simp [hq] at hs
 | some i =>
  have hl : ∀ (x : Addr), (loadCells x 0).run P w = .ok #[] w := fun x => by simpa using run_loadCells_list (P := P) w x [] (by simp)
  cases d <;> cases a <;> simp [Builtin.copy_, run_underlying hu, Builtin.lenOf, Builtin.firstCells, sizeOf, typeInfo, hq, storeCells, hl]
theorem wpList_copy_rows {α : Type} {enc : α → List Value} {size : Nat} (he : ∀ x, (enc x).length = size) (hone : ∀ x, ∀ v ∈ enc x, v.oneCell' = true) (hpos : 0 < size)
  {w : World} {ops : Array Oper} {rest : List Oper} {o : Oper} {a : Act} {Q : Exit → Act → World → Prop} (hgd : o.guard = none) (d s : Operand) (dT sT : TypeId)
  (ho : o.op = .call { callee := .builtin .copy, args := #[d, s], argTypes := #[dT, sT] }) (elem : TypeId) (hu : P.underlying dT = some (.slice elem)) (hsz : (P.info? elem).map (·.size) = some size)
  (g : Nat) (sv : Value) (l : List α) (hd : a.eval d = .slice (some ⟨g, 0, none⟩) l.length l.length) (hs : a.eval s = sv) (hr : RowsAt enc size w w.heap.size sv l)
  (cur : Array Value) (t : TypeId) (hg : w.heap[g]? = some (.cells cur t (0, 0))) (hcur : cur.size = l.length * size) (B : Nat) (w0 : World) (hb : Below B w0 w) (hBg : B ≤ g)
  (h : ∀ w', RowsAt enc size w' w'.heap.size (.slice (some ⟨g, 0, none⟩) l.length l.length) l → Below B w0 w' → wpList P ops Q rest (a.put o.dst (goInt l.length)) w') :
  wpList P ops Q (o :: rest) a w := by
 obtain ⟨ao, cap, rfl, hlen, hrow⟩ := hr
 refine wpList_plain hgd fun K hK => ?_
 by_cases hl : l = []
 ·subst hl
  have hrun := run_copy_noneN (P := P) w dT sT o.type elem (some ⟨g, 0, none⟩) ao 0 cap size hu hsz
  unfold Oper.wp
  simp only [List.length_nil] at hd hs
  simp [execOp, ho, resolve, invoke, builtin, hd, hs, hrun, Result.andThen]
  exact hK _ _ (by simpa using h w ⟨_, _, rfl, by simp, fun h => absurd rfl h⟩ hb)
 ·obtain ⟨b, off, rfl, hbl, hx⟩ := hrow hl
  have hfl := flatten_length enc size he l
  have hsrc : ∀ j v, ((l.map enc).flatten)[j]? = some v → w.cell? ((⟨b, off, none⟩ : Addr).add j) = some v := by
   intro j v hj
   have hjl : j < l.length * size := by have := (List.getElem?_eq_some_iff.1 hj).1; rwa [hfl] at this
   have hq : j / size < l.length := Nat.div_lt_of_lt_mul (by rwa [Nat.mul_comm] at hjl)
   have hm : j % size < size := Nat.mod_lt _ hpos
   have hm2 : j % size < (enc l[j / size]).length := by rw [he]; exact hm
   have h2 : (enc l[j / size])[j % size]? = some (enc l[j / size])[j % size] := List.getElem?_eq_getElem hm2
   have h3 := flatten_get enc size he l (j / size) l[j / size] (List.getElem?_eq_getElem hq) (j % size) _ h2
   have h4 := hx (j / size) l[j / size] (List.getElem?_eq_getElem hq) (j % size) _ h2
   have h5 : j / size * size + j % size = j := by rw [Nat.mul_comm]; exact Nat.div_add_mod j size
   rw [h5] at h3
   rw [hj] at h3
   cases h3
   rw [show off + j / size * size + j % size = off + j by omega] at h4
   rw [Addr.add_lit]; exact h4
  have hones : ∀ v ∈ (l.map enc).flatten, v.oneCell' = true := by
   intro v hv
   obtain ⟨x, hx, hvx⟩ := List.mem_flatten.1 hv
   obtain ⟨y, _, rfl⟩ := List.mem_map.1 hx
   exact hone y v hvx
  have hmin : Nat.min l.length l.length = l.length := Nat.min_self _
  have hrun := run_copy_rowN (P := P) w dT sT o.type elem g 0 l.length l.length ⟨b, off, none⟩ l.length cap size cur t ((l.map enc).flatten) hu hsz hg (by rw [hmin]; exact hfl) hsrc (by rw [hfl, hcur]; omega) hones
  rw [hmin] at hrun
  obtain ⟨NL, hNL⟩ : ∃ x, cur.toList.take 0 ++ (l.map enc).flatten ++ cur.toList.drop (0 + ((l.map enc).flatten).length) = x := ⟨_, rfl⟩
  rw [hNL] at hrun
  have hgl := (Array.getElem?_eq_some_iff.1 hg).1
  have hnew := setRow_heap w g cur NL.toArray t _ hg
  have hfin := h (w.setRow g NL.toArray) ?_ (below_setRow hb hBg _)
  ·unfold Oper.wp
   simp [execOp, ho, resolve, invoke, builtin, hd, hs, hrun, Result.andThen]
   exact hK _ _ hfin
  ·refine ⟨_, _, rfl, hlen, fun _ => ⟨g, 0, rfl, by simpa [World.setRow] using hgl, fun i x hi j u hju => ?_⟩⟩
   have h3 := flatten_get enc size he l i x hi j u hju
   have h4 : NL[i * size + j]? = some u := by
    rw [← hNL, List.take_zero, List.nil_append, List.getElem?_append_left (List.getElem?_eq_some_iff.1 h3).1]; exact h3
   unfold World.cell?
   simp only [hnew]
   simpa using h4
end Go.Sh
