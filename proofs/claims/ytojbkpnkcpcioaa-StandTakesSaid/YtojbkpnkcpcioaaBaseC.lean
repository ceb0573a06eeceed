/- Words for walks: a later world in which only named blocks have turned; slices that read as lists; small laws. Seat-independent. -/
import Derived.Test.YtojbkpnkcpcioaaBaseB
import Derived.WalkKit
import Derived.WalkSpells
import Derived.WalkLawsBesides
import Derived.Lib.Hide
import Derived.Deep.QuietTactic
import Derived.BigQuiet
import Derived.Deep.DeepCutAuto
import Derived.Deep.CutBlock
import Derived.RangeFuncFrom
set_option linter.all false
namespace Go.Sh
open Go Go.RowKit

/-- A later world: of the blocks that lay in w none outside S has turned. -/
structure Frm (S : Nat → Prop) (w w' : World) : Prop where
  os : w'.os = w.os
  tape : w'.tape = w.tape
  output : w'.output = w.output
  size : w.heap.size ≤ w'.heap.size
  block : ∀ k, k < w.heap.size → ¬ S k → w'.heap[k]? = w.heap[k]?

theorem Frm.refl (S : Nat → Prop) (w : World) : Frm S w w := ⟨rfl, rfl, rfl, Nat.le_refl _, fun _ _ _ => rfl⟩
theorem Frm.trans {S : Nat → Prop} {a b c : World} (h : Frm S a b) (k : Frm S b c) : Frm S a c :=
  ⟨k.os.trans h.os, k.tape.trans h.tape, k.output.trans h.output, Nat.le_trans h.size k.size, fun i hi hs => (k.block i (Nat.lt_of_lt_of_le hi h.size) hs).trans (h.block i hi hs)⟩
theorem Frm.mono {S S' : Nat → Prop} {w w' : World} (h : Frm S w w') (hs : ∀ k, k < w.heap.size → S k → S' k) : Frm S' w w' :=
  ⟨h.os, h.tape, h.output, h.size, fun k hk hn => h.block k hk fun h' => hn (hs k hk h')⟩
theorem Frm.of_below {S : Nat → Prop} {w w' : World} (h : Below w.heap.size w w') : Frm S w w' := ⟨h.os, h.tape, h.output, h.size, fun k hk _ => h.block k hk⟩
theorem Frm.of_belowB {S : Nat → Prop} {B : Nat} {w w' : World} (h : Below B w w') (hs : ∀ k, k < w.heap.size → B ≤ k → S k) : Frm S w w' :=
  ⟨h.os, h.tape, h.output, h.size, fun k hk hn => h.block k (by rcases Nat.lt_or_ge k B with h' | h'; exact h'; exact absurd (hs k hk h') hn)⟩
theorem Frm.below {S : Nat → Prop} {B : Nat} {w w' : World} (h : Frm S w w') (hs : ∀ k, S k → B ≤ k) (hB : B ≤ w.heap.size) : Below B w w' :=
  ⟨h.os, h.tape, h.output, h.size, fun k hk => h.block k (by omega) fun h' => by have := hs k h'; omega⟩
theorem Frm.cell {S : Nat → Prop} {w w' : World} (h : Frm S w w') {a : Addr} {v : Value} (hc : w.cell? a = some v) (hs : ¬ S a.block) : w'.cell? a = some v :=
  (World.cell?_of_block (h.block a.block (World.block_lt_of_cell? w a hc) hs)).trans hc
theorem Frm.frozen {S : Nat → Prop} {w w' : World} (h : Frm S w w') {a : Addr} (ha : a.block < w.heap.size) (hs : ¬ S a.block) : w'.frozen? a = w.frozen? a :=
  World.frozen?_of_block (h.block a.block ha hs)
theorem Frm.alloc {S : Nat → Prop} {a w : World} (h : Frm S a w) (o : Obj) : Frm S a (w.alloc o) :=
  h.trans (Frm.of_below ((Below.refl _ _).alloc (Nat.le_refl _) o))
theorem Frm.drew {S : Nat → Prop} {a w : World} (h : Frm S a w) : Frm S a w.drew := ⟨h.os, h.tape, h.output, h.size, h.block⟩
/-- A store into a block of S, or into a new one. -/
theorem Frm.setCell {S : Nat → Prop} {a w : World} (h : Frm S a w) {p : Addr} (hp : S p.block ∨ a.heap.size ≤ p.block) (u : Value) : Frm S a (w.setCell p u) :=
  ⟨h.os, h.tape, h.output, by simp [World.setCell]; exact h.size, fun k hk hs => (Below.heap_setCell w p u k (by rintro rfl; rcases hp with hp | hp; exact hs hp; omega)).trans (h.block k hk hs)⟩
theorem Frm.grown {S : Nat → Prop} {a w w' : World} {row : Option Nat} (h : Frm S a w) (hg : w.grownBy w' row) (hr : ∀ k, row = some k → S k ∨ a.heap.size ≤ k) : Frm S a w' :=
  ⟨hg.os.trans h.os, hg.tape.trans h.tape, hg.output.trans h.output, Nat.le_trans h.size hg.size, fun k hk hs => (hg.block k (Nat.lt_of_lt_of_le hk h.size) (fun e => by
    rcases hr k e.symm with h' | h'
    · exact hs h'
    · omega)).trans (h.block k hk hs)⟩

/-- 'Below' out of two steps. -/
theorem below_trans {B : Nat} {a b c : World} (h : Below B a b) (k : Below b.heap.size b c) (hB : B ≤ b.heap.size) : Below B a c := h.trans (k.mono hB)
theorem below_trans' {a b c : World} (h : Below a.heap.size a b) (k : Below b.heap.size b c) : Below a.heap.size a c := h.trans (k.mono h.size)

theorem cell_old {w w' : World} (h : Below w.heap.size w w') {a : Addr} {v : Value} (hc : w.cell? a = some v) : w'.cell? a = some v :=
  (h.cell (World.block_lt_of_cell? w a hc)).trans hc

theorem bcell {W w1 : World} (hb : Below W.heap.size W w1) : (∀ b o, b < W.heap.size → w1.cell? ⟨b, o, none⟩ = W.cell? ⟨b, o, none⟩) ∧ (∀ b o, b < W.heap.size → w1.frozen? ⟨b, o, none⟩ = W.frozen? ⟨b, o, none⟩) :=
  ⟨fun b o h => hb.cell (p := ⟨b, o, none⟩) h, fun b o h => hb.frozen (p := ⟨b, o, none⟩) h⟩

/-- A slice whose elements, each of so many cells, read as a list; its cells lie below the block B. -/
def RowsAt {α : Type} (enc : α → List Value) (size : Nat) (w : World) (B : Nat) (v : Value) (l : List α) : Prop :=
  ∃ ao cap, v = .slice ao l.length cap ∧ l.length ≤ 9223372036854775807 ∧
    (l ≠ [] → ∃ b off, ao = some ⟨b, off, none⟩ ∧ b < B ∧ ∀ (i : Nat) (x : α), l[i]? = some x → ∀ (j : Nat) (u : Value), (enc x)[j]? = some u → w.cell? ⟨b, off + i * size + j, none⟩ = some u)

theorem RowsAt.of_cells {α : Type} {enc : α → List Value} {size : Nat} {w w' : World} {B B' : Nat} {v : Value} {l : List α} (h : RowsAt enc size w B v l) (hB : B ≤ B')
    (hc : ∀ (b o : Nat) (u : Value), b < B → w.cell? ⟨b, o, none⟩ = some u → w'.cell? ⟨b, o, none⟩ = some u) : RowsAt enc size w' B' v l := by
  obtain ⟨ao, cap, rfl, hm, h⟩ := h
  refine ⟨ao, cap, rfl, hm, fun hl => ?_⟩
  obtain ⟨b, off, ha, hb, hx⟩ := h hl
  exact ⟨b, off, ha, by omega, fun i x hi j u hu => hc b _ u hb (hx i x hi j u hu)⟩
theorem RowsAt.below {α : Type} {enc : α → List Value} {size : Nat} {w w' : World} {B : Nat} {v : Value} {l : List α} (h : RowsAt enc size w B v l) (hb : Below B w w') : RowsAt enc size w' B v l :=
  h.of_cells (Nat.le_refl _) fun b o u hlt hc => (hb.cell (p := ⟨b, o, none⟩) hlt).trans hc
theorem RowsAt.frm {α : Type} {enc : α → List Value} {size : Nat} {w w' : World} {B : Nat} {v : Value} {l : List α} {S : Nat → Prop} (h : RowsAt enc size w B v l) (hf : Frm S w w') (hs : ∀ k, S k → B ≤ k) : RowsAt enc size w' B v l :=
  h.of_cells (Nat.le_refl _) fun b o u hlt hc => hf.cell hc (fun h' => by have := hs _ h'; simp at this; omega)
theorem RowsAt.mono {α : Type} {enc : α → List Value} {size : Nat} {w : World} {B B' : Nat} {v : Value} {l : List α} (h : RowsAt enc size w B v l) (hB : B ≤ B') : RowsAt enc size w B' v l :=
  h.of_cells hB fun _ _ _ _ hc => hc

abbrev iv (n : Int) : Value := .int .i64 n
def enc1 (n : Int) : List Value := [.int .i64 n]
def enc2 (p : Int × Int) : List Value := [.int .i64 p.1, .int .i64 p.2]
def enc3 (p : Int × Int × Int) : List Value := [.int .i64 p.1, .int .i64 p.2.1, .int .i64 p.2.2]
def Ints := RowsAt enc1 1
def Prs := RowsAt enc2 2
def Trs := RowsAt enc3 3

theorem Ints.cell {w : World} {B : Nat} {v : Value} {l : List Int} {ao : Option Addr} {n cap : Nat} (h : Ints w B v l) (hv : v = .slice ao n cap) {i : Nat} (hi : i < l.length) : ∃ b off, ao = some ⟨b, off, none⟩ ∧ b < B ∧ w.cell? ⟨b, off + i, none⟩ = some (.int .i64 (l.getD i 0)) := by
  obtain ⟨ao', cap', rfl, _, h⟩ := h
  cases hv
  obtain ⟨b, off, ha, hb, hx⟩ := h (by intro e; rw [e] at hi; simp at hi)
  have := hx i l[i] (by simp [hi]) 0 _ rfl
  exact ⟨b, off, ha, hb, by simpa [hi] using this⟩

/-- An owned row abides what only adds blocks, and a store into another block. -/
theorem ownsRow_below {w w' : World} {base : Nat} {e : TypeId} {size : Nat} {v : Value} {n : Nat} {xs : List Value} (h : w.ownsRow base e size v n xs) (hb : Below w.heap.size w w') : w'.ownsRow base e size v n xs := by
  obtain ⟨h1, h2⟩ := h
  refine ⟨h1, ?_⟩
  rcases h2 with h2 | ⟨g, cap, cur, hv, hg, hh, r⟩
  · exact .inl h2
  · exact .inr ⟨g, cap, cur, hv, hg, (hb.block g (Array.getElem?_eq_some_iff.1 hh).1).trans hh, r⟩
theorem ownsRow_setCell {w : World} {base : Nat} {e : TypeId} {size : Nat} {v : Value} {n : Nat} {xs : List Value} (h : w.ownsRow base e size v n xs) {a : Addr} (ha : v.ownBlock ≠ some a.block) (u : Value) : (w.setCell a u).ownsRow base e size v n xs := by
  obtain ⟨h1, h2⟩ := h
  refine ⟨h1, ?_⟩
  rcases h2 with h2 | ⟨g, cap, cur, hv, hg, hh, r⟩
  · exact .inl h2
  · refine .inr ⟨g, cap, cur, hv, hg, ?_, r⟩
    rw [Below.heap_setCell _ _ _ _ (by rintro rfl; apply ha; rw [hv]; rfl)]; exact hh
theorem ownsRow_putObj {w : World} {base : Nat} {e : TypeId} {size : Nat} {v : Value} {n : Nat} {xs : List Value} (h : w.ownsRow base e size v n xs) {m : Nat} {o : Obj} (hm : w.heap[m]? = some o) (ho : o.isCells = false) (o' : Obj) : (w.putObj m o').ownsRow base e size v n xs := by
  obtain ⟨h1, h2⟩ := h
  refine ⟨h1, ?_⟩
  rcases h2 with h2 | ⟨g, cap, cur, hv, hg, hh, r⟩
  · exact .inl h2
  · refine .inr ⟨g, cap, cur, hv, hg, ?_, r⟩
    rw [World.putObj_heap_other (by rintro rfl; rw [hm] at hh; cases hh; cases ho)]; exact hh

theorem flatten_get {α : Type} (enc : α → List Value) (size : Nat) (hs : ∀ x, (enc x).length = size) : ∀ (l : List α) (i : Nat) (x : α), l[i]? = some x → ∀ (j : Nat) (u : Value), (enc x)[j]? = some u → ((l.map enc).flatten)[i * size + j]? = some u
  | [], i, x, h, _, _, _ => by simp at h
  | y :: r, 0, x, h, j, u, hu => by
    simp at h; subst h
    have : j < (enc y).length := (List.getElem?_eq_some_iff.1 hu).1
    simp only [List.map_cons, List.flatten_cons, Nat.zero_mul, Nat.zero_add]
    rw [List.getElem?_append_left this]; exact hu
  | y :: r, i + 1, x, h, j, u, hu => by
    simp only [List.map_cons, List.flatten_cons]
    rw [List.getElem?_append_right (by rw [hs, Nat.succ_mul]; omega), hs, show (i + 1) * size + j - size = i * size + j by rw [Nat.succ_mul]; omega]
    exact flatten_get enc size hs r i x (by simpa using h) j u hu

theorem flatten_length {α : Type} (enc : α → List Value) (size : Nat) (hs : ∀ x, (enc x).length = size) (l : List α) : ((l.map enc).flatten).length = l.length * size := by
  induction l with
  | nil => simp
  | cons y r ih => simp only [List.map_cons, List.flatten_cons, List.length_append, ih, hs, List.length_cons, Nat.succ_mul]; omega

/-- What the call owns reads as a list. -/
theorem RowsAt.of_owns {α : Type} {enc : α → List Value} {size : Nat} (hs : ∀ x, (enc x).length = size) (hpos : 0 < size) {w : World} {base : Nat} {e : TypeId} {v : Value} {l : List α} (h : w.ownsRow base e size v l.length ((l.map enc).flatten)) : RowsAt enc size w w.heap.size v l := by
  obtain ⟨h1, h2⟩ := h
  rcases h2 with ⟨rfl, h0⟩ | ⟨g, cap, cur, rfl, hg, hh, hn, hc, hsz, htake⟩
  · exact ⟨none, 0, by rw [h0], by omega, fun hl => absurd (List.eq_nil_of_length_eq_zero h0) hl⟩
  · refine ⟨some ⟨g, 0, none⟩, cap, rfl, by simp only [maxLen] at hc; omega, fun _ => ⟨g, 0, rfl, (Array.getElem?_eq_some_iff.1 hh).1, fun i x hi j u hu => ?_⟩⟩
    rw [cell_of_row w g _ cur e (0, 0) hh]
    have hget := flatten_get enc size hs l i x hi j u hu
    have hlt : i * size + j < l.length * size := by
      have := (List.getElem?_eq_some_iff.1 hget).1
      rwa [flatten_length enc size hs] at this
    rw [← htake, List.getElem?_take, if_pos hlt] at hget
    simpa using hget

theorem retB {a b : Bool} (h : a = b) : Ending.returned (.bool a) = .returned (.bool b) := by rw [h]
theorem retI {k : IntKind} {a b : Int} (h : a = b) : Ending.returned (.int k a) = .returned (.int k b) := by rw [h]
end Go.Sh
