/- Kba0: texts joined (BaseA BaseB BaseC BaseD BaseE BaseG). -/
import Derived.StillTail
import Derived.OrdersIn
import Derived.TacticsIn
import Derived.Below
import Derived.KernelRfl
import Derived.WalkKit
import Derived.WalkSpells
import Derived.WalkLawsBesides
import Derived.Lib.Hide
import Derived.Deep.QuietTactic
import Derived.BigQuiet
import Derived.Deep.DeepCutAuto
import Derived.Deep.CutBlock
import Derived.RangeFuncFrom
import Derived.DeepKeys4
import Derived.WideKeyMaps
import Derived.Maps.AppendAt
import Derived.OwnWalk
import Derived.Laws.CopyOwn
set_option linter.all false
/- A law for a region that draws its order, by rely and guarantee: each operation of the head is shown once, in whatever state its own predecessors leave; a forced tail is walked in the order of the text. Seat-independent. -/
namespace Go.Sh
open Go

/-- The value of a slot. -/
def slot (a : Act) (t : Nat) : Value := a.tmps[t]?.getD undef
/-- The slot that an operation writes, as a value. -/
def dslot (o : Oper) (a : Act) : Value := match o.dst with | some d => slot a d | none => undef

def dsts (l : List Oper) : List Tmp := l.filterMap (·.dst)

def ascB (l : List Oper) : Bool := l.zipIdx.all fun (o, i) => o.after.all fun e => !Region.binds .any e || decide (e.on < i)
def rgB (l : List Oper) (n sz : Nat) : Bool :=
  ascB l && decide (n ≤ l.length) && decide ((dsts (l.take n)).Nodup) && (dsts (l.take n)).all (fun d => decide (d < sz)) &&
  (decide (n = l.length) || (decide (n < l.length) && Region.sinkB .any l.toArray n && Region.chainB .any l.toArray n)) &&
  Region.seqB .any l.toArray (l.length - n) n ((List.replicate n true ++ List.replicate (l.length - n) false).toArray)

/-- The values put into the slots, in the order of the text. -/
def putAll : Act → List Oper → (Nat → Value) → Nat → Act
  | a, [], _, _ => a
  | a, o :: r, vs, i => putAll (a.put o.dst (vs i)) r vs (i + 1)

section
variable {F : Fence} {N : Nat} {P : Program} {l : List Oper} {n : Nat} {Q : Exit → Act → World → Prop}

/-- What an operation of the head owes: its value meets V, the invariant stands, and nothing that was known of another operation's value is lost. -/
def Owes (V : Nat → Value → World → Prop) (I : World → Prop) (i : Nat) (v : Value) (w w' : World) : Prop :=
  V i v w' ∧ I w' ∧ ∀ j u, j ≠ i → V j u w → V j u w'

/-- Known ahead of operation i: the slots that the region does not write hold what they held; each operation that it waits for has its value. -/
structure Ahead (l : List Oper) (n : Nat) (V : Nat → Value → World → Prop) (a0 : Act) (o : Oper) (a : Act) (w : World) : Prop where
  base : ∀ t, t ∉ dsts (l.take n) → slot a t = slot a0 t
  defers : a.defers = a0.defers
  pre : ∀ (j : Nat) (oj : Oper), l[j]? = some oj → (o.after.any fun e => Region.binds .any e && e.on == j) = true → V j (dslot oj a) w

structure RgInv (l : List Oper) (n : Nat) (V : Nat → Value → World → Prop) (I : World → Prop) (a0 : Act) (listed : Array Bool) (a : Act) (w : World) : Prop where
  head : HeadInv .any l.toArray n listed
  inv : I w
  size : a.tmps.size = a0.tmps.size
  defers : a.defers = a0.defers
  base : ∀ t, (∀ (i : Nat) (o : Oper), i < n → l[i]? = some o → listed.getD i false = true → o.dst ≠ some t) → slot a t = slot a0 t
  done : ∀ (i : Nat) (o : Oper), i < n → l[i]? = some o → listed.getD i false = true → V i (dslot o a) w

/-- How many of the head are not listed. -/
def unl (listed : Array Bool) (n : Nat) : Nat := ((List.range n).filter fun i => !listed.getD i false).length

theorem unl_zero {listed : Array Bool} (h : unl listed n = 0) : ∀ i, i < n → listed.getD i false = true := by
  intro i hi
  have h0 : ((List.range n).filter fun i => !listed.getD i false) = [] := List.eq_nil_of_length_eq_zero h
  rw [List.filter_eq_nil_iff] at h0
  simpa using h0 i (List.mem_range.2 hi)

theorem filter_length_lt {α : Type} {l : List α} {p q : α → Bool} (h : ∀ x ∈ l, q x = true → p x = true) {x : α} (hx : x ∈ l) (hp : p x = true) (hq : q x = false) : (l.filter q).length < (l.filter p).length := by
  induction l with
  | nil => cases hx
  | cons y r ih =>
    have hle : (r.filter q).length ≤ (r.filter p).length := by
      clear ih hx
      induction r with
      | nil => simp
      | cons z r ih2 =>
        have h2 := ih2 (fun x hx => h x (by rcases List.mem_cons.1 hx with e | e <;> simp [e]))
        have hz := h z (by simp)
        simp only [List.filter_cons]
        cases hqz : q z with
        | false => cases hpz : p z <;> simp <;> omega
        | true => rw [hz hqz]; simp; exact h2
    rcases List.mem_cons.1 hx with e | e
    · subst e
      simp [List.filter_cons, hp, hq]; omega
    · have := ih (fun x hx => h x (List.mem_cons_of_mem _ hx)) e
      have hy := h y (by simp)
      simp only [List.filter_cons]
      cases hqy : q y with
      | false => cases hpy : p y <;> simp <;> omega
      | true => rw [hy hqy]; simp; exact this

theorem unl_set {listed : Array Bool} {i : Nat} (hi : i < n) (hs : i < listed.size) (hl : listed.getD i false = false) : unl (listed.setIfInBounds i true) n < unl listed n := by
  refine filter_length_lt (fun x _ hx => ?_) (List.mem_range.2 hi) (by simpa using hl) (by simp [hs])
  by_cases e : i = x
  · subst e; simp [hs] at hx
  · rw [getD_set_ne false e] at hx; exact hx

theorem ready_some {listed : Array Bool} (hasc : ascB l = true) (hs : listed.size = l.length) {i : Nat} (hi : i < l.length) (hl : listed.getD i false = false) : ∃ k, k ≤ i ∧ k ∈ Region.ready .any l.toArray listed := by
  induction i using Nat.strongRecOn with
  | _ i ih =>
    by_cases hall : ∃ e ∈ (l[i]).after, Region.binds .any e = true ∧ listed.getD e.on false = false
    · obtain ⟨e, he, hb, hle⟩ := hall
      have hlt : e.on < i := by
        have := List.all_eq_true.1 hasc (l[i], i) (by rw [List.mem_zipIdx_iff_getElem?]; simp [hi])
        have := Array.all_eq_true'.1 this e he
        simpa [hb] using this
      obtain ⟨k, hk, hr⟩ := ih e.on hlt (by omega) hle
      exact ⟨k, by omega, hr⟩
    · refine ⟨i, Nat.le_refl _, mem_ready.2 ⟨getD_in (by omega) hl, l[i], by simp [hi], fun e he hb => ?_⟩⟩
      cases hv : listed.getD e.on false with
      | true => rfl
      | false => exact absurd ⟨e, he, hb, hv⟩ hall

/-- The ends of a head's operation. -/
def RgNext (V : Nat → Value → World → Prop) (I : World → Prop) (i : Nat) (o : Oper) (a : Act) (w : World) : Act → World → Prop := fun a' w' => ∃ v, (o.dst = none → v = undef) ∧ a' = a.put o.dst v ∧ Owes V I i v w w'
def RgOut (a : Act) (Qp : List PanicEntry → World → Prop) : Exit → Act → World → Prop
  | .panic ch, a', w' => a' = a ∧ Qp ch w'
  | _, _, _ => False

end
end Go.Sh
/- The law for a drawn region in the form in which it is used: a relation between worlds that every operation keeps, and that every known fact abides; one obligation for each operation. Seat-independent. -/
namespace Go.Sh
open Go Go.RowKit

section
variable {F : Fence} {N : Nat} {P : Program} {l : List Oper} {n : Nat} {Q : Exit → Act → World → Prop}

/-- What an operation of the head comes to. -/
def RgK (R : World → World → Prop) (V : Value → World → Prop) (o : Oper) (a : Act) (w : World) : Act → World → Prop := fun a' w' => ∃ v, (o.dst = none → v = undef) ∧ a' = a.put o.dst v ∧ V v w' ∧ R w w'

/-- One obligation for each operation of the head. -/
def RgAll (F : Fence) (N : Nat) (P : Program) (l : List Oper) (n : Nat) (R : World → World → Prop) (Vs : List (Value → World → Prop)) (Qp : List PanicEntry → World → Prop) (a0 : Act) (w0 : World) : List Oper → List (Value → World → Prop) → Prop
  | [], _ => True
  | _ :: _, [] => False
  | o :: r, V :: vs => (∀ a w, R w0 w → Ahead l n (fun j u w => (Vs[j]?).elim True fun V => V u w) a0 o a w →
      if Region.wanted o (yielded l.toArray a.tmps) then o.wpIn F N P a w (RgK R V o a w) (RgOut a Qp) else (∀ f, o.about P w a.eval = some f → F.fn f) ∧ V undef w) ∧ RgAll F N P l n R Vs Qp a0 w0 r vs

theorem RgAll.get {R : World → World → Prop} {Vs : List (Value → World → Prop)} {Qp : List PanicEntry → World → Prop} {a0 : Act} {w0 : World} : ∀ (r : List Oper) (vs : List (Value → World → Prop)), RgAll F N P l n R Vs Qp a0 w0 r vs →
    ∀ (i : Nat) (o : Oper), r[i]? = some o → ∃ V, vs[i]? = some V ∧ (∀ a w, R w0 w → Ahead l n (fun j u w => (Vs[j]?).elim True fun V => V u w) a0 o a w →
      if Region.wanted o (yielded l.toArray a.tmps) then o.wpIn F N P a w (RgK R V o a w) (RgOut a Qp) else (∀ f, o.about P w a.eval = some f → F.fn f) ∧ V undef w)
  | [], _, _, i, o, h => by simp at h
  | _ :: _, [], h, _, _, _ => h.elim
  | o' :: r, V :: vs, h, i, o, hi => by
    cases i with
    | zero => simp at hi; subst hi; exact ⟨V, rfl, h.1⟩
    | succ i => exact RgAll.get r vs h.2 i o (by simpa using hi)

/-- What stands behind the region, for whatever values the head's operations have. -/
def RgEnd (K : Act → World → Prop) : List Oper → List (Value → World → Prop) → Act → (World → Prop) → Prop
  | [], _, a, kn => ∀ w, kn w → K a w
  | o :: r, V :: vs, a, kn => ∀ v, RgEnd K r vs (a.put o.dst v) (fun w => V v w ∧ kn w)
  | o :: r, [], a, kn => ∀ v, RgEnd K r [] (a.put o.dst v) kn

theorem RgEnd.mono {K K' : Act → World → Prop} (hk : ∀ a w, K a w → K' a w) : ∀ (r : List Oper) (vs : List (Value → World → Prop)) (a : Act) (kn : World → Prop), RgEnd K r vs a kn → RgEnd K' r vs a kn
  | [], _, _, _, h => fun w hw => hk _ _ (h w hw)
  | _ :: r, _ :: vs, _, _, h => fun v => RgEnd.mono hk r vs _ _ (h v)
  | _ :: r, [], _, _, h => fun v => RgEnd.mono hk r [] _ _ (h v)

end

section
variable {P : Program} {l : List Oper} {Q : Exit → Act → World → Prop}
end
end Go.Sh
/- Words for walks: a later world in which only named blocks have turned; slices that read as lists; small laws. Seat-independent. -/
namespace Go.Sh
open Go Go.RowKit

/-- A later world: of the blocks that lay in w none outside S has turned. -/
structure Frm (S : Nat → Prop) (w w' : World) : Prop where
  os : w'.os = w.os
  tape : w'.tape = w.tape
  output : w'.output = w.output
  size : w.heap.size ≤ w'.heap.size
  block : ∀ k, k < w.heap.size → ¬ S k → w'.heap[k]? = w.heap[k]?

theorem Frm.refl (S : Nat → Prop) (w : World) : Frm S w w := ⟨rfl, rfl, rfl, Nat.le_refl _, fun _ _ _ => rfl⟩
theorem Frm.trans {S : Nat → Prop} {a b c : World} (h : Frm S a b) (k : Frm S b c) : Frm S a c :=
  ⟨k.os.trans h.os, k.tape.trans h.tape, k.output.trans h.output, Nat.le_trans h.size k.size, fun i hi hs => (k.block i (Nat.lt_of_lt_of_le hi h.size) hs).trans (h.block i hi hs)⟩
theorem Frm.mono {S S' : Nat → Prop} {w w' : World} (h : Frm S w w') (hs : ∀ k, k < w.heap.size → S k → S' k) : Frm S' w w' :=
  ⟨h.os, h.tape, h.output, h.size, fun k hk hn => h.block k hk fun h' => hn (hs k hk h')⟩
theorem Frm.of_below {S : Nat → Prop} {w w' : World} (h : Below w.heap.size w w') : Frm S w w' := ⟨h.os, h.tape, h.output, h.size, fun k hk _ => h.block k hk⟩
theorem Frm.below {S : Nat → Prop} {B : Nat} {w w' : World} (h : Frm S w w') (hs : ∀ k, S k → B ≤ k) (hB : B ≤ w.heap.size) : Below B w w' :=
  ⟨h.os, h.tape, h.output, h.size, fun k hk => h.block k (by omega) fun h' => by have := hs k h'; omega⟩
theorem Frm.cell {S : Nat → Prop} {w w' : World} (h : Frm S w w') {a : Addr} {v : Value} (hc : w.cell? a = some v) (hs : ¬ S a.block) : w'.cell? a = some v :=
  (World.cell?_of_block (h.block a.block (World.block_lt_of_cell? w a hc) hs)).trans hc
theorem Frm.frozen {S : Nat → Prop} {w w' : World} (h : Frm S w w') {a : Addr} (ha : a.block < w.heap.size) (hs : ¬ S a.block) : w'.frozen? a = w.frozen? a :=
  World.frozen?_of_block (h.block a.block ha hs)
theorem Frm.alloc {S : Nat → Prop} {a w : World} (h : Frm S a w) (o : Obj) : Frm S a (w.alloc o) :=
  h.trans (Frm.of_below ((Below.refl _ _).alloc (Nat.le_refl _) o))
/-- A store into a block of S, or into a new one. -/
theorem Frm.setCell {S : Nat → Prop} {a w : World} (h : Frm S a w) {p : Addr} (hp : S p.block ∨ a.heap.size ≤ p.block) (u : Value) : Frm S a (w.setCell p u) :=
  ⟨h.os, h.tape, h.output, by simp [World.setCell]; exact h.size, fun k hk hs => (Below.heap_setCell w p u k (by rintro rfl; rcases hp with hp | hp; exact hs hp; omega)).trans (h.block k hk hs)⟩
theorem Frm.grown {S : Nat → Prop} {a w w' : World} {row : Option Nat} (h : Frm S a w) (hg : w.grownBy w' row) (hr : ∀ k, row = some k → S k ∨ a.heap.size ≤ k) : Frm S a w' :=
  ⟨hg.os.trans h.os, hg.tape.trans h.tape, hg.output.trans h.output, Nat.le_trans h.size hg.size, fun k hk hs => (hg.block k (Nat.lt_of_lt_of_le hk h.size) (fun e => by
    rcases hr k e.symm with h' | h'
    · exact hs h'
    · omega)).trans (h.block k hk hs)⟩

theorem cell_old {w w' : World} (h : Below w.heap.size w w') {a : Addr} {v : Value} (hc : w.cell? a = some v) : w'.cell? a = some v :=
  (h.cell (World.block_lt_of_cell? w a hc)).trans hc

/-- A slice whose elements, each of so many cells, read as a list; its cells lie below the block B. -/
def RowsAt {α : Type} (enc : α → List Value) (size : Nat) (w : World) (B : Nat) (v : Value) (l : List α) : Prop :=
  ∃ ao cap, v = .slice ao l.length cap ∧ l.length ≤ 9223372036854775807 ∧
    (l ≠ [] → ∃ b off, ao = some ⟨b, off, none⟩ ∧ b < B ∧ ∀ (i : Nat) (x : α), l[i]? = some x → ∀ (j : Nat) (u : Value), (enc x)[j]? = some u → w.cell? ⟨b, off + i * size + j, none⟩ = some u)

theorem RowsAt.of_cells {α : Type} {enc : α → List Value} {size : Nat} {w w' : World} {B B' : Nat} {v : Value} {l : List α} (h : RowsAt enc size w B v l) (hB : B ≤ B')
    (hc : ∀ (b o : Nat) (u : Value), b < B → w.cell? ⟨b, o, none⟩ = some u → w'.cell? ⟨b, o, none⟩ = some u) : RowsAt enc size w' B' v l := by
  obtain ⟨ao, cap, rfl, hm, h⟩ := h
  refine ⟨ao, cap, rfl, hm, fun hl => ?_⟩
  obtain ⟨b, off, ha, hb, hx⟩ := h hl
  exact ⟨b, off, ha, by omega, fun i x hi j u hu => hc b _ u hb (hx i x hi j u hu)⟩
theorem RowsAt.below {α : Type} {enc : α → List Value} {size : Nat} {w w' : World} {B : Nat} {v : Value} {l : List α} (h : RowsAt enc size w B v l) (hb : Below B w w') : RowsAt enc size w' B v l :=
  h.of_cells (Nat.le_refl _) fun b o u hlt hc => (hb.cell (p := ⟨b, o, none⟩) hlt).trans hc
theorem RowsAt.frm {α : Type} {enc : α → List Value} {size : Nat} {w w' : World} {B : Nat} {v : Value} {l : List α} {S : Nat → Prop} (h : RowsAt enc size w B v l) (hf : Frm S w w') (hs : ∀ k, S k → B ≤ k) : RowsAt enc size w' B v l :=
  h.of_cells (Nat.le_refl _) fun b o u hlt hc => hf.cell hc (fun h' => by have := hs _ h'; simp at this; omega)
theorem RowsAt.mono {α : Type} {enc : α → List Value} {size : Nat} {w : World} {B B' : Nat} {v : Value} {l : List α} (h : RowsAt enc size w B v l) (hB : B ≤ B') : RowsAt enc size w B' v l :=
  h.of_cells hB fun _ _ _ _ hc => hc

abbrev iv (n : Int) : Value := .int .i64 n
def enc1 (n : Int) : List Value := [.int .i64 n]
def enc2 (p : Int × Int) : List Value := [.int .i64 p.1, .int .i64 p.2]
def enc3 (p : Int × Int × Int) : List Value := [.int .i64 p.1, .int .i64 p.2.1, .int .i64 p.2.2]
def Ints := RowsAt enc1 1
def Prs := RowsAt enc2 2
def Trs := RowsAt enc3 3

theorem Ints.cell {w : World} {B : Nat} {v : Value} {l : List Int} {ao : Option Addr} {n cap : Nat} (h : Ints w B v l) (hv : v = .slice ao n cap) {i : Nat} (hi : i < l.length) : ∃ b off, ao = some ⟨b, off, none⟩ ∧ b < B ∧ w.cell? ⟨b, off + i, none⟩ = some (.int .i64 (l.getD i 0)) := by
  obtain ⟨ao', cap', rfl, _, h⟩ := h
  cases hv
  obtain ⟨b, off, ha, hb, hx⟩ := h (by intro e; rw [e] at hi; simp at hi)
  have := hx i l[i] (by simp [hi]) 0 _ rfl
  exact ⟨b, off, ha, hb, by simpa [hi] using this⟩

end Go.Sh
/- Maps by structs, of which only an invariant on the entries is kept. Seat-independent. -/
namespace Go.Sh
open Go Go.RowKit Go.WideMaps

theorem Frm.putObj {S : Nat → Prop} {a w : World} (h : Frm S a w) {m : Nat} (hm : S m ∨ a.heap.size ≤ m) (o : Obj) : Frm S a (w.putObj m o) :=
  ⟨h.os, h.tape, h.output, by simp; exact h.size, fun k hk hs => (World.putObj_heap_other (by rintro rfl; rcases hm with hm | hm; exact hs hm; omega)).trans (h.block k hk hs)⟩

/-- What each entry of a map is, and which entries there surely are. -/
structure MI where
  yes : Value → Value → Prop
  all : Value → Value → Prop
/-- Each entry of the map has a key, no two the same, and meets I; all that must be there are. -/
def MapInv (P : Program) (k : TypeId) (w : World) (m : Nat) (I : MI) : Prop :=
  ∃ es ck, w.heap[m]? = some (.map es ck) ∧ (es.toList.map (·.key)).Nodup ∧ (∀ e ∈ es.toList, (∃ l, keyOf P k e.key = some l) ∧ I.yes e.key e.val) ∧ (∀ a b, I.all a b → ∃ e ∈ es.toList, e.key = a ∧ e.val = b)

theorem MapInv.imp {P : Program} {k : TypeId} {w w' : World} {m : Nat} {I I' : MI} (h : MapInv P k w m I) (hw : w'.heap[m]? = w.heap[m]?) (hi : ∀ a b, I.yes a b → I'.yes a b) (ha : ∀ a b, I'.all a b → I.all a b) : MapInv P k w' m I' := by
  obtain ⟨es, ck, hb, hn, h, hA⟩ := h
  exact ⟨es, ck, hw.trans hb, hn, fun e he => ⟨(h e he).1, hi _ _ (h e he).2⟩, fun a b h => hA a b (ha a b h)⟩

theorem MapInv.made {P : Program} {k : TypeId} {I : MI} (w : World) (h0 : ∀ a b, ¬ I.all a b) : MapInv P k (w.alloc (.map #[] 0)) w.heap.size I :=
  ⟨#[], 0, World.alloc_heap_new w _, by simp, by simp, fun a b h => (h0 a b h).elim⟩

theorem nodup_key {es : Array MapEntry} (hn : (es.toList.map (·.key)).Nodup) {i j : Nat} {e e' : MapEntry} (hi : es[i]? = some e) (hj : es[j]? = some e') (h : e.key = e'.key) : i = j := by
  have h1 : (es.toList.map (·.key))[i]? = some e.key := by simp [hi]
  have h2 : (es.toList.map (·.key))[j]? = some e'.key := by simp [hj]
  obtain ⟨hi', e1⟩ := List.getElem?_eq_some_iff.1 h1
  obtain ⟨hj', e2⟩ := List.getElem?_eq_some_iff.1 h2
  have hp := List.pairwise_iff_getElem.1 hn
  rcases Nat.lt_trichotomy i j with hlt | heq | hlt
  · exact absurd (by rw [e1, e2, h]) (hp i j hi' hj' hlt)
  · exact heq
  · exact absurd (by rw [e1, e2, h]) (hp j i hj' hi' hlt)

/-- The look-up: one value, whatever else of the world has turned. -/
theorem MapInv.lookup {P : Program} {t k e : TypeId} {w : World} {m : Nat} {I : MI} (K : KeyLaw P k) (ht : P.underlying t = some (.map k e)) {z : Value} (hz : ∀ w, (zeroValue e).run P w = .ok z w)
    (h : MapInv P k w m I) {key : Value} {l : Lit} (hk : keyOf P k key = some l) :
    ∃ v ok, (∀ w', w'.heap[m]? = w.heap[m]? → (Instr.lookup t (.map (some m)) key true).run P w' = .ok (.tuple #[v, .bool ok]) w') ∧ ((ok = true ∧ I.yes key v) ∨ (ok = false ∧ v = z ∧ ∀ b, ¬ I.all key b)) := by
  obtain ⟨es, ck, hb, hn, h, hA⟩ := h
  rcases K.find w hk es.toList (fun e he => (h e he).1) with ⟨_, hno⟩ | ⟨j, e0, _, hj, hkey⟩
  · refine ⟨z, false, fun w' hw => ?_, .inr ⟨rfl, rfl, fun b hb => let ⟨e, he, hek, _⟩ := hA _ _ hb; hno e he hek⟩⟩
    have hb' := hw.trans hb
    have hc := K.check w' es.isEmpty hk
    rcases K.find w' hk es.toList (fun e he => (h e he).1) with ⟨hf, _⟩ | ⟨j, e0, hf, hj, hkey⟩
    · simp [Instr.lookup, run_underlying ht, run_getObj_map w' m es ck hb', hc, hf, hz]
    · exact absurd hkey (hno e0 (List.mem_of_getElem? hj))
  · have hj0 : es[j]? = some e0 := by simpa using hj
    refine ⟨e0.val, true, fun w' hw => ?_, .inl ⟨rfl, by rw [← hkey]; exact (h e0 (List.mem_of_getElem? hj)).2⟩⟩
    have hb' := hw.trans hb
    have hc := K.check w' es.isEmpty hk
    rcases K.find w' hk es.toList (fun e he => (h e he).1) with ⟨_, hno⟩ | ⟨j', e1, hf, hj', hkey'⟩
    · exact absurd hkey (hno e0 (List.mem_of_getElem? hj))
    · have hj1 : es[j']? = some e1 := by simpa using hj'
      have := nodup_key hn hj0 hj1 (hkey.trans hkey'.symm)
      subst this
      rw [hj0] at hj1
      cases hj1
      simp [Instr.lookup, run_underlying ht, run_getObj_map w' m es ck hb', hc, hf]

theorem MapInv.update {P : Program} {t k e : TypeId} {w : World} {m : Nat} {I I' : MI} (K : KeyLaw P k) (ht : P.underlying t = some (.map k e))
    (h : MapInv P k w m I) {key v : Value} {l : Lit} (hk : keyOf P k key = some l) (hv : I'.yes key v) (hy : ∀ a b, a ≠ key → I.yes a b → I'.yes a b) (ha : ∀ a b, I'.all a b → (a = key ∧ b = v) ∨ (a ≠ key ∧ I.all a b)) :
    ∃ o, (Instr.mapUpdate t (.map (some m)) key v).run P w = .ok () (w.putObj m o) ∧ MapInv P k (w.putObj m o) m I' := by
  obtain ⟨es, ck, hb, hn, h, hA⟩ := h
  have hlt : m < w.heap.size := (Array.getElem?_eq_some_iff.1 hb).1
  have hc := K.check w false hk
  rcases K.find w hk es.toList (fun e he => (h e he).1) with ⟨hf, hno⟩ | ⟨j, e0, hf, hj, hkey⟩
  · refine ⟨.map (es.push { key, val := v, born := ck }) (ck + 1), ?_, _, _, World.putObj_heap_same hlt, ?_, ?_, ?_⟩
    · simp [Instr.mapUpdate, run_underlying ht, run_getObj_map w m es ck hb, hc, hf, setObj, Sem.run, hb, World.putObj]
    · simp only [Array.toList_push, List.map_append, List.map_cons, List.map_nil]
      refine List.nodup_append.2 ⟨hn, by simp, ?_⟩
      intro a hm1 b hb'
      simp at hb'
      subst hb'
      obtain ⟨e, he, rfl⟩ := List.mem_map.1 hm1
      exact hno e he
    · intro e he
      simp at he
      rcases he with he | rfl
      · exact ⟨(h e (by simpa using he)).1, hy _ _ (hno e (by simpa using he)) (h e (by simpa using he)).2⟩
      · exact ⟨⟨l, hk⟩, hv⟩
    · intro a b hab
      rcases ha a b hab with ⟨rfl, rfl⟩ | ⟨_, h0⟩
      · exact ⟨{ key := a, val := b, born := ck }, by simp, rfl, rfl⟩
      · obtain ⟨e, he, h1, h2⟩ := hA a b h0
        exact ⟨e, by simp; exact .inl (by simpa using he), h1, h2⟩
  · have hst := K.stays w hk
    have hj' : es[j]? = some e0 := by simpa using hj
    refine ⟨.map (es.modify j fun e => { e with key, val := v }) ck, ?_, _, _, World.putObj_heap_same hlt, ?_, ?_, ?_⟩
    · simp [Instr.mapUpdate, run_underlying ht, run_getObj_map w m es ck hb, hc, hf, hj', hkey, hst, setObj, Sem.run, hb, World.putObj]
    · have hsame : (es.modify j fun e => { e with key, val := v }).toList.map (·.key) = es.toList.map (·.key) := by
        apply List.ext_getElem?
        intro i
        simp only [List.getElem?_map, Array.getElem?_toList, Array.getElem?_modify]
        split
        · rename_i e; subst e; simp [hj', hkey]
        · rfl
      rw [hsame]; exact hn
    · intro e he
      rw [Array.mem_toList_iff] at he
      obtain ⟨i, hi, hie⟩ := Array.mem_iff_getElem.1 he
      rw [Array.getElem_modify] at hie
      split at hie
      · subst hie; exact ⟨⟨l, hk⟩, hv⟩
      · rename_i hne
        subst hie
        have hmem : es[i]'(by simpa using hi) ∈ es.toList := by rw [Array.mem_toList_iff]; exact Array.getElem_mem _
        refine ⟨(h _ hmem).1, hy _ _ (fun hk' => hne ?_) (h _ hmem).2⟩
        exact nodup_key hn hj' (Array.getElem?_eq_getElem (by simpa using hi)) (hkey.trans hk'.symm)
    · intro a b hab
      have hgm : ∀ i : Nat, (es.modify j fun e => { e with key, val := v }).toList[i]? = if i = j then es[i]?.map fun e => { e with key, val := v } else es[i]? := by
        intro i
        rw [Array.getElem?_toList, Array.getElem?_modify]
        by_cases hij : j = i
        · rw [if_pos hij, if_pos hij.symm]
        · rw [if_neg hij, if_neg (fun e => hij e.symm)]
      rcases ha a b hab with ⟨rfl, rfl⟩ | ⟨hne, h0⟩
      · exact ⟨{ e0 with key := a, val := b }, List.mem_of_getElem? (i := j) (by rw [hgm, if_pos rfl, hj']; rfl), rfl, rfl⟩
      · obtain ⟨e, he, h1, h2⟩ := hA a b h0
        obtain ⟨i, hi, hie⟩ := List.getElem_of_mem he
        have hi2 : es.toList[i]? = some e := by rw [List.getElem?_eq_getElem hi, hie]
        refine ⟨e, List.mem_of_getElem? (i := i) ?_, h1, h2⟩
        rw [hgm, if_neg, ← Array.getElem?_toList]
        · exact hi2
        · rintro rfl
          rw [Array.getElem?_toList, hj'] at hi2
          cases hi2
          exact hne (h1.symm.trans hkey)

theorem RowsAt.later {α : Type} {enc : α → List Value} {size : Nat} {w w' : World} {v : Value} {l : List α} (h : RowsAt enc size w w.heap.size v l) (hf : Below w.heap.size w w') : RowsAt enc size w' w'.heap.size v l :=
  (h.below hf).mono hf.size
end Go.Sh
/- One more element behind an owned row: what holds behind 'append'. -/
namespace Go.Sh
open Go Go.RowKit

def lenV : Value → Nat
  | .slice _ n _ => n
  | _ => 0
end Go.Sh
/- 'copy' of rows of whatever element size into a row that is known whole. -/
namespace Go.Sh
open Go Go.RowKit
variable {P : Program}

theorem run_copy_rowN (w : World) (dT sT ty elem : TypeId) (g o dLen dCap : Nat) (a : Addr) (sLen sCap size : Nat) (cur : Array Value) (t : TypeId) (cs : List Value)
    (hu : P.underlying dT = some (.slice elem)) (hs : (P.info? elem).map (·.size) = some size)
    (hg : w.heap[g]? = some (.cells cur t (0, 0))) (hn : cs.length = Nat.min sLen dLen * size)
    (hsrc : ∀ j v, cs[j]? = some v → w.cell? (a.add j) = some v) (hfit : o + cs.length ≤ cur.size) (h1 : ∀ v ∈ cs, v.oneCell' = true) :
    (Builtin.copy_ #[dT, sT] ty #[.slice (some ⟨g, o, none⟩) dLen dCap, .slice (some a) sLen sCap]).run P w =
      .ok (goInt (Nat.min sLen dLen)) (w.setRow g (cur.toList.take o ++ cs ++ cur.toList.drop (o + cs.length)).toArray) := by
  have hl := run_loadCells_list (P := P) w a cs hsrc
  have hst := run_storeCells_at P g o t cs 0 cur w hg (by simpa using hfit) h1
  cases hq : P.info? elem with
  | none => simp [hq] at hs
  | some i =>
    have hi : i.size = size := by simpa [hq] using hs
    simp [Builtin.copy_, run_underlying hu, Builtin.lenOf, Builtin.firstCells, sizeOf, typeInfo, hq, hi, ← hn, hl, hst]

theorem run_copy_noneN (w : World) (dT sT ty elem : TypeId) (d a : Option Addr) (dCap sCap size : Nat) (hu : P.underlying dT = some (.slice elem)) (hs : (P.info? elem).map (·.size) = some size) :
    (Builtin.copy_ #[dT, sT] ty #[.slice d 0 dCap, .slice a 0 sCap]).run P w = .ok (goInt 0) w := by
  cases hq : P.info? elem with
  | none => simp [hq] at hs
  | some i =>
    have hl : ∀ (x : Addr), (loadCells x 0).run P w = .ok #[] w := fun x => by simpa using run_loadCells_list (P := P) w x [] (by simp)
    cases d <;> cases a <;> simp [Builtin.copy_, run_underlying hu, Builtin.lenOf, Builtin.firstCells, sizeOf, typeInfo, hq, storeCells, hl]

end Go.Sh
