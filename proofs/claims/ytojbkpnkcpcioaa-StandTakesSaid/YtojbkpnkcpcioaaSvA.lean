/- The contracts of package stand, as the logic takes them. -/
import Derived.Test.YtojbkpnkcpcioaaPvY
import Derived.Test.YtojbkpnkcpcioaaStO
import Derived.Test.YtojbkpnkcpcioaaStP
import Derived.Test.YtojbkpnkcpcioaaStQ
import Derived.Test.YtojbkpnkcpcioaaStR
import Derived.Test.YtojbkpnkcpcioaaStS
import Derived.Test.YtojbkpnkcpcioaaStT
import Derived.Test.YtojbkpnkcpcioaaStW
set_option linter.all false
namespace Go.Proofs.Ytojbkpnkcpcioaa
open Go Go.RowKit Go.Sh Go.Sh.Stand Go.Pv

/-- Rows of numbers, read. -/
theorem rowsAt_of {α : Type} {enc : α → List Value} {row : α → List PV} {size : Nat} (hrow : ∀ x, row x = (enc x).map .v) (hs : ∀ x, (enc x).length = size) (hpos : 0 < size) {Z : Zn} {w : World} {v : Value} {l : List α} (h : RelP Z w (.sl (l.map row)) v) : RowsAt enc size w w.heap.size v l := by
  obtain ⟨q, hq⟩ : ∃ q, q = l.map row := ⟨_, rfl⟩
  rw [← hq] at h
  cases h with
  | sl _ k ao cap b off us hm hk hao hc hz hr =>
    subst hq
    refine ⟨ao, cap, by simp, by simpa using hm, fun hl => ?_⟩
    have hne : l.map row ≠ [] := by simpa using hl
    obtain ⟨x0, l', rfl⟩ : ∃ x l', l = x :: l' := by cases l with | nil => exact absurd rfl hl | cons x l' => exact ⟨x, l', rfl⟩
    have hk0 : k = size := by
      have := hk 0 (row x0) (by simp)
      rw [← this, hrow, List.length_map, hs]
    subst hk0
    have hcell : ∀ (i : Nat) (x : α), (x0 :: l')[i]? = some x → ∀ (j : Nat) (u : Value), (enc x)[j]? = some u → w.cell? ⟨b, off + i * k + j, none⟩ = some u := by
      intro i x hi j u hu
      have h1 : ((x0 :: l').map row)[i]? = some (row x) := by rw [List.getElem?_map, hi]; rfl
      have h2 : (row x)[j]? = some (.v u) := by rw [hrow, List.getElem?_map, hu]; rfl
      have h3 := hr i _ j _ h1 h2
      have h4 := hc i _ j _ h1 h2
      generalize us i j = q at h3 h4
      cases h3
      exact h4
    cases hz0 : enc x0 with
    | nil =>
      have hs0 : k = 0 := by rw [← hs x0, hz0]; rfl
      omega
    | cons u0 r0 =>
      have := hcell 0 x0 rfl 0 u0 (by rw [hz0]; rfl)
      exact ⟨b, off, hao hne, World.block_lt_of_cell? _ _ this, hcell⟩

theorem ints_of {Z : Zn} {w : World} {v : Value} {l : List Int} (h : RelP Z w (.sl (l.map row1)) v) : Ints w w.heap.size v l := rowsAt_of (enc := enc1) (size := 1) (fun _ => rfl) (fun _ => rfl) (by decide) h
theorem prs_of {Z : Zn} {w : World} {v : Value} {l : List (Int × Int)} (h : RelP Z w (.sl (l.map row2)) v) : Prs w w.heap.size v l := rowsAt_of (enc := enc2) (size := 2) (fun _ => rfl) (fun _ => rfl) (by decide) h
theorem trs_of {Z : Zn} {w : World} {v : Value} {l : List (Int × Int × Int)} (h : RelP Z w (.sl (l.map row3)) v) : Trs w w.heap.size v l := rowsAt_of (enc := enc3) (size := 3) (fun _ => rfl) (fun _ => rfl) (by decide) h

/-- A stand, as data. -/
def stR (m0 m1 m2 : Int × Int) (runs : List (Int × Int)) (sheep : List Int) (looks : List (Int × Int × Int)) : RV :=
  .agg [iP m0.1, iP m0.2, iP m1.1, iP m1.2, iP m2.1, iP m2.2, .sl (runs.map row2), .sl (sheep.map row1), .sl (looks.map row3)]
def stM (m0 m1 m2 : Int × Int) (runs : List (Int × Int)) (sheep : List Int) (looks : List (Int × Int × Int)) : Stand := ⟨[m0, m1, m2], runs, sheep, looks⟩

theorem relI {Z : Zn} {w : World} {n : Int} {u : Value} (h : RelP Z w (iP n) u) : u = .int .i64 n := by cases h; rfl
theorem relR_I {Z : Zn} {w : World} {n : Int} {u : Value} (h : RelR Z w (.one (iP n)) u) : u = .int .i64 n := relI h

/-- A stand among the arguments. -/
theorem stR_of {Z : Zn} {w : World} {m0 m1 m2 : Int × Int} {runs : List (Int × Int)} {sheep : List Int} {looks : List (Int × Int × Int)} {u : Value} (h : RelR Z w (stR m0 m1 m2 runs sheep looks) u) :
    ∃ rv sv lv, u = .agg #[.int .i64 m0.1, .int .i64 m0.2, .int .i64 m1.1, .int .i64 m1.2, .int .i64 m2.1, .int .i64 m2.2, rv, sv, lv] ∧ Prs w w.heap.size rv runs ∧ Ints w w.heap.size sv sheep ∧ Trs w w.heap.size lv looks := by
  obtain ⟨us, rfl, hs, h⟩ := h
  have hs' : us.size = 9 := hs
  obtain ⟨x0, h0, r0⟩ := h 0 _ rfl
  obtain ⟨x1, h1, r1⟩ := h 1 _ rfl
  obtain ⟨x2, h2, r2⟩ := h 2 _ rfl
  obtain ⟨x3, h3, r3⟩ := h 3 _ rfl
  obtain ⟨x4, h4, r4⟩ := h 4 _ rfl
  obtain ⟨x5, h5, r5⟩ := h 5 _ rfl
  obtain ⟨x6, h6, r6⟩ := h 6 _ rfl
  obtain ⟨x7, h7, r7⟩ := h 7 _ rfl
  obtain ⟨x8, h8, r8⟩ := h 8 _ rfl
  have e0 := relI r0; have e1 := relI r1; have e2 := relI r2; have e3 := relI r3; have e4 := relI r4; have e5 := relI r5
  subst e0 e1 e2 e3 e4 e5
  refine ⟨x6, x7, x8, ?_, prs_of r6, ints_of r7, trs_of r8⟩
  congr 1
  apply Array.ext
  · rw [hs']; rfl
  · intro j hj hj'
    have hj9 : j < 9 := by omega
    have hget : ∀ (k : Nat) (hk : k < us.size) (x : Value), us[k]? = some x → us[k] = x := fun k hk x hx => by rw [Array.getElem?_eq_getElem hk] at hx; exact Option.some.inj hx
    obtain rfl | rfl | rfl | rfl | rfl | rfl | rfl | rfl | rfl : j = 0 ∨ j = 1 ∨ j = 2 ∨ j = 3 ∨ j = 4 ∨ j = 5 ∨ j = 6 ∨ j = 7 ∨ j = 8 := by omega
    · exact hget 0 hj _ h0
    · exact hget 1 hj _ h1
    · exact hget 2 hj _ h2
    · exact hget 3 hj _ h3
    · exact hget 4 hj _ h4
    · exact hget 5 hj _ h5
    · exact hget 6 hj _ h6
    · exact hget 7 hj _ h7
    · exact hget 8 hj _ h8

theorem args1 {Z : Zn} {w : World} {r0 : RV} {us : Array Value} (h : RelRs Z w [r0] us) : ∃ u0, us = #[u0] ∧ RelR Z w r0 u0 := by
  obtain ⟨hs, h⟩ := h
  obtain ⟨x0, h0, e0⟩ := h 0 _ rfl
  refine ⟨x0, ?_, e0⟩
  apply Array.ext_getElem?
  intro j
  rcases j with _ | j
  · exact h0
  · rw [Array.getElem?_eq_none (by simp at hs; omega)]; rfl
theorem args2 {Z : Zn} {w : World} {r0 r1 : RV} {us : Array Value} (h : RelRs Z w [r0, r1] us) : ∃ u0 u1, us = #[u0, u1] ∧ RelR Z w r0 u0 ∧ RelR Z w r1 u1 := by
  obtain ⟨hs, h⟩ := h
  obtain ⟨x0, h0, e0⟩ := h 0 _ rfl
  obtain ⟨x1, h1, e1⟩ := h 1 _ rfl
  refine ⟨x0, x1, ?_, e0, e1⟩
  apply Array.ext_getElem?
  intro j
  rcases j with _ | _ | j
  · exact h0
  · exact h1
  · rw [Array.getElem?_eq_none (by simp at hs; omega)]; rfl

theorem res_span {Z : Zn} {w : World} (lo hi e : Int) : RelRR Z w (.tup [.agg [iP lo, iP hi], .one (iP e)]) (.tuple #[.agg #[.int .i64 lo, .int .i64 hi], .int .i64 e]) := by
  refine ⟨_, rfl, rfl, fun j r hj => ?_⟩
  rcases j with _ | _ | j
  · simp at hj; subst hj
    refine ⟨_, rfl, _, rfl, rfl, fun j c hj => ?_⟩
    rcases j with _ | _ | j
    · simp at hj; subst hj; exact ⟨_, rfl, .v _ rfl⟩
    · simp at hj; subst hj; exact ⟨_, rfl, .v _ rfl⟩
    · simp at hj
  · simp at hj; subst hj; exact ⟨_, rfl, .v _ rfl⟩
  · simp at hj
theorem res_two {Z : Zn} {w : World} (n e : Int) : RelRR Z w (.tup [.one (iP n), .one (iP e)]) (.tuple #[.int .i64 n, .int .i64 e]) := by
  refine ⟨_, rfl, rfl, fun j r hj => ?_⟩
  rcases j with _ | _ | j
  · simp at hj; subst hj; exact ⟨_, rfl, .v _ rfl⟩
  · simp at hj; subst hj; exact ⟨_, rfl, .v _ rfl⟩
  · simp at hj

/-- What a span and an error are, as results. -/
def spanRR (x : (Int × Int) × Int) : RR := .tup [.agg [iP x.1.1, iP x.1.2], .one (iP x.2)]
def twoRR (x : Int × Int) : RR := .tup [.one (iP x.1), .one (iP x.2)]

section
variable (m0 m1 m2 : Int × Int) (runs : List (Int × Int)) (sheep : List Int) (looks : List (Int × Int × Int))
theorem ok_done (k : Int) : FunOK Try.prog 13 [stR m0 m1 m2 runs sheep looks, .one (iP k)] (spanRR (ansE (stM m0 m1 m2 runs sheep looks) (inB k 0 (sheep.length - 1)) (doneL (stM m0 m1 m2 runs sheep looks) k))) := by
  intro Z w us h
  obtain ⟨u0, u1, rfl, h0, h1⟩ := args2 h
  obtain ⟨rv, sv, lv, rfl, hr, hs, hl⟩ := stR_of h0
  cases relR_I h1
  exact (done_any _ _ _ _ _ _ rv sv lv runs sheep looks k w hr hs hl _ rfl).mono fun e w' ⟨h1, h2⟩ => ⟨_, h1, res_span _ _ _, h2⟩
theorem ok_count (k : Int) : FunOK Try.prog 15 [stR m0 m1 m2 runs sheep looks, .one (iP k)] (spanRR (ansE (stM m0 m1 m2 runs sheep looks) (inB k 0 999) (countL (stM m0 m1 m2 runs sheep looks) k))) := by
  intro Z w us h
  obtain ⟨u0, u1, rfl, h0, h1⟩ := args2 h
  obtain ⟨rv, sv, lv, rfl, hr, hs, hl⟩ := stR_of h0
  cases relR_I h1
  exact (count_any _ _ _ _ _ _ rv sv lv runs sheep looks k w hr hs hl _ rfl).mono fun e w' ⟨h1, h2⟩ => ⟨_, h1, res_span _ _ _, h2⟩
theorem ok_takes (k : Int) : FunOK Try.prog 17 [stR m0 m1 m2 runs sheep looks, .one (iP k)] (spanRR (ansE (stM m0 m1 m2 runs sheep looks) (inB k 0 2) (takesL (stM m0 m1 m2 runs sheep looks) k))) := by
  intro Z w us h
  obtain ⟨u0, u1, rfl, h0, h1⟩ := args2 h
  obtain ⟨rv, sv, lv, rfl, hr, hs, hl⟩ := stR_of h0
  cases relR_I h1
  exact (takes_any _ _ _ _ _ _ rv sv lv runs sheep looks k w hr hs hl _ rfl).mono fun e w' ⟨h1, h2⟩ => ⟨_, h1, res_span _ _ _, h2⟩
theorem ok_begun (k : Int) : FunOK Try.prog 19 [stR m0 m1 m2 runs sheep looks, .one (iP k)] (spanRR (ansE (stM m0 m1 m2 runs sheep looks) (inB k 0 (runs.length - 1)) (begunL (stM m0 m1 m2 runs sheep looks) k))) := by
  intro Z w us h
  obtain ⟨u0, u1, rfl, h0, h1⟩ := args2 h
  obtain ⟨rv, sv, lv, rfl, hr, hs, hl⟩ := stR_of h0
  cases relR_I h1
  exact (begun_any _ _ _ _ _ _ rv sv lv runs sheep looks k w hr hs hl _ rfl).mono fun e w' ⟨h1, h2⟩ => ⟨_, h1, res_span _ _ _, h2⟩
theorem ok_over (k : Int) : FunOK Try.prog 21 [stR m0 m1 m2 runs sheep looks, .one (iP k)] (spanRR (ansE (stM m0 m1 m2 runs sheep looks) (inB k 0 (runs.length - 1)) (overL (stM m0 m1 m2 runs sheep looks) k))) := by
  intro Z w us h
  obtain ⟨u0, u1, rfl, h0, h1⟩ := args2 h
  obtain ⟨rv, sv, lv, rfl, hr, hs, hl⟩ := stR_of h0
  cases relR_I h1
  exact (overX_any _ _ _ _ _ _ rv sv lv runs sheep looks k w hr hs hl _ rfl).mono fun e w' ⟨h1, h2⟩ => ⟨_, h1, res_span _ _ _, h2⟩
theorem ok_late (k : Int) : FunOK Try.prog 23 [stR m0 m1 m2 runs sheep looks, .one (iP k)] (twoRR (ansN (stM m0 m1 m2 runs sheep looks) (inB k 0 (runs.length - 1) && decide (0 < k)) (lateL (stM m0 m1 m2 runs sheep looks) k))) := by
  intro Z w us h
  obtain ⟨u0, u1, rfl, h0, h1⟩ := args2 h
  obtain ⟨rv, sv, lv, rfl, hr, hs, hl⟩ := stR_of h0
  cases relR_I h1
  exact (lateX_any _ _ _ _ _ _ rv sv lv runs sheep looks k w hr hs hl _ rfl).mono fun e w' ⟨h1, h2⟩ => ⟨_, h1, res_two _ _, h2⟩
theorem ok_clash : FunOK Try.prog 25 [stR m0 m1 m2 runs sheep looks] (twoRR (ansC (stM m0 m1 m2 runs sheep looks))) := by
  intro Z w us h
  obtain ⟨u0, rfl, h0⟩ := args1 h
  obtain ⟨rv, sv, lv, rfl, hr, hs, hl⟩ := stR_of h0
  exact (clash_any _ _ _ _ _ _ rv sv lv runs sheep looks w hr hs hl _ rfl).mono fun e w' ⟨h1, h2⟩ => ⟨_, h1, res_two _ _, h2⟩
end
end Go.Proofs.Ytojbkpnkcpcioaa
