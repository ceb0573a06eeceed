/- The ends of the exported functions: the deferred answer, the named results. -/
import Derived.Test.YtojbkpnkcpcioaaStL
set_option linter.all false
namespace Go.Proofs.Ytojbkpnkcpcioaa
open Go.RowKit Go.Sh Go.Sh.Stand Go.Shelf

theorem slot_ptr {a : Act} {t : Nat} {p : Option Addr} (h : slot a t = .pointer p) : a.tmps[t]? = some (.pointer p) := by
  unfold slot at h
  cases ht : a.tmps[t]? with
  | none => rw [ht] at h; cases h
  | some v => rw [ht] at h; simpa using h

theorem end_panic {fn : Func} (hres : fn.results = #[.cell 4 23, .cell 5 32]) {tmps : Array Value} {N2 N3 : Nat} (h4 : tmps[4]? = some (.pointer (some ⟨N2, 0, none⟩))) (h5 : tmps[5]? = some (.pointer (some ⟨N3, 0, none⟩)))
    {c : Int} {x : World} {lo hi : Int} (c0 : x.cell? ⟨N2, 0, none⟩ = some (.int .i64 lo)) (c1 : x.cell? ⟨N2, 1, none⟩ = some (.int .i64 hi)) (e0 : x.cell? ⟨N3, 0, none⟩ = some (.int .i64 0)) (f0 : x.frozen? ⟨N3, 0, none⟩ = false) (hn : N2 ≠ N3)
    {R : Ending → World → Prop} (hR : R (.returned (.tuple #[.agg #[.int .i64 lo, .int .i64 hi], .int .i64 c])) (x.setCell ⟨N3, 0, none⟩ (.int .i64 c))) :
    Leaves Try.prog fn tmps R [{ target := .fn (.func 40) #[], args := #[.pointer (some ⟨N3, 0, none⟩)] }] (.panicking (refusal c)) x := by
  refine leaves_cons (f := 40) (args := #[.pointer (some ⟨N3, 0, none⟩)]) (by simp) (by simp [go_sem]) ?_
  refine (answer_refused ⟨N3, 0, none⟩ 0 c [] x e0 f0).mono ?_
  rintro e u' w' ⟨rfl, rfl, rfl⟩
  have k0 : (x.setCell ⟨N3, 0, none⟩ (.int .i64 c)).cell? ⟨N2, 0, none⟩ = some (.int .i64 lo) := by rw [World.cell?_of_block (Below.heap_setCell _ _ _ _ hn)]; exact c0
  have k1 : (x.setCell ⟨N3, 0, none⟩ (.int .i64 c)).cell? ⟨N2, 1, none⟩ = some (.int .i64 hi) := by rw [World.cell?_of_block (Below.heap_setCell _ _ _ _ hn)]; exact c1
  have k2 : (x.setCell ⟨N3, 0, none⟩ (.int .i64 c)).cell? ⟨N3, 0, none⟩ = some (.int .i64 c) := World.cell?_setCell_same' _ _ _ (by rw [e0]; rfl)
  refine ⟨_, ?_, hR⟩
  simp [results, hres, h4, h5, go_sem, k0, k1, k2]
theorem end_ok {fn : Func} (hres : fn.results = #[.cell 4 23, .cell 5 32]) {tmps : Array Value} {N2 N3 : Nat} (h4 : tmps[4]? = some (.pointer (some ⟨N2, 0, none⟩))) (h5 : tmps[5]? = some (.pointer (some ⟨N3, 0, none⟩)))
    {x : World} {lo hi c : Int} (c0 : x.cell? ⟨N2, 0, none⟩ = some (.int .i64 lo)) (c1 : x.cell? ⟨N2, 1, none⟩ = some (.int .i64 hi)) (e0 : x.cell? ⟨N3, 0, none⟩ = some (.int .i64 c))
    {R : Ending → World → Prop} (hR : R (.returned (.tuple #[.agg #[.int .i64 lo, .int .i64 hi], .int .i64 c])) x) :
    Leaves Try.prog fn tmps R [{ target := .fn (.func 40) #[], args := #[.pointer (some ⟨N3, 0, none⟩)] }] .returning x := by
  refine leaves_cons (f := 40) (args := #[.pointer (some ⟨N3, 0, none⟩)]) (by simp) (by simp [go_sem]) ?_
  refine (answer_idle ⟨N3, 0, none⟩ x).mono ?_
  rintro e u' w' ⟨rfl, rfl, rfl⟩
  refine ⟨_, ?_, hR⟩
  simp [results, hres, h4, h5, go_sem, c0, c1, e0]

/-- What a measured question is answered. -/
def ansE (s : Stand) (okI : Bool) (L : List Int) : (Int × Int) × Int :=
  if validB s = false then ((0, 0), 1) else if okI = false then ((0, 0), 2) else if L = [] then ((0, 0), 10) else (joinedL (L.map fun n => (n, n)), 0)
def Answered (s : Stand) (okI : Bool) (L : List Int) (w : World) (e : Ending) (w' : World) : Prop :=
  e = .returned (.tuple #[.agg #[.int .i64 (ansE s okI L).1.1, .int .i64 (ansE s okI L).1.2], .int .i64 (ansE s okI L).2]) ∧ Below w.heap.size w w'

/-- How open or what follows refuses: which of the three errors, and why. -/
def Refuses (s : Stand) (okI : Bool) (L : List Int) (c : Int) : Prop := (validB s = false ∧ c = 1) ∨ (validB s = true ∧ okI = false ∧ c = 2) ∨ (validB s = true ∧ okI = true ∧ L = [] ∧ c = 10)
theorem Refuses.ans {s : Stand} {okI : Bool} {L : List Int} {c : Int} (h : Refuses s okI L c) : ansE s okI L = ((0, 0), c) := by
  unfold ansE
  rcases h with ⟨h1, rfl⟩ | ⟨h1, h2, rfl⟩ | ⟨h1, h2, h3, rfl⟩
  · rw [if_pos h1]
  · rw [if_neg (by simp [h1]), if_pos h2]
  · rw [if_neg (by simp [h1]), if_neg (by simp [h2]), if_pos h3]
theorem ans_told {s : Stand} {okI : Bool} {L : List Int} (h1 : validB s = true) (h2 : okI = true) (h3 : L ≠ []) : ansE s okI L = (joinedL (L.map fun n => (n, n)), 0) := by
  unfold ansE
  rw [if_neg (by simp [h1]), if_neg (by simp [h2]), if_neg h3]

def standV (a0 b0 a1 b1 a2 b2 : Int) (rv sv lv : Value) : Value := .agg #[.int .i64 a0, .int .i64 b0, .int .i64 a1, .int .i64 b1, .int .i64 a2, .int .i64 b2, rv, sv, lv]
end Go.Proofs.Ytojbkpnkcpcioaa
