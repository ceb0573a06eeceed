/- One more element behind an owned row: what holds behind 'append'. -/
import Derived.Test.YtojbkpnkcpcioaaBaseC
import Derived.Maps.AppendAt
import Derived.OwnWalk
set_option linter.all false
namespace Go.Sh
open Go Go.RowKit

theorem cell_two_new (w : World) (x y : Value) (t : TypeId) : ∀ j u, [x, y][j]? = some u → (w.alloc (.cells #[x, y] t)).cell? ((⟨w.heap.size, 0, none⟩ : Addr).add j) = some u := by
  intro j u hj
  match j, hj with
  | 0, hj => simp at hj; subst hj; simp [Addr.add]
  | 1, hj => simp at hj; subst hj; simp [Addr.add]
  | j + 2, hj => simp at hj

theorem apart_of {v v' : Value} {n N : Nat} (hat : v'.ownBlock = v.ownBlock ∨ v'.ownBlock = some n) (h : v.ownBlock ≠ some N) (hn : N < n) : v'.ownBlock ≠ some N := by
  rcases hat with e | e <;> rw [e]
  · exact h
  · intro e; cases e; exact Nat.lt_irrefl _ hn

/-- A cell beside the row, behind the append. -/
theorem grown_cell {w w' : World} {row : Option Nat} (h : w.grownBy w' row) {a : Addr} {u : Value} (hc : w.cell? a = some u) (hr : row ≠ some a.block) : w'.cell? a = some u := by
  rw [World.cell?_of_block (h.block _ (World.block_lt_of_cell? _ _ hc) (fun e => hr e.symm))]; exact hc
theorem grown_frozen {w w' : World} {row : Option Nat} (h : w.grownBy w' row) {a : Addr} (ha : a.block < w.heap.size) (hr : row ≠ some a.block) : w'.frozen? a = w.frozen? a :=
  World.frozen?_of_block (h.block _ ha (fun e => hr e.symm))
/-- All below the row's base stays. -/
theorem grown_below {B : Nat} {a w w' : World} {v : Value} {e : TypeId} {size n : Nat} {xs : List Value} (h : Below B a w) (ho : w.ownsRow B e size v n xs) (hg : w.grownBy w' v.ownBlock) (hB : B ≤ w.heap.size) : Below B a w' := by
  refine h.trans ⟨hg.os, hg.tape, hg.output, hg.size, fun k hk => ?_⟩
  refine hg.block k (Nat.lt_of_lt_of_le hk hB) fun e => ?_
  have := (ho.lt k e.symm).1
  omega

/-- A two-cell block is turned whole, and a block is made. -/
theorem two_set {w : World} {N : Nat} {x y u v : Value} (h0 : w.cell? ⟨N, 0, none⟩ = some u) (h1 : w.cell? ⟨N, 1, none⟩ = some v) (f0 : w.frozen? ⟨N, 0, none⟩ = false) (f1 : w.frozen? ⟨N, 1, none⟩ = false) (o : Obj) :
    (((w.setCell ⟨N, 0, none⟩ x).setCell ⟨N, 1, none⟩ y).alloc o).cell? ⟨N, 0, none⟩ = some x ∧ (((w.setCell ⟨N, 0, none⟩ x).setCell ⟨N, 1, none⟩ y).alloc o).cell? ⟨N, 1, none⟩ = some y ∧
    (((w.setCell ⟨N, 0, none⟩ x).setCell ⟨N, 1, none⟩ y).alloc o).frozen? ⟨N, 0, none⟩ = false ∧ (((w.setCell ⟨N, 0, none⟩ x).setCell ⟨N, 1, none⟩ y).alloc o).frozen? ⟨N, 1, none⟩ = false ∧
    (∀ B, B ≤ N → Below B w (((w.setCell ⟨N, 0, none⟩ x).setCell ⟨N, 1, none⟩ y).alloc o)) ∧ N < w.heap.size := by
  have hN : N < w.heap.size := World.block_lt_of_cell? _ _ h0
  refine ⟨?_, ?_, ?_, ?_, ?_, hN⟩
  · rw [World.cell?_alloc_lt _ _ _ (by simpa using hN)]; simp [go_sem, h0, h1]
  · rw [World.cell?_alloc_lt _ _ _ (by simpa using hN)]; simp [go_sem, h0, h1]
  · rw [World.frozen?_alloc_past _ _ _ (by simpa using hN)]; simp [go_sem, f0]
  · rw [World.frozen?_alloc_past _ _ _ (by simpa using hN)]; simp [go_sem, f1]
  · intro B hB
    exact (((Below.refl B w).setCell hB _).setCell hB _).alloc (by simp; omega) _

theorem ownsRow_frm {w w' : World} {base : Nat} {e : TypeId} {size : Nat} {v : Value} {n : Nat} {xs : List Value} {S : Nat → Prop} (h : w.ownsRow base e size v n xs) (hf : Frm S w w') (hs : ∀ k, v.ownBlock = some k → ¬ S k) : w'.ownsRow base e size v n xs := by
  obtain ⟨hx, h⟩ := h
  refine ⟨hx, ?_⟩
  rcases h with h | ⟨g, cap, cur, rfl, hb, hh, hr⟩
  · exact Or.inl h
  · exact Or.inr ⟨g, cap, cur, rfl, hb, (hf.block g (Array.getElem?_eq_some_iff.1 hh).1 (hs g rfl)).trans hh, hr⟩
def lenV : Value → Nat
  | .slice _ n _ => n
  | _ => 0
theorem owns_slice {w : World} {B : Nat} {v : Value} {e : TypeId} {size n : Nat} {xs : List Value} (h : w.ownsRow B e size v n xs) : ∃ ao cap, v = .slice ao n cap := by
  rcases h.2 with ⟨rfl, rfl⟩ | ⟨g, cap, cur, rfl, _⟩
  · exact ⟨_, _, rfl⟩
  · exact ⟨_, _, rfl⟩
end Go.Sh
