/- tally, the document's functions: all that there can be (plain), and how many. -/
import Derived.Test.YtejbglbiefpagaaTzD
set_option linter.all false
namespace Go.Proofs.Ytejbglbiefpagaa
open Go Go.RowKit Go.Sh Go.Pv
theorem ran_mem {α : Type} {f : Int → List α} {lo : Int} {x : α} : ∀ {m : Nat}, x ∈ ranF f lo m ↔ ∃ j : Nat, j < m ∧ x ∈ f (lo + j)
  | 0 => by simp [ranF]
  | m + 1 => by
    unfold ranF
    rw [List.mem_append, ran_mem (m := m)]
    constructor
    · rintro (⟨j, h1, h2⟩ | h)
      · exact ⟨j, by omega, h2⟩
      · exact ⟨m, by omega, h⟩
    · rintro ⟨j, h1, h2⟩
      by_cases e : j = m
      · subst e; exact .inr h2
      · exact .inl ⟨j, by omega, h2⟩
theorem ran_same {α : Type} {f : Int → List α} {lo : Int} {c : Nat} (h : ∀ k, (f k).length = c) : ∀ m : Nat, (ranF f lo m).length = m * c
  | 0 => by simp [ranF]
  | m + 1 => by unfold ranF; rw [List.length_append, ran_same h m, h, Nat.succ_mul]
/-- How many lists go on. -/
def waysF (l : List (Int × Int)) : Nat → Nat → Nat
  | 0, _ => 1
  | n + 1, k => ((l.getD k (0, 0)).2 - (l.getD k (0, 0)).1 + 1).toNat * waysF l n (k + 1)
theorem lists_len (l : List (Int × Int)) : ∀ n pre, (listsF l n pre).length = waysF l n pre.length
  | 0, pre => rfl
  | n + 1, pre => by
    unfold listsF waysF
    rw [ran_same (c := waysF l n (pre.length + 1)) fun k => by rw [lists_len l n (pre ++ [k])]; simp]
theorem lists_mem (l : List (Int × Int)) : ∀ n pre x, l.length = pre.length + n → (x ∈ listsF l n pre ↔ x.length = l.length ∧ x.take pre.length = pre ∧ ∀ i, pre.length ≤ i → i < l.length → (l.getD i (0, 0)).1 ≤ x.getD i 0 ∧ x.getD i 0 ≤ (l.getD i (0, 0)).2)
  | 0, pre, x, hl => by
    unfold listsF
    rw [List.mem_singleton]
    constructor
    · rintro rfl
      exact ⟨by omega, List.take_of_length_le (Nat.le_refl _), fun i h1 h2 => absurd h2 (by omega)⟩
    · rintro ⟨h1, h2, _⟩
      rw [List.take_of_length_le (by omega)] at h2
      exact h2
  | n + 1, pre, x, hl => by
    unfold listsF
    rw [ran_mem]
    constructor
    · rintro ⟨j, h1, h2⟩
      obtain ⟨g1, g2, g3⟩ := (lists_mem l n _ x (by simp; omega)).1 h2
      simp only [List.length_append, List.length_cons, List.length_nil, Nat.zero_add] at g2 g3
      have hx : x.getD pre.length 0 = (l.getD pre.length (0, 0)).1 + j := by
        have : (x.take (pre.length + 1)).getD pre.length 0 = (pre ++ [(l.getD pre.length (0, 0)).1 + (j : Int)]).getD pre.length 0 := by rw [g2]
        rw [List.getD_eq_getElem?_getD, List.getElem?_take, if_pos (by omega), ← List.getD_eq_getElem?_getD] at this
        rw [this]; simp
      refine ⟨g1, ?_, fun i h3 h4 => ?_⟩
      · have : (x.take (pre.length + 1)).take pre.length = (pre ++ [(l.getD pre.length (0, 0)).1 + (j : Int)]).take pre.length := by rw [g2]
        rw [List.take_take, Nat.min_eq_left (by omega), List.take_left] at this
        exact this
      · by_cases e : i = pre.length
        · subst e
          rw [hx]; omega
        · exact g3 i (by omega) h4
    · rintro ⟨g1, g2, g3⟩
      have hb := g3 pre.length (Nat.le_refl _) (by omega)
      refine ⟨(x.getD pre.length 0 - (l.getD pre.length (0, 0)).1).toNat, by omega, (lists_mem l n _ x (by simp; omega)).2 ⟨g1, ?_, fun i h3 h4 => g3 i (by simp at h3; omega) h4⟩⟩
      have he : (l.getD pre.length (0, 0)).1 + ((x.getD pre.length 0 - (l.getD pre.length (0, 0)).1).toNat : Int) = x.getD pre.length 0 := by omega
      rw [he]
      simp only [List.length_append, List.length_cons, List.length_nil, Nat.zero_add]
      rw [List.take_succ, g2]
      have hp : pre.length < x.length := by omega
      rw [List.getD_eq_getElem?_getD, List.getElem?_eq_getElem hp]; rfl
theorem listsA_mem {l : List (Int × Int)} {x : List Int} : x ∈ listsA l ↔ x.length = l.length ∧ ∀ i, i < l.length → (l.getD i (0, 0)).1 ≤ x.getD i 0 ∧ x.getD i 0 ≤ (l.getD i (0, 0)).2 := by
  unfold listsA
  rw [lists_mem l l.length [] x (by simp)]
  simp
theorem listsA_len (l : List (Int × Int)) : (listsA l).length = waysF l l.length 0 := by unfold listsA; rw [lists_len]; rfl
/-- Each of some with each of others. -/
def pairs {α β : Type} (a : List α) (b : List β) : List (α × β) := a.flatMap fun x => b.map fun y => (x, y)
theorem pairs_mem {α β : Type} {a : List α} {b : List β} {t : α × β} : t ∈ pairs a b ↔ t.1 ∈ a ∧ t.2 ∈ b := by
  unfold pairs
  obtain ⟨x, y⟩ := t
  simp [List.mem_flatMap, List.mem_map]
theorem pairs_len {α β : Type} (a : List α) (b : List β) : (pairs a b).length = a.length * b.length := by
  unfold pairs
  induction a with
  | nil => simp
  | cons x r ih => rw [List.flatMap_cons, List.length_append, ih, List.length_map, List.length_cons, Nat.succ_mul]; omega
theorem pairs_take {α β : Type} (a : List α) (b : List β) (d : α) {i : Nat} (hi : i < a.length) : pairs (a.take (i + 1)) b = pairs (a.take i) b ++ b.map fun y => (a.getD i d, y) := by
  have e1 : a.take (i + 1) = a.take i ++ [a.getD i d] := by
    rw [List.take_succ, List.getElem?_eq_getElem hi, List.getD_eq_getElem?_getD, List.getElem?_eq_getElem hi]; rfl
  unfold pairs
  rw [e1, List.flatMap_append]; simp
/-- All that there can be. -/
def allG (N : Nat) (most : Int) (strays : List (Int × Int)) : List (List Int × List Int) := pairs (listsA (List.replicate N (0, most))) (listsA strays)
section
variable {N : Nat} {most : Int} {strays : List (Int × Int)} {calls : List (Int × Int × Int × Int)}
theorem rep_getD {i : Nat} (hi : i < N) (most : Int) : (List.replicate N ((0 : Int), most)).getD i (0, 0) = (0, most) := by
  rw [List.getD_eq_getElem?_getD, List.getElem?_replicate, if_pos hi]; rfl
theorem allG_mem {t : List Int × List Int} : t ∈ allG N most strays ↔ (t.1.length = N ∧ ∀ i, i < N → 0 ≤ fX t.1 i ∧ fX t.1 i ≤ most) ∧ t.2.length = strays.length ∧ ∀ i, i < strays.length → (strays.getD i (0, 0)).1 ≤ fX t.2 i ∧ fX t.2 i ≤ (strays.getD i (0, 0)).2 := by
  unfold allG
  rw [pairs_mem, listsA_mem, listsA_mem, List.length_replicate]
  refine and_congr (and_congr Iff.rfl ⟨fun h i hi => ?_, fun h i hi => ?_⟩) Iff.rfl
  · have := h i hi; rw [rep_getD hi] at this; exact this
  · rw [rep_getD hi]; exact h i hi
theorem allG_good (h : TOK N most strays calls) {t : List Int × List Int} (ht : t ∈ allG N most strays) : GoodT N t := by
  obtain ⟨⟨h1, h2⟩, h3, h4⟩ := allG_mem.1 ht
  have sl := h.sl
  have m60 := h.m60
  refine ⟨h1, by omega, fun i => ?_, fun i => ?_⟩
  · by_cases hi : i < N
    · have := h2 i hi; omega
    · unfold fX; rw [List.getD_eq_getElem?_getD, List.getElem?_eq_none (by omega)]; decide
  · by_cases hi : i < strays.length
    · have := h4 i hi
      have := span_of (h.st i hi)
      omega
    · unfold fX; rw [List.getD_eq_getElem?_getD, List.getElem?_eq_none (by omega)]; decide
/-- The truths of the document, by the calls of a set. -/
noncomputable def truthsG (N : Nat) (most : Int) (strays : List (Int × Int)) (calls : List (Int × Int × Int × Int)) (set : Nat) : List (List Int × List Int) := (allG N most strays).filter (rightB N calls set)
theorem truths_isT (h : TOK N most strays calls) {set : Nat} {t : List Int × List Int} (ht : t ∈ truthsG N most strays calls set) : IsT N most strays calls set (fX t.1) (fX t.2) := by
  obtain ⟨h1, h2⟩ := List.mem_filter.1 ht
  obtain ⟨⟨_, g2⟩, _, g4⟩ := allG_mem.1 h1
  have h2 := rightB_iff.1 h2
  exact isT_bits.2 ⟨⟨g2, g4, h2.1⟩, h2.2⟩
theorem isT_truths (h : TOK N most strays calls) {set : Nat} {x y : Nat → Int} (t : IsT N most strays calls set x y) : ∃ u, u ∈ truthsG N most strays calls set ∧ (∀ i, i < N → fX u.1 i = x i) ∧ ∀ i, i + 1 < N → fX u.2 i = y i := by
  have sl := h.sl
  have gx : ∀ (z : Nat → Int) (m i : Nat), i < m → fX ((List.range m).map z) i = z i := fun z m i hi => by
    unfold fX; rw [List.getD_eq_getElem?_getD, List.getElem?_map, List.getElem?_range hi]; rfl
  have hx : ∀ i, i < N → fX ((List.range N).map x) i = x i := gx x N
  have hy : ∀ i, i < strays.length → fX ((List.range strays.length).map y) i = y i := gx y _
  have hpen : ∀ p, p < N → penT N (fX ((List.range N).map x)) (fX ((List.range strays.length).map y)) p = penT N x y p := fun p hp => by
    unfold penT
    rw [hx p hp]
    by_cases h0 : p = 0
    · rw [if_pos h0, if_pos h0]
      by_cases h1 : p + 1 = N
      · rw [if_pos h1, if_pos h1]
      · rw [if_neg h1, if_neg h1, hy p (by omega)]
    · rw [if_neg h0, if_neg h0, hy (p - 1) (by omega)]
      by_cases h1 : p + 1 = N
      · rw [if_pos h1, if_pos h1]
      · rw [if_neg h1, if_neg h1, hy p (by omega)]
  have hsum : ∀ k, k ≤ N → sumT (fX ((List.range N).map x)) k = sumT x k := fun k hk => by
    induction k with
    | zero => rfl
    | succ k ih => rw [sum_step, sum_step, ih (by omega), hx k (by omega)]
  refine ⟨((List.range N).map x, (List.range strays.length).map y), List.mem_filter.2 ⟨allG_mem.2 ⟨⟨by simp, fun i hi => by rw [hx i hi]; exact t.sh i hi⟩, by simp, fun i hi => by rw [hy i hi]; exact t.st i hi⟩, rightB_iff.2 ⟨fun p hp => ?_, fun i hi hb => ?_⟩⟩, hx, fun i hi => hy i (by omega)⟩
  · show 0 ≤ penT N _ _ p
    rw [hpen p hp]; exact t.pe p hp
  · have hcb := h.ca i hi
    have := t.ca i hi hb
    have hcc := (call_of hcb).1
    have e : cntT N (fX ((List.range N).map x)) (fX ((List.range strays.length).map y)) (calls.getD i (0, 0, 0, 0)) = cntT N x y (calls.getD i (0, 0, 0, 0)) := by
      unfold cntT
      rcases hcc with k2 | ⟨k0 | k1, h3⟩
      · rw [if_neg (by omega), if_neg (by omega), if_neg (by omega), if_neg (by omega), hsum N (Nat.le_refl _)]
      · rw [if_pos k0, if_pos k0, hx _ (by omega)]
      · rw [if_neg (by omega), if_pos k1, if_neg (by omega), if_pos k1, hpen _ (by omega)]
    unfold inC
    rw [e]; exact this
end
end Go.Proofs.Ytejbglbiefpagaa
