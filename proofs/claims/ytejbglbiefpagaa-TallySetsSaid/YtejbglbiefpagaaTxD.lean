/- tally, plain: some of the calls. -/
import Derived.Test.YtejbglbiefpagaaTxC
set_option linter.all false
namespace Go.Proofs.Ytejbglbiefpagaa
open Go Go.RowKit Go.Sh Go.Pv
/-- The calls of which something is so. -/
def pickL (q : Nat → Bool) (calls : List (Int × Int × Int × Int)) : Nat → List (Int × Int × Int × Int)
  | 0 => []
  | k + 1 => if q k then pickL q calls k ++ [calls.getD k (0, 0, 0, 0)] else pickL q calls k
theorem pick_len (q : Nat → Bool) (calls : List (Int × Int × Int × Int)) : ∀ k, (pickL q calls k).length ≤ k
  | 0 => Nat.le_refl _
  | k + 1 => by
    have := pick_len q calls k
    unfold pickL
    split
    · rw [List.length_append]; simp; omega
    · omega
theorem pick_mem (q : Nat → Bool) (calls : List (Int × Int × Int × Int)) (c : Int × Int × Int × Int) : ∀ k, (c ∈ pickL q calls k ↔ ∃ i, i < k ∧ q i = true ∧ calls.getD i (0, 0, 0, 0) = c)
  | 0 => by simp [pickL]
  | k + 1 => by
    have ih := pick_mem q calls c k
    unfold pickL
    split
    · rename_i hq
      rw [List.mem_append, ih, List.mem_singleton]
      constructor
      · rintro (⟨i, hi, h⟩ | h)
        · exact ⟨i, by omega, h⟩
        · exact ⟨k, by omega, hq, h.symm⟩
      · rintro ⟨i, hi, h⟩
        by_cases hik : i = k
        · subst hik; exact .inr h.2.symm
        · exact .inl ⟨i, by omega, h⟩
    · rename_i hq
      rw [ih]
      constructor
      · rintro ⟨i, hi, h⟩; exact ⟨i, by omega, h⟩
      · rintro ⟨i, hi, h⟩
        by_cases hik : i = k
        · subst hik; exact absurd h.1 hq
        · exact ⟨i, by omega, h⟩
theorem getD_of_mem {α : Type} {l : List α} {d x : α} (h : x ∈ l) : ∃ i, i < l.length ∧ l.getD i d = x := by
  obtain ⟨i, hi, rfl⟩ := List.getElem_of_mem h
  exact ⟨i, hi, by simp [List.getD, hi]⟩
theorem mem_of_getD {α : Type} {l : List α} {d : α} {i : Nat} (h : i < l.length) : l.getD i d ∈ l := by
  have : l.getD i d = l[i] := by simp [List.getD, h]
  rw [this]; exact List.getElem_mem h
section
variable {N : Nat} {most : Int} {strays : List (Int × Int)} {calls : List (Int × Int × Int × Int)}
/-- What is so of each truth, whatever was called. -/
structure Base (N : Nat) (most : Int) (strays : List (Int × Int)) (x y : Nat → Int) : Prop where
  sh : ∀ i, i < N → 0 ≤ x i ∧ x i ≤ most
  st : ∀ i, i < strays.length → (strays.getD i (0, 0)).1 ≤ y i ∧ y i ≤ (strays.getD i (0, 0)).2
  pe : ∀ i, i < N → 0 ≤ penT N x y i
def inC (N : Nat) (x y : Nat → Int) (c : Int × Int × Int × Int) : Prop := c.2.2.1 ≤ cntT N x y c ∧ cntT N x y c ≤ c.2.2.2
theorem isT_bits {S : Nat} {x y : Nat → Int} : IsT N most strays calls S x y ↔ Base N most strays x y ∧ ∀ i, i < calls.length → S.testBit i = true → inC N x y (calls.getD i (0, 0, 0, 0)) :=
  ⟨fun h => ⟨⟨h.sh, h.st, h.pe⟩, h.ca⟩, fun h => ⟨h.1.sh, h.1.st, h.1.pe, h.2⟩⟩
theorem isT_all {x y : Nat → Int} : IsT N most strays calls (2 ^ calls.length - 1) x y ↔ Base N most strays x y ∧ ∀ c, c ∈ calls → inC N x y c := by
  rw [isT_bits]
  refine and_congr_right fun _ => ⟨fun h c hc => ?_, fun h i hi _ => h _ (mem_of_getD hi)⟩
  obtain ⟨i, hi, rfl⟩ := getD_of_mem (d := (0, 0, 0, 0)) hc
  exact h i hi (by rw [every_bit]; simpa using hi)
theorem isT_pick (q : Nat → Bool) {S : Nat} (hq : ∀ i, i < calls.length → q i = S.testBit i) {x y : Nat → Int} : IsT N most strays (pickL q calls calls.length) (2 ^ (pickL q calls calls.length).length - 1) x y ↔ IsT N most strays calls S x y := by
  rw [isT_all, isT_bits]
  refine and_congr_right fun _ => ⟨fun h i hi hb => h _ ((pick_mem _ _ _ _).2 ⟨i, hi, by rw [hq i hi]; exact hb, rfl⟩), fun h c hc => ?_⟩
  obtain ⟨i, hi, hb, rfl⟩ := (pick_mem _ _ _ _).1 hc
  exact h i hi (by rw [← hq i hi]; exact hb)
theorem whole_pick (q : Nat → Bool) {S : Nat} (hq : ∀ i, i < calls.length → q i = S.testBit i) : Whole N most strays (pickL q calls calls.length) ↔ Feas N most strays calls S := by
  unfold Whole Feas
  exact ⟨fun ⟨x, y, h⟩ => ⟨x, y, (isT_pick q hq).1 h⟩, fun ⟨x, y, h⟩ => ⟨x, y, (isT_pick q hq).2 h⟩⟩
theorem tok_sub (h : TOK N most strays calls) {calls' : List (Int × Int × Int × Int)} (hl : calls'.length ≤ 8) (hc : ∀ c, c ∈ calls' → isCallB N c = true) : TOK N most strays calls' :=
  ⟨h.n1, h.n5, h.m0, h.m60, h.sl, hl, h.st, fun i hi => hc _ (mem_of_getD hi)⟩
theorem tok_pick (h : TOK N most strays calls) (q : Nat → Bool) : TOK N most strays (pickL q calls calls.length) :=
  tok_sub h (Nat.le_trans (pick_len _ _ _) h.cl) fun c hc => by
    obtain ⟨i, hi, _, rfl⟩ := (pick_mem _ _ _ _).1 hc
    exact h.ca i hi
end
end Go.Proofs.Ytejbglbiefpagaa
