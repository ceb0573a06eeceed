/- burr, plain: a truth, and tests that are right. -/
import Derived.Test.YtknikcpeacmpmaaBxJ
import Derived.Test.YtknikcpeacmpmaaBxF
import Derived.Test.YtknikcpeacmpmaaBxE
set_option linter.all false
namespace Go.Proofs.Ytknikcpeacmpmaa
open Go Go.RowKit Go.Sh Go.Pv
/-- Tests that are right. -/
def trT (h : Nat) (tests : List (Int × Bool)) : List (Int × Bool) := tests.map fun t => (t.1, h.testBit t.1.toNat)
/-- The bales that truly hold one. -/
def trH (bales : List (Int × Int)) (m o : Nat) : Nat := hitF (sN bales) m bales.length ||| (hitF (pN bales) m bales.length &&& o)
section
variable {N L U T : Nat} {bales : List (Int × Int)} {tests : List (Int × Bool)}
theorem trH_lt (hB : BOK N L U T bales tests) (m o : Nat) : trH bales m o < 2 ^ bales.length := by
  refine Nat.or_lt_two_pow (hitF_lt _ _ _) (Nat.lt_of_le_of_lt Nat.and_le_left (hitF_lt _ _ _))
theorem truth_in (hB : BOK N L U T bales tests) {m o : Nat} (hm : m < 2 ^ N) (hp : L ≤ popc m ∧ popc m ≤ U) : (m, trH bales m o) ∈ TR N L U bales (trT (trH bales m o) tests) := by
  refine mem_TR.2 ⟨hm, trH_lt hB m o, rtB_iff.2 ⟨hp, ⟨trH_lt hB m o, fun i hi => ⟨fun hs => ?_, fun hb => ?_⟩⟩, fun t ht => ?_⟩⟩
  · unfold trH
    rw [Nat.testBit_or, hitF_bit]
    simp [hi, hs]
  · unfold trH at hb
    rw [Nat.testBit_or, Nat.testBit_and, hitF_bit, hitF_bit] at hb
    simp only [Bool.or_eq_true, Bool.and_eq_true, decide_eq_true_eq] at hb
    rcases hb with ⟨_, hb⟩ | ⟨⟨_, hb⟩, _⟩
    · obtain ⟨j, h1, h2⟩ := and_ne_iff.1 hb
      exact and_ne_iff.2 ⟨j, sub_iff.1 (hB.ba i hi).2.2 j h1, h2⟩
    · exact hb
  · obtain ⟨x, _, rfl⟩ := List.mem_map.1 ht
    rfl
theorem trT_ok (hB : BOK N L U T bales tests) (h : Nat) : BOK N L U T bales (trT h tests) :=
  ⟨hB.n1, hB.n5, hB.lh, hB.hn, hB.b6, hB.tp, by unfold trT; rw [List.length_map]; exact hB.t6, hB.ba, fun t ht => by
    obtain ⟨x, hx, rfl⟩ := List.mem_map.1 ht
    exact hB.te x hx⟩
theorem trT_burr {n lo hi top : Int} (hb : burrB n lo hi top bales tests = true) (h : Nat) : burrB n lo hi top bales (trT h tests) = true := by
  unfold burrB headB trT at *
  rw [List.length_map, List.all_map]
  exact hb
variable {m h : Nat}
theorem no_clash (hB : BOK N L U T bales tests) (ht : (m, h) ∈ TR N L U bales tests) : (setsL tests.length).any (clashP N L U bales tests) = false := by
  rw [clash_any hB]
  unfold clashP
  rw [sel_all, count_TR hB.b6 hB.te6]
  refine decide_eq_false fun h0 => ?_
  rw [List.eq_nil_of_length_eq_zero h0] at ht
  cases ht
theorem all_sub {A : List Nat} {a x : Nat} (ha : (seeL A).2 = some a) (hx : x ∈ A) : diffN a x = 0 := sub_iff.2 fun i hi => (see_bit2 ha).1 hi x hx
theorem some_sup {A : List Nat} {x : Nat} (hx : x ∈ A) : diffN x (seeL A).1 = 0 := sub_iff.2 fun i hi => see_bit1.2 ⟨x, hx, hi⟩
theorem clean_true (hB : BOK N L U T bales tests) (ht : (m, h) ∈ TR N L U bales tests) : (cleanA N L U T bales tests = 2 → h &&& T = 0) ∧ (cleanA N L U T bales tests = 0 → h &&& T ≠ 0) := by
  have hl : 0 < (TR N L U bales tests).length := List.length_pos_of_mem ht
  rw [cleanA_eq hB]
  unfold tidyN
  constructor
  · intro e
    by_cases h1 : ((TR N L U bales tests).countP fun x => decide (x.2 &&& T = 0)) = (TR N L U bales tests).length
    · have := List.countP_eq_length.1 h1 _ ht
      exact of_decide_eq_true this
    · rw [if_neg h1] at e
      split at e <;> cases e
  · intro e h0
    have hpos : 0 < ((TR N L U bales tests).countP fun x => decide (x.2 &&& T = 0)) := List.countP_pos_iff.2 ⟨_, ht, decide_eq_true h0⟩
    by_cases h1 : ((TR N L U bales tests).countP fun x => decide (x.2 &&& T = 0)) = (TR N L U bales tests).length
    · rw [if_pos h1] at e; cases e
    · rw [if_neg h1, if_neg (by omega)] at e; cases e
theorem clean_range (hB : BOK N L U T bales tests) : cleanA N L U T bales tests = 0 ∨ cleanA N L U T bales tests = 1 ∨ cleanA N L U T bales tests = 2 := by
  rw [cleanA_eq hB]
  split
  · exact .inr (.inr rfl)
  · split
    · exact .inl rfl
    · exact .inr (.inl rfl)
theorem pure_true {c : Nat} (hs : diffN h c = 0) : diffN T c &&& h = 0 ∧ diffN (diffN T c) T = 0 := by
  constructor
  · refine and_zero_iff.2 fun i h1 h2 => ?_
    have := sub_iff.1 hs i h2
    rw [diffN_testBit] at h1
    simp [this] at h1
  · refine sub_iff.2 fun i h1 => ?_
    rw [diffN_testBit] at h1
    simp only [Bool.and_eq_true] at h1
    exact h1.1
/-- What is found in the bales of a set. -/
def opT (S h : Nat) : Nat → List (Int × Bool)
  | 0 => []
  | k + 1 => opT S h k ++ if S.testBit k = true then [((k : Int), h.testBit k)] else []
theorem opT_mem {S h : Nat} : ∀ {k : Nat} {t : Int × Bool}, t ∈ opT S h k → ∃ i : Nat, i < k ∧ S.testBit i = true ∧ t = ((i : Int), h.testBit i)
  | 0, _, ht => by cases ht
  | k + 1, t, ht => by
    unfold opT at ht
    rcases List.mem_append.1 ht with ht | ht
    · obtain ⟨i, h1, h2⟩ := opT_mem ht
      exact ⟨i, by omega, h2⟩
    · split at ht
      · rename_i hk
        obtain rfl := List.mem_singleton.1 ht
        exact ⟨k, by omega, hk, rfl⟩
      · cases ht
theorem opT_of {S h : Nat} : ∀ {k i : Nat}, i < k → S.testBit i = true → ((i : Int), h.testBit i) ∈ opT S h k
  | k + 1, i, hi, hs => by
    unfold opT
    by_cases e : i = k
    · subst e; rw [if_pos hs]; simp
    · exact List.mem_append.2 (.inl (opT_of (by omega) hs))
theorem opT_len (S h : Nat) : ∀ k, (opT S h k).length ≤ k
  | 0 => Nat.le_refl _
  | k + 1 => by
    unfold opT
    have := opT_len S h k
    rw [List.length_append]
    split <;> simp <;> omega
theorem open_true (hB : BOK N L U T bales tests) (ht : (m, h) ∈ TR N L U bales tests) :
    (m, h) ∈ TR N L U bales (tests ++ opT (openS N L U T bales tests) h bales.length) ∧
    ∀ x ∈ TR N L U bales (tests ++ opT (openS N L U T bales tests) h bales.length), x.2 &&& T = h &&& T := by
  obtain ⟨h1, h2, h3⟩ := open_first hB
  generalize openS N L U T bales tests = S at *
  rw [TR_append]
  refine ⟨List.mem_filter.2 ⟨ht, List.all_eq_true.2 fun t hto => ?_⟩, fun x hx => ?_⟩
  · obtain ⟨i, _, _, rfl⟩ := opT_mem hto
    simp
  · obtain ⟨hx1, hx2⟩ := List.mem_filter.1 hx
    have hT : Tells S T ((TR N L U bales tests).map (·.2)) := of_decide_eq_true h2
    refine hT _ (List.mem_map.2 ⟨x, hx1, rfl⟩) _ (List.mem_map.2 ⟨_, ht, rfl⟩) ?_
    apply Nat.eq_of_testBit_eq
    intro i
    rw [Nat.testBit_and, Nat.testBit_and]
    cases hS : S.testBit i with
    | false => simp
    | true =>
      have hi : i < bales.length := by
        rcases Nat.lt_or_ge i bales.length with hi | hi
        · exact hi
        · rw [bit_out h1 hi] at hS; cases hS
      have := List.all_eq_true.1 hx2 _ (opT_of (h := h) hi hS)
      simp only [Int.toNat_natCast, beq_iff_eq] at this
      rw [this]
theorem known_all {A : List Nat} {a x : Nat} (ha : (seeL A).2 = some a) (hx : x ∈ A) (h : ∀ y ∈ A, y &&& T = x &&& T) : a &&& T = x &&& T ∧ (seeL A).1 &&& T = x &&& T := by
  constructor
  · refine and_same fun j hj => ?_
    rw [see_bit2 ha]
    exact ⟨fun h1 => h1 x hx, fun h1 y hy => (same_and (h y hy) hj).2 h1⟩
  · refine and_same fun j hj => ?_
    rw [see_bit1]
    exact ⟨fun ⟨y, hy, h1⟩ => (same_and (h y hy) hj).1 h1, fun h1 => ⟨x, hx, h1⟩⟩
theorem op_burr {n lo hi top : Int} (hb : burrB n lo hi top bales tests = true) {S h : Nat} (hl : (tests ++ opT S h bales.length).length ≤ 6) : burrB n lo hi top bales (tests ++ opT S h bales.length) = true :=
  burr_snoc hb (by rwa [List.length_append] at hl) fun t ht => by
    obtain ⟨i, hi, _, rfl⟩ := opT_mem ht
    exact ⟨Int.natCast_nonneg _, Int.ofNat_lt.2 hi⟩
theorem next_true (hB : BOK N L U T bales tests) (ht : (m, h) ∈ TR N L U bales tests) (hl : 0 < bales.length) {b w : Nat} (hb : (nextF N L U bales tests bales.length).1 = b) (hw : (nextF N L U bales tests bales.length).2 = w) :
    b < bales.length ∧ 1 ≤ w ∧ w ≤ cntF L U bales tests (2 ^ N) ∧ 1 ≤ cntF L U bales (tests ++ [((b : Int), h.testBit b)]) (2 ^ N) ∧ cntF L U bales (tests ++ [((b : Int), h.testBit b)]) (2 ^ N) ≤ w := by
  obtain ⟨g1, g2, _⟩ := next_best (N := N) (lo := L) (up := U) (bales := bales) (tests := tests) bales.length hl
  rw [hb] at g1 g2
  rw [hw] at g2
  have h6 := hB.b6
  have s1 := cnt_split (N := N) (lo := L) (up := U) (tests := tests) (c := (b : Int)) hB.b6 hB.te6 (by omega)
  unfold worstF cntT at g2
  have hin : (m, h) ∈ TR N L U bales (tests ++ [((b : Int), h.testBit b)]) := by
    rw [TR_append]
    refine List.mem_filter.2 ⟨ht, ?_⟩
    simp
  have hc : 0 < cntF L U bales (tests ++ [((b : Int), h.testBit b)]) (2 ^ N) := by
    rw [count_TR hB.b6 (fun t hx => by
      rcases List.mem_append.1 hx with hx | hx
      · exact hB.te6 t hx
      · obtain rfl := List.mem_singleton.1 hx
        exact ⟨Int.natCast_nonneg _, by dsimp only; omega⟩)]
    exact List.length_pos_of_mem hin
  cases hbt : h.testBit b <;> rw [hbt] at hc <;> refine ⟨g1, ?_, ?_, ?_, ?_⟩ <;> omega
end
end Go.Proofs.Ytknikcpeacmpmaa
