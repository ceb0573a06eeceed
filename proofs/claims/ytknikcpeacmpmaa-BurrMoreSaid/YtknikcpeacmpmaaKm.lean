/- Km: texts joined (BxA BxB BxC BxD). -/
import Derived.Test.YtknikcpeacmpmaaKj
set_option linter.all false
/- burr: truths, and what is returned, without the program. -/
namespace Go.Proofs.Ytknikcpeacmpmaa
open Go Go.RowKit Go.Sh Go.Pv
theorem sub_iff {a b : Nat} : diffN a b = 0 ↔ ∀ i, a.testBit i = true → b.testBit i = true := by
  constructor
  · intro h i hi
    have := diffN_testBit a b i
    rw [h, hi] at this
    simpa using this
  · intro h
    apply Nat.eq_of_testBit_eq
    intro i
    rw [diffN_testBit, Nat.zero_testBit]
    cases ha : a.testBit i with
    | false => rfl
    | true => rw [h i ha]; rfl
theorem and_zero_iff {a b : Nat} : a &&& b = 0 ↔ ∀ i, a.testBit i = true → b.testBit i = true → False := by
  constructor
  · intro h i h1 h2
    have := Nat.testBit_and a b i
    rw [h, h1, h2] at this
    simp at this
  · intro h
    apply Nat.eq_of_testBit_eq
    intro i
    rw [Nat.testBit_and, Nat.zero_testBit]
    cases ha : a.testBit i with
    | false => rfl
    | true => cases hb : b.testBit i with
      | false => rfl
      | true => exact (h i ha hb).elim
theorem and_ne_iff {a b : Nat} : a &&& b ≠ 0 ↔ ∃ i, a.testBit i = true ∧ b.testBit i = true := by
  rw [Ne, and_zero_iff]
  constructor
  · intro h
    exact Classical.byContradiction fun hn => h fun i h1 h2 => hn ⟨i, h1, h2⟩
  · rintro ⟨i, h1, h2⟩ h
    exact h i h1 h2
theorem lt_two_pow {a n : Nat} (h : ∀ i, n ≤ i → a.testBit i = false) : a < 2 ^ n := Nat.lt_pow_two_of_testBit a h
theorem bit_out {a n i : Nat} (h : a < 2 ^ n) (hi : n ≤ i) : a.testBit i = false := Nat.testBit_lt_two_pow (Nat.lt_of_lt_of_le h (Nat.pow_le_pow_right (by decide) hi))
def rtB (lo up : Nat) (bales : List (Int × Int)) (tests : List (Int × Bool)) (m h : Nat) : Bool :=
  (decide (lo ≤ popc m) && decide (popc m ≤ up)) && (decide (diffN (heldF bales m tests).1 h = 0) && decide (diffN h (heldF bales m tests).2 = 0))
def TRm (lo up : Nat) (bales : List (Int × Int)) (tests : List (Int × Bool)) (m : Nat) : List (Nat × Nat) := ((List.range (2 ^ bales.length)).filter (rtB lo up bales tests m)).map fun h => (m, h)
/-- All truths, in order. -/
def TR (N lo up : Nat) (bales : List (Int × Int)) (tests : List (Int × Bool)) : List (Nat × Nat) := (List.range (2 ^ N)).flatMap (TRm lo up bales tests)
theorem mem_TR {N lo up : Nat} {bales : List (Int × Int)} {tests : List (Int × Bool)} {x : Nat × Nat} : x ∈ TR N lo up bales tests ↔ x.1 < 2 ^ N ∧ x.2 < 2 ^ bales.length ∧ rtB lo up bales tests x.1 x.2 = true := by
  obtain ⟨m, h⟩ := x
  simp only [TR, TRm, List.mem_flatMap, List.mem_range, List.mem_map, List.mem_filter, Prod.mk.injEq]
  constructor
  · rintro ⟨a, h1, b, ⟨h2, h3⟩, rfl, rfl⟩; exact ⟨h1, h2, h3⟩
  · rintro ⟨h1, h2, h3⟩; exact ⟨m, h1, h, ⟨h2, h3⟩, rfl, rfl⟩
/-- By the tests: bits. -/
theorem fold_bits {tests : List (Int × Bool)} (h : Nat) : ∀ (a b : Nat), (diffN (tests.foldl testF (a, b)).1 h = 0 ∧ diffN h (tests.foldl testF (a, b)).2 = 0) ↔ (diffN a h = 0 ∧ diffN h b = 0) ∧ ∀ t ∈ tests, h.testBit t.1.toNat = t.2 := by
  induction tests with
  | nil => intro a b; simp
  | cons t r ih =>
    intro a b
    obtain ⟨c, f⟩ := t
    rw [List.foldl_cons]
    cases f with
    | true =>
      rw [show testF (a, b) (c, true) = (a ||| 2 ^ c.toNat, b) from rfl, ih]
      simp only [List.mem_cons, forall_eq_or_imp]
      have : diffN (a ||| 2 ^ c.toNat) h = 0 ↔ diffN a h = 0 ∧ h.testBit c.toNat = true := by
        rw [sub_iff, sub_iff]
        constructor
        · intro g
          exact ⟨fun i hi => g i (by rw [Nat.testBit_or, hi]; rfl), g _ (by rw [Nat.testBit_or, Nat.testBit_two_pow_self]; simp)⟩
        · rintro ⟨g1, g2⟩ i hi
          rw [Nat.testBit_or, Nat.testBit_two_pow] at hi
          by_cases hc : c.toNat = i
          · subst hc; exact g2
          · simp [hc] at hi; exact g1 i hi
      rw [this]
      constructor
      · rintro ⟨⟨⟨g1, g2⟩, g3⟩, g4⟩; exact ⟨⟨g1, g3⟩, g2, g4⟩
      · rintro ⟨⟨g1, g3⟩, g2, g4⟩; exact ⟨⟨⟨g1, g2⟩, g3⟩, g4⟩
    | false =>
      rw [show testF (a, b) (c, false) = (a, diffN b (2 ^ c.toNat)) from rfl, ih]
      simp only [List.mem_cons, forall_eq_or_imp]
      have : diffN h (diffN b (2 ^ c.toNat)) = 0 ↔ diffN h b = 0 ∧ h.testBit c.toNat = false := by
        rw [sub_iff, sub_iff]
        constructor
        · intro g
          refine ⟨fun i hi => ?_, ?_⟩
          · have := g i hi; rw [diffN_testBit] at this; simp at this; exact this.1
          · cases hh : h.testBit c.toNat with
            | false => rfl
            | true => have := g _ hh; rw [diffN_testBit, Nat.testBit_two_pow_self] at this; simp at this
        · rintro ⟨g1, g2⟩ i hi
          rw [diffN_testBit, g1 i hi, Nat.testBit_two_pow]
          by_cases hc : c.toNat = i
          · subst hc; rw [g2] at hi; cases hi
          · simp [hc]
      rw [this]
      constructor
      · rintro ⟨⟨g1, g2, g3⟩, g4⟩; exact ⟨⟨g1, g2⟩, g3, g4⟩
      · rintro ⟨⟨g1, g2⟩, g3, g4⟩; exact ⟨⟨g1, g2, g3⟩, g4⟩
/-- Right, bale by bale. -/
theorem rtB_iff {lo up : Nat} {bales : List (Int × Int)} {tests : List (Int × Bool)} {m h : Nat} : rtB lo up bales tests m h = true ↔ (lo ≤ popc m ∧ popc m ≤ up) ∧ (h < 2 ^ bales.length ∧ ∀ i, i < bales.length → (sN bales i &&& m ≠ 0 → h.testBit i = true) ∧ (h.testBit i = true → pN bales i &&& m ≠ 0)) ∧ ∀ t ∈ tests, h.testBit t.1.toNat = t.2 := by
  unfold rtB heldF
  rw [Bool.and_eq_true, Bool.and_eq_true, Bool.and_eq_true, decide_eq_true_iff, decide_eq_true_iff, decide_eq_true_iff, decide_eq_true_iff, fold_bits, sub_iff, sub_iff]
  refine and_congr Iff.rfl (and_congr ?_ Iff.rfl)
  simp only [hitF_bit]
  constructor
  · rintro ⟨g1, g2⟩
    refine ⟨lt_two_pow fun i hi => ?_, fun i hi => ⟨fun hs => g1 i (by simp [hi, hs]), fun hh => ?_⟩⟩
    · cases hh : h.testBit i with
      | false => rfl
      | true => have := g2 i hh; simp at this; omega
    · have := g2 i hh; simp at this; exact this.2
  · rintro ⟨g0, g⟩
    refine ⟨fun i hi => ?_, fun i hi => ?_⟩
    · simp at hi; exact (g i hi.1).1 hi.2
    · have : i < bales.length := by
        refine Nat.lt_of_not_le fun hl => ?_
        rw [bit_out g0 hl] at hi; cases hi
      have := (g i this).2 hi
      simp [*]
/-- How many sets lie between two ones. -/
theorem ways_all : (List.range 64).all (fun l => (List.range 64).all fun u => Nat.beq (waysH (l, u)) ((List.range 64).countP fun h => Nat.beq (diffN l h) 0 && Nat.beq (diffN h u) 0)) = true := by decide +kernel
theorem ways_count {l u : Nat} (hl : l < 64) (hu : u < 64) : waysH (l, u) = (List.range 64).countP fun h => decide (diffN l h = 0) && decide (diffN h u = 0) := by
  have h1 := List.all_eq_true.1 ways_all l (List.mem_range.2 hl)
  have h2 := List.all_eq_true.1 h1 u (List.mem_range.2 hu)
  rw [Nat.eq_of_beq_eq_true h2]
  congr 1
  funext h
  have e : ∀ a : Nat, Nat.beq a 0 = decide (a = 0) := fun a => by
    cases a with
    | zero => rfl
    | succ a => rfl
  rw [e, e]
theorem count_cut {n : Nat} (hn : n ≤ 6) {p : Nat → Bool} (hp : ∀ h, p h = true → h < 2 ^ n) : (List.range 64).countP p = (List.range (2 ^ n)).countP p := by
  have h64 := pow64 hn
  obtain ⟨k, hk⟩ : ∃ k, 64 = 2 ^ n + k := ⟨64 - 2 ^ n, by omega⟩
  rw [hk, List.range_add, List.countP_append]
  have : List.countP p (List.map (fun x => 2 ^ n + x) (List.range k)) = 0 := by
    rw [List.countP_eq_zero]
    intro a ha hpa
    obtain ⟨b, _, rfl⟩ := List.mem_map.1 ha
    have := hp _ hpa
    omega
  omega
theorem TRm_len {lo up : Nat} {bales : List (Int × Int)} {tests : List (Int × Bool)} (hb6 : bales.length ≤ 6) (ht : ∀ t ∈ tests, 0 ≤ t.1 ∧ t.1 < 6) (m : Nat) : (TRm lo up bales tests m).length = if lo ≤ popc m ∧ popc m ≤ up then waysH (heldF bales m tests) else 0 := by
  unfold TRm
  rw [List.length_map, ← List.countP_eq_length_filter]
  obtain ⟨h1, h2⟩ := held_lt (m := m) hb6 ht
  by_cases hp : lo ≤ popc m ∧ popc m ≤ up
  · rw [if_pos hp]
    obtain ⟨⟨l, u⟩, hq⟩ : ∃ q, heldF bales m tests = q := ⟨_, rfl⟩
    have hcut : ∀ h, rtB lo up bales tests m h = true → h < 2 ^ bales.length := fun h hr => (rtB_iff.1 hr).2.1.1
    rw [← count_cut hb6 hcut]
    rw [hq] at h1 h2 ⊢
    rw [ways_count h1 h2]
    congr 1
    funext h
    simp [rtB, hp, hq]
  · rw [if_neg hp, List.countP_eq_zero]
    intro h _ hr
    exact hp (rtB_iff.1 hr).1
theorem cntF_eq {lo up : Nat} {bales : List (Int × Int)} {tests : List (Int × Bool)} (hb6 : bales.length ≤ 6) (ht : ∀ t ∈ tests, 0 ≤ t.1 ∧ t.1 < 6) : ∀ i, cntF lo up bales tests i = ((List.range i).flatMap (TRm lo up bales tests)).length
  | 0 => rfl
  | i + 1 => by
    rw [List.range_succ, List.flatMap_append, List.length_append, ← cntF_eq hb6 ht i]
    have := TRm_len (lo := lo) (up := up) hb6 ht i
    simp only [List.flatMap_cons, List.flatMap_nil, List.append_nil, this]
    rw [show cntF lo up bales tests (i + 1) = if lo ≤ popc i ∧ popc i ≤ up then cntF lo up bales tests i + waysH (heldF bales i tests) else cntF lo up bales tests i from rfl]
    split <;> rfl
theorem count_TR {N lo up : Nat} {bales : List (Int × Int)} {tests : List (Int × Bool)} (hb6 : bales.length ≤ 6) (ht : ∀ t ∈ tests, 0 ≤ t.1 ∧ t.1 < 6) : cntF lo up bales tests (2 ^ N) = (TR N lo up bales tests).length := cntF_eq hb6 ht _
end Go.Proofs.Ytknikcpeacmpmaa
/- burr: what is in all of some sets, and in some, without the program. -/
namespace Go.Proofs.Ytknikcpeacmpmaa
open Go Go.RowKit Go.Sh Go.Pv
/-- What is in all of some sets: of none, all. -/
def iO : Option Nat → Int
  | none => -1
  | some a => (a : Int)
def andO (o : Option Nat) (m : Nat) : Nat := match o with | none => m | some a => a &&& m
def ltO (o : Option Nat) : Prop := ∀ a, o = some a → a < 64
theorem andO_lt {o : Option Nat} {m : Nat} (hm : m < 64) : andO o m < 64 := by
  cases o with
  | none => exact hm
  | some a => exact Nat.lt_of_le_of_lt Nat.and_le_right hm
/-- One more set is seen. -/
def seeS (q : Nat × Option Nat) (m : Nat) : Nat × Option Nat := (q.1 ||| m, some (andO q.2 m))
def seeL (L : List Nat) : Nat × Option Nat := L.foldl seeS (0, none)
theorem seeL_snoc (L : List Nat) (m : Nat) : seeL (L ++ [m]) = seeS (seeL L) m := by unfold seeL; rw [List.foldl_append]; rfl
theorem seeL_snoc2 (L : List Nat) (m k : Nat) : seeL (L ++ [m, k]) = seeS (seeS (seeL L) m) k := by
  rw [show L ++ [m, k] = (L ++ [m]) ++ [k] by simp, seeL_snoc, seeL_snoc]
theorem fold_see1 (j : Nat) : ∀ (L : List Nat) (q : Nat × Option Nat), (L.foldl seeS q).1.testBit j = (q.1.testBit j || L.any fun x => x.testBit j)
  | [], q => by simp
  | x :: L, q => by
    rw [List.foldl_cons, fold_see1 j L]
    simp only [seeS, Nat.testBit_or, List.any_cons, Bool.or_assoc]
theorem see_bit1 {L : List Nat} {j : Nat} : (seeL L).1.testBit j = true ↔ ∃ x ∈ L, x.testBit j = true := by
  unfold seeL
  rw [fold_see1]
  simp [List.any_eq_true]
theorem fold_see2 (j : Nat) : ∀ (L : List Nat) (q : Nat × Option Nat) (a : Nat), q.2 = some a → ∃ c, (L.foldl seeS q).2 = some c ∧ c.testBit j = (a.testBit j && L.all fun x => x.testBit j)
  | [], q, a, h => ⟨a, h, by simp⟩
  | x :: L, q, a, h => by
    rw [List.foldl_cons]
    obtain ⟨c, h1, h2⟩ := fold_see2 j L (seeS q x) (a &&& x) (by simp [seeS, h, andO])
    exact ⟨c, h1, by rw [h2, Nat.testBit_and, List.all_cons, Bool.and_assoc]⟩
theorem see_some {L : List Nat} (h : L ≠ []) : ∃ a, (seeL L).2 = some a := by
  cases L with
  | nil => exact absurd rfl h
  | cons x L =>
    obtain ⟨c, h1, _⟩ := fold_see2 0 L (seeS (0, none) x) x rfl
    exact ⟨c, h1⟩
theorem see_bit2 {L : List Nat} {a j : Nat} (h : (seeL L).2 = some a) : a.testBit j = true ↔ ∀ x ∈ L, x.testBit j = true := by
  cases L with
  | nil => cases h
  | cons x L =>
    obtain ⟨c, h1, h2⟩ := fold_see2 j L (seeS (0, none) x) x rfl
    have : (seeL (x :: L)).2 = some c := h1
    rw [h] at this; cases this
    rw [h2]
    simp [List.all_eq_true]
theorem seeL_lt {L : List Nat} (h : ∀ x ∈ L, x < 64) : (seeL L).1 < 64 ∧ ltO (seeL L).2 := by
  constructor
  · refine lt_two_pow (n := 6) fun i hi => ?_
    cases hb : (seeL L).1.testBit i with
    | false => rfl
    | true =>
      obtain ⟨x, hx, hxb⟩ := see_bit1.1 hb
      rw [bit_out (n := 6) (h x hx) hi] at hxb
      cases hxb
  · intro a ha
    cases L with
    | nil => cases ha
    | cons x L =>
      refine lt_two_pow (n := 6) fun i hi => ?_
      cases hb : a.testBit i with
      | false => rfl
      | true =>
        have := (see_bit2 ha).1 hb x List.mem_cons_self
        rw [bit_out (n := 6) (h x List.mem_cons_self) hi] at this
        cases this
/-- Sets of mobs with which there is a truth. -/
def feasB (lo up : Nat) (bales : List (Int × Int)) (tests : List (Int × Bool)) (m : Nat) : Bool := (decide (lo ≤ popc m) && decide (popc m ≤ up)) && decide (diffN (heldF bales m tests).1 (heldF bales m tests).2 = 0)
def mobL (lo up : Nat) (bales : List (Int × Int)) (tests : List (Int × Bool)) (i : Nat) : List Nat := (List.range i).filter (feasB lo up bales tests)
def balL (lo up : Nat) (bales : List (Int × Int)) (tests : List (Int × Bool)) (i : Nat) : List Nat := (List.range i).flatMap fun m => if feasB lo up bales tests m = true then [(heldF bales m tests).1, (heldF bales m tests).2] else []
section
variable {lo up : Nat} {bales : List (Int × Int)} {tests : List (Int × Bool)}
theorem mobL_succ (i : Nat) : mobL lo up bales tests (i + 1) = mobL lo up bales tests i ++ if feasB lo up bales tests i = true then [i] else [] := by
  unfold mobL
  rw [List.range_succ, List.filter_append]
  congr 1
  cases h : feasB lo up bales tests i <;> simp [h]
theorem balL_succ (i : Nat) : balL lo up bales tests (i + 1) = balL lo up bales tests i ++ if feasB lo up bales tests i = true then [(heldF bales i tests).1, (heldF bales i tests).2] else [] := by
  unfold balL
  rw [List.range_succ, List.flatMap_append]
  simp
theorem mobL_lt {i : Nat} (hi : i ≤ 32) : ∀ x ∈ mobL lo up bales tests i, x < 64 := fun x hx => by
  have := List.mem_range.1 (List.mem_filter.1 hx).1
  omega
theorem balL_lt {i : Nat} (hb6 : bales.length ≤ 6) (ht : ∀ t ∈ tests, 0 ≤ t.1 ∧ t.1 < 6) : ∀ x ∈ balL lo up bales tests i, x < 64 := fun x hx => by
  obtain ⟨m, _, hm⟩ := List.mem_flatMap.1 hx
  obtain ⟨h1, h2⟩ := held_lt (m := m) hb6 ht
  split at hm
  · simp at hm; rcases hm with rfl | rfl <;> assumption
  · cases hm
/-- What is least, and most, is so in truth. -/
theorem feas_least {m : Nat} (h : feasB lo up bales tests m = true) : rtB lo up bales tests m (heldF bales m tests).1 = true := by
  unfold feasB at h
  unfold rtB
  rw [Bool.and_eq_true] at h ⊢
  refine ⟨h.1, ?_⟩
  rw [Bool.and_eq_true]
  exact ⟨decide_eq_true (sub_iff.2 fun i hi => hi), h.2⟩
theorem feas_most {m : Nat} (h : feasB lo up bales tests m = true) : rtB lo up bales tests m (heldF bales m tests).2 = true := by
  unfold feasB at h
  unfold rtB
  rw [Bool.and_eq_true] at h ⊢
  refine ⟨h.1, ?_⟩
  rw [Bool.and_eq_true]
  exact ⟨h.2, decide_eq_true (sub_iff.2 fun i hi => hi)⟩
theorem feas_of {m h : Nat} (hr : rtB lo up bales tests m h = true) : feasB lo up bales tests m = true ∧ (∀ i, (heldF bales m tests).1.testBit i = true → h.testBit i = true) ∧ ∀ i, h.testBit i = true → (heldF bales m tests).2.testBit i = true := by
  unfold rtB at hr
  rw [Bool.and_eq_true, Bool.and_eq_true, Bool.and_eq_true, decide_eq_true_iff, decide_eq_true_iff, decide_eq_true_iff, decide_eq_true_iff, sub_iff, sub_iff] at hr
  obtain ⟨⟨h1, h2⟩, h3, h4⟩ := hr
  refine ⟨?_, h3, h4⟩
  unfold feasB
  rw [Bool.and_eq_true, Bool.and_eq_true, decide_eq_true_iff, decide_eq_true_iff, decide_eq_true_iff, sub_iff]
  exact ⟨⟨h1, h2⟩, fun i hi => h4 i (h3 i hi)⟩
theorem rt_lt {m h : Nat} (hr : rtB lo up bales tests m h = true) : h < 2 ^ bales.length := (rtB_iff.1 hr).2.1.1
theorem mem_mobL {N m : Nat} : m ∈ mobL lo up bales tests (2 ^ N) ↔ ∃ h, (m, h) ∈ TR N lo up bales tests := by
  unfold mobL
  rw [List.mem_filter, List.mem_range]
  constructor
  · rintro ⟨h1, h2⟩
    have := feas_least h2
    exact ⟨_, mem_TR.2 ⟨h1, rt_lt this, this⟩⟩
  · rintro ⟨h, hm⟩
    obtain ⟨h1, _, h3⟩ := mem_TR.1 hm
    exact ⟨h1, (feas_of h3).1⟩
theorem balL_mem {N x : Nat} (h : x ∈ balL lo up bales tests (2 ^ N)) : ∃ m, (m, x) ∈ TR N lo up bales tests := by
  obtain ⟨m, hm, hx⟩ := List.mem_flatMap.1 h
  rw [List.mem_range] at hm
  split at hx
  · rename_i hf
    simp at hx
    rcases hx with rfl | rfl
    · exact ⟨m, mem_TR.2 ⟨hm, rt_lt (feas_least hf), feas_least hf⟩⟩
    · exact ⟨m, mem_TR.2 ⟨hm, rt_lt (feas_most hf), feas_most hf⟩⟩
  · cases hx
theorem balL_of {N m h : Nat} (hm : (m, h) ∈ TR N lo up bales tests) : ∃ l u, l ∈ balL lo up bales tests (2 ^ N) ∧ u ∈ balL lo up bales tests (2 ^ N) ∧ (∀ i, l.testBit i = true → h.testBit i = true) ∧ ∀ i, h.testBit i = true → u.testBit i = true := by
  obtain ⟨h1, _, h3⟩ := mem_TR.1 hm
  obtain ⟨hf, g1, g2⟩ := feas_of h3
  have hin : ∀ x ∈ [(heldF bales m tests).1, (heldF bales m tests).2], x ∈ balL lo up bales tests (2 ^ N) := fun x hx => List.mem_flatMap.2 ⟨m, List.mem_range.2 h1, by rw [if_pos hf]; exact hx⟩
  exact ⟨_, _, hin _ (by simp), hin _ (by simp), g1, g2⟩
theorem TR_nil {N : Nat} : TR N lo up bales tests = [] ↔ mobL lo up bales tests (2 ^ N) = [] := by
  rw [List.eq_nil_iff_forall_not_mem, List.eq_nil_iff_forall_not_mem]
  constructor
  · intro h m hm
    obtain ⟨x, hx⟩ := mem_mobL.1 hm
    exact h _ hx
  · rintro h ⟨m, x⟩ hm
    exact h m (mem_mobL.2 ⟨x, hm⟩)
theorem balL_nil {N : Nat} : balL lo up bales tests (2 ^ N) = [] ↔ TR N lo up bales tests = [] := by
  rw [List.eq_nil_iff_forall_not_mem, List.eq_nil_iff_forall_not_mem]
  constructor
  · rintro h ⟨m, x⟩ hm
    obtain ⟨l, _, hl, _⟩ := balL_of hm
    exact h l hl
  · intro h x hx
    obtain ⟨m, hm⟩ := balL_mem hx
    exact h _ hm
/-- What is in all truths, and in some, by bits. -/
theorem mobs_some {N j : Nat} : (seeL (mobL lo up bales tests (2 ^ N))).1.testBit j = true ↔ ∃ x ∈ TR N lo up bales tests, x.1.testBit j = true := by
  rw [see_bit1]
  constructor
  · rintro ⟨m, hm, hb⟩; obtain ⟨h, hh⟩ := mem_mobL.1 hm; exact ⟨_, hh, hb⟩
  · rintro ⟨⟨m, h⟩, hm, hb⟩; exact ⟨m, mem_mobL.2 ⟨h, hm⟩, hb⟩
theorem mobs_all {N j a : Nat} (ha : (seeL (mobL lo up bales tests (2 ^ N))).2 = some a) : a.testBit j = true ↔ ∀ x ∈ TR N lo up bales tests, x.1.testBit j = true := by
  rw [see_bit2 ha]
  constructor
  · rintro h ⟨m, x⟩ hm; exact h m (mem_mobL.2 ⟨x, hm⟩)
  · rintro h m hm; obtain ⟨x, hx⟩ := mem_mobL.1 hm; exact h _ hx
theorem bales_some {N j : Nat} : (seeL (balL lo up bales tests (2 ^ N))).1.testBit j = true ↔ ∃ x ∈ TR N lo up bales tests, x.2.testBit j = true := by
  rw [see_bit1]
  constructor
  · rintro ⟨m, hm, hb⟩; obtain ⟨h, hh⟩ := balL_mem hm; exact ⟨_, hh, hb⟩
  · rintro ⟨⟨m, h⟩, hm, hb⟩; obtain ⟨l, u, _, hu, _, g⟩ := balL_of hm; exact ⟨u, hu, g j hb⟩
theorem bales_all {N j a : Nat} (ha : (seeL (balL lo up bales tests (2 ^ N))).2 = some a) : a.testBit j = true ↔ ∀ x ∈ TR N lo up bales tests, x.2.testBit j = true := by
  rw [see_bit2 ha]
  constructor
  · rintro h ⟨m, x⟩ hm; obtain ⟨l, u, hl, _, g, _⟩ := balL_of hm; exact g j (h l hl)
  · rintro h m hm; obtain ⟨x, hx⟩ := balL_mem hm; exact h _ hx
end
end Go.Proofs.Ytknikcpeacmpmaa
/- burr: all sets between two ones, in the order of the walk. -/
namespace Go.Proofs.Ytknikcpeacmpmaa
open Go Go.RowKit Go.Sh Go.Pv
/-- The subsets of a set that come at or behind one, downward. -/
def downL (free : Nat) : Nat → Nat → List Nat
  | 0, _ => []
  | f + 1, add => add :: if add = 0 then [] else downL free f ((add - 1) &&& free)
theorem dn_all : (List.range 64).all (fun free => downL free 64 free == ((List.range 64).filter fun a => Nat.beq (diffN a free) 0).reverse) = true := by decide +kernel
theorem mem_downL {free a : Nat} (hf : free < 64) : a ∈ downL free 64 free ↔ diffN a free = 0 := by
  have h1 := List.all_eq_true.1 dn_all free (List.mem_range.2 hf)
  rw [beq_iff_eq] at h1
  rw [h1, List.mem_reverse, List.mem_filter, List.mem_range]
  constructor
  · rintro ⟨_, h⟩; exact Nat.eq_of_beq_eq_true h
  · intro h
    refine ⟨?_, by rw [h]; rfl⟩
    refine lt_two_pow (n := 6) fun i hi => ?_
    cases hb : a.testBit i with
    | false => rfl
    | true =>
      have := sub_iff.1 h i hb
      rw [bit_out (n := 6) hf hi] at this
      cases this
def betwL (l u : Nat) : List Nat := (downL (diffN u l) 64 (diffN u l)).map fun a => l ||| a
theorem mem_betwL {l u h : Nat} (hu : u < 64) (hlu : diffN l u = 0) : h ∈ betwL l u ↔ diffN l h = 0 ∧ diffN h u = 0 := by
  unfold betwL
  rw [List.mem_map]
  constructor
  · rintro ⟨a, ha, rfl⟩
    rw [mem_downL (Nat.lt_of_le_of_lt (diffN_le _ _) hu), sub_iff] at ha
    constructor
    · rw [sub_iff]; intro i hi; rw [Nat.testBit_or, hi]; rfl
    · rw [sub_iff] at hlu ⊢
      intro i hi
      rw [Nat.testBit_or, Bool.or_eq_true] at hi
      rcases hi with hi | hi
      · exact hlu i hi
      · have := ha i hi; rw [diffN_testBit, Bool.and_eq_true] at this; exact this.1
  · rintro ⟨h1, h2⟩
    rw [sub_iff] at h1 h2
    refine ⟨diffN h l, (mem_downL (Nat.lt_of_le_of_lt (diffN_le _ _) hu)).2 (sub_iff.2 fun i hi => ?_), ?_⟩
    · rw [diffN_testBit, Bool.and_eq_true] at hi ⊢
      exact ⟨h2 i hi.1, hi.2⟩
    · apply Nat.eq_of_testBit_eq
      intro i
      rw [Nat.testBit_or, diffN_testBit]
      cases hl : l.testBit i with
      | true => rw [h1 i hl]; rfl
      | false => simp
/-- The sets of bales for some sets of mobs, as they are gone through. -/
def walkL (lo up : Nat) (bales : List (Int × Int)) (tests : List (Int × Bool)) (i : Nat) : List Nat := (List.range i).flatMap fun m => if feasB lo up bales tests m = true then betwL (heldF bales m tests).1 (heldF bales m tests).2 else []
section
variable {lo up : Nat} {bales : List (Int × Int)} {tests : List (Int × Bool)}
theorem walkL_succ (i : Nat) : walkL lo up bales tests (i + 1) = walkL lo up bales tests i ++ if feasB lo up bales tests i = true then betwL (heldF bales i tests).1 (heldF bales i tests).2 else [] := by
  unfold walkL
  rw [List.range_succ, List.flatMap_append]
  simp
theorem downL_len (free : Nat) : ∀ f add, (downL free f add).length ≤ f
  | 0, _ => Nat.le_refl _
  | f + 1, add => by
    unfold downL
    split
    · simp
    · have := downL_len free f ((add - 1) &&& free)
      rw [List.length_cons]; omega
theorem betwL_len (l u : Nat) : (betwL l u).length ≤ 64 := by
  unfold betwL
  rw [List.length_map]
  exact downL_len _ _ _
theorem walkL_len : ∀ i, (walkL lo up bales tests i).length ≤ 64 * i
  | 0 => Nat.le_refl _
  | i + 1 => by
    rw [walkL_succ, List.length_append]
    have := walkL_len i
    split
    · have := betwL_len (heldF bales i tests).1 (heldF bales i tests).2; omega
    · simp; omega
theorem feas_zero {m : Nat} (h : feasB lo up bales tests m = true) : diffN (heldF bales m tests).1 (heldF bales m tests).2 = 0 := by
  unfold feasB at h
  rw [Bool.and_eq_true, decide_eq_true_iff] at h
  exact h.2
theorem feas_popc {m : Nat} (h : feasB lo up bales tests m = true) : lo ≤ popc m ∧ popc m ≤ up := by
  unfold feasB at h
  rw [Bool.and_eq_true, Bool.and_eq_true, decide_eq_true_iff, decide_eq_true_iff] at h
  exact h.1
theorem mem_walkL {N h : Nat} (hb6 : bales.length ≤ 6) (ht : ∀ t ∈ tests, 0 ≤ t.1 ∧ t.1 < 6) : h ∈ walkL lo up bales tests (2 ^ N) ↔ ∃ m, (m, h) ∈ TR N lo up bales tests := by
  unfold walkL
  rw [List.mem_flatMap]
  constructor
  · rintro ⟨m, hm, hx⟩
    rw [List.mem_range] at hm
    split at hx
    · rename_i hf
      rw [mem_betwL (held_lt (m := m) hb6 ht).2 (feas_zero hf)] at hx
      have hr : rtB lo up bales tests m h = true := by
        unfold rtB
        rw [decide_eq_true (feas_popc hf).1, decide_eq_true (feas_popc hf).2, decide_eq_true hx.1, decide_eq_true hx.2]; rfl
      exact ⟨m, mem_TR.2 ⟨hm, rt_lt hr, hr⟩⟩
    · cases hx
  · rintro ⟨m, hm⟩
    obtain ⟨h1, _, h3⟩ := mem_TR.1 hm
    obtain ⟨hf, _, _⟩ := feas_of h3
    refine ⟨m, List.mem_range.2 h1, ?_⟩
    rw [if_pos hf, mem_betwL (held_lt (m := m) hb6 ht).2 (feas_zero hf)]
    unfold rtB at h3
    rw [Bool.and_eq_true, Bool.and_eq_true, Bool.and_eq_true, decide_eq_true_iff, decide_eq_true_iff, decide_eq_true_iff, decide_eq_true_iff] at h3
    exact h3.2
theorem walkL_lt {N h : Nat} (hb6 : bales.length ≤ 6) (ht : ∀ t ∈ tests, 0 ≤ t.1 ∧ t.1 < 6) (hh : h ∈ walkL lo up bales tests (2 ^ N)) : h < 2 ^ bales.length := by
  obtain ⟨m, hm⟩ := (mem_walkL hb6 ht).1 hh
  exact (mem_TR.1 hm).2.1
end
end Go.Proofs.Ytknikcpeacmpmaa
/- burr: all sets of so many, in order; the first that is so. -/
namespace Go.Proofs.Ytknikcpeacmpmaa
open Go Go.RowKit Go.Sh Go.Pv
/-- Smaller, or of the same size and lesser. -/
def ltS (a b : Nat) : Bool := Nat.blt (popc a) (popc b) || (Nat.beq (popc a) (popc b) && Nat.blt a b)
def sortedB : List Nat → Bool
  | [] => true
  | x :: r => r.all (ltS x) && sortedB r
theorem sets_sorted : ∀ k, k ≤ 6 → sortedB (setsL k) = true ∧ (setsL k).length = 2 ^ k ∧ (List.range (2 ^ k)).all (fun x => (setsL k).contains x) = true ∧ (setsL k).all (fun x => Nat.blt x (2 ^ k)) = true := by
  intro k hk
  rcases (show k = 0 ∨ k = 1 ∨ k = 2 ∨ k = 3 ∨ k = 4 ∨ k = 5 ∨ k = 6 by omega) with rfl | rfl | rfl | rfl | rfl | rfl | rfl <;> exact ⟨by decide +kernel, by decide +kernel, by decide +kernel, by decide +kernel⟩
theorem mem_sets {k x : Nat} (hk : k ≤ 6) : x ∈ setsL k ↔ x < 2 ^ k := by
  obtain ⟨_, _, h3, h4⟩ := sets_sorted k hk
  constructor
  · intro h
    have := List.all_eq_true.1 h4 x h
    rwa [Nat.blt_eq] at this
  · intro h
    have := List.all_eq_true.1 h3 x (List.mem_range.2 h)
    simpa using this
theorem sets_len {k : Nat} (hk : k ≤ 6) : (setsL k).length ≤ 64 := by
  rw [(sets_sorted k hk).2.1]
  exact pow64 hk
/-- The first that is so. -/
def firstF (p : Nat → Bool) (l : List Nat) : Nat := l.getD (l.findIdx p) 0
theorem first_mem {p : Nat → Bool} {l : List Nat} (h : l.any p = true) : firstF p l ∈ l ∧ p (firstF p l) = true := by
  have hi : l.findIdx p < l.length := List.findIdx_lt_length_of_exists (by simpa [List.any_eq_true] using h)
  have hg : firstF p l = l[l.findIdx p] := by unfold firstF; simp [List.getD, hi]
  rw [hg]
  exact ⟨List.getElem_mem hi, List.findIdx_getElem⟩
theorem first_sorted {p : Nat → Bool} : ∀ {l : List Nat}, sortedB l = true → l.any p = true → ∀ y ∈ l, p y = true → y = firstF p l ∨ ltS (firstF p l) y = true
  | x :: r, hs, ha, y, hy, hp => by
    unfold sortedB at hs
    rw [Bool.and_eq_true] at hs
    cases hx : p x with
    | true =>
      have hf : firstF p (x :: r) = x := by unfold firstF; rw [List.findIdx_cons, hx]; rfl
      rw [hf]
      rcases List.mem_cons.1 hy with rfl | hy
      · exact .inl rfl
      · exact .inr (List.all_eq_true.1 hs.1 y hy)
    | false =>
      have hf : firstF p (x :: r) = firstF p r := by
        unfold firstF; rw [List.findIdx_cons, hx]; rfl
      rw [hf]
      rcases List.mem_cons.1 hy with rfl | hy
      · rw [hx] at hp; cases hp
      · refine first_sorted hs.2 ?_ y hy hp
        rw [List.any_cons, hx, Bool.false_or] at ha
        exact ha
theorem ltS_iff {a b : Nat} : ltS a b = true ↔ popc a < popc b ∨ (popc a = popc b ∧ a < b) := by
  unfold ltS
  rw [Bool.or_eq_true, Bool.and_eq_true, Nat.blt_eq, Nat.blt_eq, Nat.beq_eq]
/-- The first set that is so: a smaller one is not, nor is one of the same size that is lesser. -/
theorem first_least {p : Nat → Bool} {k : Nat} (hk : k ≤ 6) (h : (setsL k).any p = true) : firstF p (setsL k) < 2 ^ k ∧ p (firstF p (setsL k)) = true ∧ ∀ y, y < 2 ^ k → p y = true → popc (firstF p (setsL k)) < popc y ∨ (popc (firstF p (setsL k)) = popc y ∧ firstF p (setsL k) ≤ y) := by
  obtain ⟨h1, h2⟩ := first_mem h
  refine ⟨(mem_sets hk).1 h1, h2, fun y hy hp => ?_⟩
  rcases first_sorted (sets_sorted k hk).1 h y ((mem_sets hk).2 hy) hp with e | e
  · exact .inr ⟨by rw [← e], by rw [← e]; exact Nat.le_refl _⟩
  · rcases ltS_iff.1 e with e | ⟨e1, e2⟩
    · exact .inl e
    · exact .inr ⟨e1, Nat.le_of_lt e2⟩
theorem any_sets {p : Nat → Bool} {k : Nat} (hk : k ≤ 6) : (setsL k).any p = true ↔ ∃ x, x < 2 ^ k ∧ p x = true := by
  rw [List.any_eq_true]
  constructor
  · rintro ⟨x, h1, h2⟩; exact ⟨x, (mem_sets hk).1 h1, h2⟩
  · rintro ⟨x, h1, h2⟩; exact ⟨x, (mem_sets hk).2 h1, h2⟩
end Go.Proofs.Ytknikcpeacmpmaa
