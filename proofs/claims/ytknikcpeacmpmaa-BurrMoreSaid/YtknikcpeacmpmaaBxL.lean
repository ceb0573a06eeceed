/- burr, plain: more tests, bales that are known better, bales numbered from the other side. -/
import Derived.Test.YtknikcpeacmpmaaBxJ
import Derived.Test.YtknikcpeacmpmaaBxE
set_option linter.all false
namespace Go.Proofs.Ytknikcpeacmpmaa
open Go Go.RowKit Go.Sh Go.Pv
theorem filter_mono_sub {α : Type} {p q : α → Bool} (h : ∀ x, p x = true → q x = true) : ∀ l : List α, (l.filter p).Sublist (l.filter q)
  | [] => by simp
  | a :: l => by
    have ih := filter_mono_sub h l
    by_cases hp : p a = true
    · rw [List.filter_cons_of_pos hp, List.filter_cons_of_pos (h a hp)]; exact ih.cons_cons a
    · rw [List.filter_cons_of_neg hp]
      by_cases hq : q a = true
      · rw [List.filter_cons_of_pos hq]; exact ih.cons a
      · rw [List.filter_cons_of_neg hq]; exact ih
theorem flatMap_mono_sub {α β : Type} {f g : α → List β} (h : ∀ x, (f x).Sublist (g x)) : ∀ l : List α, (l.flatMap f).Sublist (l.flatMap g)
  | [] => by simp
  | a :: l => by
    rw [List.flatMap_cons, List.flatMap_cons]
    exact (h a).append (flatMap_mono_sub h l)
section
variable {N L U T T' : Nat} {bales bales' : List (Int × Int)} {tests tests' : List (Int × Bool)}
theorem TR_mono (hl : bales'.length = bales.length) (h : ∀ m x, rtB L U bales' tests' m x = true → rtB L U bales tests m x = true) : (TR N L U bales' tests').Sublist (TR N L U bales tests) := by
  unfold TR
  refine flatMap_mono_sub (fun m => ?_) _
  unfold TRm
  rw [hl]
  exact (filter_mono_sub (h m) _).map _
/-- What fewer truths tell. -/
structure Less (P Q : List (Nat × Nat)) : Prop where
  sub : ∀ x ∈ P, x ∈ Q
  len : P.length ≤ Q.length
theorem Less.of {P Q : List (Nat × Nat)} (h : P.Sublist Q) : Less P Q := ⟨fun x hx => h.subset hx, h.length_le⟩
theorem Less.all {P Q : List (Nat × Nat)} (h : Less P Q) (f : Nat × Nat → Nat) {a b : Nat} (ha : (seeL (Q.map f)).2 = some a) (hb : (seeL (P.map f)).2 = some b) : diffN a b = 0 := sub_iff.2 fun i hi => (see_bit2 hb).2 fun x hx => by
  obtain ⟨y, hy, rfl⟩ := List.mem_map.1 hx
  exact (see_bit2 ha).1 hi _ (List.mem_map.2 ⟨y, h.sub y hy, rfl⟩)
theorem Less.some {P Q : List (Nat × Nat)} (h : Less P Q) (f : Nat × Nat → Nat) : diffN (seeL (P.map f)).1 (seeL (Q.map f)).1 = 0 := sub_iff.2 fun i hi => by
  obtain ⟨x, hx, hxi⟩ := see_bit1.1 hi
  obtain ⟨y, hy, rfl⟩ := List.mem_map.1 hx
  exact see_bit1.2 ⟨_, List.mem_map.2 ⟨y, h.sub y hy, rfl⟩, hxi⟩
theorem pure_less {c c' : Nat} (h : diffN c' c = 0) : diffN (diffN T c) (diffN T c') = 0 := sub_iff.2 fun i hi => by
  rw [diffN_testBit] at hi ⊢
  simp only [Bool.and_eq_true, Bool.not_eq_true'] at hi ⊢
  refine ⟨hi.1, ?_⟩
  cases hc : c'.testBit i with
  | false => rfl
  | true => rw [sub_iff.1 h i hc] at hi; exact absurd hi.2 (by simp)
theorem open_less_eq (hB : BOK N L U T bales tests) (hB' : BOK N L U T bales tests') (h : Less (TR N L U bales tests') (TR N L U bales tests)) : popc (openS N L U T bales tests') ≤ popc (openS N L U T bales tests) := by
  obtain ⟨a1, a2, _⟩ := open_first hB
  obtain ⟨_, _, b3⟩ := open_first hB'
  have ht : Tells (openS N L U T bales tests) T ((TR N L U bales tests).map (·.2)) := of_decide_eq_true a2
  have := b3 _ a1 (decide_eq_true fun x hx y hy e => by
    obtain ⟨x', hx', rfl⟩ := List.mem_map.1 hx
    obtain ⟨y', hy', rfl⟩ := List.mem_map.1 hy
    exact ht _ (List.mem_map.2 ⟨x', h.sub _ hx', rfl⟩) _ (List.mem_map.2 ⟨y', h.sub _ hy', rfl⟩) e)
  omega
theorem less_test (t : Int × Bool) : Less (TR N L U bales (tests ++ [t])) (TR N L U bales tests) := by
  rw [TR_append]
  exact .of List.filter_sublist
/-- A bale that is known better. -/
theorem less_bale {i s' s p : Nat} (hi : i < bales.length) (hsp : bales.getD i (0, 0) = ((s : Int), (p : Int))) (hs : diffN s s' = 0) : Less (TR N L U (bales.set i ((s' : Int), (p : Int))) tests) (TR N L U bales tests) := by
  refine .of (TR_mono (by rw [List.length_set]) fun m x hr => ?_)
  rw [rtB_iff] at hr ⊢
  obtain ⟨h1, ⟨h2, h3⟩, h4⟩ := hr
  rw [List.length_set] at h2 h3
  refine ⟨h1, ⟨h2, fun k hk => ?_⟩, h4⟩
  obtain ⟨g1, g2⟩ := h3 k hk
  by_cases e : k = i
  · subst e
    have e1 : sN (bales.set k ((s' : Int), (p : Int))) k = s' := by unfold sN; simp [List.getD, hk]
    have e2 : pN (bales.set k ((s' : Int), (p : Int))) k = p := by unfold pN; simp [List.getD, hk]
    have e3 : sN bales k = s := by unfold sN; rw [hsp]; rfl
    have e4 : pN bales k = p := by unfold pN; rw [hsp]; rfl
    rw [e1] at g1
    rw [e2] at g2
    rw [e3, e4]
    refine ⟨fun h => g1 ?_, g2⟩
    obtain ⟨j, j1, j2⟩ := and_ne_iff.1 h
    exact and_ne_iff.2 ⟨j, sub_iff.1 hs j j1, j2⟩
  · have e1 : sN (bales.set i ((s' : Int), (p : Int))) k = sN bales k := by unfold sN; simp [List.getD, List.getElem?_set_ne (Ne.symm e)]
    have e2 : pN (bales.set i ((s' : Int), (p : Int))) k = pN bales k := by unfold pN; simp [List.getD, List.getElem?_set_ne (Ne.symm e)]
    rw [e1] at g1
    rw [e2] at g2
    exact ⟨g1, g2⟩
theorem bale_ok {i s' s p : Nat} (hB : BOK N L U T bales tests) (hi : i < bales.length) (hsp : bales.getD i (0, 0) = ((s : Int), (p : Int))) (hs : diffN s' p = 0) : BOK N L U T (bales.set i ((s' : Int), (p : Int))) tests := by
  have hi0 := hB.ba i hi
  rw [hsp] at hi0
  have hle : s' ≤ p := by
    have h1 : s' = s' &&& p := by
      apply Nat.eq_of_testBit_eq
      intro j
      rw [Nat.testBit_and]
      cases hj : s'.testBit j with
      | false => rfl
      | true => rw [sub_iff.1 hs j hj]; rfl
    rw [h1]; exact Nat.and_le_right
  refine ⟨hB.n1, hB.n5, hB.lh, hB.hn, by rw [List.length_set]; exact hB.b6, by rw [List.length_set]; exact hB.tp, hB.t6, fun k hk => ?_, by rw [List.length_set]; exact hB.te⟩
  rw [List.length_set] at hk
  by_cases e : k = i
  · subst e
    have e0 : (bales.set k ((s' : Int), (p : Int))).getD k (0, 0) = ((s' : Int), (p : Int)) := by simp [List.getD, hk]
    unfold sN pN
    rw [e0]
    dsimp only at hi0 ⊢
    refine ⟨⟨by omega, by omega⟩, ⟨by omega, by omega⟩, ?_⟩
    rw [Int.toNat_natCast, Int.toNat_natCast]; exact hs
  · have e0 : (bales.set i ((s' : Int), (p : Int))).getD k (0, 0) = bales.getD k (0, 0) := by simp [List.getD, List.getElem?_set_ne (Ne.symm e)]
    have := hB.ba k hk
    unfold sN pN at *
    rw [e0]
    exact this
end
/-- The lowest of some bits. -/
def lowN (a : Nat) : Nat := (BitVec.ofNat 64 a &&& -BitVec.ofNat 64 a).toNat
theorem lowN_sub {a : Nat} (ha : a < 2 ^ 63) : diffN (lowN a) a = 0 := sub_iff.2 fun i hi => by
  unfold lowN at hi
  rw [BitVec.toNat_and, Nat.testBit_and, Bool.and_eq_true] at hi
  have := hi.1
  rw [BitVec.toNat_ofNat, Nat.mod_eq_of_lt (by omega)] at this
  exact this
/-- Bales numbered from the other side. -/
def turnN (n x : Nat) : Nat := sF (fun j => x.testBit (n - 1 - j)) n
theorem turn_bit (n x j : Nat) : (turnN n x).testBit j = (decide (j < n) && x.testBit (n - 1 - j)) := sF_bit _ _ _
theorem turn_lt (n x : Nat) : turnN n x < 2 ^ n := sF_lt _ _
theorem turn_turn {n x : Nat} (hx : x < 2 ^ n) : turnN n (turnN n x) = x := by
  apply Nat.eq_of_testBit_eq
  intro j
  rw [turn_bit, turn_bit]
  by_cases hj : j < n
  · rw [decide_eq_true hj, decide_eq_true (show n - 1 - j < n by omega), show n - 1 - (n - 1 - j) = j by omega]; simp
  · rw [decide_eq_false hj, Bool.false_and, bit_out hx (by omega)]
theorem turn_and (n a b : Nat) : turnN n (a &&& b) = turnN n a &&& turnN n b := by
  apply Nat.eq_of_testBit_eq
  intro j
  rw [turn_bit, Nat.testBit_and, Nat.testBit_and, turn_bit, turn_bit]
  cases decide (j < n) <;> simp
theorem turn_inj {n a b : Nat} (ha : a < 2 ^ n) (hb : b < 2 ^ n) (h : turnN n a = turnN n b) : a = b := by
  rw [← turn_turn ha, h, turn_turn hb]
theorem turn_popc_all : (List.range 7).all (fun n => (List.range (2 ^ n)).all fun x => Nat.beq (popc (turnN n x)) (popc x)) = true := by decide +kernel
theorem turn_popc {n x : Nat} (hn : n ≤ 6) (hx : x < 2 ^ n) : popc (turnN n x) = popc x :=
  Nat.eq_of_beq_eq_true (List.all_eq_true.1 (List.all_eq_true.1 turn_popc_all n (List.mem_range.2 (by omega))) x (List.mem_range.2 hx))
theorem turn_perm_all : (List.range 7).all (fun n => ((List.range (2 ^ n)).map (turnN n)).isPerm (List.range (2 ^ n))) = true := by decide +kernel
theorem turn_perm {n : Nat} (hn : n ≤ 6) : ((List.range (2 ^ n)).map (turnN n)).Perm (List.range (2 ^ n)) :=
  List.isPerm_iff.1 (List.all_eq_true.1 turn_perm_all n (List.mem_range.2 (by omega)))
def tzT (n : Nat) (tests : List (Int × Bool)) : List (Int × Bool) := tests.reverse.map fun t => ((n : Int) - 1 - t.1, t.2)
section
variable {N L U T : Nat} {bales : List (Int × Int)} {tests : List (Int × Bool)}
theorem rev_getD {α : Type} {l : List α} {d : α} {i : Nat} (hi : i < l.length) : l.reverse.getD i d = l.getD (l.length - 1 - i) d := by
  simp [List.getD, List.getElem?_reverse hi]
theorem turn_ok (hB : BOK N L U T bales tests) : BOK N L U (turnN bales.length T) bales.reverse (tzT bales.length tests) := by
  refine ⟨hB.n1, hB.n5, hB.lh, hB.hn, by rw [List.length_reverse]; exact hB.b6, by rw [List.length_reverse]; exact turn_lt _ _, by unfold tzT; rw [List.length_map, List.length_reverse]; exact hB.t6, fun i hi => ?_, fun t ht => ?_⟩
  · rw [List.length_reverse] at hi
    have := hB.ba (bales.length - 1 - i) (by omega)
    unfold sN pN at *
    rw [rev_getD hi]
    exact this
  · obtain ⟨x, hx, rfl⟩ := List.mem_map.1 ht
    have := hB.te x (List.mem_reverse.1 hx)
    rw [List.length_reverse]
    dsimp only
    omega
theorem rt_turn (hB : BOK N L U T bales tests) {m h : Nat} (hh : h < 2 ^ bales.length) : rtB L U bales.reverse (tzT bales.length tests) m (turnN bales.length h) = rtB L U bales tests m h := by
  rw [Bool.eq_iff_iff, rtB_iff, rtB_iff, List.length_reverse]
  have e1 : ∀ i, i < bales.length → sN bales.reverse i = sN bales (bales.length - 1 - i) := fun i hi => by unfold sN; rw [rev_getD hi]
  have e2 : ∀ i, i < bales.length → pN bales.reverse i = pN bales (bales.length - 1 - i) := fun i hi => by unfold pN; rw [rev_getD hi]
  have eb : ∀ i, i < bales.length → (turnN bales.length h).testBit i = h.testBit (bales.length - 1 - i) := fun i hi => by rw [turn_bit, decide_eq_true hi]; rfl
  refine and_congr_right fun _ => and_congr ?_ ?_
  · constructor
    · rintro ⟨_, h2⟩
      refine ⟨hh, fun i hi => ?_⟩
      have := h2 (bales.length - 1 - i) (by omega)
      rwa [e1 _ (by omega), e2 _ (by omega), eb _ (by omega), show bales.length - 1 - (bales.length - 1 - i) = i by omega] at this
    · rintro ⟨_, h2⟩
      refine ⟨turn_lt _ _, fun i hi => ?_⟩
      rw [e1 _ hi, e2 _ hi, eb _ hi]
      exact h2 _ (by omega)
  · constructor
    · intro h2 t ht
      have hb := hB.te t ht
      have := h2 ((bales.length : Int) - 1 - t.1, t.2) (List.mem_map.2 ⟨t, List.mem_reverse.2 ht, rfl⟩)
      dsimp only at this
      rwa [eb _ (by omega), show bales.length - 1 - ((bales.length : Int) - 1 - t.1).toNat = t.1.toNat by omega] at this
    · intro h2 t ht
      obtain ⟨x, hx, rfl⟩ := List.mem_map.1 ht
      have hx := List.mem_reverse.1 hx
      have hb := hB.te x hx
      dsimp only
      rw [eb _ (by omega), show bales.length - 1 - ((bales.length : Int) - 1 - x.1).toNat = x.1.toNat by omega]
      exact h2 x hx
theorem turn_mem (hB : BOK N L U T bales tests) {m h : Nat} (hh : h < 2 ^ bales.length) : (m, turnN bales.length h) ∈ TR N L U bales.reverse (tzT bales.length tests) ↔ (m, h) ∈ TR N L U bales tests := by
  rw [mem_TR, mem_TR, List.length_reverse]
  dsimp only
  rw [rt_turn hB hh]
  simp [hh, turn_lt]
theorem TR_bits {x : Nat × Nat} (h : x ∈ TR N L U bales tests) : x.2 < 2 ^ bales.length := (mem_TR.1 h).2.1
theorem turn_mem' (hB : BOK N L U T bales tests) {x : Nat × Nat} (h : x ∈ TR N L U bales.reverse (tzT bales.length tests)) : (x.1, turnN bales.length x.2) ∈ TR N L U bales tests := by
  have hx := TR_bits h
  rw [List.length_reverse] at hx
  rw [← turn_mem hB (turn_lt _ _), turn_turn hx]
  exact h
theorem turn_len (hB : BOK N L U T bales tests) : (TR N L U bales.reverse (tzT bales.length tests)).length = (TR N L U bales tests).length := by
  have key : ∀ m, (TRm L U bales.reverse (tzT bales.length tests) m).length = (TRm L U bales tests m).length := fun m => by
    unfold TRm
    rw [List.length_map, List.length_map, List.length_reverse, ← List.countP_eq_length_filter, ← List.countP_eq_length_filter, ← (turn_perm hB.b6).countP_eq, List.countP_map]
    refine List.countP_congr fun h hh => ?_
    rw [Function.comp, rt_turn hB (List.mem_range.1 hh)]
  unfold TR
  generalize List.range (2 ^ N) = l
  induction l with
  | nil => rfl
  | cons a l ih => rw [List.flatMap_cons, List.flatMap_cons, List.length_append, List.length_append, ih, key]
theorem turn_nil (hB : BOK N L U T bales tests) : TR N L U bales.reverse (tzT bales.length tests) = [] ↔ TR N L U bales tests = [] := by
  rw [← List.length_eq_zero_iff, turn_len hB, List.length_eq_zero_iff]
theorem turn_mobs (hB : BOK N L U T bales tests) (hne : TR N L U bales tests ≠ []) : seeL ((TR N L U bales.reverse (tzT bales.length tests)).map (·.1)) = seeL ((TR N L U bales tests).map (·.1)) := by
  have hm : ∀ m, m ∈ (TR N L U bales.reverse (tzT bales.length tests)).map (·.1) ↔ m ∈ (TR N L U bales tests).map (·.1) := fun m => by
    rw [List.mem_map, List.mem_map]
    constructor
    · rintro ⟨x, hx, rfl⟩; exact ⟨_, turn_mem' hB hx, rfl⟩
    · rintro ⟨x, hx, rfl⟩; exact ⟨(x.1, turnN bales.length x.2), (turn_mem hB (TR_bits hx)).2 hx, rfl⟩
  refine see_same (by simpa using fun h => hne ((turn_nil hB).1 h)) (by simpa using hne) (fun j => ?_) fun j => ?_
  · exact ⟨fun ⟨x, hx, h⟩ => ⟨x, (hm x).1 hx, h⟩, fun ⟨x, hx, h⟩ => ⟨x, (hm x).2 hx, h⟩⟩
  · exact ⟨fun h x hx => h x ((hm x).2 hx), fun h x hx => h x ((hm x).1 hx)⟩
theorem turn_bales (hB : BOK N L U T bales tests) (hne : TR N L U bales tests ≠ []) {a : Nat} (ha : (seeL ((TR N L U bales tests).map (·.2))).2 = some a) :
    (seeL ((TR N L U bales.reverse (tzT bales.length tests)).map (·.2))).2 = some (turnN bales.length a) ∧ (seeL ((TR N L U bales.reverse (tzT bales.length tests)).map (·.2))).1 = turnN bales.length (seeL ((TR N L U bales tests).map (·.2))).1 := by
  have hne' : TR N L U bales.reverse (tzT bales.length tests) ≠ [] := fun h => hne ((turn_nil hB).1 h)
  obtain ⟨b, hb⟩ := see_some (L := (TR N L U bales.reverse (tzT bales.length tests)).map (·.2)) (by simpa using hne')
  have hbit : ∀ x ∈ TR N L U bales.reverse (tzT bales.length tests), ∀ j, x.2.testBit j = (decide (j < bales.length) && (turnN bales.length x.2).testBit (bales.length - 1 - j)) := fun x hx j => by
    have hx2 := TR_bits hx
    rw [List.length_reverse] at hx2
    rw [← turn_bit, turn_turn hx2]
  rw [hb]
  constructor
  · congr 1
    apply Nat.eq_of_testBit_eq
    intro j
    rw [Bool.eq_iff_iff, see_bit2 hb, turn_bit, Bool.and_eq_true, decide_eq_true_eq, see_bit2 ha]
    constructor
    · intro h
      obtain ⟨x, hx⟩ := List.exists_mem_of_ne_nil _ hne'
      have h0 := h x.2 (List.mem_map.2 ⟨x, hx, rfl⟩)
      rw [hbit _ hx, Bool.and_eq_true, decide_eq_true_eq] at h0
      refine ⟨h0.1, fun y hy => ?_⟩
      obtain ⟨y', ky', ey'⟩ := List.mem_map.1 hy
      subst ey'
      clear hy
      have hy := ky'
      clear ky'
      have := h _ (List.mem_map.2 ⟨_, (turn_mem hB (TR_bits hy)).2 hy, rfl⟩)
      dsimp only at this
      rw [turn_bit, decide_eq_true h0.1] at this
      simpa using this
    · rintro ⟨hj, h⟩ x hx
      obtain ⟨x', kx', ex'⟩ := List.mem_map.1 hx
      subst ex'
      clear hx
      have hx := kx'
      clear kx'
      rw [hbit _ hx, decide_eq_true hj]
      have := h _ (List.mem_map.2 ⟨_, turn_mem' hB hx, rfl⟩)
      simpa using this
  · apply Nat.eq_of_testBit_eq
    intro j
    rw [Bool.eq_iff_iff, see_bit1, turn_bit, Bool.and_eq_true, decide_eq_true_eq, see_bit1]
    constructor
    · rintro ⟨x, hx, hj⟩
      obtain ⟨x', kx', ex'⟩ := List.mem_map.1 hx
      subst ex'
      clear hx
      have hx := kx'
      clear kx'
      rw [hbit _ hx, Bool.and_eq_true, decide_eq_true_eq] at hj
      exact ⟨hj.1, _, List.mem_map.2 ⟨_, turn_mem' hB hx, rfl⟩, hj.2⟩
    · rintro ⟨hj, x, hx, h⟩
      obtain ⟨x', kx', ex'⟩ := List.mem_map.1 hx
      subst ex'
      clear hx
      have hx := kx'
      clear kx'
      refine ⟨_, List.mem_map.2 ⟨_, (turn_mem hB (TR_bits hx)).2 hx, rfl⟩, ?_⟩
      dsimp only
      rw [turn_bit, decide_eq_true hj]
      simpa using h
theorem turn_tells (hB : BOK N L U T bales tests) {S : Nat} (hS : S < 2 ^ bales.length) : tlB N L U (turnN bales.length T) bales.reverse (tzT bales.length tests) (turnN bales.length S) = tlB N L U T bales tests S := by
  have hT := hB.tp
  unfold tlB
  congr 1
  apply propext
  have hand : ∀ a b, a < 2 ^ bales.length → b < 2 ^ bales.length → ∀ c, c < 2 ^ bales.length → (turnN bales.length a &&& turnN bales.length c = turnN bales.length b &&& turnN bales.length c ↔ a &&& c = b &&& c) := fun a b ha hb c hc => by
    rw [← turn_and, ← turn_and]
    constructor
    · exact turn_inj (Nat.lt_of_le_of_lt Nat.and_le_left ha) (Nat.lt_of_le_of_lt Nat.and_le_left hb)
    · intro h; rw [h]
  constructor
  · intro h x hx y hy e
    obtain ⟨x', kx', ex'⟩ := List.mem_map.1 hx
    subst ex'
    clear hx
    have hx := kx'
    clear kx'
    obtain ⟨y', ky', ey'⟩ := List.mem_map.1 hy
    subst ey'
    clear hy
    have hy := ky'
    clear ky'
    have bx := TR_bits hx
    have bY := TR_bits hy
    rw [← hand _ _ bx bY _ hT]
    exact h _ (List.mem_map.2 ⟨_, (turn_mem hB bx).2 hx, rfl⟩) _ (List.mem_map.2 ⟨_, (turn_mem hB bY).2 hy, rfl⟩) ((hand _ _ bx bY _ hS).2 e)
  · intro h x hx y hy e
    obtain ⟨x', kx', ex'⟩ := List.mem_map.1 hx
    subst ex'
    clear hx
    have hx := kx'
    clear kx'
    obtain ⟨y', ky', ey'⟩ := List.mem_map.1 hy
    subst ey'
    clear hy
    have hy := ky'
    clear ky'
    have bx := TR_bits hx
    have bY := TR_bits hy
    rw [List.length_reverse] at bx bY
    have k := h _ (List.mem_map.2 ⟨_, turn_mem' hB hx, rfl⟩) _ (List.mem_map.2 ⟨_, turn_mem' hB hy, rfl⟩)
    dsimp only at k
    rw [← hand _ _ (turn_lt _ _) (turn_lt _ _) _ hS, ← hand _ _ (turn_lt _ _) (turn_lt _ _) _ hT, turn_turn bx, turn_turn bY] at k
    exact k e
theorem turn_open (hB : BOK N L U T bales tests) : popc (openS N L U (turnN bales.length T) bales.reverse (tzT bales.length tests)) = popc (openS N L U T bales tests) := by
  obtain ⟨a1, a2, a3⟩ := open_first hB
  obtain ⟨b1, b2, b3⟩ := open_first (turn_ok hB)
  rw [List.length_reverse] at b1 b3
  generalize openS N L U T bales tests = S at *
  generalize openS N L U (turnN bales.length T) bales.reverse (tzT bales.length tests) = S' at *
  have h1 := b3 _ (turn_lt _ S) (by rw [turn_tells hB a1]; exact a2)
  rw [turn_popc hB.b6 a1] at h1
  have h2 := a3 _ (turn_lt _ S') (by rw [← turn_tells hB (turn_lt _ _), turn_turn b1]; exact b2)
  rw [turn_popc hB.b6 b1] at h2
  omega
end
end Go.Proofs.Ytknikcpeacmpmaa
