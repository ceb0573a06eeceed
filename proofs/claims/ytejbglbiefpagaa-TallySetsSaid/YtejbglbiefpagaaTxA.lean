/- tally, the plain law: a table holds just the differences of truths. -/
import Derived.Test.YtejbglbiefpagaaTvE
set_option linter.all false
namespace Go.Proofs.Ytejbglbiefpagaa
/-- Numbers whose differences lie within a table. -/
def Sol (f : Nat → Nat → Int) (v : Nat → Int) : Prop := ∀ i j, i < 11 → j < 11 → v i - v j ≤ f i j
structure Clo (f : Nat → Nat → Int) : Prop where
  tri : ∀ i j k, i < 11 → j < 11 → k < 11 → f i k ≤ f i j + f j k
  dia : ∀ i, i < 11 → f i i = 0
def Dead (f : Nat → Nat → Int) : Prop := ∃ i, i < 11 ∧ f i i < 0
theorem put1_sol {f : Nat → Nat → Int} (h : Clo f ∨ Dead f) {a b : Nat} {m : Int} (ha : a < 11) (hb : b < 11) (v : Nat → Int) : Sol (put1 f a b m) v ↔ Sol f v ∧ v a - v b ≤ m := by
  unfold put1
  split
  · rename_i h1
    exact ⟨fun hs => ⟨hs, Int.le_trans (hs a b ha hb) h1⟩, fun hs => hs.1⟩
  · rename_i h1
    constructor
    · intro hs
      have hle : Sol f v := fun i j hi hj => by
        have := hs i j hi hj
        unfold minF at this
        split at this <;> omega
      refine ⟨hle, ?_⟩
      rcases h with h | ⟨i, hi, hd⟩
      · have := hs a b ha hb
        unfold minF at this
        rw [h.dia a ha, h.dia b hb] at this
        split at this <;> omega
      · have := hle i i hi hi
        omega
    · rintro ⟨hs, hm⟩ i j hi hj
      have h2 := hs i j hi hj
      have h3 := hs i a hi ha
      have h4 := hs b j hb hj
      unfold minF
      split <;> omega
theorem put1_clo {f : Nat → Nat → Int} (h : Clo f ∨ Dead f) {a b : Nat} (m : Int) (ha : a < 11) (hb : b < 11) : Clo (put1 f a b m) ∨ Dead (put1 f a b m) := by
  unfold put1
  split
  · exact h
  · rcases h with h | ⟨i, hi, hd⟩
    · by_cases hm : m + f b a < 0
      · refine .inr ⟨a, ha, ?_⟩
        unfold minF
        have := h.dia a ha
        split <;> omega
      · refine .inl ⟨fun i j k hi hj hk => ?_, fun i hi => ?_⟩
        · have t1 := h.tri i j k hi hj hk
          have t2 := h.tri i j a hi hj ha
          have t3 := h.tri b j k hb hj hk
          have t4 := h.tri b j a hb hj ha
          unfold minF
          split <;> split <;> split <;> omega
        · have t1 := h.tri b i a hb hi ha
          have := h.dia i hi
          unfold minF
          split <;> omega
    · refine .inr ⟨i, hi, ?_⟩
      unfold minF
      split <;> omega
theorem empty_clo : Clo emptyF := by
  refine ⟨fun i j k _ _ _ => ?_, fun i _ => ?_⟩
  · unfold emptyF; split <;> split <;> split <;> omega
  · unfold emptyF; rw [if_pos rfl]
theorem can_all {f : Nat → Nat → Int} : canB f 11 = true ↔ ∀ i, i < 11 → 0 ≤ f i i := by
  unfold canB
  rw [List.all_eq_true]
  simp [List.mem_range]
theorem can_clo {f : Nat → Nat → Int} (h : Clo f ∨ Dead f) : canB f 11 = true ↔ Clo f := by
  rw [can_all]
  constructor
  · intro hc
    rcases h with h | ⟨i, hi, hd⟩
    · exact h
    · have := hc i hi; omega
  · intro hc i hi
    rw [hc.dia i hi]; decide
theorem ends_iff {f : Nat → Nat → Int} (h : Clo f) {a b : Nat} (ha : a < 11) (hb : b < 11) (d : Int) : (-(f b a) ≤ d ∧ d ≤ f a b) ↔ ∃ v, Sol f v ∧ v a - v b = d := by
  constructor
  · rintro ⟨h1, h2⟩
    -- both bounds laid
    have g1 := put1_clo (.inl h) d ha hb
    have c1 : Clo (put1 f a b d) := by
      rcases g1 with g | ⟨i, hi, hd⟩
      · exact g
      · exfalso
        unfold put1 at hd
        split at hd
        · have := h.dia i hi; omega
        · have t1 := h.tri b i a hb hi ha
          have := h.dia i hi
          unfold minF at hd
          split at hd <;> omega
    -- the numbers
    refine ⟨fun i => put1 f a b d i b, ?_, ?_⟩
    · have : Sol (put1 f a b d) (fun i => put1 f a b d i b) := fun i j hi hj => by
        have := c1.tri i j b hi hj hb
        dsimp only; omega
      exact ((put1_sol (.inl h) ha hb _).1 this).1
    · dsimp only
      rw [c1.dia b hb]
      unfold put1
      split
      · omega
      · unfold minF
        rw [h.dia a ha, h.dia b hb]
        split <;> omega
  · rintro ⟨v, hs, rfl⟩
    have h1 := hs a b ha hb
    have h2 := hs b a hb ha
    omega
theorem can_iff {f : Nat → Nat → Int} (h : Clo f ∨ Dead f) : canB f 11 = true ↔ ∃ v, Sol f v := by
  constructor
  · intro hc
    have hc := (can_clo h).1 hc
    obtain ⟨v, hv, _⟩ := (ends_iff hc (a := 0) (b := 0) (by decide) (by decide) 0).1 (by rw [hc.dia 0 (by decide)]; decide)
    exact ⟨v, hv⟩
  · rintro ⟨v, hv⟩
    refine can_all.2 fun i hi => ?_
    have := hv i i hi hi
    omega
theorem putB_clo {f : Nat → Nat → Int} (h : Clo f ∨ Dead f) {a b : Nat} (lo hi : Int) (ha : a < 11) (hb : b < 11) : Clo (putB f a b lo hi) ∨ Dead (putB f a b lo hi) :=
  put1_clo (put1_clo h hi ha hb) (0 - lo) hb ha
theorem putB_sol {f : Nat → Nat → Int} (h : Clo f ∨ Dead f) {a b : Nat} (lo hi : Int) (ha : a < 11) (hb : b < 11) (v : Nat → Int) : Sol (putB f a b lo hi) v ↔ Sol f v ∧ lo ≤ v a - v b ∧ v a - v b ≤ hi := by
  unfold putB
  rw [put1_sol (put1_clo h hi ha hb) hb ha, put1_sol h ha hb]
  constructor
  · rintro ⟨⟨h1, h2⟩, h3⟩; exact ⟨h1, by omega, h2⟩
  · rintro ⟨h1, h2, h3⟩; exact ⟨⟨h1, h3⟩, by omega⟩
section
variable {N : Nat} {most : Int} {strays : List (Int × Int)} {calls : List (Int × Int × Int × Int)} {set : Nat}
theorem F0_clo (h : TOK N most strays calls) : ∀ i, i ≤ N → Clo (F0 N most i) ∨ Dead (F0 N most i)
  | 0, _ => .inl empty_clo
  | i + 1, hi => by
    have ih := F0_clo h i (by omega)
    have := h.n5
    exact putB_clo (putB_clo ih _ _ (by omega) (by omega)) _ _ (posM_lt h.n5 hi) (posM_lt h.n5 (by omega))
theorem F0_sol (h : TOK N most strays calls) (v : Nat → Int) : ∀ i, i ≤ N → (Sol (F0 N most i) v ↔ Sol emptyF v ∧ ∀ k, k < i → (0 ≤ v (k + 1) - v k ∧ v (k + 1) - v k ≤ most) ∧ 0 ≤ v (posM N (k + 1)) - v (posM N k) ∧ v (posM N (k + 1)) - v (posM N k) ≤ 65536)
  | 0, _ => ⟨fun hs => ⟨hs, fun k hk => absurd hk (by omega)⟩, fun hs => hs.1⟩
  | i + 1, hi => by
    have ih := F0_sol h v i (by omega)
    have hc := F0_clo h i (by omega)
    have := h.n5
    unfold F0
    rw [putB_sol (putB_clo hc _ _ (by omega) (by omega)) _ _ (posM_lt h.n5 hi) (posM_lt h.n5 (by omega)), putB_sol hc _ _ (by omega) (by omega), ih]
    constructor
    · rintro ⟨⟨⟨h1, h2⟩, h3⟩, h4⟩
      refine ⟨h1, fun k hk => ?_⟩
      by_cases hk' : k = i
      · subst hk'; exact ⟨h3, h4⟩
      · exact h2 k (by omega)
    · rintro ⟨h1, h2⟩
      exact ⟨⟨⟨h1, fun k hk => h2 k (by omega)⟩, (h2 i (by omega)).1⟩, (h2 i (by omega)).2⟩
theorem F1_clo (h : TOK N most strays calls) : ∀ i, i ≤ strays.length → Clo (F1 N most strays i) ∨ Dead (F1 N most strays i)
  | 0, _ => F0_clo h N (Nat.le_refl _)
  | i + 1, hi => by
    have ih := F1_clo h i (by omega)
    have := h.n5
    have := h.sl
    exact putB_clo ih _ _ (by omega) (posM_lt h.n5 (by omega))
theorem F1_sol (h : TOK N most strays calls) (v : Nat → Int) : ∀ i, i ≤ strays.length → (Sol (F1 N most strays i) v ↔ Sol (F0 N most N) v ∧ ∀ k, k < i → (strays.getD k (0, 0)).1 ≤ v (k + 1) - v (posM N (k + 1)) ∧ v (k + 1) - v (posM N (k + 1)) ≤ (strays.getD k (0, 0)).2)
  | 0, _ => ⟨fun hs => ⟨hs, fun k hk => absurd hk (by omega)⟩, fun hs => hs.1⟩
  | i + 1, hi => by
    have ih := F1_sol h v i (by omega)
    have hc := F1_clo h i (by omega)
    have := h.n5
    have := h.sl
    unfold F1
    rw [putB_sol hc _ _ (by omega) (posM_lt h.n5 (by omega)), ih]
    constructor
    · rintro ⟨⟨h1, h2⟩, h3⟩
      refine ⟨h1, fun k hk => ?_⟩
      by_cases hk' : k = i
      · subst hk'; exact h3
      · exact h2 k (by omega)
    · rintro ⟨h1, h2⟩
      exact ⟨⟨h1, fun k hk => h2 k (by omega)⟩, h2 i (by omega)⟩
theorem F2_clo (h : TOK N most strays calls) : ∀ i, i ≤ calls.length → Clo (F2 N most strays calls set i) ∨ Dead (F2 N most strays calls set i)
  | 0, _ => F1_clo h _ (Nat.le_refl _)
  | i + 1, hi => by
    have ih := F2_clo h i (by omega)
    unfold F2
    split
    · have hl := cnt_lt h.n1 h.n5 (h.ca i (by omega))
      exact putB_clo ih _ _ hl.1 hl.2
    · exact ih
theorem F2_sol (h : TOK N most strays calls) (v : Nat → Int) : ∀ i, i ≤ calls.length → (Sol (F2 N most strays calls set i) v ↔ Sol (F1 N most strays strays.length) v ∧ ∀ k, k < i → set.testBit k = true → (calls.getD k (0, 0, 0, 0)).2.2.1 ≤ v (cntA N (calls.getD k (0, 0, 0, 0))) - v (cntZ N (calls.getD k (0, 0, 0, 0))) ∧ v (cntA N (calls.getD k (0, 0, 0, 0))) - v (cntZ N (calls.getD k (0, 0, 0, 0))) ≤ (calls.getD k (0, 0, 0, 0)).2.2.2)
  | 0, _ => ⟨fun hs => ⟨hs, fun k hk => absurd hk (by omega)⟩, fun hs => hs.1⟩
  | i + 1, hi => by
    have ih := F2_sol h v i (by omega)
    have hc := F2_clo (set := set) h i (by omega)
    have hl := cnt_lt h.n1 h.n5 (h.ca i (by omega))
    unfold F2
    split
    · rename_i hb
      unfold putC
      rw [putB_sol hc _ _ hl.1 hl.2, ih]
      constructor
      · rintro ⟨⟨h1, h2⟩, h3⟩
        refine ⟨h1, fun k hk hkb => ?_⟩
        by_cases hk' : k = i
        · subst hk'; exact h3
        · exact h2 k (by omega) hkb
      · rintro ⟨h1, h2⟩
        exact ⟨⟨h1, fun k hk => h2 k (by omega)⟩, h2 i (by omega) hb⟩
    · rename_i hb
      rw [ih]
      constructor
      · rintro ⟨h1, h2⟩
        refine ⟨h1, fun k hk hkb => ?_⟩
        by_cases hk' : k = i
        · subst hk'; exact absurd hkb hb
        · exact h2 k (by omega) hkb
      · rintro ⟨h1, h2⟩
        exact ⟨h1, fun k hk => h2 k (by omega)⟩
theorem tab_clo (h : TOK N most strays calls) (set : Nat) : Clo (tabF N most strays calls set) ∨ Dead (tabF N most strays calls set) := F2_clo h _ (Nat.le_refl _)
end
/-- A truth: how many each has shorn, and how many went from each pen to the next one. -/
def penT (N : Nat) (x y : Nat → Int) (i : Nat) : Int := x i + (if i = 0 then 0 else y (i - 1)) - (if i + 1 = N then 0 else y i)
def sumT (x : Nat → Int) : Nat → Int
  | 0 => 0
  | n + 1 => sumT x n + x n
def cntT (N : Nat) (x y : Nat → Int) (c : Int × Int × Int × Int) : Int := if c.1 = 0 then x c.2.1.toNat else if c.1 = 1 then penT N x y c.2.1.toNat else sumT x N
structure IsT (N : Nat) (most : Int) (strays : List (Int × Int)) (calls : List (Int × Int × Int × Int)) (set : Nat) (x y : Nat → Int) : Prop where
  sh : ∀ i, i < N → 0 ≤ x i ∧ x i ≤ most
  st : ∀ i, i < strays.length → (strays.getD i (0, 0)).1 ≤ y i ∧ y i ≤ (strays.getD i (0, 0)).2
  pe : ∀ i, i < N → 0 ≤ penT N x y i
  ca : ∀ i, i < calls.length → set.testBit i = true → (calls.getD i (0, 0, 0, 0)).2.2.1 ≤ cntT N x y (calls.getD i (0, 0, 0, 0)) ∧ cntT N x y (calls.getD i (0, 0, 0, 0)) ≤ (calls.getD i (0, 0, 0, 0)).2.2.2
/-- The numbers of a table, of a truth. -/
def potT (N : Nat) (x y : Nat → Int) (i : Nat) : Int := if i ≤ N then sumT x i else if 6 ≤ i ∧ i < N + 5 then sumT x (i - 5) - y (i - 6) else 0
theorem pot_low {N : Nat} {x y : Nat → Int} {i : Nat} (h : i ≤ N) : potT N x y i = sumT x i := if_pos h
theorem pot_pos {N : Nat} {x y : Nat → Int} {i : Nat} (h5 : N ≤ 5) (h : i ≤ N) : potT N x y (posM N i) = sumT x i - (if i = 0 ∨ i = N then 0 else y (i - 1)) := by
  unfold posM
  split
  · rw [pot_low h]; omega
  · unfold potT
    rw [if_neg (by omega), if_pos (by omega), show 5 + i - 5 = i by omega, show 5 + i - 6 = i - 1 by omega]
theorem pot_pen {N : Nat} {x y : Nat → Int} {i : Nat} (h5 : N ≤ 5) (h : i < N) : potT N x y (posM N (i + 1)) - potT N x y (posM N i) = penT N x y i := by
  rw [pot_pos h5 (by omega), pot_pos h5 (by omega)]
  unfold penT
  simp only [sumT, Nat.add_sub_cancel]
  split <;> split <;> split <;> split <;> omega
theorem pot_cnt {N : Nat} {x y : Nat → Int} {c : Int × Int × Int × Int} (h5 : N ≤ 5) (h : isCallB N c = true) : potT N x y (cntA N c) - potT N x y (cntZ N c) = cntT N x y c := by
  have hc := call_of h
  unfold cntA cntZ cntT
  rcases hc.1 with h1 | ⟨h1 | h1, h2⟩
  · rw [if_neg (by omega), if_neg (by omega), if_neg (by omega), if_neg (by omega), if_neg (by omega), if_neg (by omega), pot_low (by omega), pot_low (by omega)]
    simp [sumT]
  · rw [if_pos h1, if_pos h1, if_pos h1, pot_low (by omega), pot_low (by omega)]
    simp only [sumT]; omega
  · rw [if_neg (by omega), if_pos h1, if_neg (by omega), if_pos h1, if_neg (by omega), if_pos h1]
    have : c.2.1.toNat + 1 = (c.2.1 + 1).toNat := by omega
    exact pot_pen h5 (by omega)
section
variable {N : Nat} {most : Int} {strays : List (Int × Int)} {calls : List (Int × Int × Int × Int)} {set : Nat}
theorem sum_bd {x : Nat → Int} {n : Nat} (hx : ∀ i, i < n → 0 ≤ x i ∧ x i ≤ most) : 0 ≤ sumT x n ∧ sumT x n ≤ n * most := by
  induction n with
  | zero => simp [sumT]
  | succ n ih =>
    have h1 := ih fun i hi => hx i (by omega)
    have h2 := hx n (by omega)
    have h3 : ((n + 1 : Nat) : Int) * most = n * most + most := by rw [Int.natCast_add, Int.add_mul]; omega
    unfold sumT
    omega
theorem pot_bd (h : TOK N most strays calls) {x y : Nat → Int} (ht : IsT N most strays calls set x y) (i : Nat) : -3 ≤ potT N x y i ∧ potT N x y i ≤ 303 := by
  have sb : ∀ k, k ≤ N → 0 ≤ sumT x k ∧ sumT x k ≤ 300 := fun k hk => by
    have := sum_bd (n := k) (most := 60) (x := x) fun i hi => ⟨(ht.sh i (by omega)).1, Int.le_trans (ht.sh i (by omega)).2 h.m60⟩
    have := h.n5
    omega
  have := h.sl
  unfold potT
  split
  · have := sb i (by omega); omega
  · split
    · have h1 := sb (i - 5) (by omega)
      have h2 := ht.st (i - 6) (by omega)
      have h3 := span_of (h.st (i - 6) (by omega))
      omega
    · omega
theorem sol_of (h : TOK N most strays calls) {x y : Nat → Int} (ht : IsT N most strays calls set x y) : Sol (tabF N most strays calls set) (potT N x y) := by
  have bd := pot_bd h ht
  have n5 := h.n5
  have sl := h.sl
  unfold tabF
  rw [F2_sol h _ _ (Nat.le_refl _), F1_sol h _ _ (Nat.le_refl _), F0_sol h _ _ (Nat.le_refl _)]
  refine ⟨⟨⟨fun i j _ _ => ?_, fun k hk => ⟨?_, ?_⟩⟩, fun k hk => ?_⟩, fun k hk hb => ?_⟩
  · have h1 := bd i; have h2 := bd j
    unfold emptyF
    split
    · subst_vars; omega
    · omega
  · rw [pot_low (by omega), pot_low (by omega)]
    have := ht.sh k hk
    simp only [sumT]; omega
  · rw [pot_pen n5 hk]
    have := ht.pe k hk
    have h1 := bd (posM N (k + 1)); have h2 := bd (posM N k)
    have h3 := pot_pen (x := x) (y := y) n5 hk
    omega
  · rw [pot_low (by omega), pot_pos n5 (by omega), if_neg (by omega), Nat.add_sub_cancel]
    have := ht.st k hk
    omega
  · rw [pot_cnt n5 (h.ca k hk)]
    exact ht.ca k hk hb
/-- The truth of a table's numbers. -/
def xOf (v : Nat → Int) (i : Nat) : Int := v (i + 1) - v i
def yOf (N : Nat) (v : Nat → Int) (i : Nat) : Int := v (i + 1) - v (posM N (i + 1))
theorem sum_xOf (v : Nat → Int) : ∀ n, sumT (xOf v) n = v n - v 0
  | 0 => by simp [sumT]
  | n + 1 => by unfold sumT; rw [sum_xOf v n]; unfold xOf; omega
theorem pen_of (v : Nat → Int) {i : Nat} (h : i < N) : penT N (xOf v) (yOf N v) i = v (posM N (i + 1)) - v (posM N i) := by
  unfold penT xOf yOf
  by_cases h0 : i = 0
  · subst h0
    by_cases h1 : N = 1
    · subst h1; simp [posM]
    · rw [if_pos rfl, if_neg (by omega), show posM N 0 = 0 by simp [posM]]; omega
  · rw [if_neg h0, show i - 1 + 1 = i by omega]
    by_cases h1 : i + 1 = N
    · rw [if_pos h1, show posM N (i + 1) = i + 1 by unfold posM; rw [if_pos (.inr h1)]]; omega
    · rw [if_neg h1]; omega
theorem cnt_of (v : Nat → Int) {c : Int × Int × Int × Int} (h : isCallB N c = true) : cntT N (xOf v) (yOf N v) c = v (cntA N c) - v (cntZ N c) := by
  have hc := call_of h
  unfold cntA cntZ cntT
  rcases hc.1 with h1 | ⟨h1 | h1, h2⟩
  · rw [if_neg (by omega), if_neg (by omega), if_neg (by omega), if_neg (by omega), if_neg (by omega), if_neg (by omega), sum_xOf]
  · rw [if_pos h1, if_pos h1, if_pos h1]; rfl
  · rw [if_neg (by omega), if_pos h1, if_neg (by omega), if_pos h1, if_neg (by omega), if_pos h1, pen_of v (by omega)]
theorem isT_of (h : TOK N most strays calls) {v : Nat → Int} (hs : Sol (tabF N most strays calls set) v) : IsT N most strays calls set (xOf v) (yOf N v) := by
  unfold tabF at hs
  rw [F2_sol h _ _ (Nat.le_refl _), F1_sol h _ _ (Nat.le_refl _), F0_sol h _ _ (Nat.le_refl _)] at hs
  obtain ⟨⟨⟨_, h1⟩, h2⟩, h3⟩ := hs
  refine ⟨fun i hi => (h1 i hi).1, fun i hi => h2 i hi, fun i hi => ?_, fun i hi hb => ?_⟩
  · rw [pen_of v hi]; exact (h1 i hi).2.1
  · rw [cnt_of v (h.ca i hi)]; exact h3 i hi hb
/-- There is a truth just if the table says so. -/
theorem can_T (h : TOK N most strays calls) (set : Nat) : canB (tabF N most strays calls set) 11 = true ↔ ∃ x y, IsT N most strays calls set x y := by
  rw [can_iff (tab_clo h set)]
  exact ⟨fun ⟨v, hv⟩ => ⟨_, _, isT_of h hv⟩, fun ⟨x, y, ht⟩ => ⟨_, sol_of h ht⟩⟩
theorem ends_T (h : TOK N most strays calls) (hc : canB (tabF N most strays calls set) 11 = true) {a b : Nat} (ha : a < 11) (hb : b < 11) {g : (Nat → Int) → (Nat → Int) → Int} (h1 : ∀ v, v a - v b = g (xOf v) (yOf N v)) (h2 : ∀ x y, potT N x y a - potT N x y b = g x y) (d : Int) :
    (-(tabF N most strays calls set b a) ≤ d ∧ d ≤ tabF N most strays calls set a b) ↔ ∃ x y, IsT N most strays calls set x y ∧ g x y = d := by
  rw [ends_iff ((can_clo (tab_clo h set)).1 hc) ha hb d]
  constructor
  · rintro ⟨v, hv, rfl⟩; exact ⟨_, _, isT_of h hv, (h1 v).symm⟩
  · rintro ⟨x, y, ht, rfl⟩; exact ⟨_, sol_of h ht, h2 x y⟩
theorem ends_shorn (h : TOK N most strays calls) (hc : canB (tabF N most strays calls set) 11 = true) {i : Nat} (hi : i < N) (d : Int) :
    (-(tabF N most strays calls set i (i + 1)) ≤ d ∧ d ≤ tabF N most strays calls set (i + 1) i) ↔ ∃ x y, IsT N most strays calls set x y ∧ x i = d := by
  have := h.n5
  refine ends_T (g := fun x _ => x i) h hc (by omega) (by omega) (fun v => rfl) (fun x y => ?_) d
  rw [pot_low (by omega), pot_low (by omega)]; simp only [sumT]; omega
theorem ends_pen (h : TOK N most strays calls) (hc : canB (tabF N most strays calls set) 11 = true) {i : Nat} (hi : i < N) (d : Int) :
    (-(tabF N most strays calls set (posM N i) (posM N (i + 1))) ≤ d ∧ d ≤ tabF N most strays calls set (posM N (i + 1)) (posM N i)) ↔ ∃ x y, IsT N most strays calls set x y ∧ penT N x y i = d :=
  ends_T (g := fun x y => penT N x y i) h hc (posM_lt h.n5 (by omega)) (posM_lt h.n5 (by omega)) (fun v => (pen_of v hi).symm) (fun x y => pot_pen h.n5 hi) d
theorem ends_stray (h : TOK N most strays calls) (hc : canB (tabF N most strays calls set) 11 = true) {i : Nat} (hi : i + 1 < N) (d : Int) :
    (-(tabF N most strays calls set (posM N (i + 1)) (i + 1)) ≤ d ∧ d ≤ tabF N most strays calls set (i + 1) (posM N (i + 1))) ↔ ∃ x y, IsT N most strays calls set x y ∧ y i = d := by
  have := h.n5
  refine ends_T (g := fun x y => y i) h hc (by omega) (posM_lt h.n5 (by omega)) (fun v => rfl) (fun x y => ?_) d
  rw [pot_low (by omega), pot_pos h.n5 (by omega), if_neg (by omega), Nat.add_sub_cancel]; omega
theorem ends_sum (h : TOK N most strays calls) (hc : canB (tabF N most strays calls set) 11 = true) {i j : Nat} (hi : i ≤ N) (hj : j ≤ N) (d : Int) :
    (-(tabF N most strays calls set i j) ≤ d ∧ d ≤ tabF N most strays calls set j i) ↔ ∃ x y, IsT N most strays calls set x y ∧ sumT x j - sumT x i = d := by
  have := h.n5
  refine ends_T (g := fun x y => sumT x j - sumT x i) h hc (by omega) (by omega) (fun v => ?_) (fun x y => ?_) d
  · rw [sum_xOf, sum_xOf]; omega
  · rw [pot_low hj, pot_low hi]
theorem ends_cnt (h : TOK N most strays calls) (hc : canB (tabF N most strays calls set) 11 = true) {c : Int × Int × Int × Int} (hcc : isCallB N c = true) (d : Int) :
    (-(tabF N most strays calls set (cntZ N c) (cntA N c)) ≤ d ∧ d ≤ tabF N most strays calls set (cntA N c) (cntZ N c)) ↔ ∃ x y, IsT N most strays calls set x y ∧ cntT N x y c = d :=
  have hl := cnt_lt h.n1 h.n5 hcc
  ends_T (g := fun x y => cntT N x y c) h hc hl.1 hl.2 (fun v => (cnt_of v hcc).symm) (fun x y => pot_cnt h.n5 hcc) d
end
end Go.Proofs.Ytejbglbiefpagaa
