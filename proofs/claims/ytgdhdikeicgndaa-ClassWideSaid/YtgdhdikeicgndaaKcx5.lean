/- Kcx5: texts joined (CxA CxB CxC CxD CxM CxE). -/
import Derived.Test.YtgdhdikeicgndaaKpv3
import Derived.Test.YtgdhdikeicgndaaCvM
set_option linter.all false
/- classer, plain: the least costs of sequences of numbers of wrong fleeces. -/
namespace Go.Cl
def costB (b : Nat × Nat × Nat) (w : Nat) : Nat := max ((w - (b.1 - b.2.1)) - b.2.2) (b.2.2 - min w b.2.1)
def FAR : Nat := 65536
/-- The costs of a bale by itself. -/
def ownF (b : Nat × Nat × Nat) (tk : Bool) (w : Nat) : Nat := if b.1 < w then FAR else if tk = true then costB b w else 0
def near (D a b : Nat) : Prop := a ≤ b + D ∧ b ≤ a + D
instance (D a b : Nat) : Decidable (near D a b) := by unfold near; exact inferInstance
def sumN (f : Nat → Nat) : Nat → Nat
  | 0 => 0
  | n + 1 => sumN f n + f n
theorem sumN_congr {f g : Nat → Nat} : ∀ n, (∀ i, i < n → f i = g i) → sumN f n = sumN g n
  | 0, _ => rfl
  | n + 1, h => by unfold sumN; rw [sumN_congr n fun i hi => h i (by omega), h n (by omega)]
theorem sumN_le {f g : Nat → Nat} : ∀ n, (∀ i, i < n → f i ≤ g i) → sumN f n ≤ sumN g n
  | 0, _ => Nat.le_refl _
  | n + 1, h => by
    unfold sumN
    have := sumN_le n fun i hi => h i (by omega)
    have := h n (by omega)
    omega
theorem sumN_mem {f : Nat → Nat} {i : Nat} : ∀ n, i < n → f i ≤ sumN f n
  | n + 1, h => by
    unfold sumN
    by_cases e : i = n
    · subst e; omega
    · have := sumN_mem (f := f) n (by omega : i < n); omega
theorem sumN_add (f : Nat → Nat) (a : Nat) : ∀ n, sumN f (a + n) = sumN f a + sumN (fun i => f (a + i)) n
  | 0 => rfl
  | n + 1 => by
    show sumN f (a + n) + f (a + n) = sumN f a + (sumN (fun i => f (a + i)) n + f (a + n))
    rw [sumN_add f a n]; omega
theorem sumN_succ' (f : Nat → Nat) (n : Nat) : sumN f (n + 1) = f 0 + sumN (fun i => f (i + 1)) n := by
  rw [show n + 1 = 1 + n by omega, sumN_add]
  show (0 + f 0) + _ = _
  rw [Nat.zero_add]
  congr 1
  exact sumN_congr n fun i _ => by rw [Nat.add_comm]
theorem sumN_rev (f : Nat → Nat) : ∀ n, sumN (fun i => f (n - 1 - i)) n = sumN f n
  | 0 => rfl
  | n + 1 => by
    rw [sumN_succ']
    show f (n + 1 - 1 - 0) + sumN (fun i => f (n + 1 - 1 - (i + 1))) n = sumN f n + f n
    have h := sumN_rev f n
    have e : sumN (fun i => f (n + 1 - 1 - (i + 1))) n = sumN (fun i => f (n - 1 - i)) n := sumN_congr n fun i hi => by congr 1; omega
    rw [e, h, show n + 1 - 1 - 0 = n by omega]; omega
/-- The least of some costs, from one number on, so many more. -/
def minR (c : Nat → Nat) (a : Nat) : Nat → Nat
  | 0 => c a
  | k + 1 => min (minR c a k) (c (a + (k + 1)))
theorem minR_le {c : Nat → Nat} {a m : Nat} : ∀ k, minR c a k ≤ m ↔ ∃ j, j ≤ k ∧ c (a + j) ≤ m
  | 0 => by
    constructor
    · intro h; exact ⟨0, Nat.le_refl _, h⟩
    · rintro ⟨j, hj, h⟩
      obtain rfl : j = 0 := by omega
      exact h
  | k + 1 => by
    unfold minR
    rw [show min (minR c a k) (c (a + (k + 1))) ≤ m ↔ minR c a k ≤ m ∨ c (a + (k + 1)) ≤ m by omega, minR_le k]
    constructor
    · rintro (⟨j, hj, h⟩ | h)
      · exact ⟨j, by omega, h⟩
      · exact ⟨k + 1, Nat.le_refl _, h⟩
    · rintro ⟨j, hj, h⟩
      by_cases e : j = k + 1
      · subst e; exact .inr h
      · exact .inl ⟨j, by omega, h⟩
theorem minR_mem {c : Nat → Nat} {a : Nat} : ∀ k, ∃ j, j ≤ k ∧ minR c a k = c (a + j)
  | k => by
    obtain ⟨j, hj, h⟩ := (minR_le (c := c) (a := a) (m := minR c a k) k).1 (Nat.le_refl _)
    exact ⟨j, hj, Nat.le_antisymm ((minR_le k).2 ⟨j, hj, Nat.le_refl _⟩) h⟩
/-- The least costs of a bale that follows, by a drift. -/
def aft (D : Nat) (c : Nat → Nat) (w : Nat) : Nat := minR c (w - D) (min 30 (w + D) - (w - D))
theorem aft_le {D : Nat} {c : Nat → Nat} {w m : Nat} (hw : w ≤ 30) : aft D c w ≤ m ↔ ∃ v, v ≤ 30 ∧ near D v w ∧ c v ≤ m := by
  unfold aft near
  rw [minR_le]
  constructor
  · rintro ⟨j, hj, h⟩
    exact ⟨w - D + j, by omega, by omega, h⟩
  · rintro ⟨v, hv, hn, h⟩
    refine ⟨v - (w - D), by omega, ?_⟩
    rw [show w - D + (v - (w - D)) = v by omega]; exact h
def cap (n : Nat) : Nat := min FAR n
theorem cap_le {n m : Nat} (hm : m < FAR) : cap n ≤ m ↔ n ≤ m := by unfold cap; omega
/-- The costs of both. -/
def plusF (c o : Nat → Nat) (w : Nat) : Nat := cap (cap (c w) + o w)
theorem plusF_le {c o : Nat → Nat} {w m : Nat} (hm : m < FAR) : plusF c o w ≤ m ↔ c w + o w ≤ m := by unfold plusF cap; omega
theorem plusF_far (c o : Nat → Nat) (w : Nat) : plusF c o w ≤ FAR := by unfold plusF cap; omega
/-- The least costs of the first bales, by the number of the last one. -/
def dp (D : Nat) (o : Nat → Nat → Nat) : Nat → Nat → Nat
  | 0 => o 0
  | i + 1 => plusF (aft D (dp D o i)) (o (i + 1))
theorem dp_le {D : Nat} {o : Nat → Nat → Nat} : ∀ (i w m : Nat), m < FAR → w ≤ 30 → (dp D o i w ≤ m ↔ ∃ f : Nat → Nat, f i = w ∧ (∀ k, k ≤ i → f k ≤ 30) ∧ (∀ k, k < i → near D (f k) (f (k + 1))) ∧ sumN (fun k => o k (f k)) (i + 1) ≤ m)
  | 0, w, m, hm, hw => by
    constructor
    · intro h
      exact ⟨fun _ => w, rfl, fun _ _ => hw, fun k hk => by omega, by show 0 + o 0 w ≤ m; rw [Nat.zero_add]; exact h⟩
    · rintro ⟨f, rfl, _, _, h⟩
      have h : 0 + o 0 (f 0) ≤ m := h
      show o 0 (f 0) ≤ m
      omega
  | i + 1, w, m, hm, hw => by
    have ih := fun v m' => dp_le (D := D) (o := o) i v m'
    show plusF (aft D (dp D o i)) (o (i + 1)) w ≤ m ↔ _
    rw [plusF_le hm]
    constructor
    · intro h
      obtain ⟨v, hv, hn, hc⟩ := (aft_le hw).1 (show aft D (dp D o i) w ≤ m - o (i + 1) w by omega)
      obtain ⟨f, h1, h2, h3, h4⟩ := (ih v (m - o (i + 1) w) (by omega) hv).1 hc
      refine ⟨fun k => if k ≤ i then f k else w, if_neg (by omega), fun k hk => ?_, fun k hk => ?_, ?_⟩
      · by_cases e : k ≤ i
        · simp only [if_pos e]; exact h2 k e
        · simp only [if_neg e]; exact hw
      · by_cases e : k = i
        · subst e
          simp only [if_pos (Nat.le_refl k), if_neg (show ¬ k + 1 ≤ k by omega), h1]; exact hn
        · simp only [if_pos (show k ≤ i by omega), if_pos (show k + 1 ≤ i by omega)]; exact h3 k (by omega)
      · show sumN (fun k => o k (if k ≤ i then f k else w)) (i + 1) + o (i + 1) (if i + 1 ≤ i then f (i + 1) else w) ≤ m
        rw [if_neg (by omega), sumN_congr (g := fun k => o k (f k)) (i + 1) fun k hk => by rw [if_pos (by omega)]]
        omega
    · rintro ⟨f, h1, h2, h3, h4⟩
      have h4 : sumN (fun k => o k (f k)) (i + 1) + o (i + 1) (f (i + 1)) ≤ m := h4
      rw [h1] at h4
      have : aft D (dp D o i) w ≤ m - o (i + 1) w := (aft_le hw).2 ⟨f i, h2 i (by omega), by rw [← h1]; exact h3 i (by omega), (ih _ _ (by omega) (h2 i (by omega))).2 ⟨f, rfl, fun k hk => h2 k (by omega), fun k hk => h3 k (by omega), by omega⟩⟩
      omega
theorem dp_own {D : Nat} {o : Nat → Nat → Nat} : ∀ (i w : Nat), o i w ≤ FAR → o i w ≤ dp D o i w
  | 0, w, _ => Nat.le_refl _
  | i + 1, w, h => by
    show o (i + 1) w ≤ plusF (aft D (dp D o i)) (o (i + 1)) w
    unfold plusF cap; omega
theorem dp_far {D : Nat} {o : Nat → Nat → Nat} (ho : ∀ i w, o i w ≤ FAR) : ∀ (i w : Nat), dp D o i w ≤ FAR
  | 0, w => ho 0 w
  | i + 1, w => plusF_far _ _ _
/-- Costs of all bales, by the number of one. -/
def thr (D N : Nat) (o : Nat → Nat → Nat) (n w : Nat) : Nat :=
  if FAR ≤ dp D o n w ∨ FAR ≤ dp D (fun d => o (N - 1 - d)) (N - 1 - n) w then FAR
  else dp D o n w + dp D (fun d => o (N - 1 - d)) (N - 1 - n) w - o n w
/-- Is it a sequence of numbers of all bales, each near the next one? -/
structure Seq (D N : Nat) (f : Nat → Nat) : Prop where
  le : ∀ k, k < N → f k ≤ 30
  nr : ∀ k, k + 1 < N → near D (f k) (f (k + 1))
theorem near_comm {D a b : Nat} (h : near D a b) : near D b a := ⟨h.2, h.1⟩
theorem thr_le {D N : Nat} {o : Nat → Nat → Nat} (ho : ∀ i w, o i w ≤ FAR) {n w m : Nat} (hn : n < N) (hm : m < FAR) (hw : w ≤ 30) : thr D N o n w ≤ m ↔ ∃ f, f n = w ∧ Seq D N f ∧ sumN (fun k => o k (f k)) N ≤ m := by
  have hsplit : ∀ f : Nat → Nat, sumN (fun k => o k (f k)) N + o n (f n) = sumN (fun k => o k (f k)) (n + 1) + sumN (fun d => o (N - 1 - d) (f (N - 1 - d))) (N - 1 - n + 1) := by
    intro f
    have e1 : sumN (fun d => o (N - 1 - d) (f (N - 1 - d))) (N - 1 - n + 1) = sumN (fun i => o (n + i) (f (n + i))) (N - n) := by
      rw [show N - 1 - n + 1 = N - n by omega, ← sumN_rev (fun i => o (n + i) (f (n + i))) (N - n)]
      exact sumN_congr _ fun i hi => by rw [show n + (N - n - 1 - i) = N - 1 - i by omega]
    rw [e1]
    have e2 := sumN_add (fun k => o k (f k)) n (N - n)
    rw [show n + (N - n) = N by omega] at e2
    rw [e2]
    show _ = sumN (fun k => o k (f k)) n + o n (f n) + _
    omega
  constructor
  · intro h
    unfold thr at h
    by_cases hf : FAR ≤ dp D o n w ∨ FAR ≤ dp D (fun d => o (N - 1 - d)) (N - 1 - n) w
    · rw [if_pos hf] at h; omega
    · rw [if_neg hf] at h
      obtain ⟨f, f1, f2, f3, f4⟩ := (dp_le n w (dp D o n w) (by omega) hw).1 (Nat.le_refl _)
      obtain ⟨g, g1, g2, g3, g4⟩ := (dp_le (N - 1 - n) w (dp D (fun d => o (N - 1 - d)) (N - 1 - n) w) (by omega) hw).1 (Nat.le_refl _)
      have ho1 := dp_own (D := D) n w (ho n w)
      have hs := hsplit fun k => if k ≤ n then f k else g (N - 1 - k)
      have c1 : sumN (fun k => o k (if k ≤ n then f k else g (N - 1 - k))) (n + 1) = sumN (fun k => o k (f k)) (n + 1) := sumN_congr _ fun k hk => by rw [if_pos (by omega)]
      have c2 : sumN (fun d => o (N - 1 - d) (if N - 1 - d ≤ n then f (N - 1 - d) else g (N - 1 - (N - 1 - d)))) (N - 1 - n + 1) = sumN (fun d => o (N - 1 - d) (g d)) (N - 1 - n + 1) := sumN_congr _ fun d hd => by
        by_cases e : N - 1 - d ≤ n
        · have e2 : N - 1 - d = n := by omega
          have e3 : d = N - 1 - n := by omega
          rw [if_pos e, e2, f1, e3, g1]
        · rw [if_neg e, show N - 1 - (N - 1 - d) = d by omega]
      rw [c1, c2, if_pos (Nat.le_refl _), f1] at hs
      have g4 : sumN (fun d => o (N - 1 - d) (g d)) (N - 1 - n + 1) ≤ dp D (fun d => o (N - 1 - d)) (N - 1 - n) w := g4
      refine ⟨fun k => if k ≤ n then f k else g (N - 1 - k), by simp only [if_pos (Nat.le_refl n)]; exact f1, ⟨fun k hk => ?_, fun k hk => ?_⟩, ?_⟩
      rotate_left 2
      · show sumN (fun k => o k (if k ≤ n then f k else g (N - 1 - k))) N ≤ m
        omega
      · by_cases e : k ≤ n
        · simp only [if_pos e]; exact f2 k e
        · simp only [if_neg e]; exact g2 _ (by omega)
      · by_cases e1 : k + 1 ≤ n
        · simp only [if_pos (show k ≤ n by omega), if_pos e1]; exact f3 k (by omega)
        · simp only [if_neg e1]
          have h3 := g3 (N - 1 - (k + 1)) (by omega)
          rw [show N - 1 - (k + 1) + 1 = N - 1 - k by omega] at h3
          by_cases e2 : k ≤ n
          · have e3 : k = n := by omega
            subst e3
            simp only [if_pos e2, f1]
            rw [g1] at h3
            exact near_comm h3
          · simp only [if_neg e2]; exact near_comm h3
  · rintro ⟨f, f1, f2, f3⟩
    have hs := hsplit f
    rw [f1] at hs
    have hsx : sumN (fun d => o (N - 1 - d) (f (N - 1 - d))) (N - 1 - n + 1) ≤ m := by
      have := sumN_mem (f := fun k => o k (f k)) (n + 1) (Nat.lt_succ_self n)
      rw [f1] at this
      omega
    have hon : o n w ≤ sumN (fun k => o k (f k)) N := by
      have := sumN_mem (f := fun k => o k (f k)) N hn
      rwa [f1] at this
    have p1 : sumN (fun k => o k (f k)) (n + 1) ≤ sumN (fun k => o k (f k)) N := by
      have e2 := sumN_add (fun k => o k (f k)) (n + 1) (N - (n + 1))
      rw [show n + 1 + (N - (n + 1)) = N by omega] at e2
      omega
    have a1 := (dp_le (D := D) (o := o) n w (sumN (fun k => o k (f k)) (n + 1)) (by omega) hw).2 ⟨f, f1, fun k hk => f2.le k (by omega), fun k hk => f2.nr k (by omega), Nat.le_refl _⟩
    have a2 := (dp_le (D := D) (o := fun d => o (N - 1 - d)) (N - 1 - n) w (sumN (fun d => o (N - 1 - d) (f (N - 1 - d))) (N - 1 - n + 1)) (by omega) hw).2 ⟨fun d => f (N - 1 - d), by show f (N - 1 - (N - 1 - n)) = w; rw [show N - 1 - (N - 1 - n) = n by omega]; exact f1, fun k hk => f2.le _ (by omega), fun k hk => by
      have := f2.nr (N - 1 - (k + 1)) (by omega)
      rw [show N - 1 - (k + 1) + 1 = N - 1 - k by omega] at this
      exact near_comm this, Nat.le_refl _⟩
    unfold thr
    rw [if_neg (by omega)]
    omega
end Go.Cl
/- classer, plain: truths, and what is returned of them. -/
namespace Go.Cl
def bG (bs : List (Nat × Nat × Nat)) (i : Nat) : Nat × Nat × Nat := bs.getD i (0, 0, 0)
/-- The costs of a bale, by which bales are taken. -/
def oT (bs : List (Nat × Nat × Nat)) (tk i : Nat) : Nat → Nat := ownF (bG bs i) (tk.testBit i)
def fwd (D : Nat) (bs : List (Nat × Nat × Nat)) (tk i : Nat) : Nat → Nat := dp D (oT bs tk) i
def bwd (D : Nat) (bs : List (Nat × Nat × Nat)) (tk n : Nat) : Nat → Nat := dp D (fun d => oT bs tk (bs.length - 1 - d)) (bs.length - 1 - n)
def mist (D : Nat) (bs : List (Nat × Nat × Nat)) (tk : Nat) : Nat := minR (fwd D bs tk (bs.length - 1)) 0 30
/-- How many fleeces of each bale are wrong, with at most so many mistakes. -/
structure Tru (D : Nat) (bs : List (Nat × Nat × Nat)) (tk m : Nat) (f : Nat → Nat) : Prop where
  seq : Seq D bs.length f
  cost : sumN (fun k => oT bs tk k (f k)) bs.length ≤ m
theorem costB_le {b : Nat × Nat × Nat} {w : Nat} (h1 : b.1 ≤ 30) (h2 : b.2.1 ≤ b.1) (h3 : b.2.2 ≤ b.2.1) (hw : w ≤ 30) : costB b w ≤ 30 := by unfold costB; omega
/-- A line within bounds. -/
structure LOK (bs : List (Nat × Nat × Nat)) : Prop where
  n1 : 1 ≤ bs.length
  n6 : bs.length ≤ 6
  ba : ∀ i, i < bs.length → 1 ≤ (bG bs i).1 ∧ (bG bs i).1 ≤ 30 ∧ (bG bs i).2.1 ≤ (bG bs i).1 ∧ (bG bs i).2.2 ≤ (bG bs i).2.1
section
variable {D : Nat} {bs : List (Nat × Nat × Nat)}
theorem bG_out {i : Nat} (h : bs.length ≤ i) : bG bs i = (0, 0, 0) := by unfold bG; rw [List.getD_eq_getElem?_getD, List.getElem?_eq_none h]; rfl
theorem LOK.bd (h : LOK bs) (i : Nat) : (bG bs i).1 ≤ 30 ∧ (bG bs i).2.1 ≤ (bG bs i).1 ∧ (bG bs i).2.2 ≤ (bG bs i).2.1 := by
  by_cases hi : i < bs.length
  · have := h.ba i hi; omega
  · rw [bG_out (by omega)]; simp
theorem ownF_le {b : Nat × Nat × Nat} {tk : Bool} {w : Nat} (h1 : b.1 ≤ 30) (h2 : b.2.1 ≤ b.1) (h3 : b.2.2 ≤ b.2.1) : ownF b tk w ≤ FAR := by
  unfold ownF
  split
  · exact Nat.le_refl _
  · split
    · have := costB_le (w := w) h1 h2 h3 (by omega); unfold FAR; omega
    · exact Nat.zero_le _
theorem oT_le (h : LOK bs) (tk i w : Nat) : oT bs tk i w ≤ FAR := by
  have := h.bd i
  exact ownF_le this.1 this.2.1 this.2.2
theorem mist_le (h : LOK bs) {tk m : Nat} (hm : m < FAR) : mist D bs tk ≤ m ↔ ∃ f, Tru D bs tk m f := by
  have hn := h.n1
  unfold mist fwd
  rw [minR_le]
  constructor
  · rintro ⟨j, hj, hc⟩
    obtain ⟨f, f1, f2, f3, f4⟩ := (dp_le _ _ m hm (by omega)).1 hc
    rw [show bs.length - 1 + 1 = bs.length by omega] at f4
    exact ⟨f, ⟨fun k hk => f2 k (by omega), fun k hk => f3 k (by omega)⟩, f4⟩
  · rintro ⟨f, hf⟩
    have hl := hf.seq.le (bs.length - 1) (by omega)
    refine ⟨f (bs.length - 1), hl, ?_⟩
    rw [Nat.zero_add]
    exact (dp_le _ _ m hm hl).2 ⟨f, rfl, fun k hk => hf.seq.le k (by omega), fun k hk => hf.seq.nr k (by omega), by rw [show bs.length - 1 + 1 = bs.length by omega]; exact hf.cost⟩
theorem thr_tru (h : LOK bs) {tk n w m : Nat} (hn : n < bs.length) (hm : m < FAR) (hw : w ≤ 30) : thr D bs.length (oT bs tk) n w ≤ m ↔ ∃ f, f n = w ∧ Tru D bs tk m f := by
  rw [thr_le (oT_le h tk) hn hm hw]
  exact ⟨fun ⟨f, a, b, c⟩ => ⟨f, a, b, c⟩, fun ⟨f, a, b⟩ => ⟨f, a, b.seq, b.cost⟩⟩
theorem Tru.le {tk m : Nat} {f : Nat → Nat} (hm : m < FAR) (h : Tru D bs tk m f) {i : Nat} (hi : i < bs.length) : f i ≤ (bG bs i).1 := by
  have h1 := sumN_mem (f := fun k => oT bs tk k (f k)) _ hi
  have h2 := h.cost
  rcases Nat.lt_or_ge (bG bs i).1 (f i) with hlt | hge
  · have : oT bs tk i (f i) = FAR := by unfold oT ownF; rw [if_pos hlt]
    omega
  · exact hge
theorem Tru.mono {tk m m' : Nat} {f : Nat → Nat} (h : Tru D bs tk m f) (hm : m ≤ m') : Tru D bs tk m' f := ⟨h.seq, Nat.le_trans h.cost hm⟩
/-- There are truths, if mistakes may be many. -/
theorem tru_zero (h : LOK bs) (tk : Nat) : Tru D bs tk 180 (fun _ => 0) := by
  refine ⟨⟨fun _ _ => Nat.zero_le _, fun _ _ => ⟨by omega, by omega⟩⟩, ?_⟩
  have h1 : ∀ k, k < bs.length → oT bs tk k 0 ≤ 30 := fun k hk => by
    have hb := h.bd k
    unfold oT ownF
    rw [if_neg (by omega)]
    split
    · exact costB_le hb.1 hb.2.1 hb.2.2 (by omega)
    · omega
  have h2 : sumN (fun k => oT bs tk k 0) bs.length ≤ sumN (fun _ => 30) bs.length := sumN_le _ h1
  have h3 : ∀ n, sumN (fun _ => 30) n = 30 * n := fun n => by
    induction n with
    | zero => rfl
    | succ n ih => show sumN _ n + 30 = _; rw [ih]; omega
  have := h.n6
  rw [h3] at h2
  omega
theorem mist_180 (h : LOK bs) (tk : Nat) : mist D bs tk ≤ 180 := (mist_le h (by decide)).2 ⟨_, tru_zero h tk⟩
theorem tru_mist (h : LOK bs) (tk : Nat) : ∃ f, Tru D bs tk (mist D bs tk) f := (mist_le h (by have := mist_180 (D := D) h tk; unfold FAR; omega)).1 (Nat.le_refl _)
end
/-- The least and the greatest of some numbers. -/
def spanF (p : Nat → Bool) : Nat → Nat × Nat
  | 0 => (30, 0)
  | k + 1 => if p k = true then (min (spanF p k).1 k, max (spanF p k).2 k) else spanF p k
theorem spanF_bd (p : Nat → Bool) : ∀ k, k ≤ 31 → (spanF p k).1 ≤ 30 ∧ (spanF p k).2 ≤ 30
  | 0, _ => by simp [spanF]
  | k + 1, hk => by
    have ih := spanF_bd p k (by omega)
    unfold spanF
    split
    · dsimp only; omega
    · exact ih
theorem spanF_in {p : Nat → Bool} : ∀ {k j}, j < k → p j = true → (spanF p k).1 ≤ j ∧ j ≤ (spanF p k).2
  | k + 1, j, hj, h => by
    unfold spanF
    by_cases e : j = k
    · subst e; rw [if_pos h]; dsimp only; omega
    · have ih := spanF_in (p := p) (show j < k by omega) h
      split
      · dsimp only; omega
      · exact ih
theorem spanF_mem {p : Nat → Bool} : ∀ {k}, k ≤ 31 → (∃ j, j < k ∧ p j = true) → ((spanF p k).1 < k ∧ p (spanF p k).1 = true) ∧ ((spanF p k).2 < k ∧ p (spanF p k).2 = true)
  | 0, _, ⟨j, hj, _⟩ => by omega
  | k + 1, hk, ⟨j, hj, h⟩ => by
    unfold spanF
    by_cases e : ∃ j, j < k ∧ p j = true
    · have ih := spanF_mem (p := p) (by omega) e
      by_cases hp : p k = true
      · rw [if_pos hp]
        dsimp only
        constructor
        · rcases Nat.le_total (spanF p k).1 k with h1 | h1
          · rw [Nat.min_eq_left h1]; exact ⟨by omega, ih.1.2⟩
          · rw [Nat.min_eq_right h1]; exact ⟨by omega, hp⟩
        · rcases Nat.le_total (spanF p k).2 k with h1 | h1
          · rw [Nat.max_eq_right h1]; exact ⟨by omega, hp⟩
          · rw [Nat.max_eq_left h1]; exact ⟨by omega, ih.2.2⟩
      · rw [if_neg hp]
        exact ⟨⟨by omega, ih.1.2⟩, ⟨by omega, ih.2.2⟩⟩
    · have e1 : j = k := by
        rcases Nat.lt_or_ge j k with h1 | h1
        · exact absurd ⟨j, h1, h⟩ e
        · omega
      subst e1
      have hs : spanF p j = (30, 0) := by
        have : ∀ i, i ≤ j → spanF p i = (30, 0) := fun i => by
          induction i with
          | zero => intro _; rfl
          | succ i ih =>
            intro hi
            unfold spanF
            rw [if_neg (fun hpi => e ⟨i, by omega, hpi⟩)]
            exact ih (by omega)
        exact this j (Nat.le_refl _)
      rw [if_pos h, hs]
      dsimp only
      rw [Nat.min_eq_right (by omega), Nat.max_eq_right (by omega)]
      exact ⟨⟨by omega, h⟩, ⟨by omega, h⟩⟩
/-- How many fleeces of a bale can be wrong. -/
def wrongS (D M : Nat) (bs : List (Nat × Nat × Nat)) (n : Nat) : Nat × Nat := spanF (fun k => decide (thr D bs.length (oT bs (2 ^ bs.length - 1)) n k ≤ M)) 31
section
variable {D M : Nat} {bs : List (Nat × Nat × Nat)}
theorem wrong_in (h : LOK bs) (hM : M < FAR) {n : Nat} (hn : n < bs.length) {f : Nat → Nat} (hf : Tru D bs (2 ^ bs.length - 1) M f) : (wrongS D M bs n).1 ≤ f n ∧ f n ≤ (wrongS D M bs n).2 :=
  spanF_in (show f n < 31 by have := hf.seq.le n hn; omega) (decide_eq_true ((thr_tru h hn hM (hf.seq.le n hn)).2 ⟨f, rfl, hf⟩))
theorem wrong_mem (h : LOK bs) (hM : M < FAR) {n : Nat} (hn : n < bs.length) (he : ∃ f, Tru D bs (2 ^ bs.length - 1) M f) : (∃ f, f n = (wrongS D M bs n).1 ∧ Tru D bs (2 ^ bs.length - 1) M f) ∧ (∃ f, f n = (wrongS D M bs n).2 ∧ Tru D bs (2 ^ bs.length - 1) M f) := by
  obtain ⟨f, hf⟩ := he
  have hl := hf.seq.le n hn
  have := spanF_mem (p := fun k => decide (thr D bs.length (oT bs (2 ^ bs.length - 1)) n k ≤ M)) (k := 31) (by omega) ⟨f n, by omega, decide_eq_true ((thr_tru h hn hM hl).2 ⟨f, rfl, hf⟩)⟩
  unfold wrongS
  exact ⟨(thr_tru h hn hM (by omega)).1 (of_decide_eq_true this.1.2), (thr_tru h hn hM (by omega)).1 (of_decide_eq_true this.2.2)⟩
end
/-- A span as a verdict. -/
def toldS (May : Nat) (s : Nat × Nat) : Nat := if s.2 ≤ May then 2 else if s.1 ≤ May then 1 else 0
/-- Costs if each bale keeps the line. -/
def oK (May : Nat) (bs : List (Nat × Nat × Nat)) (tk i w : Nat) : Nat := if May < w then FAR else oT bs tk i w
def keepB (D M May : Nat) (bs : List (Nat × Nat × Nat)) : Bool := decide (minR (dp D (oK May bs (2 ^ bs.length - 1)) (bs.length - 1)) 0 30 ≤ M)
theorem keep_iff {D M May : Nat} {bs : List (Nat × Nat × Nat)} (h : LOK bs) (hM : M < FAR) : keepB D M May bs = true ↔ ∃ f, Tru D bs (2 ^ bs.length - 1) M f ∧ ∀ i, i < bs.length → f i ≤ May := by
  have hn := h.n1
  unfold keepB
  rw [decide_eq_true_eq, minR_le]
  constructor
  · rintro ⟨j, hj, hc⟩
    obtain ⟨f, f1, f2, f3, f4⟩ := (dp_le _ _ M hM (by omega)).1 hc
    rw [show bs.length - 1 + 1 = bs.length by omega] at f4
    have hk : ∀ i, i < bs.length → f i ≤ May := fun i hi => by
      have := sumN_mem (f := fun k => oK May bs (2 ^ bs.length - 1) k (f k)) _ hi
      rcases Nat.lt_or_ge May (f i) with h1 | h1
      · have e : oK May bs (2 ^ bs.length - 1) i (f i) = FAR := if_pos h1
        omega
      · exact h1
    refine ⟨f, ⟨⟨fun k hk => f2 k (by omega), fun k hk => f3 k (by omega)⟩, ?_⟩, hk⟩
    have e : sumN (fun k => oK May bs (2 ^ bs.length - 1) k (f k)) bs.length = sumN (fun k => oT bs (2 ^ bs.length - 1) k (f k)) bs.length := sumN_congr _ fun i hi => if_neg (show ¬ May < f i by have := hk i hi; omega)
    rwa [e] at f4
  · rintro ⟨f, hf, hk⟩
    have hl := hf.seq.le (bs.length - 1) (by omega)
    refine ⟨f (bs.length - 1), hl, ?_⟩
    rw [Nat.zero_add]
    refine (dp_le _ _ M hM hl).2 ⟨f, rfl, fun k hk => hf.seq.le k (by omega), fun k hk => hf.seq.nr k (by omega), ?_⟩
    have e : sumN (fun k => oK May bs (2 ^ bs.length - 1) k (f k)) bs.length = sumN (fun k => oT bs (2 ^ bs.length - 1) k (f k)) bs.length := sumN_congr _ fun i hi => if_neg (show ¬ May < f i by have := hk i hi; omega)
    rw [show bs.length - 1 + 1 = bs.length by omega, e]
    exact hf.cost
end Go.Cl
/- classer, plain: how many fleeces of all bales can be wrong. -/
namespace Go.Cl
def none2 : Int × Int := (65536, -1)
def joinS (a b : Int × Int) : Int × Int := (min a.1 b.1, max a.2 b.2)
/-- The span of some numbers, or that there are none. -/
def hullP (P : Nat → Prop) (s : Int × Int) : Prop := (s = none2 ∧ ∀ x, ¬ P x) ∨ ∃ a b : Nat, s = ((a : Int), (b : Int)) ∧ P a ∧ P b ∧ a ≤ 65536 ∧ ∀ x, P x → a ≤ x ∧ x ≤ b
theorem hull_none {P : Nat → Prop} (h : ∀ x, ¬ P x) : hullP P none2 := .inl ⟨rfl, h⟩
theorem hull_congr {P Q : Nat → Prop} {s : Int × Int} (h : ∀ x, P x ↔ Q x) (hs : hullP P s) : hullP Q s := by
  rcases hs with ⟨e, hn⟩ | ⟨a, b, e, ha, hb, hl, hx⟩
  · exact .inl ⟨e, fun x hx => hn x ((h x).2 hx)⟩
  · exact .inr ⟨a, b, e, (h a).1 ha, (h b).1 hb, hl, fun x hq => hx x ((h x).2 hq)⟩
theorem hull_join {P Q : Nat → Prop} {s t : Int × Int} (hs : hullP P s) (ht : hullP Q t) : hullP (fun x => P x ∨ Q x) (joinS s t) := by
  rcases hs with ⟨rfl, hn⟩ | ⟨a, b, rfl, ha, hb, hl, hx⟩
  · rcases ht with ⟨rfl, hn2⟩ | ⟨c, d, rfl, hc, hd, hl2, hy⟩
    · exact .inl ⟨rfl, fun x h => h.elim (hn x) (hn2 x)⟩
    · refine .inr ⟨c, d, ?_, .inr hc, .inr hd, hl2, fun x h => h.elim (fun h => absurd h (hn x)) (hy x)⟩
      unfold joinS none2
      refine Prod.ext ?_ ?_ <;> dsimp only <;> omega
  · rcases ht with ⟨rfl, hn2⟩ | ⟨c, d, rfl, hc, hd, hl2, hy⟩
    · refine .inr ⟨a, b, ?_, .inl ha, .inl hb, hl, fun x h => h.elim (hx x) (fun h => absurd h (hn2 x))⟩
      unfold joinS none2
      refine Prod.ext ?_ ?_ <;> dsimp only <;> omega
    · refine .inr ⟨min a c, max b d, ?_, ?_, ?_, by omega, fun x h => ?_⟩
      · unfold joinS
        refine Prod.ext ?_ ?_ <;> dsimp only <;> omega
      · rcases Nat.le_total a c with h | h
        · rw [Nat.min_eq_left h]; exact .inl ha
        · rw [Nat.min_eq_right h]; exact .inr hc
      · rcases Nat.le_total b d with h | h
        · rw [Nat.max_eq_right h]; exact .inr hd
        · rw [Nat.max_eq_left h]; exact .inl hb
      · rcases h with h | h
        · have := hx x h; omega
        · have := hy x h; omega
/-- The numbers of all bales so far, by those of the bale before it: the first ones. -/
def totL (ok : Nat → Bool) (w : Nat) (prev : Nat → Int × Int) : Nat → Int × Int
  | 0 => none2
  | v + 1 => if ok v = true then joinS (totL ok w prev v) ((prev v).1 + w, (prev v).2 + w) else totL ok w prev v
theorem totL_hull {ok : Nat → Bool} {w : Nat} {prev : Nat → Int × Int} {P : Nat → Nat → Prop} (hw : w ≤ 30) (hb : ∀ v x, P v x → x ≤ 60000) (h : ∀ v, v < 31 → ok v = true → ∃ a b : Nat, prev v = ((a : Int), (b : Int)) ∧ P v a ∧ P v b ∧ ∀ x, P v x → a ≤ x ∧ x ≤ b) :
    ∀ k, k ≤ 31 → hullP (fun x => ∃ v y, v < k ∧ ok v = true ∧ P v y ∧ x = y + w) (totL ok w prev k)
  | 0, _ => hull_none fun x ⟨v, y, hv, _⟩ => by omega
  | k + 1, hk31 => by
    have ih := totL_hull hw hb h k (by omega)
    unfold totL
    by_cases hk : ok k = true
    · rw [if_pos hk]
      obtain ⟨a, b, e, ha, hbb, hx⟩ := h k (by omega) hk
      have h1 : hullP (fun x => ∃ y, P k y ∧ x = y + w) ((prev k).1 + w, (prev k).2 + w) := by
        refine .inr ⟨a + w, b + w, by rw [e]; refine Prod.ext ?_ ?_ <;> dsimp only <;> omega, ⟨a, ha, rfl⟩, ⟨b, hbb, rfl⟩, by have := hb k a ha; omega, ?_⟩
        rintro x ⟨y, hy, rfl⟩
        have := hx y hy; omega
      refine hull_congr (fun x => ?_) (hull_join ih h1)
      constructor
      · rintro (⟨v, y, hv, ho, hp, rfl⟩ | ⟨y, hp, rfl⟩)
        · exact ⟨v, y, by omega, ho, hp, rfl⟩
        · exact ⟨k, y, by omega, hk, hp, rfl⟩
      · rintro ⟨v, y, hv, ho, hp, rfl⟩
        by_cases e : v = k
        · subst e; exact .inr ⟨y, hp, rfl⟩
        · exact .inl ⟨v, y, by omega, ho, hp, rfl⟩
    · rw [if_neg hk]
      refine hull_congr (fun x => ?_) ih
      constructor
      · rintro ⟨v, y, hv, ho, hp, rfl⟩; exact ⟨v, y, by omega, ho, hp, rfl⟩
      · rintro ⟨v, y, hv, ho, hp, rfl⟩
        refine ⟨v, y, ?_, ho, hp, rfl⟩
        rcases Nat.lt_or_ge v k with h1 | h1
        · exact h1
        · obtain rfl : v = k := by omega
          exact absurd ho hk
/-- How many are wrong of all bales up to one, by how many of it are, and with so many mistakes. -/
def tot (D : Nat) (o : Nat → Nat → Nat) : Nat → Nat → Nat → Int × Int
  | 0, w, m => if o 0 w ≤ m then totL (fun v => decide (v = 0) && decide (m - o 0 w = 0)) w (fun _ => (0, 0)) 31 else none2
  | i + 1, w, m => if o (i + 1) w ≤ m then totL (fun v => decide (near D v w) && decide (0 ≤ (tot D o i v (m - o (i + 1) w)).2)) w (fun v => tot D o i v (m - o (i + 1) w)) 31 else none2
/-- A beginning of a truth, with just so many mistakes. -/
def Beg (D : Nat) (o : Nat → Nat → Nat) (i w m x : Nat) : Prop := ∃ f : Nat → Nat, f i = w ∧ (∀ k, k ≤ i → f k ≤ 30) ∧ (∀ k, k < i → near D (f k) (f (k + 1))) ∧ sumN (fun k => o k (f k)) (i + 1) = m ∧ sumN f (i + 1) = x
theorem sum30 {f : Nat → Nat} : ∀ n, (∀ k, k < n → f k ≤ 30) → sumN f n ≤ 30 * n
  | 0, _ => by simp [sumN]
  | n + 1, h => by
    have := sum30 n fun k hk => h k (by omega)
    have := h n (by omega)
    unfold sumN; omega
theorem tot_hull {D : Nat} {o : Nat → Nat → Nat} : ∀ (i w m : Nat), i < 100 → w ≤ 30 → hullP (Beg D o i w m) (tot D o i w m)
  | 0, w, m, _, hw => by
    unfold tot
    by_cases hc : o 0 w ≤ m
    · rw [if_pos hc]
      refine hull_congr (fun x => ?_) (totL_hull (P := fun v x => v = 0 ∧ x = 0 ∧ m - o 0 w = 0) hw (fun v x h => by omega) (fun v _ hv => ⟨0, 0, rfl, ?_, ?_, fun x hx => by omega⟩) 31 (Nat.le_refl _))
      · constructor
        · rintro ⟨v, y, hv, ho, ⟨rfl, rfl, h0⟩, rfl⟩
          refine ⟨fun _ => w, rfl, fun _ _ => hw, fun k hk => by omega, ?_, ?_⟩
          · show 0 + o 0 w = m; omega
          · show 0 + w = 0 + w; rfl
        · rintro ⟨f, rfl, _, _, h4, h5⟩
          have h4 : 0 + o 0 (f 0) = m := h4
          have h5 : 0 + f 0 = x := h5
          refine ⟨0, 0, by omega, ?_, ⟨rfl, rfl, by omega⟩, by omega⟩
          rw [Bool.and_eq_true, decide_eq_true_eq, decide_eq_true_eq]; omega
      all_goals
        rw [Bool.and_eq_true, decide_eq_true_eq, decide_eq_true_eq] at hv
        exact ⟨hv.1, rfl, hv.2⟩
    · rw [if_neg hc]
      refine hull_none ?_
      rintro x ⟨f, rfl, _, _, h4, _⟩
      have h4 : 0 + o 0 (f 0) = m := h4
      omega
  | i + 1, w, m, hi, hw => by
    have ih := fun v m' hv => tot_hull (D := D) (o := o) i v m' (by omega) hv
    unfold tot
    by_cases hc : o (i + 1) w ≤ m
    · rw [if_pos hc]
      refine hull_congr (fun x => ?_) (totL_hull (P := fun v x => v ≤ 30 ∧ Beg D o i v (m - o (i + 1) w) x) hw (fun v x h => ?_) (fun v hv31 hv => ?_) 31 (Nat.le_refl _))
      · constructor
        · rintro ⟨v, y, hv, ho, ⟨hv30, f, f1, f2, f3, f4, f5⟩, rfl⟩
          rw [Bool.and_eq_true, decide_eq_true_eq] at ho
          refine ⟨fun k => if k ≤ i then f k else w, if_neg (by omega), fun k hk => ?_, fun k hk => ?_, ?_, ?_⟩
          · by_cases e : k ≤ i
            · simp only [if_pos e]; exact f2 k e
            · simp only [if_neg e]; exact hw
          · by_cases e : k = i
            · subst e
              simp only [if_pos (Nat.le_refl k), if_neg (show ¬ k + 1 ≤ k by omega), f1]; exact ho.1
            · simp only [if_pos (show k ≤ i by omega), if_pos (show k + 1 ≤ i by omega)]; exact f3 k (by omega)
          · show sumN (fun k => o k (if k ≤ i then f k else w)) (i + 1) + o (i + 1) (if i + 1 ≤ i then f (i + 1) else w) = m
            rw [if_neg (by omega), sumN_congr (g := fun k => o k (f k)) (i + 1) fun k hk => by rw [if_pos (by omega)], f4]
            omega
          · show sumN (fun k => if k ≤ i then f k else w) (i + 1) + (if i + 1 ≤ i then f (i + 1) else w) = y + w
            rw [if_neg (by omega), sumN_congr (g := f) (i + 1) fun k hk => by rw [if_pos (by omega)], f5]
        · rintro ⟨f, rfl, f2, f3, f4, f5⟩
          have f4 : sumN (fun k => o k (f k)) (i + 1) + o (i + 1) (f (i + 1)) = m := f4
          have f5 : sumN f (i + 1) + f (i + 1) = x := f5
          have hB : Beg D o i (f i) (m - o (i + 1) (f (i + 1))) (sumN f (i + 1)) := ⟨f, rfl, fun k hk => f2 k (by omega), fun k hk => f3 k (by omega), by omega, rfl⟩
          have hv := f2 i (by omega)
          refine ⟨f i, sumN f (i + 1), by omega, ?_, ⟨hv, hB⟩, f5.symm⟩
          rw [Bool.and_eq_true, decide_eq_true_eq, decide_eq_true_eq]
          refine ⟨f3 i (by omega), ?_⟩
          rcases ih (f i) (m - o (i + 1) (f (i + 1))) hv with ⟨_, hn⟩ | ⟨a, b, e, _⟩
          · exact absurd hB (hn _)
          · rw [e]; exact Int.natCast_nonneg _
      · obtain ⟨_, f, _, f2, _, _, f5⟩ := h
        have := sum30 (f := f) (i + 1) fun k hk => f2 k (by omega)
        omega
      · rw [Bool.and_eq_true, decide_eq_true_eq, decide_eq_true_eq] at hv
        have hv30 : v ≤ 30 := by omega
        rcases ih v (m - o (i + 1) w) hv30 with ⟨e, _⟩ | ⟨a, b, e, ha, hb, _, hx⟩
        · rw [e] at hv; exact absurd hv.2 (by decide)
        · exact ⟨a, b, e, ⟨hv30, ha⟩, ⟨hv30, hb⟩, fun x hp => hx x hp.2⟩
    · rw [if_neg hc]
      refine hull_none ?_
      rintro x ⟨f, rfl, _, _, f4, _⟩
      have f4 : sumN (fun k => o k (f k)) (i + 1) + o (i + 1) (f (i + 1)) = m := f4
      omega
def joinR (s : Int × Int) (t : Nat → Int × Int) : Nat → Int × Int
  | 0 => s
  | m + 1 => joinS (joinR s t m) (t m)
theorem joinR_hull {s : Int × Int} {t : Nat → Int × Int} {P : Nat → Prop} {Q : Nat → Nat → Prop} (hs : hullP P s) (ht : ∀ m, hullP (Q m) (t m)) : ∀ k, hullP (fun x => P x ∨ ∃ m, m < k ∧ Q m x) (joinR s t k)
  | 0 => hull_congr (fun x => ⟨.inl, fun h => h.elim id fun ⟨m, hm, _⟩ => by omega⟩) hs
  | k + 1 => hull_congr (fun x => by
      constructor
      · rintro ((h | ⟨m, hm, h⟩) | h)
        · exact .inl h
        · exact .inr ⟨m, by omega, h⟩
        · exact .inr ⟨k, by omega, h⟩
      · rintro (h | ⟨m, hm, h⟩)
        · exact .inl (.inl h)
        · by_cases e : m = k
          · subst e; exact .inr h
          · exact .inl (.inr ⟨m, by omega, h⟩)) (hull_join (joinR_hull hs ht k) (ht k))
/-- How many are wrong of all bales. -/
def allW (t : Nat → Nat → Int × Int) (M : Nat) : Nat → Int × Int
  | 0 => none2
  | w + 1 => joinR (allW t M w) (t w) (M + 1)
def allS (D M : Nat) (bs : List (Nat × Nat × Nat)) : Int × Int := allW (tot D (oT bs (2 ^ bs.length - 1)) (bs.length - 1)) M 31
theorem allW_hull {t : Nat → Nat → Int × Int} {M : Nat} {Q : Nat → Nat → Nat → Prop} (ht : ∀ w m, w ≤ 30 → hullP (Q w m) (t w m)) : ∀ k, k ≤ 31 → hullP (fun x => ∃ w m, w < k ∧ m ≤ M ∧ Q w m x) (allW t M k)
  | 0, _ => hull_none fun x ⟨w, m, hw, _⟩ => by omega
  | k + 1, hk => by
    refine hull_congr (fun x => ?_) (joinR_hull (allW_hull ht k (by omega)) (fun m => ht k m (by omega)) (M + 1))
    constructor
    · rintro (⟨w, m, hw, hm, h⟩ | ⟨m, hm, h⟩)
      · exact ⟨w, m, by omega, hm, h⟩
      · exact ⟨k, m, by omega, by omega, h⟩
    · rintro ⟨w, m, hw, hm, h⟩
      by_cases e : w = k
      · subst e; exact .inr ⟨m, by omega, h⟩
      · exact .inl ⟨w, m, by omega, hm, h⟩
theorem all_hull {D M : Nat} {bs : List (Nat × Nat × Nat)} (h : LOK bs) : hullP (fun x => ∃ f, Tru D bs (2 ^ bs.length - 1) M f ∧ sumN f bs.length = x) (allS D M bs) := by
  have hn := h.n1
  have h6 := h.n6
  refine hull_congr (fun x => ?_) (allW_hull (M := M) (fun w m hw => tot_hull (bs.length - 1) w m (by omega) hw) 31 (Nat.le_refl _))
  constructor
  · rintro ⟨w, m, hw, hm, f, f1, f2, f3, f4, f5⟩
    rw [show bs.length - 1 + 1 = bs.length by omega] at f4 f5
    exact ⟨f, ⟨⟨fun k hk => f2 k (by omega), fun k hk => f3 k (by omega)⟩, by omega⟩, f5⟩
  · rintro ⟨f, hf, hx⟩
    have hl := hf.seq.le (bs.length - 1) (by omega)
    refine ⟨f (bs.length - 1), _, by omega, hf.cost, f, rfl, fun k hk => hf.seq.le k (by omega), fun k hk => hf.seq.nr k (by omega), ?_, ?_⟩
    · rw [show bs.length - 1 + 1 = bs.length by omega]
    · rw [show bs.length - 1 + 1 = bs.length by omega]; exact hx
end Go.Cl
/- classer, plain: what is returned is told by the truths alone. -/
namespace Go.Cl
/-- All truths of a line. -/
def AllT (D M : Nat) (bs : List (Nat × Nat × Nat)) : (Nat → Nat) → Prop := Tru D bs (2 ^ bs.length - 1) M
/-- The worst verdict of the first bales. -/
def worstS (D M May : Nat) (bs : List (Nat × Nat × Nat)) : Nat → Nat
  | 0 => 2
  | i + 1 => min (worstS D M May bs i) (toldS May (wrongS D M bs i))
def lineS (D M May : Nat) (bs : List (Nat × Nat × Nat)) : Nat := if worstS D M May bs bs.length = 2 then 2 else if keepB D M May bs = true then 1 else 0
section
variable {D M May : Nat} {bs : List (Nat × Nat × Nat)}
theorem told_le (s : Nat × Nat) : toldS May s ≤ 2 := by
  unfold toldS
  split
  · omega
  · split <;> omega
theorem worst_le : ∀ k, worstS D M May bs k ≤ 2
  | 0 => Nat.le_refl _
  | k + 1 => by have := worst_le k; unfold worstS; omega
theorem worst_two : ∀ k, worstS D M May bs k = 2 ↔ ∀ i, i < k → toldS May (wrongS D M bs i) = 2
  | 0 => ⟨fun _ i hi => by omega, fun _ => rfl⟩
  | k + 1 => by
    have ih := worst_two k
    have h1 := worst_le (D := D) (M := M) (May := May) (bs := bs) k
    have h2 := told_le (May := May) (wrongS D M bs k)
    unfold worstS
    constructor
    · intro h i hi
      by_cases e : i = k
      · subst e; omega
      · exact ih.1 (by omega) i (by omega)
    · intro h
      have := ih.2 fun i hi => h i (by omega)
      have := h k (by omega)
      omega
theorem told_two (h : LOK bs) (hM : M < FAR) {n : Nat} (hn : n < bs.length) (he : ∃ f, AllT D M bs f) : toldS May (wrongS D M bs n) = 2 ↔ ∀ f, AllT D M bs f → f n ≤ May := by
  obtain ⟨⟨f1, e1, h1⟩, ⟨f2, e2, h2⟩⟩ := wrong_mem h hM hn he
  constructor
  · intro ht f hf
    have hin := wrong_in h hM hn hf
    unfold toldS at ht
    split at ht
    · omega
    · split at ht <;> omega
  · intro ht
    unfold toldS
    rw [if_pos (by rw [← e2]; exact ht f2 h2)]
theorem told_zero (h : LOK bs) (hM : M < FAR) {n : Nat} (hn : n < bs.length) (he : ∃ f, AllT D M bs f) : toldS May (wrongS D M bs n) = 0 ↔ ∀ f, AllT D M bs f → May < f n := by
  obtain ⟨⟨f1, e1, h1⟩, ⟨f2, e2, h2⟩⟩ := wrong_mem h hM hn he
  constructor
  · intro ht f hf
    have hin := wrong_in h hM hn hf
    unfold toldS at ht
    split at ht
    · omega
    · split at ht <;> omega
  · intro ht
    have := ht f1 h1
    have := ht f2 h2
    unfold toldS
    rw [if_neg (by omega), if_neg (by omega)]
theorem line_two (h : LOK bs) (hM : M < FAR) (he : ∃ f, AllT D M bs f) : lineS D M May bs = 2 ↔ ∀ f, AllT D M bs f → ∀ i, i < bs.length → f i ≤ May := by
  unfold lineS
  have hw := worst_two (D := D) (M := M) (May := May) (bs := bs) bs.length
  constructor
  · intro hl f hf i hi
    by_cases e : worstS D M May bs bs.length = 2
    · exact (told_two h hM hi he).1 (hw.1 e i hi) f hf
    · rw [if_neg e] at hl
      split at hl <;> omega
  · intro ht
    rw [if_pos (hw.2 fun i hi => (told_two h hM hi he).2 fun f hf => ht f hf i hi)]
theorem line_zero (h : LOK bs) (hM : M < FAR) (he : ∃ f, AllT D M bs f) : lineS D M May bs = 0 ↔ ∀ f, AllT D M bs f → ∃ i, i < bs.length ∧ May < f i := by
  unfold lineS
  have hw := worst_two (D := D) (M := M) (May := May) (bs := bs) bs.length
  have hk := keep_iff (D := D) (M := M) (May := May) h hM
  constructor
  · intro hl f hf
    by_cases e : worstS D M May bs bs.length = 2
    · rw [if_pos e] at hl; omega
    · rw [if_neg e] at hl
      by_cases hb : keepB D M May bs = true
      · rw [if_pos hb] at hl; omega
      · by_cases hex : ∃ i, i < bs.length ∧ May < f i
        · exact hex
        · exact absurd (hk.2 ⟨f, hf, fun i hi => by
            rcases Nat.lt_or_ge May (f i) with h1 | h1
            · exact absurd ⟨i, hi, h1⟩ hex
            · exact h1⟩) hb
  · intro ht
    obtain ⟨f, hf⟩ := he
    obtain ⟨i, hi, hlt⟩ := ht f hf
    have e : ¬ worstS D M May bs bs.length = 2 := fun e => by
      have := (told_two h hM hi ⟨f, hf⟩).1 (hw.1 e i hi) f hf
      omega
    rw [if_neg e, if_neg]
    intro hb
    obtain ⟨g, hg, hgl⟩ := hk.1 hb
    obtain ⟨j, hj, hjl⟩ := ht g hg
    have := hgl j hj
    omega
theorem line_le : lineS D M May bs ≤ 2 := by
  unfold lineS
  split
  · omega
  · split <;> omega
/-- The span of a bale is told by the truths. -/
theorem wrong_eq (h : LOK bs) (hM : M < FAR) {n : Nat} (hn : n < bs.length) (he : ∃ f, AllT D M bs f) {a b : Nat} (ha : ∃ f, AllT D M bs f ∧ f n = a) (hb : ∃ f, AllT D M bs f ∧ f n = b) (hx : ∀ f, AllT D M bs f → a ≤ f n ∧ f n ≤ b) : wrongS D M bs n = (a, b) := by
  obtain ⟨⟨f1, e1, h1⟩, ⟨f2, e2, h2⟩⟩ := wrong_mem h hM hn he
  obtain ⟨g1, k1, j1⟩ := ha
  obtain ⟨g2, k2, j2⟩ := hb
  have a1 := wrong_in h hM hn k1
  have a2 := wrong_in h hM hn k2
  have b1 := hx f1 h1
  have b2 := hx f2 h2
  exact Prod.ext (by omega) (by omega)
theorem mist_iff (h : LOK bs) (hM : M < FAR) : mist D bs (2 ^ bs.length - 1) ≤ M ↔ ∃ f, AllT D M bs f := mist_le h hM
theorem all_mem (h : LOK bs) (he : ∃ f, AllT D M bs f) : ∃ a b : Nat, allS D M bs = ((a : Int), (b : Int)) ∧ (∃ f, AllT D M bs f ∧ sumN f bs.length = a) ∧ (∃ f, AllT D M bs f ∧ sumN f bs.length = b) ∧ ∀ f, AllT D M bs f → a ≤ sumN f bs.length ∧ sumN f bs.length ≤ b := by
  rcases all_hull (D := D) (M := M) h with ⟨_, hn⟩ | ⟨a, b, e, ha, hb, _, hx⟩
  · obtain ⟨f, hf⟩ := he
    exact absurd ⟨f, hf, rfl⟩ (hn (sumN f bs.length))
  · exact ⟨a, b, e, ha, hb, fun f hf => hx _ ⟨f, hf, rfl⟩⟩
end
/-- One line has no other truths than another one. -/
structure Fewer (D M : Nat) (bs : List (Nat × Nat × Nat)) (D' M' : Nat) (bs' : List (Nat × Nat × Nat)) : Prop where
  len : bs'.length = bs.length
  sub : ∀ f, AllT D' M' bs' f → AllT D M bs f
section
variable {D M D' M' May : Nat} {bs bs' : List (Nat × Nat × Nat)}
theorem Fewer.wrong (q : Fewer D M bs D' M' bs') (h : LOK bs) (h' : LOK bs') (hM : M < FAR) (hM' : M' < FAR) {n : Nat} (hn : n < bs.length) (he : ∃ f, AllT D' M' bs' f) : (wrongS D M bs n).1 ≤ (wrongS D' M' bs' n).1 ∧ (wrongS D' M' bs' n).2 ≤ (wrongS D M bs n).2 := by
  obtain ⟨⟨f1, e1, h1⟩, ⟨f2, e2, h2⟩⟩ := wrong_mem h' hM' (by rw [q.len]; exact hn) he
  have a1 := wrong_in h hM hn (q.sub f1 h1)
  have a2 := wrong_in h hM hn (q.sub f2 h2)
  omega
theorem Fewer.all (q : Fewer D M bs D' M' bs') (h : LOK bs) (h' : LOK bs') (he : ∃ f, AllT D' M' bs' f) : (allS D M bs).1 ≤ (allS D' M' bs').1 ∧ (allS D' M' bs').2 ≤ (allS D M bs).2 := by
  obtain ⟨a, b, e1, ⟨f, hf, ef⟩, ⟨g, hg, eg⟩, _⟩ := all_mem (D := D') (M := M') h' he
  obtain ⟨c, d, e2, _, _, hx⟩ := all_mem (D := D) (M := M) h (he.imp fun f hf => q.sub f hf)
  have x1 := hx f (q.sub f hf)
  have x2 := hx g (q.sub g hg)
  rw [q.len] at ef eg
  rw [e1, e2]
  dsimp only
  omega
theorem Fewer.line (q : Fewer D M bs D' M' bs') (h : LOK bs) (h' : LOK bs') (hM : M < FAR) (hM' : M' < FAR) (he : ∃ f, AllT D' M' bs' f) (hl : lineS D M May bs ≠ 1) : lineS D' M' May bs' = lineS D M May bs := by
  have he0 : ∃ f, AllT D M bs f := he.imp fun f hf => q.sub f hf
  have h2 := line_le (D := D) (M := M) (May := May) (bs := bs)
  rcases (show lineS D M May bs = 0 ∨ lineS D M May bs = 2 by omega) with e | e
  · rw [e]
    refine (line_zero h' hM' he).2 fun f hf => ?_
    obtain ⟨i, hi, hlt⟩ := (line_zero h hM he0).1 e f (q.sub f hf)
    exact ⟨i, by rw [q.len]; exact hi, hlt⟩
  · rw [e]
    exact (line_two h' hM' he).2 fun f hf i hi => (line_two h hM he0).1 e f (q.sub f hf) i (by rw [← q.len]; exact hi)
end
end Go.Cl
/- classer, plain: sets in order; the least set that is so, in both ways. -/
namespace Go.Proofs.Ytgdhdikeicgndaa
open Go Go.RowKit Go.Sh Go.Pv
theorem bit_out {a n i : Nat} (h : a < 2 ^ n) (hi : n ≤ i) : a.testBit i = false := Nat.testBit_lt_two_pow (Nat.lt_of_lt_of_le h (Nat.pow_le_pow_right (by decide) hi))
theorem pow32 {N : Nat} (h : N ≤ 5) : 2 ^ N ≤ 32 := by
  calc 2 ^ N ≤ 2 ^ 5 := Nat.pow_le_pow_right (by decide) h
    _ = 32 := by decide
theorem pow64 {N : Nat} (h : N ≤ 6) : 2 ^ N ≤ 64 := by
  calc 2 ^ N ≤ 2 ^ 6 := Nat.pow_le_pow_right (by decide) h
    _ = 64 := by decide
theorem popc6_all : (List.range 64).all (fun x => Nat.ble (popc x) 6) = true := by decide +kernel
theorem popc6 {x : Nat} (h : x < 64) : popc x ≤ 6 := Nat.le_of_ble_eq_true (List.all_eq_true.1 popc6_all x (List.mem_range.2 h))
theorem popc_del_all : (List.range 64).all (fun x => (List.range 6).all fun i => !x.testBit i || (Nat.blt (popc (diffN x (2 ^ i))) (popc x))) = true := by decide +kernel
theorem popc_del {x i : Nat} (hx : x < 64) (h : x.testBit i = true) : popc (diffN x (2 ^ i)) < popc x := by
  have hi : i < 6 := Nat.lt_of_not_le fun hi => by rw [bit_out (n := 6) hx hi] at h; cases h
  have h1 := List.all_eq_true.1 popc_del_all x (List.mem_range.2 hx)
  have h2 := List.all_eq_true.1 h1 i (List.mem_range.2 hi)
  rw [h, Bool.not_true, Bool.false_or, Nat.blt_eq] at h2
  exact h2
theorem popc_zero_all : (List.range 64).all (fun x => Nat.beq x 0 || Nat.blt 0 (popc x)) = true := by decide +kernel
theorem popc_pos {x : Nat} (hx : x < 64) (h : x ≠ 0) : 0 < popc x := by
  have := List.all_eq_true.1 popc_zero_all x (List.mem_range.2 hx)
  rcases Bool.or_eq_true _ _ |>.mp this with h1 | h1
  · exact absurd (Nat.eq_of_beq_eq_true h1) h
  · exact Nat.blt_eq.mp h1
/-- Smaller, or of the same size and lesser. -/
def ltS (a b : Nat) : Bool := Nat.blt (popc a) (popc b) || (Nat.beq (popc a) (popc b) && Nat.blt a b)
def sortedB : List Nat → Bool
  | [] => true
  | x :: r => r.all (ltS x) && sortedB r
theorem sets_sorted : ∀ k, k ≤ 6 → sortedB (setsL k) = true ∧ (setsL k).length = 2 ^ k ∧ (List.range (2 ^ k)).all (fun x => (setsL k).contains x) = true ∧ (setsL k).all (fun x => Nat.blt x (2 ^ k)) = true := by
  intro k hk
  rcases (show k = 0 ∨ k = 1 ∨ k = 2 ∨ k = 3 ∨ k = 4 ∨ k = 5 ∨ k = 6 by omega) with rfl | rfl | rfl | rfl | rfl | rfl | rfl <;> exact ⟨by decide +kernel, by decide +kernel, by decide +kernel, by decide +kernel⟩
theorem mem_sets {k x : Nat} (hk : k ≤ 6) : x ∈ setsL k ↔ x < 2 ^ k := by
  obtain ⟨_, _, h3, h4⟩ := sets_sorted k hk
  constructor
  · intro h
    have := List.all_eq_true.1 h4 x h
    rwa [Nat.blt_eq] at this
  · intro h
    have := List.all_eq_true.1 h3 x (List.mem_range.2 h)
    simpa using this
theorem sets_len {k : Nat} (hk : k ≤ 6) : (setsL k).length ≤ 64 := by
  rw [(sets_sorted k hk).2.1]
  exact pow64 hk
/-- The first that is so. -/
def firstF (p : Nat → Bool) (l : List Nat) : Nat := l.getD (l.findIdx p) 0
theorem first_mem {p : Nat → Bool} {l : List Nat} (h : l.any p = true) : firstF p l ∈ l ∧ p (firstF p l) = true := by
  have hi : l.findIdx p < l.length := List.findIdx_lt_length_of_exists (by simpa [List.any_eq_true] using h)
  have hg : firstF p l = l[l.findIdx p] := by unfold firstF; simp [List.getD, hi]
  rw [hg]
  exact ⟨List.getElem_mem hi, List.findIdx_getElem⟩
theorem first_sorted {p : Nat → Bool} : ∀ {l : List Nat}, sortedB l = true → l.any p = true → ∀ y ∈ l, p y = true → y = firstF p l ∨ ltS (firstF p l) y = true
  | x :: r, hs, ha, y, hy, hp => by
    unfold sortedB at hs
    rw [Bool.and_eq_true] at hs
    cases hx : p x with
    | true =>
      have hf : firstF p (x :: r) = x := by unfold firstF; rw [List.findIdx_cons, hx]; rfl
      rw [hf]
      rcases List.mem_cons.1 hy with rfl | hy
      · exact .inl rfl
      · exact .inr (List.all_eq_true.1 hs.1 y hy)
    | false =>
      have hf : firstF p (x :: r) = firstF p r := by
        unfold firstF; rw [List.findIdx_cons, hx]; rfl
      rw [hf]
      rcases List.mem_cons.1 hy with rfl | hy
      · rw [hx] at hp; cases hp
      · refine first_sorted hs.2 ?_ y hy hp
        rw [List.any_cons, hx, Bool.false_or] at ha
        exact ha
theorem ltS_iff {a b : Nat} : ltS a b = true ↔ popc a < popc b ∨ (popc a = popc b ∧ a < b) := by
  unfold ltS
  rw [Bool.or_eq_true, Bool.and_eq_true, Nat.blt_eq, Nat.blt_eq, Nat.beq_eq]
/-- The first set that is so: a smaller one is not, nor is one of the same size that is lesser. -/
theorem first_least {p : Nat → Bool} {k : Nat} (hk : k ≤ 6) (h : (setsL k).any p = true) : firstF p (setsL k) < 2 ^ k ∧ p (firstF p (setsL k)) = true ∧ ∀ y, y < 2 ^ k → p y = true → popc (firstF p (setsL k)) < popc y ∨ (popc (firstF p (setsL k)) = popc y ∧ firstF p (setsL k) ≤ y) := by
  obtain ⟨h1, h2⟩ := first_mem h
  refine ⟨(mem_sets hk).1 h1, h2, fun y hy hp => ?_⟩
  rcases first_sorted (sets_sorted k hk).1 h y ((mem_sets hk).2 hy) hp with e | e
  · exact .inr ⟨by rw [← e], by rw [← e]; exact Nat.le_refl _⟩
  · rcases ltS_iff.1 e with e | ⟨e1, e2⟩
    · exact .inl e
    · exact .inr ⟨e1, Nat.le_of_lt e2⟩
theorem any_sets {p : Nat → Bool} {k : Nat} (hk : k ≤ 6) : (setsL k).any p = true ↔ ∃ x, x < 2 ^ k ∧ p x = true := by
  rw [List.any_eq_true]
  constructor
  · rintro ⟨x, h1, h2⟩; exact ⟨x, (mem_sets hk).1 h1, h2⟩
  · rintro ⟨x, h1, h2⟩; exact ⟨x, (mem_sets hk).2 h1, h2⟩
/-- The best of the first sets, as the document looks for it. -/
def minF (p : Nat → Bool) (k : Nat) : Nat → Nat
  | 0 => 2 ^ k - 1
  | s + 1 => if popc s < popc (minF p k s) ∧ p s = true then s else minF p k s
theorem popc_top_all : (List.range 7).all (fun k => (List.range (2 ^ k)).all fun x => Nat.blt (popc x) (popc (2 ^ k - 1)) || Nat.beq x (2 ^ k - 1)) = true := by decide +kernel
theorem popc_top {k x : Nat} (hk : k ≤ 6) (hx : x < 2 ^ k) : popc x < popc (2 ^ k - 1) ∨ x = 2 ^ k - 1 := by
  have h1 := List.all_eq_true.1 popc_top_all k (List.mem_range.2 (by omega))
  have h2 := List.all_eq_true.1 h1 x (List.mem_range.2 hx)
  rw [Bool.or_eq_true, Nat.blt_eq, Nat.beq_eq] at h2
  exact h2
theorem minF_inv {p : Nat → Bool} {k : Nat} (hk : k ≤ 6) (hf : p (2 ^ k - 1) = true) : ∀ s, s ≤ 2 ^ k → minF p k s < 2 ^ k ∧ p (minF p k s) = true ∧ (minF p k s < s ∨ minF p k s = 2 ^ k - 1) ∧ ∀ y, y < s → p y = true → popc (minF p k s) < popc y ∨ (popc (minF p k s) = popc y ∧ minF p k s ≤ y)
  | 0, _ => by
    have := Nat.two_pow_pos k
    exact ⟨by unfold minF; omega, hf, .inr rfl, fun y hy => by omega⟩
  | s + 1, hs => by
    obtain ⟨h1, h2, h3, h4⟩ := minF_inv hk hf s (by omega)
    have e : minF p k (s + 1) = if popc s < popc (minF p k s) ∧ p s = true then s else minF p k s := rfl
    rw [e]
    by_cases hc : popc s < popc (minF p k s) ∧ p s = true
    · rw [if_pos hc]
      refine ⟨by omega, hc.2, .inl (by omega), fun y hy hp => ?_⟩
      by_cases hys : y < s
      · left
        rcases h4 y hys hp with h | ⟨h, _⟩ <;> omega
      · have : y = s := by omega
        subst this
        exact .inr ⟨rfl, Nat.le_refl _⟩
    · rw [if_neg hc]
      refine ⟨h1, h2, h3.imp (by omega) id, fun y hy hp => ?_⟩
      by_cases hys : y < s
      · exact h4 y hys hp
      · have : y = s := by omega
        subst this
        have hge : popc (minF p k y) ≤ popc y := Nat.le_of_not_lt fun h => hc ⟨h, hp⟩
        rcases Nat.lt_or_ge (popc (minF p k y)) (popc y) with h | h
        · exact .inl h
        · refine .inr ⟨by omega, ?_⟩
          rcases h3 with h3 | h3
          · omega
          · rw [h3] at hge ⊢
            rcases popc_top hk (show y < 2 ^ k by omega) with h5 | h5 <;> omega
theorem min_first {p : Nat → Bool} {k : Nat} (hk : k ≤ 6) (hf : p (2 ^ k - 1) = true) : minF p k (2 ^ k) = firstF p (setsL k) := by
  have hp := Nat.two_pow_pos k
  obtain ⟨h1, h2, _, h4⟩ := minF_inv hk hf (2 ^ k) (Nat.le_refl _)
  obtain ⟨g1, g2, g3⟩ := first_least (p := p) hk ((any_sets hk).2 ⟨_, by omega, hf⟩)
  have a := h4 _ g1 g2
  have b := g3 _ h1 h2
  omega
theorem minF_congr {p q : Nat → Bool} {k : Nat} (h : ∀ x, p x = q x) : ∀ s, minF p k s = minF q k s
  | 0 => rfl
  | s + 1 => by unfold minF; rw [minF_congr h s, h s]
end Go.Proofs.Ytgdhdikeicgndaa
/- classer, plain: lines that are changed. -/
namespace Go.Cl
section
variable {D M May : Nat} {bs bs' : List (Nat × Nat × Nat)}
theorem bit_all {n i : Nat} (hi : i < n) : (2 ^ n - 1).testBit i = true := by rw [Nat.testBit_two_pow_sub_one]; exact decide_eq_true hi
theorem oT_all {i w : Nat} (hi : i < bs.length) : oT bs (2 ^ bs.length - 1) i w = ownF (bG bs i) true w := by unfold oT; rw [bit_all hi]
theorem all_iff {f : Nat → Nat} : AllT D M bs f ↔ Seq D bs.length f ∧ sumN (fun k => ownF (bG bs k) true (f k)) bs.length ≤ M := by
  have e : sumN (fun k => oT bs (2 ^ bs.length - 1) k (f k)) bs.length = sumN (fun k => ownF (bG bs k) true (f k)) bs.length := sumN_congr _ fun i hi => oT_all hi
  exact ⟨fun h => ⟨h.seq, e ▸ h.cost⟩, fun h => ⟨h.1, e.symm ▸ h.2⟩⟩
theorem ownF_mono {b b' : Nat × Nat × Nat} {t t' : Bool} {w : Nat} (h1 : b'.1 = b.1) (h2 : w ≤ b.1 → (if t = true then costB b w else 0) ≤ if t' = true then costB b' w else 0) : ownF b t w ≤ ownF b' t' w := by
  unfold ownF
  rw [h1]
  by_cases hw : b.1 < w
  · rw [if_pos hw, if_pos hw]; exact Nat.le_refl _
  · rw [if_neg hw, if_neg hw]; exact h2 (by omega)
/-- With fewer looks that are taken a truth is one still. -/
theorem tru_some {tk m : Nat} {f : Nat → Nat} (h : Tru D bs (2 ^ bs.length - 1) m f) : Tru D bs tk m f := by
  refine ⟨h.seq, Nat.le_trans (sumN_le _ fun i hi => ?_) h.cost⟩
  rw [oT_all hi]
  unfold oT
  exact ownF_mono rfl fun _ => by rw [if_pos rfl]; split <;> omega
theorem mist_sub (h : LOK bs) (tk : Nat) : mist D bs tk ≤ mist D bs (2 ^ bs.length - 1) := by
  obtain ⟨f, hf⟩ := tru_mist (D := D) h (2 ^ bs.length - 1)
  have := mist_180 (D := D) h (2 ^ bs.length - 1)
  exact (mist_le h (by unfold FAR; omega)).2 ⟨f, tru_some hf⟩
/-- Lines whose bales cost the same. -/
theorem mist_same (h : LOK bs) (h' : LOK bs') {tk tk' : Nat} (hl : bs'.length = bs.length) (hc : ∀ i w, i < bs.length → w ≤ 30 → oT bs' tk' i w = oT bs tk i w) : mist D bs' tk' = mist D bs tk := by
  have hb := mist_180 (D := D) h tk
  have hb' := mist_180 (D := D) h' tk'
  apply Nat.le_antisymm
  · obtain ⟨f, hf⟩ := tru_mist (D := D) h tk
    refine (mist_le h' (by unfold FAR; omega)).2 ⟨f, ⟨by rw [hl]; exact hf.seq, ?_⟩⟩
    rw [hl, sumN_congr _ fun i hi => hc i _ hi (hf.seq.le i hi)]
    exact hf.cost
  · obtain ⟨f, hf⟩ := tru_mist (D := D) h' tk'
    refine (mist_le h (by unfold FAR; omega)).2 ⟨f, ⟨by rw [← hl]; exact hf.seq, ?_⟩⟩
    rw [← sumN_congr _ fun i hi => hc i _ hi (hf.seq.le i (by omega)), ← hl]
    exact hf.cost
theorem cost_none {F w : Nat} (hw : w ≤ F) : costB (F, 0, 0) w = 0 := by unfold costB; simp only; omega
theorem cost_seen {F n w : Nat} (hw : w ≤ F) : costB (F, F, n) w = max (w - n) (n - w) := by unfold costB; simp only; omega
theorem cost_more {F K W w e : Nat} (hK : K < F) (hW : W ≤ K) (he : e ≤ 1) (hw : w ≤ F) : costB (F, K, W) w ≤ costB (F, K + 1, W + e) w := by unfold costB; simp only; omega
theorem cost_zero {F K W w : Nat} (hK : K ≤ F) (hW : W ≤ K) (hw : w ≤ F) : costB (F, K, W) w = 0 ↔ w - (F - K) ≤ W ∧ W ≤ min K w := by unfold costB; simp only; omega
theorem cost_found {F K W w s : Nat} (h1 : w - (F - K) ≤ s) (h2 : s ≤ min K w) : costB (F, K, W) w ≤ max (W - s) (s - W) := by unfold costB; simp only; omega
theorem fewer_m {M' : Nat} (h : M' ≤ M) : Fewer D M bs D M' bs := ⟨rfl, fun f hf => hf.mono h⟩
theorem fewer_d {D' : Nat} (h : D' ≤ D) : Fewer D M bs D' M bs := ⟨rfl, fun f hf => ⟨⟨hf.seq.le, fun k hk => by have := hf.seq.nr k hk; unfold near at *; omega⟩, hf.cost⟩⟩
theorem fewer_b (hl : bs'.length = bs.length) (h : ∀ i w, i < bs.length → w ≤ 30 → ownF (bG bs i) true w ≤ ownF (bG bs' i) true w) : Fewer D M bs D M bs' := ⟨hl, fun f hf => by
  rw [all_iff] at hf ⊢
  rw [hl] at hf
  exact ⟨hf.1, Nat.le_trans (sumN_le _ fun i hi => h i _ hi (hf.1.le i hi)) hf.2⟩⟩
theorem mist_fewer {D' : Nat} (h : LOK bs) (h' : LOK bs') (q : ∀ m, m < FAR → ∀ f, AllT D' m bs' f → AllT D m bs f) : mist D bs (2 ^ bs.length - 1) ≤ mist D' bs' (2 ^ bs'.length - 1) := by
  obtain ⟨f, hf⟩ := tru_mist (D := D') h' (2 ^ bs'.length - 1)
  have hb := mist_180 (D := D') h' (2 ^ bs'.length - 1)
  exact (mist_le h (by unfold FAR; omega)).2 ⟨f, q _ (by unfold FAR; omega) f hf⟩
theorem bG_rev {i : Nat} (hi : i < bs.length) : bG bs.reverse i = bG bs (bs.length - 1 - i) := by
  unfold bG
  simp [List.getD, List.getElem?_reverse hi]
theorem LOK.rev (h : LOK bs) : LOK bs.reverse := ⟨by rw [List.length_reverse]; exact h.n1, by rw [List.length_reverse]; exact h.n6, fun i hi => by
  rw [List.length_reverse] at hi
  rw [bG_rev hi]
  exact h.ba _ (by omega)⟩
theorem seq_rev {N : Nat} {f : Nat → Nat} (h : Seq D N f) : Seq D N fun i => f (N - 1 - i) := ⟨fun k hk => h.le _ (by omega), fun k hk => by
  have := h.nr (N - 1 - (k + 1)) (by omega)
  rw [show N - 1 - (k + 1) + 1 = N - 1 - k by omega] at this
  exact near_comm this⟩
theorem all_rev {f : Nat → Nat} (hf : AllT D M bs f) : AllT D M bs.reverse fun i => f (bs.length - 1 - i) := by
  rw [all_iff] at hf ⊢
  rw [List.length_reverse]
  refine ⟨seq_rev hf.1, ?_⟩
  rw [sumN_congr (g := fun i => (fun k => ownF (bG bs k) true (f k)) (bs.length - 1 - i)) _ fun i hi => by rw [bG_rev hi], sumN_rev (fun k => ownF (bG bs k) true (f k))]
  exact hf.2
theorem all_rev' {f : Nat → Nat} (hf : AllT D M bs.reverse f) : AllT D M bs fun i => f (bs.length - 1 - i) := by
  have := all_rev hf
  rwa [List.reverse_reverse, List.length_reverse] at this
theorem rev_ex : (∃ f, AllT D M bs.reverse f) ↔ ∃ f, AllT D M bs f := ⟨fun ⟨f, h⟩ => ⟨_, all_rev' h⟩, fun ⟨f, h⟩ => ⟨_, all_rev h⟩⟩
theorem wrong_rev (h : LOK bs) (hM : M < FAR) {n : Nat} (hn : n < bs.length) (he : ∃ f, AllT D M bs f) : wrongS D M bs.reverse (bs.length - 1 - n) = wrongS D M bs n := by
  obtain ⟨⟨f1, e1, h1⟩, ⟨f2, e2, h2⟩⟩ := wrong_mem h hM hn he
  have en : bs.length - 1 - (bs.length - 1 - n) = n := by omega
  refine wrong_eq h.rev hM (by rw [List.length_reverse]; omega) (rev_ex.2 he) ⟨_, all_rev h1, by dsimp only; rw [en]; exact e1⟩ ⟨_, all_rev h2, by dsimp only; rw [en]; exact e2⟩ fun f hf => ?_
  exact wrong_in h hM hn (all_rev' hf)
theorem all_rev_eq (h : LOK bs) (he : ∃ f, AllT D M bs f) : allS D M bs.reverse = allS D M bs := by
  obtain ⟨a, b, e1, ⟨f, hf, ef⟩, ⟨g, hg, eg⟩, hx⟩ := all_mem (D := D) (M := M) h he
  obtain ⟨c, d, e2, ⟨f', hf', ef'⟩, ⟨g', hg', eg'⟩, hy⟩ := all_mem (D := D) (M := M) h.rev (rev_ex.2 he)
  rw [List.length_reverse] at ef' eg' hy
  have x1 := hx _ (all_rev' hf')
  have x2 := hx _ (all_rev' hg')
  have y1 := hy _ (all_rev hf)
  have y2 := hy _ (all_rev hg)
  rw [sumN_rev] at x1 x2 y1 y2
  rw [e1, e2]
  exact Prod.ext (by dsimp only; omega) (by dsimp only; omega)
theorem line_rev (h : LOK bs) (hM : M < FAR) (he : ∃ f, AllT D M bs f) : lineS D M May bs.reverse = lineS D M May bs := by
  have he' : ∃ f, AllT D M bs.reverse f := rev_ex.2 he
  have l1 := line_le (D := D) (M := M) (May := May) (bs := bs)
  have l2 := line_le (D := D) (M := M) (May := May) (bs := bs.reverse)
  have t2 : lineS D M May bs.reverse = 2 ↔ lineS D M May bs = 2 := by
    rw [line_two h.rev hM he', line_two h hM he]
    constructor
    · intro ht f hf i hi
      have := ht _ (all_rev hf) (bs.length - 1 - i) (by rw [List.length_reverse]; omega)
      rwa [show bs.length - 1 - (bs.length - 1 - i) = i by omega] at this
    · intro ht f hf i hi
      rw [List.length_reverse] at hi
      have := ht _ (all_rev' hf) (bs.length - 1 - i) (by omega)
      rwa [show bs.length - 1 - (bs.length - 1 - i) = i by omega] at this
  have t0 : lineS D M May bs.reverse = 0 ↔ lineS D M May bs = 0 := by
    rw [line_zero h.rev hM he', line_zero h hM he]
    constructor
    · intro ht f hf
      obtain ⟨i, hi, hlt⟩ := ht _ (all_rev hf)
      rw [List.length_reverse] at hi
      exact ⟨bs.length - 1 - i, by omega, hlt⟩
    · intro ht f hf
      obtain ⟨i, hi, hlt⟩ := ht _ (all_rev' hf)
      exact ⟨bs.length - 1 - i, by rw [List.length_reverse]; omega, hlt⟩
  omega
theorem mist_rev (h : LOK bs) : mist D bs.reverse (2 ^ bs.reverse.length - 1) = mist D bs (2 ^ bs.length - 1) := by
  apply Nat.le_antisymm
  · obtain ⟨f, hf⟩ := tru_mist (D := D) h (2 ^ bs.length - 1)
    have hb := mist_180 (D := D) h (2 ^ bs.length - 1)
    exact (mist_le h.rev (by unfold FAR; omega)).2 ⟨_, all_rev hf⟩
  · obtain ⟨f, hf⟩ := tru_mist (D := D) h.rev (2 ^ bs.reverse.length - 1)
    have hb := mist_180 (D := D) h.rev (2 ^ bs.reverse.length - 1)
    exact (mist_le h (by unfold FAR; omega)).2 ⟨_, all_rev' hf⟩
end
end Go.Cl
