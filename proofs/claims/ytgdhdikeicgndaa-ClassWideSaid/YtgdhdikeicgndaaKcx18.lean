/- Kcx18: texts joined (CxF CxG CxH CxI CxJ). -/
import Derived.Test.YtgdhdikeicgndaaKcx5
import Derived.Test.YtgdhdikeicgndaaKwa14
set_option linter.all false
/- classer, plain: the document's states. -/
namespace Go.Cl
abbrev St5 := Nat × Nat × Nat × Bool × Nat
def stepS (b : Nat × Nat × Nat) (tk : Bool) (May : Nat) (asked : Bool) (t : St5) (w : Nat) : St5 := (w, t.2.1 + w, t.2.2.1 + (if tk = true then costB b w else 0), t.2.2.2.1 && decide (w ≤ May), if asked = true then w else t.2.2.2.2)
def okS (fst : Bool) (D most : Nat) (t s : St5) : Bool := (fst || decide (near D s.1 t.1)) && decide (s.2.2.1 ≤ most)
def addS (ok : Bool) (out : List St5) (s : St5) : List St5 := if ok = true ∧ s ∉ out then out ++ [s] else out
theorem mem_addS {ok : Bool} {out : List St5} {x s : St5} : s ∈ addS ok out x ↔ s ∈ out ∨ (ok = true ∧ s = x) := by
  unfold addS
  by_cases h : ok = true ∧ x ∉ out
  · rw [if_pos h, List.mem_append, List.mem_singleton]
    exact ⟨fun q => q.imp id fun e => ⟨h.1, e⟩, fun q => q.imp id fun e => e.2⟩
  · rw [if_neg h]
    refine ⟨.inl, fun q => q.elim id fun ⟨ho, e⟩ => ?_⟩
    subst e
    exact Classical.byContradiction fun hn => h ⟨ho, hn⟩
theorem addS_len (ok : Bool) (out : List St5) (s : St5) : (addS ok out s).length ≤ out.length + 1 := by
  unfold addS; split <;> simp
section
variable (bs : List (Nat × Nat × Nat)) (D May most tk : Nat) (asked : Int)
def inW (n : Nat) (t : St5) (out : List St5) : Nat → List St5
  | 0 => out
  | w + 1 => addS (okS (decide (n = 0)) D most t (stepS (bG bs n) (tk.testBit n) May (decide ((n : Int) = asked)) t w)) (inW n t out w) (stepS (bG bs n) (tk.testBit n) May (decide ((n : Int) = asked)) t w)
def outL (n : Nat) (l : List St5) : Nat → List St5
  | 0 => []
  | i + 1 => inW bs D May most tk asked n (l.getD i (0, 0, 0, true, 0)) (outL n l i) ((bG bs n).1 + 1)
/-- The states after so many bales. -/
def stL : Nat → List St5
  | 0 => [(0, 0, 0, true, 0)]
  | n + 1 => outL bs D May most tk asked n (stL n) (stL n).length
def sig (f : Nat → Nat) : Nat → St5
  | 0 => (0, 0, 0, true, 0)
  | n + 1 => stepS (bG bs n) (tk.testBit n) May (decide ((n : Int) = asked)) (sig f n) (f n)
end
section
variable {bs : List (Nat × Nat × Nat)} {D May most tk : Nat} {asked : Int}
theorem mem_inW {n : Nat} {t : St5} {out : List St5} {s : St5} : ∀ k, s ∈ inW bs D May most tk asked n t out k ↔ s ∈ out ∨ ∃ w, w < k ∧ okS (decide (n = 0)) D most t (stepS (bG bs n) (tk.testBit n) May (decide ((n : Int) = asked)) t w) = true ∧ s = stepS (bG bs n) (tk.testBit n) May (decide ((n : Int) = asked)) t w
  | 0 => ⟨.inl, fun h => h.elim id fun ⟨w, hw, _⟩ => by omega⟩
  | k + 1 => by
    unfold inW
    rw [mem_addS, mem_inW k]
    constructor
    · rintro ((h | ⟨w, hw, h⟩) | ⟨h1, h2⟩)
      · exact .inl h
      · exact .inr ⟨w, by omega, h⟩
      · exact .inr ⟨k, by omega, h1, h2⟩
    · rintro (h | ⟨w, hw, h⟩)
      · exact .inl (.inl h)
      · by_cases e : w = k
        · subst e; exact .inr h
        · exact .inl (.inr ⟨w, by omega, h⟩)
theorem mem_outL {n : Nat} {l : List St5} {s : St5} : ∀ k, s ∈ outL bs D May most tk asked n l k ↔ ∃ i w, i < k ∧ w ≤ (bG bs n).1 ∧ okS (decide (n = 0)) D most (l.getD i (0, 0, 0, true, 0)) (stepS (bG bs n) (tk.testBit n) May (decide ((n : Int) = asked)) (l.getD i (0, 0, 0, true, 0)) w) = true ∧ s = stepS (bG bs n) (tk.testBit n) May (decide ((n : Int) = asked)) (l.getD i (0, 0, 0, true, 0)) w
  | 0 => by
    constructor
    · intro h; cases h
    · rintro ⟨i, w, h, _⟩; omega
  | k + 1 => by
    unfold outL
    rw [mem_inW, mem_outL k]
    constructor
    · rintro (⟨i, w, hi, h⟩ | ⟨w, hw, h⟩)
      · exact ⟨i, w, by omega, h⟩
      · exact ⟨k, w, by omega, by omega, h⟩
    · rintro ⟨i, w, hi, hw, h⟩
      by_cases e : i = k
      · subst e; exact .inr ⟨w, by omega, h⟩
      · exact .inl ⟨i, w, by omega, hw, h⟩
theorem inW_len (n : Nat) (t : St5) (out : List St5) : ∀ k, (inW bs D May most tk asked n t out k).length ≤ out.length + k
  | 0 => Nat.le_refl _
  | k + 1 => by
    unfold inW
    have h1 := inW_len n t out k
    have h2 := addS_len (okS (decide (n = 0)) D most t (stepS (bG bs n) (tk.testBit n) May (decide ((n : Int) = asked)) t k)) (inW bs D May most tk asked n t out k) (stepS (bG bs n) (tk.testBit n) May (decide ((n : Int) = asked)) t k)
    omega
theorem outL_len (n : Nat) (l : List St5) (hF : (bG bs n).1 ≤ 30) : ∀ k, (outL bs D May most tk asked n l k).length ≤ 31 * k
  | 0 => by simp [outL]
  | k + 1 => by
    unfold outL
    have h1 := outL_len n l hF k
    have h2 := inW_len (bs := bs) (D := D) (May := May) (most := most) (tk := tk) (asked := asked) n (l.getD k (0, 0, 0, true, 0)) (outL bs D May most tk asked n l k) ((bG bs n).1 + 1)
    omega
theorem stL_len (h : LOK bs) : ∀ n, (stL bs D May most tk asked n).length ≤ 31 ^ n
  | 0 => Nat.le_refl _
  | n + 1 => by
    have h1 := stL_len h n
    have h2 := outL_len (D := D) (May := May) (most := most) (tk := tk) (asked := asked) n (stL bs D May most tk asked n) (h.bd n).1 (stL bs D May most tk asked n).length
    show (outL bs D May most tk asked n (stL bs D May most tk asked n) (stL bs D May most tk asked n).length).length ≤ _
    rw [Nat.pow_succ]
    omega
theorem sig_cost (f : Nat → Nat) : ∀ n, (sig bs May tk asked f n).2.2.1 = sumN (fun k => if tk.testBit k = true then costB (bG bs k) (f k) else 0) n
  | 0 => rfl
  | n + 1 => by show (sig bs May tk asked f n).2.2.1 + _ = _; rw [sig_cost f n]; rfl
theorem sig_all (f : Nat → Nat) : ∀ n, (sig bs May tk asked f n).2.1 = sumN f n
  | 0 => rfl
  | n + 1 => by show (sig bs May tk asked f n).2.1 + _ = _; rw [sig_all f n]; rfl
theorem sig_kept (f : Nat → Nat) : ∀ n, (sig bs May tk asked f n).2.2.2.1 = true ↔ ∀ k, k < n → f k ≤ May
  | 0 => ⟨fun _ k hk => by omega, fun _ => rfl⟩
  | n + 1 => by
    show ((sig bs May tk asked f n).2.2.2.1 && decide (f n ≤ May)) = true ↔ _
    rw [Bool.and_eq_true, sig_kept f n, decide_eq_true_eq]
    constructor
    · rintro ⟨h1, h2⟩ k hk
      by_cases e : k = n
      · subst e; exact h2
      · exact h1 k (by omega)
    · intro h; exact ⟨fun k hk => h k (by omega), h n (by omega)⟩
theorem sig_asked (f : Nat → Nat) {a : Nat} (ha : asked = a) : ∀ n, a < n → (sig bs May tk asked f n).2.2.2.2 = f a
  | n + 1, hn => by
    show (if decide ((n : Int) = asked) = true then f n else (sig bs May tk asked f n).2.2.2.2) = f a
    by_cases e : n = a
    · subst e; rw [if_pos (decide_eq_true ha.symm)]
    · rw [if_neg (by rw [decide_eq_true_eq]; omega)]
      exact sig_asked f ha n (by omega)
theorem sig_last (f : Nat → Nat) (n : Nat) : (sig bs May tk asked f (n + 1)).1 = f n := rfl
theorem sig_congr {f g : Nat → Nat} : ∀ n, (∀ k, k < n → f k = g k) → sig bs May tk asked f n = sig bs May tk asked g n
  | 0, _ => rfl
  | n + 1, h => by
    show stepS _ _ _ _ (sig bs May tk asked f n) (f n) = stepS _ _ _ _ (sig bs May tk asked g n) (g n)
    rw [sig_congr n fun k hk => h k (by omega), h n (by omega)]
/-- The states are those of all truths so far. -/
theorem mem_stL : ∀ {n : Nat} {s : St5}, s ∈ stL bs D May most tk asked n ↔ ∃ f : Nat → Nat, (∀ k, k < n → f k ≤ (bG bs k).1) ∧ (∀ k, k + 1 < n → near D (f k) (f (k + 1))) ∧ (sig bs May tk asked f n).2.2.1 ≤ most ∧ s = sig bs May tk asked f n
  | 0, s => by
    show s ∈ [(0, 0, 0, true, 0)] ↔ _
    rw [List.mem_singleton]
    exact ⟨fun e => ⟨fun _ => 0, fun k hk => by omega, fun k hk => by omega, Nat.zero_le _, e⟩, fun ⟨f, _, _, _, e⟩ => e⟩
  | n + 1, s => by
    have ih := fun s => mem_stL (n := n) (s := s)
    show s ∈ outL bs D May most tk asked n (stL bs D May most tk asked n) (stL bs D May most tk asked n).length ↔ _
    rw [mem_outL]
    have hmem : ∀ t, t ∈ stL bs D May most tk asked n ↔ ∃ i, i < (stL bs D May most tk asked n).length ∧ (stL bs D May most tk asked n).getD i (0, 0, 0, true, 0) = t := fun t => by
      rw [List.mem_iff_getElem]
      exact ⟨fun ⟨i, hi, e⟩ => ⟨i, hi, by rw [← e]; simp [List.getD, hi]⟩, fun ⟨i, hi, e⟩ => ⟨i, hi, by rw [← e]; simp [List.getD, hi]⟩⟩
    constructor
    · rintro ⟨i, w, hi, hw, hok, rfl⟩
      obtain ⟨f, f1, f2, f3, f4⟩ := (ih _).1 ((hmem _).2 ⟨i, hi, rfl⟩)
      rw [f4] at hok ⊢
      have hsg : sig bs May tk asked (fun k => if k < n then f k else w) (n + 1) = stepS (bG bs n) (tk.testBit n) May (decide ((n : Int) = asked)) (sig bs May tk asked f n) w := by
        show stepS _ _ _ _ (sig bs May tk asked (fun k => if k < n then f k else w) n) (if n < n then f n else w) = _
        rw [if_neg (by omega), sig_congr n fun k hk => if_pos hk]
      unfold okS at hok
      rw [Bool.and_eq_true, Bool.or_eq_true, decide_eq_true_eq, decide_eq_true_eq, decide_eq_true_eq] at hok
      refine ⟨fun k => if k < n then f k else w, fun k hk => ?_, fun k hk => ?_, by rw [hsg]; exact hok.2, hsg.symm⟩
      · by_cases e : k < n
        · simp only [if_pos e]; exact f1 k e
        · simp only [if_neg e]; rw [show k = n by omega]; exact hw
      · by_cases e : k + 1 < n
        · simp only [if_pos e, if_pos (show k < n by omega)]; exact f2 k e
        · have e2 : k + 1 = n := by omega
          simp only [if_neg e, if_pos (show k < n by omega)]
          rcases hok.1 with h0 | h0
          · omega
          · subst e2
            rw [sig_last] at h0
            exact near_comm h0
    · rintro ⟨f, f1, f2, f3, rfl⟩
      have hle : (sig bs May tk asked f n).2.2.1 ≤ (sig bs May tk asked f (n + 1)).2.2.1 := Nat.le_add_right _ _
      obtain ⟨i, hi, e⟩ := (hmem (sig bs May tk asked f n)).1 ((ih _).2 ⟨f, fun k hk => f1 k (by omega), fun k hk => f2 k (by omega), by omega, rfl⟩)
      refine ⟨i, f n, hi, f1 n (by omega), ?_, by rw [e]; rfl⟩
      rw [e]
      unfold okS
      rw [Bool.and_eq_true, Bool.or_eq_true, decide_eq_true_eq, decide_eq_true_eq, decide_eq_true_eq]
      refine ⟨?_, f3⟩
      rcases n with _ | n
      · exact .inl rfl
      · exact .inr (near_comm (f2 n (by omega)))
/-- All states are those of the truths. -/
theorem mem_st (h : LOK bs) (hm : most < FAR) {s : St5} : s ∈ stL bs D May most tk asked bs.length ↔ ∃ f, Tru D bs tk most f ∧ s = sig bs May tk asked f bs.length := by
  rw [mem_stL]
  have hc : ∀ f : Nat → Nat, (∀ k, k < bs.length → f k ≤ (bG bs k).1) → sumN (fun k => oT bs tk k (f k)) bs.length = (sig bs May tk asked f bs.length).2.2.1 := fun f hf => by
    rw [sig_cost]
    exact sumN_congr _ fun k hk => by unfold oT ownF; rw [if_neg (by have := hf k hk; omega)]
  constructor
  · rintro ⟨f, f1, f2, f3, rfl⟩
    exact ⟨f, ⟨⟨fun k hk => by have := f1 k hk; have := (h.bd k).1; omega, f2⟩, by rw [hc f f1]; exact f3⟩, rfl⟩
  · rintro ⟨f, hf, rfl⟩
    have f1 : ∀ k, k < bs.length → f k ≤ (bG bs k).1 := fun k hk => hf.le hm hk
    exact ⟨f, f1, hf.seq.nr, by rw [← hc f f1]; exact hf.cost, rfl⟩
theorem st_nil (h : LOK bs) (hm : most < FAR) : stL bs D May most tk asked bs.length = [] ↔ ¬ ∃ f, Tru D bs tk most f := by
  constructor
  · rintro e ⟨f, hf⟩
    have := (mem_st (May := May) (asked := asked) h hm).2 ⟨f, hf, rfl⟩
    rw [e] at this
    cases this
  · intro hn
    rw [List.eq_nil_iff_forall_not_mem]
    intro s hs
    obtain ⟨f, hf, _⟩ := (mem_st h hm).1 hs
    exact hn ⟨f, hf⟩
end
end Go.Cl
/- classer, plain: what the document returns. -/
namespace Go.Cl
/-- The span of some numbers. -/
def hullR (l : List Nat) : Nat → Nat × Nat
  | 0 => (l.getD 0 0, l.getD 0 0)
  | i + 1 => (min (hullR l i).1 (l.getD i 0), max (hullR l i).2 (l.getD i 0))
theorem hullR_spec {l : List Nat} (hl : l ≠ []) : ∀ k, k ≤ l.length → (hullR l k).1 ∈ l ∧ (hullR l k).2 ∈ l ∧ ∀ i, i < k → (hullR l k).1 ≤ l.getD i 0 ∧ l.getD i 0 ≤ (hullR l k).2
  | 0, _ => by
    have : l.getD 0 0 ∈ l := by
      cases l with
      | nil => exact absurd rfl hl
      | cons a l => simp
    exact ⟨this, this, fun i hi => by omega⟩
  | k + 1, hk => by
    obtain ⟨h1, h2, h3⟩ := hullR_spec hl k (by omega)
    have hm : l.getD k 0 ∈ l := by simp [List.getD, show k < l.length by omega]
    unfold hullR
    dsimp only
    refine ⟨?_, ?_, fun i hi => ?_⟩
    · rcases Nat.le_total (hullR l k).1 (l.getD k 0) with h | h
      · rw [Nat.min_eq_left h]; exact h1
      · rw [Nat.min_eq_right h]; exact hm
    · rcases Nat.le_total (hullR l k).2 (l.getD k 0) with h | h
      · rw [Nat.max_eq_right h]; exact hm
      · rw [Nat.max_eq_left h]; exact h2
    · by_cases e : i = k
      · subst e; omega
      · have := h3 i (by omega); omega
theorem hullR_all {l : List Nat} (hl : l ≠ []) : (hullR l l.length).1 ∈ l ∧ (hullR l l.length).2 ∈ l ∧ ∀ x ∈ l, (hullR l l.length).1 ≤ x ∧ x ≤ (hullR l l.length).2 := by
  obtain ⟨h1, h2, h3⟩ := hullR_spec hl l.length (Nat.le_refl _)
  refine ⟨h1, h2, fun x hx => ?_⟩
  obtain ⟨i, hi, e⟩ := List.mem_iff_getElem.1 hx
  have := h3 i hi
  rwa [show l.getD i 0 = x by rw [← e]; simp [List.getD, hi]] at this
section
variable {D M May : Nat} {bs : List (Nat × Nat × Nat)}
theorem st_ne (h : LOK bs) (hM : M < FAR) {asked : Int} (he : ∃ f, AllT D M bs f) : stL bs D May M (2 ^ bs.length - 1) asked bs.length ≠ [] := fun e => (st_nil h hM).1 e he
theorem ref_wrong (h : LOK bs) (hM : M < FAR) (he : ∃ f, AllT D M bs f) {n : Nat} (hn : n < bs.length) :
    hullR ((stL bs D May M (2 ^ bs.length - 1) n bs.length).map fun s => s.2.2.2.2) (stL bs D May M (2 ^ bs.length - 1) n bs.length).length = wrongS D M bs n := by
  have hne : (stL bs D May M (2 ^ bs.length - 1) n bs.length).map (fun s => s.2.2.2.2) ≠ [] := by simpa using st_ne (May := May) (asked := (n : Int)) h hM he
  obtain ⟨h1, h2, h3⟩ := hullR_all hne
  rw [List.length_map] at h1 h2 h3
  have hm : ∀ x, x ∈ (stL bs D May M (2 ^ bs.length - 1) n bs.length).map (fun s => s.2.2.2.2) ↔ ∃ f, AllT D M bs f ∧ f n = x := fun x => by
    rw [List.mem_map]
    constructor
    · rintro ⟨s, hs, rfl⟩
      obtain ⟨f, hf, rfl⟩ := (mem_st h hM).1 hs
      exact ⟨f, hf, (sig_asked f rfl _ hn).symm⟩
    · rintro ⟨f, hf, rfl⟩
      exact ⟨_, (mem_st h hM).2 ⟨f, hf, rfl⟩, sig_asked f rfl _ hn⟩
  symm
  exact wrong_eq h hM hn he ((hm _).1 h1) ((hm _).1 h2) fun f hf => h3 _ ((hm _).2 ⟨f, hf, rfl⟩)
theorem ref_all (h : LOK bs) (hM : M < FAR) (he : ∃ f, AllT D M bs f) {asked : Int} :
    ((((hullR ((stL bs D May M (2 ^ bs.length - 1) asked bs.length).map fun s => s.2.1) (stL bs D May M (2 ^ bs.length - 1) asked bs.length).length).1 : Nat) : Int), (((hullR ((stL bs D May M (2 ^ bs.length - 1) asked bs.length).map fun s => s.2.1) (stL bs D May M (2 ^ bs.length - 1) asked bs.length).length).2 : Nat) : Int)) = allS D M bs := by
  have hne : (stL bs D May M (2 ^ bs.length - 1) asked bs.length).map (fun s => s.2.1) ≠ [] := by simpa using st_ne (May := May) (asked := asked) h hM he
  obtain ⟨h1, h2, h3⟩ := hullR_all hne
  rw [List.length_map] at h1 h2 h3
  have hm : ∀ x, x ∈ (stL bs D May M (2 ^ bs.length - 1) asked bs.length).map (fun s => s.2.1) ↔ ∃ f, AllT D M bs f ∧ sumN f bs.length = x := fun x => by
    rw [List.mem_map]
    constructor
    · rintro ⟨s, hs, rfl⟩
      obtain ⟨f, hf, rfl⟩ := (mem_st h hM).1 hs
      exact ⟨f, hf, (sig_all f _).symm⟩
    · rintro ⟨f, hf, rfl⟩
      exact ⟨_, (mem_st h hM).2 ⟨f, hf, rfl⟩, sig_all f _⟩
  obtain ⟨a, b, e, ⟨f, hf, ef⟩, ⟨g, hg, eg⟩, hx⟩ := all_mem (D := D) (M := M) h he
  obtain ⟨f', hf', ef'⟩ := (hm _).1 h1
  obtain ⟨g', hg', eg'⟩ := (hm _).1 h2
  have x1 := hx f' hf'
  have x2 := hx g' hg'
  have y1 := h3 _ ((hm _).2 ⟨f, hf, rfl⟩)
  have y2 := h3 _ ((hm _).2 ⟨g, hg, rfl⟩)
  rw [e]
  exact Prod.ext (by dsimp only; omega) (by dsimp only; omega)
/-- How many states keep the line. -/
def keptN (l : List St5) : Nat := l.countP fun s => s.2.2.2.1
theorem ref_line (h : LOK bs) (hM : M < FAR) (he : ∃ f, AllT D M bs f) {asked : Int} :
    (if keptN (stL bs D May M (2 ^ bs.length - 1) asked bs.length) = (stL bs D May M (2 ^ bs.length - 1) asked bs.length).length then 2 else if keptN (stL bs D May M (2 ^ bs.length - 1) asked bs.length) = 0 then 0 else 1) = lineS D M May bs := by
  have l1 := line_le (D := D) (M := M) (May := May) (bs := bs)
  have t2 : keptN (stL bs D May M (2 ^ bs.length - 1) asked bs.length) = (stL bs D May M (2 ^ bs.length - 1) asked bs.length).length ↔ lineS D M May bs = 2 := by
    unfold keptN
    rw [List.countP_eq_length, line_two h hM he]
    constructor
    · intro ht f hf
      exact (sig_kept f _).1 (ht _ ((mem_st h hM).2 ⟨f, hf, rfl⟩))
    · intro ht s hs
      obtain ⟨f, hf, rfl⟩ := (mem_st h hM).1 hs
      exact (sig_kept f _).2 (ht f hf)
  have t0 : keptN (stL bs D May M (2 ^ bs.length - 1) asked bs.length) = 0 ↔ lineS D M May bs = 0 := by
    unfold keptN
    rw [List.countP_eq_zero, line_zero h hM he]
    constructor
    · intro ht f hf
      apply Classical.byContradiction
      intro hn
      exact ht _ ((mem_st h hM).2 ⟨f, hf, rfl⟩) ((sig_kept f _).2 fun i hi => by
        rcases Nat.lt_or_ge May (f i) with h1 | h1
        · exact absurd ⟨i, hi, h1⟩ hn
        · exact h1)
    · intro ht s hs hk
      obtain ⟨f, hf, rfl⟩ := (mem_st h hM).1 hs
      obtain ⟨i, hi, hlt⟩ := ht f hf
      have := (sig_kept f _).1 hk i hi
      omega
  by_cases e2 : lineS D M May bs = 2
  · rw [if_pos (t2.2 e2), e2]
  · rw [if_neg (fun e => e2 (t2.1 e))]
    by_cases e0 : lineS D M May bs = 0
    · rw [if_pos (t0.2 e0), e0]
    · rw [if_neg (fun e => e0 (t0.1 e))]; omega
/-- As many mistakes are allowed as leave a state. -/
theorem ref_mist (h : LOK bs) {asked : Int} {tk m : Nat} (hm : m < FAR) : stL bs D May m tk asked bs.length = [] ↔ m < mist D bs tk := by
  rw [st_nil h hm, ← mist_le h hm]; omega
end
end Go.Cl
/- classer, plain: more fleeces that are looked at; a bale of which all are known. -/
namespace Go.Cl
/-- A line with another bale in a place. -/
theorem bG_set {bs : List (Nat × Nat × Nat)} {j : Nat} (hj : j < bs.length) (b : Nat × Nat × Nat) (i : Nat) : bG (bs.set j b) i = if i = j then b else bG bs i := by
  unfold bG
  by_cases e : i = j
  · subst e; rw [if_pos rfl]; simp [List.getD, hj]
  · rw [if_neg e]; simp [List.getD, List.getElem?_set_ne (Ne.symm e)]
section
variable {D M May : Nat} {bs : List (Nat × Nat × Nat)}
theorem LOK.set (h : LOK bs) {j : Nat} (hj : j < bs.length) {b : Nat × Nat × Nat} (hb : 1 ≤ b.1 ∧ b.1 ≤ 30 ∧ b.2.1 ≤ b.1 ∧ b.2.2 ≤ b.2.1) : LOK (bs.set j b) := ⟨by rw [List.length_set]; exact h.n1, by rw [List.length_set]; exact h.n6, fun i hi => by
  rw [List.length_set] at hi
  rw [bG_set hj]
  split
  · exact hb
  · exact h.ba i hi⟩
/-- Does a bale keep the line in all truths? -/
def enB (D M May : Nat) (bs : List (Nat × Nat × Nat)) (j : Nat) : Nat → Bool
  | 0 => true
  | k + 1 => enB D M May bs j k && (!decide (thr D bs.length (oT bs (2 ^ bs.length - 1)) j k ≤ M) || decide (k ≤ May))
theorem enB_iff {j : Nat} : ∀ k, enB D M May bs j k = true ↔ ∀ i, i < k → thr D bs.length (oT bs (2 ^ bs.length - 1)) j i ≤ M → i ≤ May
  | 0 => ⟨fun _ i hi => by omega, fun _ => rfl⟩
  | k + 1 => by
    have ih := enB_iff (j := j) k
    unfold enB
    rw [Bool.and_eq_true, ih, Bool.or_eq_true, Bool.not_eq_true', decide_eq_false_iff_not, decide_eq_true_eq]
    constructor
    · rintro ⟨h1, h2⟩ i hi ht
      by_cases e : i = k
      · subst e; rcases h2 with h2 | h2
        · exact absurd ht h2
        · exact h2
      · exact h1 i (by omega) ht
    · intro h1
      refine ⟨fun i hi => h1 i (by omega), ?_⟩
      by_cases ht : thr D bs.length (oT bs (2 ^ bs.length - 1)) j k ≤ M
      · exact .inr (h1 k (by omega) ht)
      · exact .inl ht
theorem en_iff (h : LOK bs) (hM : M < FAR) {j : Nat} (hj : j < bs.length) : enB D M May bs j 31 = true ↔ ∀ f, AllT D M bs f → f j ≤ May := by
  rw [enB_iff]
  constructor
  · intro h1 f hf
    have hl := hf.seq.le j hj
    exact h1 (f j) (by omega) ((thr_tru h hj hM hl).2 ⟨f, rfl, hf⟩)
  · intro h1 i hi ht
    obtain ⟨f, rfl, hf⟩ := (thr_tru h hj hM (by omega)).1 ht
    exact h1 f hf
theorem ref_more (h : LOK bs) (hM : M < FAR) {j : Nat} (hj : j < bs.length) : (stL bs D May M (2 ^ bs.length - 1) j bs.length).all (fun s => decide (s.2.2.2.2 ≤ May)) = enB D M May bs j 31 := by
  rw [Bool.eq_iff_iff, en_iff h hM hj, List.all_eq_true]
  constructor
  · intro h1 f hf
    have := h1 _ ((mem_st h hM).2 ⟨f, hf, rfl⟩)
    rw [decide_eq_true_eq, sig_asked f rfl _ hj] at this
    exact this
  · intro h1 s hs
    obtain ⟨f, hf, rfl⟩ := (mem_st h hM).1 hs
    rw [decide_eq_true_eq, sig_asked f rfl _ hj]
    exact h1 f hf
theorem told_en (h : LOK bs) (hM : M < FAR) {j : Nat} (hj : j < bs.length) (he : ∃ f, AllT D M bs f) : toldS May (wrongS D M bs j) = 2 ↔ enB D M May bs j 31 = true := by rw [told_two h hM hj he, en_iff h hM hj]
theorem zero_cost {f : Nat → Nat} (hf : AllT D 0 bs f) {i : Nat} (hi : i < bs.length) : ownF (bG bs i) true (f i) = 0 := by
  rw [all_iff] at hf
  have := sumN_mem (f := fun k => ownF (bG bs k) true (f k)) _ hi
  omega
theorem zero_of {f : Nat → Nat} (hs : Seq D bs.length f) (h : ∀ i, i < bs.length → ownF (bG bs i) true (f i) = 0) : AllT D 0 bs f := by
  rw [all_iff]
  refine ⟨hs, ?_⟩
  have e : sumN (fun k => ownF (bG bs k) true (f k)) bs.length = sumN (fun _ => 0) bs.length := sumN_congr _ h
  have z : ∀ n, sumN (fun _ => 0) n = 0 := fun n => by induction n with
    | zero => rfl
    | succ n ih => show sumN _ n + 0 = 0; rw [ih]
  rw [e, z]
  exact Nat.le_refl _
theorem ownF_zero {b : Nat × Nat × Nat} {w : Nat} : ownF b true w = 0 ↔ w ≤ b.1 ∧ costB b w = 0 := by
  unfold ownF
  by_cases h : b.1 < w
  · rw [if_pos h]; unfold FAR; omega
  · rw [if_neg h, if_pos rfl]; omega
/-- A bale of which all fleeces were looked at, and so many found. -/
theorem pin_iff {j n F K W : Nat} (hj : j < bs.length) (hb : bG bs j = (F, K, W)) (hn : n ≤ F) (hc : costB (F, K, W) n = 0) : (∃ f, AllT D 0 (bs.set j (F, F, n)) f) ↔ ∃ f, AllT D 0 bs f ∧ f j = n := by
  constructor
  · rintro ⟨f, hf⟩
    have hz := fun i hi => zero_cost hf (i := i) hi
    rw [List.length_set] at hz
    have hj0 := hz j hj
    rw [bG_set hj, if_pos rfl, ownF_zero] at hj0
    have hfj : f j = n := by
      have := hj0.2
      rw [cost_seen hj0.1] at this
      omega
    have hs := hf.seq
    rw [List.length_set] at hs
    refine ⟨f, zero_of hs fun i hi => ?_, hfj⟩
    by_cases e : i = j
    · subst e
      rw [hb, ownF_zero, hfj]
      exact ⟨hn, hc⟩
    · have := hz i hi
      rwa [bG_set hj, if_neg e] at this
  · rintro ⟨f, hf, hfj⟩
    refine ⟨f, zero_of (by rw [List.length_set]; exact hf.seq) fun i hi => ?_⟩
    rw [List.length_set] at hi
    rw [bG_set hj]
    by_cases e : i = j
    · subst e
      rw [if_pos rfl, ownF_zero, hfj]
      exact ⟨hn, by rw [cost_seen hn]; omega⟩
    · rw [if_neg e]; exact zero_cost hf hi
/-- A truth has no more than so many wrong, if no look may be mistaken. -/
theorem zero_pin {j n F K W : Nat} {f : Nat → Nat} (hj : j < bs.length) (hb : bG bs j = (F, K, W)) (hf : AllT D 0 bs f) (hfj : f j = n) : n ≤ F ∧ costB (F, K, W) n = 0 := by
  have := zero_cost hf hj
  rw [hb, hfj, ownF_zero] at this
  exact this
/-- All were looked at rightly. -/
theorem seen_zero {f : Nat → Nat} (hs : Seq D bs.length f) (h : ∀ i, i < bs.length → f i ≤ (bG bs i).1 ∧ (bG bs i).2.1 = (bG bs i).1 ∧ (bG bs i).2.2 = f i) : AllT D 0 bs f := zero_of hs fun i hi => by
  obtain ⟨h1, h2, h3⟩ := h i hi
  rw [ownF_zero]
  refine ⟨h1, ?_⟩
  have e : bG bs i = ((bG bs i).1, (bG bs i).1, f i) := Prod.ext rfl (Prod.ext h2 h3)
  rw [e, cost_seen h1]; omega
end
end Go.Cl
/- classer, plain: looks that clash. -/
namespace Go.Proofs.Ytgdhdikeicgndaa
open Go Go.RowKit Go.Sh Go.Pv Go.Cl
section
variable {D M : Nat} {bs : List (Nat × Nat × Nat)}
/-- Do the looks at the bales of a set clash? -/
def clP (D M : Nat) (bs : List (Nat × Nat × Nat)) (x : Nat) : Bool := decide (M < mist D bs x)
def clS (D M : Nat) (bs : List (Nat × Nat × Nat)) : Nat := firstF (clP D M bs) (setsL bs.length)
theorem cl_full (h : LOK bs) {x : Nat} (hx : clP D M bs x = true) : clP D M bs (2 ^ bs.length - 1) = true := by
  have h1 : M < mist D bs x := of_decide_eq_true hx
  have := mist_sub (D := D) h x
  exact decide_eq_true (by omega)
theorem cl_any (h : LOK bs) : (setsL bs.length).any (clP D M bs) = clP D M bs (2 ^ bs.length - 1) := by
  have hp := Nat.two_pow_pos bs.length
  rw [Bool.eq_iff_iff, any_sets h.n6]
  exact ⟨fun ⟨x, _, hx⟩ => cl_full h hx, fun hx => ⟨_, by omega, hx⟩⟩
theorem mist_none (h : LOK bs) : mist D bs 0 = 0 := by
  refine Nat.le_antisymm ((mist_le h (by decide)).2 ⟨fun _ => 0, ⟨⟨fun _ _ => Nat.zero_le _, fun _ _ => ⟨by omega, by omega⟩⟩, ?_⟩⟩) (Nat.zero_le _)
  have e : sumN (fun k => oT bs 0 k 0) bs.length = sumN (fun _ => 0) bs.length := sumN_congr _ fun i hi => by
    unfold oT ownF
    rw [if_neg (by omega), Nat.zero_testBit, if_neg (by decide)]
  have z : ∀ n, sumN (fun _ => 0) n = 0 := fun n => by induction n with
    | zero => rfl
    | succ n ih => show sumN _ n + 0 = 0; rw [ih]
  rw [e, z]
  exact Nat.le_refl _
theorem cl_least (h : LOK bs) (hf : clP D M bs (2 ^ bs.length - 1) = true) : 0 < clS D M bs ∧ clS D M bs < 2 ^ bs.length ∧ clP D M bs (clS D M bs) = true ∧ (∀ i, (clS D M bs).testBit i = true → clP D M bs (diffN (clS D M bs) (2 ^ i)) = false) ∧
    ∀ y, y < 2 ^ bs.length → clP D M bs y = true → popc (clS D M bs) < popc y ∨ (popc (clS D M bs) = popc y ∧ clS D M bs ≤ y) := by
  have hp := Nat.two_pow_pos bs.length
  have h6 := pow64 h.n6
  obtain ⟨g1, g2, g3⟩ := first_least (p := clP D M bs) h.n6 ((any_sets h.n6).2 ⟨_, by omega, hf⟩)
  rw [show firstF (clP D M bs) (setsL bs.length) = clS D M bs from rfl] at g1 g2 g3
  refine ⟨?_, g1, g2, fun i hi => ?_, g3⟩
  · rcases Nat.eq_zero_or_pos (clS D M bs) with e | e
    · rw [e] at g2
      have : M < mist D bs 0 := of_decide_eq_true g2
      rw [mist_none h] at this
      omega
    · exact e
  · have hle := diffN_le (clS D M bs) (2 ^ i)
    have hd := popc_del (x := clS D M bs) (by omega) hi
    cases hc : clP D M bs (diffN (clS D M bs) (2 ^ i)) with
    | false => rfl
    | true => have := g3 _ (by omega) hc; omega
theorem cl_min (h : LOK bs) (hf : clP D M bs (2 ^ bs.length - 1) = true) : clS D M bs = minF (clP D M bs) bs.length (2 ^ bs.length) := by
  rw [min_first h.n6 hf]; rfl
/-- Bales at which was not looked cost nothing. -/
def blank (bs : List (Nat × Nat × Nat)) (x : Nat) : Nat → List (Nat × Nat × Nat)
  | 0 => bs
  | k + 1 => if x.testBit k = true then blank bs x k else (blank bs x k).set k ((bG bs k).1, 0, 0)
theorem blank_len (x : Nat) : ∀ k, (blank bs x k).length = bs.length
  | 0 => rfl
  | k + 1 => by unfold blank; split <;> simp [blank_len x k]
theorem blank_at (x : Nat) : ∀ k i, k ≤ bs.length → i < bs.length → bG (blank bs x k) i = if i < k ∧ x.testBit i = false then ((bG bs i).1, 0, 0) else bG bs i
  | 0, i, _, _ => by rw [if_neg (by omega)]; rfl
  | k + 1, i, hk, hi => by
    have ih := blank_at x k i (by omega) hi
    have hl := blank_len (bs := bs) x k
    unfold blank
    by_cases hx : x.testBit k = true
    · rw [if_pos hx, ih]
      by_cases e : i = k
      · subst e
        rw [if_neg (by omega), if_neg (by rw [hx]; simp)]
      · by_cases h1 : i < k ∧ x.testBit i = false
        · rw [if_pos h1, if_pos ⟨by omega, h1.2⟩]
        · rw [if_neg h1, if_neg (fun h2 => h1 ⟨by omega, h2.2⟩)]
    · rw [if_neg hx, bG_set (by omega)]
      have hx : x.testBit k = false := by simpa using hx
      by_cases e : i = k
      · subst e
        rw [if_pos rfl, if_pos ⟨by omega, hx⟩]
      · rw [if_neg e, ih]
        by_cases h1 : i < k ∧ x.testBit i = false
        · rw [if_pos h1, if_pos ⟨by omega, h1.2⟩]
        · rw [if_neg h1, if_neg (fun h2 => h1 ⟨by omega, h2.2⟩)]
theorem blank_ok (h : LOK bs) (x : Nat) : LOK (blank bs x bs.length) := by
  have hl := blank_len (bs := bs) x bs.length
  refine ⟨by rw [hl]; exact h.n1, by rw [hl]; exact h.n6, fun i hi => ?_⟩
  rw [hl] at hi
  have hb := h.ba i hi
  rw [blank_at x _ i (Nat.le_refl _) hi]
  split
  · dsimp only; omega
  · exact hb
theorem mist_blank (h : LOK bs) (x : Nat) : mist D (blank bs x bs.length) (2 ^ (blank bs x bs.length).length - 1) = mist D bs x := by
  have hl := blank_len (bs := bs) x bs.length
  refine mist_same h (blank_ok h x) hl fun i w hi hw => ?_
  rw [oT_all (by omega), blank_at x _ i (Nat.le_refl _) hi]
  unfold oT
  cases hx : x.testBit i with
  | true => rw [if_neg (by simp)]
  | false =>
    rw [if_pos ⟨hi, rfl⟩]
    unfold ownF
    dsimp only
    by_cases hF : (bG bs i).1 < w
    · rw [if_pos hF, if_pos hF]
    · rw [if_neg hF, if_neg hF, if_pos rfl, if_neg (by decide), cost_none (by omega)]
end
end Go.Proofs.Ytgdhdikeicgndaa
/- classer, plain: what is told of the bales one by one (law Keeps). -/
namespace Go.Proofs.Ytgdhdikeicgndaa
open Go Go.RowKit Go.Sh Go.Pv Go.Cl
section
variable (D M May : Nat) (bs : List (Nat × Nat × Nat))
abbrev toldN (i : Nat) : Nat := toldS May (wrongS D M bs i)
/-- The first bale that never keeps the line, or -1. -/
def fstI : Nat → Int
  | 0 => -1
  | i + 1 => if toldN D M May bs i = 0 ∧ fstI i < 0 then (i : Int) else fstI i
def alwB : Nat → Bool
  | 0 => true
  | i + 1 => alwB i && decide (toldN D M May bs i = 2)
def lowN (i : Nat) : Nat := sumN (fun k => (wrongS D M bs k).1) i
def highN (i : Nat) : Nat := sumN (fun k => (wrongS D M bs k).2) i
end
section
variable {D M May : Nat} {bs : List (Nat × Nat × Nat)}
theorem fstI_lt : ∀ k, fstI D M May bs k < k
  | 0 => by show (-1 : Int) < 0; decide
  | k + 1 => by
    have ih := fstI_lt k
    unfold fstI
    split <;> omega
theorem fstI_neg : ∀ k, fstI D M May bs k < 0 → ∀ i, i < k → toldN D M May bs i ≠ 0
  | 0, _, i, hi => by omega
  | k + 1, h, i, hi => by
    unfold fstI at h
    by_cases hc : toldN D M May bs k = 0 ∧ fstI D M May bs k < 0
    · rw [if_pos hc] at h; omega
    · rw [if_neg hc] at h
      by_cases e : i = k
      · subst e; exact fun h0 => hc ⟨h0, h⟩
      · exact fstI_neg k h i (by omega)
theorem fstI_pos : ∀ k, 0 ≤ fstI D M May bs k → ∃ j : Nat, fstI D M May bs k = j ∧ j < k ∧ toldN D M May bs j = 0 ∧ ∀ i, i < j → toldN D M May bs i ≠ 0
  | 0, h => absurd h (by show ¬ (0 : Int) ≤ -1; decide)
  | k + 1, h => by
    unfold fstI at h ⊢
    by_cases hc : toldN D M May bs k = 0 ∧ fstI D M May bs k < 0
    · rw [if_pos hc]
      exact ⟨k, rfl, by omega, hc.1, fun i hi => fstI_neg k hc.2 i hi⟩
    · rw [if_neg hc] at h ⊢
      obtain ⟨j, h1, h2, h3, h4⟩ := fstI_pos k h
      exact ⟨j, h1, by omega, h3, h4⟩
theorem alwB_iff : ∀ k, alwB D M May bs k = true ↔ ∀ i, i < k → toldN D M May bs i = 2
  | 0 => ⟨fun _ i hi => by omega, fun _ => rfl⟩
  | k + 1 => by
    unfold alwB
    rw [Bool.and_eq_true, alwB_iff k, decide_eq_true_eq]
    constructor
    · rintro ⟨h1, h2⟩ i hi
      by_cases e : i = k
      · subst e; exact h2
      · exact h1 i (by omega)
    · exact fun h => ⟨fun i hi => h i (by omega), h k (by omega)⟩
theorem any_nev (n : Nat) : (List.range n).any (nevB D M May bs) = decide (0 ≤ fstI D M May bs n) := by
  rw [Bool.eq_iff_iff, decide_eq_true_eq, List.any_eq_true]
  constructor
  · rintro ⟨i, hi, h⟩
    refine Classical.byContradiction fun hn => ?_
    exact fstI_neg n (by omega) i (List.mem_range.1 hi) (of_decide_eq_true h)
  · intro h
    obtain ⟨j, _, h2, h3, _⟩ := fstI_pos n h
    exact ⟨j, List.mem_range.2 h2, decide_eq_true h3⟩
theorem first_nev (n : Nat) (h : 0 ≤ fstI D M May bs n) : ((firstF (nevB D M May bs) (List.range n) : Nat) : Int) = fstI D M May bs n := by
  have ha : (List.range n).any (nevB D M May bs) = true := by rw [any_nev]; exact decide_eq_true h
  obtain ⟨j, h1, h2, h3, h4⟩ := fstI_pos n h
  obtain ⟨i, hi, hidx, hfi⟩ := idx_lt ha
  have hp : idxF (nevB D M May bs) (List.range n) = j := by
    refine findIdx_of (p := nevB D M May bs) (l := List.range n) (i := j) (by rw [List.length_range]; exact h2) (fun k hk => ?_) ?_
    · rw [List.getD_eq_getElem?_getD, List.getElem?_range (by omega)]
      exact decide_eq_false (h4 k hk)
    · rw [List.getD_eq_getElem?_getD, List.getElem?_range h2]
      exact decide_eq_true h3
  have hij : i = j := by rw [hidx] at hp; omega
  subst hij
  rw [← hfi, h1, List.getD_eq_getElem?_getD, List.getElem?_range h2]
  rfl
theorem line_alw : decide (lineS D M May bs = 2) = alwB D M May bs bs.length := by
  rw [Bool.eq_iff_iff, decide_eq_true_eq, alwB_iff]
  unfold lineS
  rw [← worst_two]
  constructor
  · intro h
    split at h
    · assumption
    · split at h <;> omega
  · intro h; rw [if_pos h]
theorem line_fst (h : LOK bs) (hM : M < FAR) (he : ∃ f, AllT D M bs f) (hf : 0 ≤ fstI D M May bs bs.length) : lineS D M May bs = 0 := by
  obtain ⟨j, _, h2, h3, _⟩ := fstI_pos _ hf
  rw [line_zero h hM he]
  exact fun f hft => ⟨j, h2, (told_zero h hM h2 he).1 h3 f hft⟩
theorem sum_mono {f g : Nat → Nat} : ∀ n, (∀ k, k < n → f k ≤ g k) → sumN f n ≤ sumN g n
  | 0, _ => Nat.le_refl _
  | n + 1, h => by
    have h1 := sum_mono n fun k hk => h k (by omega)
    have h2 := h n (by omega)
    show sumN f n + f n ≤ sumN g n + g n
    omega
theorem all_sums (h : LOK bs) (hM : M < FAR) (he : ∃ f, AllT D M bs f) : ((lowN D M bs bs.length : Nat) : Int) ≤ (allS D M bs).1 ∧ (allS D M bs).2 ≤ ((highN D M bs bs.length : Nat) : Int) ∧ (allS D M bs).1 ≤ (allS D M bs).2 := by
  obtain ⟨a, b, e, ⟨f, hf, hfa⟩, ⟨g, hg, hgb⟩, hall⟩ := all_mem h he
  rw [e]
  dsimp only
  have h1 : lowN D M bs bs.length ≤ a := by rw [← hfa]; exact sum_mono _ fun k hk => (wrong_in h hM hk hf).1
  have h2 : b ≤ highN D M bs bs.length := by rw [← hgb]; exact sum_mono _ fun k hk => (wrong_in h hM hk hg).2
  have h3 := hall f hf
  omega
theorem wrong_ends (h : LOK bs) (hM : M < FAR) {n : Nat} (hn : n < bs.length) (he : ∃ f, AllT D M bs f) : (wrongS D M bs n).1 ≤ (wrongS D M bs n).2 ∧ (wrongS D M bs n).2 ≤ (bG bs n).1 := by
  obtain ⟨⟨f, h1, hf⟩, ⟨g, h2, hg⟩⟩ := wrong_mem h hM hn he
  have h3 := wrong_in h hM hn hf
  have h4 := hg.le hM hn
  omega
theorem told_cases {s : Nat × Nat} (hs : s.1 ≤ s.2) : (toldS May s = 2 ↔ s.2 ≤ May) ∧ (toldS May s = 0 ↔ May < s.1) := by
  unfold toldS
  split
  · omega
  · split <;> omega
theorem sums_le (h : LOK bs) (hM : M < FAR) (he : ∃ f, AllT D M bs f) : ∀ n, n ≤ bs.length → lowN D M bs n ≤ 30 * n ∧ highN D M bs n ≤ 30 * n
  | 0, _ => ⟨Nat.le_refl _, Nat.le_refl _⟩
  | n + 1, hn => by
    obtain ⟨h1, h2⟩ := sums_le h hM he n (by omega)
    have h3 := wrong_ends h hM (show n < bs.length by omega) he
    have h4 := (h.bd n).1
    have e1 : lowN D M bs (n + 1) = lowN D M bs n + (wrongS D M bs n).1 := rfl
    have e2 : highN D M bs (n + 1) = highN D M bs n + (wrongS D M bs n).2 := rfl
    omega
end
end Go.Proofs.Ytgdhdikeicgndaa
