/- tally, plain: what shearers have shorn together. -/
import Derived.Test.YtejbglbiefpagaaTxF
set_option linter.all false
namespace Go.Proofs.Ytejbglbiefpagaa
open Go Go.RowKit Go.Sh Go.Pv
theorem sum_le {f g : Nat → Int} {i : Nat} : ∀ {j}, i ≤ j → (∀ k, i ≤ k → k < j → f k ≤ g k) → sumT f j - sumT f i ≤ sumT g j - sumT g i
  | 0, hij, _ => by obtain rfl : i = 0 := by omega
                    omega
  | j + 1, hij, h => by
    by_cases e : i = j + 1
    · subst e; omega
    · have ih := sum_le (f := f) (g := g) (i := i) (j := j) (by omega) fun k h1 h2 => h k h1 (by omega)
      have := h j (by omega) (by omega)
      rw [sum_step, sum_step]; omega
theorem sum_congr {f g : Nat → Int} : ∀ {j}, (∀ k, k < j → f k = g k) → sumT f j = sumT g j
  | 0, _ => rfl
  | j + 1, h => by rw [sum_step, sum_step, sum_congr fun k hk => h k (by omega), h j (by omega)]
section
variable {N : Nat} {most : Int} {strays : List (Int × Int)} {calls : List (Int × Int × Int × Int)}
structure SumP (N : Nat) (most : Int) (strays : List (Int × Int)) (calls : List (Int × Int × Int × Int)) (A : Nat → Int × Int) (T : Nat → Nat → Int × Int) : Prop where
  one : ∀ i : Nat, i < N → FunOK Try.prog 14 [tyR N most strays calls, .one (iP i)] (.tup [.agg [iP (A i).1, iP (A i).2], .one (iP 0)])
  bd : ∀ i, 0 ≤ (A i).1 ∧ (A i).1 ≤ 60 ∧ 0 ≤ (A i).2 ∧ (A i).2 ≤ 60
  tog : ∀ i j : Nat, i ≤ j → j < N → FunOK Try.prog 20 [tyR N most strays calls, .one (iP i), .one (iP j)] (.tup [.agg [iP (T i j).1, iP (T i j).2], .one (iP 0)])
  tb : ∀ i j : Nat, i ≤ j → j < N → 0 ≤ (T i j).1 ∧ (T i j).1 ≤ (T i j).2 ∧ (T i j).2 ≤ 300
  all : ∀ i j : Nat, i ≤ j → j < N → sumT (fun k => (A k).1) (j + 1) - sumT (fun k => (A k).1) i ≤ (T i j).1 ∧ (T i j).2 ≤ sumT (fun k => (A k).2) (j + 1) - sumT (fun k => (A k).2) i
  half : ∀ i m j : Nat, i ≤ m → m < j → j < N → (T i m).1 + (T (m + 1) j).1 ≤ (T i j).1 ∧ (T i j).2 ≤ (T i m).2 + (T (m + 1) j).2 ∧ (T i m).2 + (T (m + 1) j).1 ≤ (T i j).2 ∧ (T i j).1 ≤ (T i m).1 + (T (m + 1) j).2
theorem sumP (h : TOK N most strays calls) (hf : Whole N most strays calls) : ∃ A T, SumP N most strays calls A T := by
  have h1 : ∀ i : Nat, ∃ r : Int × Int, (i < N → FunOK Try.prog 14 [tyR N most strays calls, .one (iP i)] (.tup [.agg [iP r.1, iP r.2], .one (iP 0)]) ∧ Spans N most strays calls (fun x _ => x i) r) ∧ (¬ i < N → r = (0, 0)) := fun i => by
    by_cases hi : i < N
    · obtain ⟨r, h1, h2⟩ := c_Shorn h hf hi
      exact ⟨r, fun _ => ⟨h1, h2⟩, fun hn => absurd hi hn⟩
    · exact ⟨(0, 0), fun hn => absurd hn hi, fun _ => rfl⟩
  have h2 : ∀ i j : Nat, ∃ r : Int × Int, i ≤ j → j < N → FunOK Try.prog 20 [tyR N most strays calls, .one (iP i), .one (iP j)] (.tup [.agg [iP r.1, iP r.2], .one (iP 0)]) ∧ Spans N most strays calls (fun x _ => sumT x (j + 1) - sumT x i) r := fun i j => by
    by_cases hi : i ≤ j ∧ j < N
    · obtain ⟨r, h1, h2⟩ := c_Together h hf hi.1 hi.2
      exact ⟨r, fun _ _ => ⟨h1, h2⟩⟩
    · exact ⟨(0, 0), fun ha hb => absurd ⟨ha, hb⟩ hi⟩
  let A := fun i => Classical.choose (h1 i)
  let T := fun i j => Classical.choose (h2 i j)
  have hA : ∀ i, (i < N → FunOK Try.prog 14 [tyR N most strays calls, .one (iP i)] (.tup [.agg [iP (A i).1, iP (A i).2], .one (iP 0)]) ∧ Spans N most strays calls (fun x _ => x i) (A i)) ∧ (¬ i < N → A i = (0, 0)) := fun i => Classical.choose_spec (h1 i)
  have hT : ∀ i j : Nat, i ≤ j → j < N → FunOK Try.prog 20 [tyR N most strays calls, .one (iP i), .one (iP j)] (.tup [.agg [iP (T i j).1, iP (T i j).2], .one (iP 0)]) ∧ Spans N most strays calls (fun x _ => sumT x (j + 1) - sumT x i) (T i j) := fun i j => Classical.choose_spec (h2 i j)
  generalize A = A at hA
  generalize T = T at hT
  have hsh : ∀ {x y : Nat → Int}, IsT N most strays calls (2 ^ calls.length - 1) x y → ∀ k, k < N → 0 ≤ x k ∧ x k ≤ 60 := fun t k hk => ⟨(t.sh k hk).1, Int.le_trans (t.sh k hk).2 h.m60⟩
  have n5 := h.n5
  refine ⟨A, T, fun i hi => ((hA i).1 hi).1, fun i => ?_, fun i j hij hj => (hT i j hij hj).1, fun i j hij hj => ?_, fun i j hij hj => ?_, fun i m j him hmj hj => ?_⟩
  · by_cases hi : i < N
    · have hs := ((hA i).1 hi).2
      obtain ⟨x, y, t, e⟩ := spans_lo hf hs
      obtain ⟨x2, y2, t2, e2⟩ := spans_hi hf hs
      have := hsh t i hi
      have := hsh t2 i hi
      omega
    · rw [(hA i).2 hi]; decide
  · have hs := (hT i j hij hj).2
    have hle := spans_le hf hs
    obtain ⟨x, y, t, e⟩ := spans_lo hf hs
    obtain ⟨x2, y2, t2, e2⟩ := spans_hi hf hs
    have m1 := sum_mono (n := N) (x := x) (fun k hk => (hsh t k hk).1) i (j + 1) (by omega) (by omega)
    have m2 := sum_bd (n := N) (most := 60) (x := x2) (hsh t2)
    have m3 := sum_mono (n := N) (x := x2) (fun k hk => (hsh t2 k hk).1)
    have m4 := m3 (j + 1) N (by omega) (Nat.le_refl _)
    have m5 := m3 0 i (by omega) (by omega)
    have z : sumT x2 0 = 0 := rfl
    omega
  · have hs := (hT i j hij hj).2
    obtain ⟨x, y, t, e⟩ := spans_lo hf hs
    obtain ⟨x2, y2, t2, e2⟩ := spans_hi hf hs
    have m1 := sum_le (f := fun k => (A k).1) (g := x) (i := i) (j := j + 1) (by omega) fun k h1 h2 => (spans_in ((hA k).1 (by omega)).2 t).1
    have m2 := sum_le (f := x2) (g := fun k => (A k).2) (i := i) (j := j + 1) (by omega) fun k h1 h2 => (spans_in ((hA k).1 (by omega)).2 t2).2
    omega
  · have hs := (hT i j (by omega) hj).2
    have ha := (hT i m him (by omega)).2
    have hb := (hT (m + 1) j (by omega) hj).2
    obtain ⟨x, y, t, e⟩ := spans_lo hf hs
    obtain ⟨x2, y2, t2, e2⟩ := spans_hi hf hs
    obtain ⟨x3, y3, t3, e3⟩ := spans_hi hf ha
    obtain ⟨x4, y4, t4, e4⟩ := spans_lo hf ha
    have a1 := spans_in ha t
    have b1 := spans_in hb t
    have a2 := spans_in ha t2
    have b2 := spans_in hb t2
    have b3 := spans_in hb t3
    have s3 := spans_in hs t3
    have b4 := spans_in hb t4
    have s4 := spans_in hs t4
    omega
/-- Without strays, and with calls at portholes alone. -/
structure PortP (N : Nat) (most : Int) (strays : List (Int × Int)) (calls : List (Int × Int × Int × Int)) (A : Nat → Int × Int) : Prop where
  one : ∀ i : Nat, i < N → FunOK Try.prog 14 [tyR N most strays calls, .one (iP i)] (.tup [.agg [iP (A i).1, iP (A i).2], .one (iP 0)])
  pen : ∀ i : Nat, i < N → FunOK Try.prog 16 [tyR N most strays calls, .one (iP i)] (.tup [.agg [iP (A i).1, iP (A i).2], .one (iP 0)])
  bd : ∀ i, 0 ≤ (A i).1 ∧ (A i).1 ≤ 60 ∧ 0 ≤ (A i).2 ∧ (A i).2 ≤ 60
  tog : FunOK Try.prog 20 [tyR N most strays calls, .one (iP 0), .one (iP ((N : Int) - 1))] (.tup [.agg [iP (sumT (fun k => (A k).1) N), iP (sumT (fun k => (A k).2) N)], .one (iP 0)])
theorem portP (h : TOK N most strays calls) (hf : Whole N most strays calls) (hz : ∀ i, i < strays.length → strays.getD i (0, 0) = (0, 0)) (hp : ∀ c, c ∈ calls → c.1 = 0) : ∃ A, PortP N most strays calls A := by
  have n1 := h.n1
  have hy : ∀ {x y : Nat → Int}, IsT N most strays calls (2 ^ calls.length - 1) x y → ∀ i, i + 1 < N → y i = 0 := fun t i hi => by
    have := h.sl
    have h1 := t.st i (by omega)
    rw [hz i (by omega)] at h1
    dsimp only at h1
    omega
  have hpen : ∀ {x y : Nat → Int}, (∀ i, i + 1 < N → y i = 0) → ∀ i, i < N → penT N x y i = x i := fun {x y} hy i hi => by
    unfold penT
    split <;> split
    · omega
    · rw [hy i (by omega)]; omega
    · rw [hy (i - 1) (by omega)]; omega
    · rw [hy i (by omega), hy (i - 1) (by omega)]; omega
  have h1 : ∀ i : Nat, ∃ r : Int × Int, (i < N → FunOK Try.prog 14 [tyR N most strays calls, .one (iP i)] (.tup [.agg [iP r.1, iP r.2], .one (iP 0)]) ∧ Spans N most strays calls (fun x _ => x i) r) ∧ (¬ i < N → r = (0, 0)) := fun i => by
    by_cases hi : i < N
    · obtain ⟨r, h1, h2⟩ := c_Shorn h hf hi
      exact ⟨r, fun _ => ⟨h1, h2⟩, fun hn => absurd hi hn⟩
    · exact ⟨(0, 0), fun hn => absurd hn hi, fun _ => rfl⟩
  let A := fun i => Classical.choose (h1 i)
  have hA : ∀ i, (i < N → FunOK Try.prog 14 [tyR N most strays calls, .one (iP i)] (.tup [.agg [iP (A i).1, iP (A i).2], .one (iP 0)]) ∧ Spans N most strays calls (fun x _ => x i) (A i)) ∧ (¬ i < N → A i = (0, 0)) := fun i => Classical.choose_spec (h1 i)
  generalize A = A at hA
  have hsh : ∀ {x y : Nat → Int}, IsT N most strays calls (2 ^ calls.length - 1) x y → ∀ k, k < N → 0 ≤ x k ∧ x k ≤ 60 := fun t k hk => ⟨(t.sh k hk).1, Int.le_trans (t.sh k hk).2 h.m60⟩
  -- truths of which each has shorn what it can
  have hmix : ∀ X : Nat → Int, (∀ i, i < N → ∃ x y, IsT N most strays calls (2 ^ calls.length - 1) x y ∧ x i = X i) → IsT N most strays calls (2 ^ calls.length - 1) X (fun _ => 0) := fun X hX => by
    refine isT_all.2 ⟨⟨fun i hi => ?_, fun i hi => ?_, fun i hi => ?_⟩, fun c hc => ?_⟩
    · obtain ⟨x, y, t, e⟩ := hX i hi
      rw [← e]; exact t.sh i hi
    · rw [hz i hi]; decide
    · rw [hpen (fun _ _ => rfl) i hi]
      obtain ⟨x, y, t, e⟩ := hX i hi
      rw [← e]; exact (t.sh i hi).1
    · obtain ⟨i, hi, e⟩ := getD_of_mem (d := (0, 0, 0, 0)) hc
      have hcc := call_of (h.ca i hi)
      rw [e] at hcc
      have hk := hp c hc
      have hat : c.2.1.toNat < N := by omega
      obtain ⟨x, y, t, e2⟩ := hX c.2.1.toNat hat
      have := (isT_all.1 t).2 c hc
      unfold inC cntT at this ⊢
      rw [if_pos hk] at this ⊢
      rw [← e2]; exact this
  refine ⟨A, fun i hi => ((hA i).1 hi).1, fun i hi => ?_, fun i => ?_, ?_⟩
  · obtain ⟨r, hk, hs⟩ := c_Pen h hf hi
    have hs' : Spans N most strays calls (fun x _ => x i) r := fun d => by
      rw [hs d]
      constructor
      · rintro ⟨x, y, t, e⟩; exact ⟨x, y, t, by have := hpen (x := x) (hy t) i hi; dsimp only at e ⊢; omega⟩
      · rintro ⟨x, y, t, e⟩; exact ⟨x, y, t, by have := hpen (x := x) (hy t) i hi; dsimp only at e ⊢; omega⟩
    rw [spans_eq hf ((hA i).1 hi).2 hs']
    exact hk
  · by_cases hi : i < N
    · have hs := ((hA i).1 hi).2
      obtain ⟨x, y, t, e⟩ := spans_lo hf hs
      obtain ⟨x2, y2, t2, e2⟩ := spans_hi hf hs
      have := hsh t i hi
      have := hsh t2 i hi
      omega
    · rw [(hA i).2 hi]; decide
  · obtain ⟨r, hk, hs⟩ := c_Together h hf (i := 0) (j := N - 1) (by omega) (by omega)
    rw [show N - 1 + 1 = N by omega] at hs
    have hlo := hmix (fun k => (A k).1) fun i hi => spans_lo hf ((hA i).1 hi).2
    have hhi := hmix (fun k => (A k).2) fun i hi => spans_hi hf ((hA i).1 hi).2
    have i1 := spans_in hs hlo
    have i2 := spans_in hs hhi
    obtain ⟨x, y, t, e⟩ := spans_lo hf hs
    obtain ⟨x2, y2, t2, e2⟩ := spans_hi hf hs
    have m1 := sum_le (f := fun k => (A k).1) (g := x) (i := 0) (j := N) (by omega) fun k h1 h2 => (spans_in ((hA k).1 (by omega)).2 t).1
    have m2 := sum_le (f := x2) (g := fun k => (A k).2) (i := 0) (j := N) (by omega) fun k h1 h2 => (spans_in ((hA k).1 (by omega)).2 t2).2
    have z : ∀ x : Nat → Int, sumT x 0 = 0 := fun _ => rfl
    simp only [z] at i1 i2 m1 m2 e e2
    rw [show ((N - 1 : Nat) : Int) = (N : Int) - 1 by omega] at hk
    have e1 : r.1 = sumT (fun k => (A k).1) N := by omega
    have e2 : r.2 = sumT (fun k => (A k).2) N := by omega
    rw [e1, e2] at hk
    exact hk
end
end Go.Proofs.Ytejbglbiefpagaa
