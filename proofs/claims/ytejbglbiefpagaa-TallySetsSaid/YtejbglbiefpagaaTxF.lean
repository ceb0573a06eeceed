/- tally, plain: ends of spans, refusals, and a call more. -/
import Derived.Test.YtejbglbiefpagaaTxD
set_option linter.all false
namespace Go.Proofs.Ytejbglbiefpagaa
open Go Go.RowKit Go.Sh Go.Pv
section
variable {N : Nat} {most : Int} {strays : List (Int × Int)} {calls : List (Int × Int × Int × Int)}
theorem spans_le {g : (Nat → Int) → (Nat → Int) → Int} {r : Int × Int} (hf : Whole N most strays calls) (h : Spans N most strays calls g r) : r.1 ≤ r.2 := by
  obtain ⟨x, y, ht⟩ := hf
  have := (h (g x y)).2 ⟨x, y, ht, rfl⟩
  omega
theorem spans_in {g : (Nat → Int) → (Nat → Int) → Int} {r : Int × Int} (h : Spans N most strays calls g r) {x y : Nat → Int} (ht : IsT N most strays calls (2 ^ calls.length - 1) x y) : r.1 ≤ g x y ∧ g x y ≤ r.2 := (h _).2 ⟨x, y, ht, rfl⟩
theorem spans_lo {g : (Nat → Int) → (Nat → Int) → Int} {r : Int × Int} (hf : Whole N most strays calls) (h : Spans N most strays calls g r) : ∃ x y, IsT N most strays calls (2 ^ calls.length - 1) x y ∧ g x y = r.1 := (h _).1 ⟨Int.le_refl _, spans_le hf h⟩
theorem spans_hi {g : (Nat → Int) → (Nat → Int) → Int} {r : Int × Int} (hf : Whole N most strays calls) (h : Spans N most strays calls g r) : ∃ x y, IsT N most strays calls (2 ^ calls.length - 1) x y ∧ g x y = r.2 := (h _).1 ⟨spans_le hf h, Int.le_refl _⟩
theorem spans_eq {g : (Nat → Int) → (Nat → Int) → Int} {r r' : Int × Int} (hf : Whole N most strays calls) (h : Spans N most strays calls g r) (h' : Spans N most strays calls g r') : r = r' := by
  obtain ⟨x, y, ht, e⟩ := spans_lo hf h
  obtain ⟨x2, y2, ht2, e2⟩ := spans_hi hf h
  obtain ⟨x3, y3, ht3, e3⟩ := spans_lo hf h'
  obtain ⟨x4, y4, ht4, e4⟩ := spans_hi hf h'
  have a1 := spans_in h' ht
  have a2 := spans_in h' ht2
  have a3 := spans_in h ht3
  have a4 := spans_in h ht4
  exact Prod.ext (by omega) (by omega)
theorem sum_step (x : Nat → Int) (i : Nat) : sumT x (i + 1) = sumT x i + x i := rfl
theorem sum_mono {x : Nat → Int} {n : Nat} (hx : ∀ i, i < n → 0 ≤ x i) : ∀ i j, i ≤ j → j ≤ n → sumT x i ≤ sumT x j
  | i, j, hij, hj => by
    induction j with
    | zero => obtain rfl : i = 0 := by omega
              exact Int.le_refl _
    | succ j ih =>
      by_cases h : i = j + 1
      · rw [h]; exact Int.le_refl _
      · have := ih (by omega) (by omega)
        have := hx j (by omega)
        rw [sum_step]; omega
theorem pen_bd (h : TOK N most strays calls) {S : Nat} {x y : Nat → Int} (ht : IsT N most strays calls S x y) {i : Nat} (hi : i < N) : penT N x y i ≤ 66 := by
  have h1 := ht.sh i hi
  have hs : ∀ k, k < strays.length → -3 ≤ y k ∧ y k ≤ 3 := fun k hk => by
    have h2 := ht.st k hk
    have h3 := span_of (h.st k hk)
    omega
  have := h.sl
  have := h.m60
  unfold penT
  split <;> split
  · omega
  · have := hs i (by omega); omega
  · have := hs (i - 1) (by omega); omega
  · have := hs i (by omega); have := hs (i - 1) (by omega); omega
/-- What is refused. -/
theorem r_Shorn (h : TOK N most strays calls) {i : Int} (hi : inB i 0 ((N : Int) - 1) = false) : FunOK Try.prog 14 [tyR N most strays calls, .one (iP i)] (.tup [.agg [iP 0, iP 0], .one (iP 2)]) := by
  have hk := ok_Shorn (n := N) (most := most) (strays := strays) (calls := calls) (i := i)
  rw [hi, why2 h, ansR_ne (by decide)] at hk
  exact hk
theorem r_Pen (h : TOK N most strays calls) {i : Int} (hi : inB i 0 ((N : Int) - 1) = false) : FunOK Try.prog 16 [tyR N most strays calls, .one (iP i)] (.tup [.agg [iP 0, iP 0], .one (iP 2)]) := by
  have hk := ok_Pen (n := N) (most := most) (strays := strays) (calls := calls) (i := i)
  rw [hi, why2 h, ansR_ne (by decide)] at hk
  exact hk
theorem r_Stray (h : TOK N most strays calls) {i : Int} (hi : inB i 0 ((N : Int) - 2) = false) : FunOK Try.prog 18 [tyR N most strays calls, .one (iP i)] (.tup [.agg [iP 0, iP 0], .one (iP 2)]) := by
  have hk := ok_Stray (n := N) (most := most) (strays := strays) (calls := calls) (i := i)
  rw [hi, why2 h, ansR_ne (by decide)] at hk
  exact hk
theorem r_Together (h : TOK N most strays calls) {i j : Int} (hi : togB (N : Int) i j = false) : FunOK Try.prog 20 [tyR N most strays calls, .one (iP i), .one (iP j)] (.tup [.agg [iP 0, iP 0], .one (iP 2)]) := by
  have hk := ok_Together (n := N) (most := most) (strays := strays) (calls := calls) i j
  rw [hi, why2 h, ansR_ne (by decide)] at hk
  exact hk
theorem r_Fits (h : TOK N most strays calls) {c : Int × Int × Int × Int} (hc : isCallB (N : Int) c = false) : FunOK Try.prog 22 [tyR N most strays calls, .agg (row4 c)] (.tup [.one (iP 0), .one (iP 2)]) := by
  have hk := ok_Fits (n := N) (most := most) (strays := strays) (calls := calls) (c := c)
  rw [hc, why2 h, ansN_ne (by decide)] at hk
  exact hk
theorem v_Shorn {n : Int} (hv : validB n most strays calls = false) (i : Int) : FunOK Try.prog 14 [tyR n most strays calls, .one (iP i)] (.tup [.agg [iP 0, iP 0], .one (iP 1)]) := by
  have hk := ok_Shorn (n := n) (most := most) (strays := strays) (calls := calls) (i := i)
  rw [why1 hv, ansR_ne (by decide)] at hk
  exact hk
theorem v_Clash {n : Int} (hv : validB n most strays calls = false) : FunOK Try.prog 28 [tyR n most strays calls] (.tup [.one (iP 0), .one (iP 1)]) := by
  have hk := ok_Clash (n := n) (most := most) (strays := strays) (calls := calls)
  rw [show whyC n most strays calls = 1 by unfold whyC; rw [hv, if_pos rfl], ansN_ne (by decide)] at hk
  exact hk
theorem isT_snoc {c : Int × Int × Int × Int} {x y : Nat → Int} : IsT N most strays (calls ++ [c]) (2 ^ (calls ++ [c]).length - 1) x y ↔ IsT N most strays calls (2 ^ calls.length - 1) x y ∧ inC N x y c := by
  rw [isT_all, isT_all]
  constructor
  · rintro ⟨h1, h2⟩
    exact ⟨⟨h1, fun d hd => h2 d (List.mem_append_left _ hd)⟩, h2 c (by simp)⟩
  · rintro ⟨⟨h1, h2⟩, h3⟩
    refine ⟨h1, fun d hd => ?_⟩
    rcases List.mem_append.1 hd with hd | hd
    · exact h2 d hd
    · rw [List.mem_singleton.1 hd]; exact h3
theorem tok_snoc (h : TOK N most strays calls) {c : Int × Int × Int × Int} (hl : calls.length < 8) (hc : isCallB N c = true) : TOK N most strays (calls ++ [c]) :=
  tok_sub h (by rw [List.length_append]; simp; omega) fun d hd => by
    rcases List.mem_append.1 hd with hd | hd
    · obtain ⟨i, hi, rfl⟩ := getD_of_mem (d := (0, 0, 0, 0)) hd
      exact h.ca i hi
    · rw [List.mem_singleton.1 hd]; exact hc
/-- What is asked of a span of something that is called. -/
structure RowP (N : Nat) (most : Int) (strays : List (Int × Int)) (calls : List (Int × Int × Int × Int)) (k at_ lo hi : Int) : Prop where
  b1 : 0 ≤ lo
  b2 : lo ≤ hi
  b3 : hi ≤ 400
  fits : ∀ d, 0 ≤ d → d ≤ 300 → FunOK Try.prog 22 [tyR N most strays calls, .agg [iP k, iP at_, iP d, iP d]] (.tup [.one (iP (fitsV (k, at_, d, d) lo hi)), .one (iP 0)])
  ins : ∀ d, 0 ≤ d → d ≤ 300 → calls.length < 8 → lo ≤ d → d ≤ hi → FunOK Try.prog 28 [tyR N most strays (calls ++ [(k, at_, d, d)])] (.tup [.one (iP 0), .one (iP 4)])
  out : ∀ d, 0 ≤ d → d ≤ 300 → calls.length < 8 → (d < lo ∨ hi < d) → ∃ w : Nat, FunOK Try.prog 28 [tyR N most strays (calls ++ [(k, at_, d, d)])] (.tup [.one (iP w), .one (iP 0)])
theorem rowP (h : TOK N most strays calls) (hf : Whole N most strays calls) {k at_ : Int} {r : Int × Int} (hc : ∀ d : Int, 0 ≤ d → d ≤ 300 → isCallB N (k, at_, d, d) = true) (hs : Spans N most strays calls (fun x y => cntT N x y (k, at_, 0, 0)) r) (h1 : 0 ≤ r.1) (h3 : r.2 ≤ 400) : RowP N most strays calls k at_ r.1 r.2 := by
  have hcnt : ∀ x y (d : Int), cntT N x y (k, at_, d, d) = cntT N x y (k, at_, 0, 0) := fun x y d => rfl
  have hw : ∀ d : Int, Whole N most strays (calls ++ [(k, at_, d, d)]) ↔ r.1 ≤ d ∧ d ≤ r.2 := fun d => by
    rw [hs d]
    unfold Whole Feas
    constructor
    · rintro ⟨x, y, ht⟩
      obtain ⟨h1, h2⟩ := isT_snoc.1 ht
      unfold inC at h2
      rw [hcnt] at h2
      exact ⟨x, y, h1, by dsimp only at h2 ⊢; omega⟩
    · rintro ⟨x, y, h1, h2⟩
      refine ⟨x, y, isT_snoc.2 ⟨h1, ?_⟩⟩
      unfold inC
      rw [hcnt]
      dsimp only at h2 ⊢
      omega
  refine ⟨h1, spans_le hf hs, h3, fun d hd hd3 => ?_, fun d hd hd3 hl hlo hhi => ?_, fun d hd hd3 hl ho => ?_⟩
  · obtain ⟨r', hk, hs'⟩ := c_Fits h hf (hc d hd hd3)
    have hs'' : Spans N most strays calls (fun x y => cntT N x y (k, at_, 0, 0)) r' := fun e => by
      have := hs' e
      simp only [hcnt] at this
      exact this
    rw [spans_eq hf hs hs'']
    exact hk
  · exact x_Clash (tok_snoc h hl (hc d hd hd3)) ((hw d).2 ⟨hlo, hhi⟩)
  · obtain ⟨w, hk, _⟩ := c_Clash (tok_snoc h hl (hc d hd hd3)) (fun hn => by have := (hw d).1 hn; omega)
    exact ⟨w, hk⟩
end
end Go.Proofs.Ytejbglbiefpagaa
