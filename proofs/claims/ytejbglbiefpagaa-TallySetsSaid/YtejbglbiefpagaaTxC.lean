/- tally, plain: what is answered, by truths. -/
import Derived.Test.YtejbglbiefpagaaTxB
import Derived.Test.YtejbglbiefpagaaTvV
import Derived.Test.YtejbglbiefpagaaTvK
set_option linter.all false
namespace Go.Proofs.Ytejbglbiefpagaa
open Go Go.RowKit Go.Sh Go.Pv
set_option maxHeartbeats 1000000
section
variable (N : Nat) (most : Int) (strays : List (Int × Int)) (calls : List (Int × Int × Int × Int))
/-- There is a truth by the calls of a set; by all calls. -/
def Feas (S : Nat) : Prop := ∃ x y, IsT N most strays calls S x y
def Whole : Prop := Feas N most strays calls (2 ^ calls.length - 1)
/-- A span is of just the numbers of truths. -/
def Spans (g : (Nat → Int) → (Nat → Int) → Int) (r : Int × Int) : Prop := ∀ d, (r.1 ≤ d ∧ d ≤ r.2) ↔ ∃ x y, IsT N most strays calls (2 ^ calls.length - 1) x y ∧ g x y = d
end
section
variable {N : Nat} {most : Int} {strays : List (Int × Int)} {calls : List (Int × Int × Int × Int)}
theorem isT_mono {S T : Nat} (hst : ∀ i, i < calls.length → T.testBit i = true → S.testBit i = true) {x y : Nat → Int} (h : IsT N most strays calls S x y) : IsT N most strays calls T x y :=
  ⟨h.sh, h.st, h.pe, fun i hi hb => h.ca i hi (hst i hi hb)⟩
theorem feas_mono {S T : Nat} (hst : ∀ i, i < calls.length → T.testBit i = true → S.testBit i = true) (h : Feas N most strays calls S) : Feas N most strays calls T := by
  obtain ⟨x, y, h⟩ := h
  exact ⟨x, y, isT_mono hst h⟩
theorem can_F (h : TOK N most strays calls) (S : Nat) : canB (tabF N most strays calls S) 11 = true ↔ Feas N most strays calls S := can_T h S
theorem pW_F (h : TOK N most strays calls) (S : Nat) : pW N most strays calls S = true ↔ Feas N most strays calls (diffN (2 ^ calls.length - 1) S) := can_T h _
theorem pC_F (h : TOK N most strays calls) (S : Nat) : pC N most strays calls S = true ↔ ¬ Feas N most strays calls S := by
  unfold pC
  rw [← can_F h, Bool.not_eq_true', Bool.not_eq_true]
theorem why0 (h : TOK N most strays calls) (hf : Whole N most strays calls) : whyE N most strays calls true = 0 := by
  unfold whyE
  rw [tok_to h, if_neg (by decide), if_neg (by decide), Int.toNat_natCast, (can_F h _).2 hf, if_neg (by decide)]
theorem why10 (h : TOK N most strays calls) (hf : ¬ Whole N most strays calls) : whyE N most strays calls true = 10 := by
  have : canB (tabF N most strays calls (2 ^ calls.length - 1)) 11 = false := by
    rw [← Bool.not_eq_true]
    exact fun hc => hf ((can_F h _).1 hc)
  unfold whyE
  rw [tok_to h, if_neg (by decide), if_neg (by decide), Int.toNat_natCast, this, if_pos rfl]
theorem why2 (h : TOK N most strays calls) : whyE N most strays calls false = 2 := by
  unfold whyE
  rw [tok_to h, if_neg (by decide), if_pos rfl]
theorem why1 {n : Int} (hv : validB n most strays calls = false) (b : Bool) : whyE n most strays calls b = 1 := by
  unfold whyE
  rw [hv, if_pos rfl]
theorem inB_t {a b c : Int} (h1 : b ≤ a) (h2 : a ≤ c) : inB a b c = true := by simp [inB, h1, h2]
theorem ansR0 (r : Int × Int) : ansR 0 r = .tup [.agg [iP r.1, iP r.2], .one (iP 0)] := rfl
theorem ansR_ne {e : Int} (he : e ≠ 0) (r : Int × Int) : ansR e r = .tup [.agg [iP 0, iP 0], .one (iP e)] := by unfold ansR; rw [if_neg he, if_neg he]
theorem ansN_ne {e : Int} (he : e ≠ 0) (r : Int) : ansN e r = .tup [.one (iP 0), .one (iP e)] := by unfold ansN; rw [if_neg he]
section
variable (h : TOK N most strays calls) (hf : Whole N most strays calls)
include h hf
theorem c_Shorn {i : Nat} (hi : i < N) : ∃ r : Int × Int, FunOK Try.prog 14 [tyR N most strays calls, .one (iP i)] (.tup [.agg [iP r.1, iP r.2], .one (iP 0)]) ∧ Spans N most strays calls (fun x _ => x i) r := by
  have hk := ok_Shorn (n := N) (most := most) (strays := strays) (calls := calls) (i := (i : Int))
  rw [inB_t (by omega) (by omega), why0 h hf, ansR0] at hk
  refine ⟨_, hk, fun d => ?_⟩
  have := ends_shorn h ((can_F h _).2 hf) hi d
  simp only [shornS, tabE, Int.toNat_natCast]
  exact this
theorem c_Pen {i : Nat} (hi : i < N) : ∃ r : Int × Int, FunOK Try.prog 16 [tyR N most strays calls, .one (iP i)] (.tup [.agg [iP r.1, iP r.2], .one (iP 0)]) ∧ Spans N most strays calls (fun x y => penT N x y i) r := by
  have hk := ok_Pen (n := N) (most := most) (strays := strays) (calls := calls) (i := (i : Int))
  rw [inB_t (by omega) (by omega), why0 h hf, ansR0] at hk
  refine ⟨_, hk, fun d => ?_⟩
  have := ends_pen h ((can_F h _).2 hf) hi d
  simp only [penS, tabE, Int.toNat_natCast]
  exact this
theorem c_Stray {i : Nat} (hi : i + 1 < N) : ∃ r : Int × Int, FunOK Try.prog 18 [tyR N most strays calls, .one (iP i)] (.tup [.agg [iP r.1, iP r.2], .one (iP 0)]) ∧ Spans N most strays calls (fun _ y => y i) r := by
  have hk := ok_Stray (n := N) (most := most) (strays := strays) (calls := calls) (i := (i : Int))
  rw [inB_t (by omega) (by omega), why0 h hf, ansR0] at hk
  refine ⟨_, hk, fun d => ?_⟩
  have := ends_stray h ((can_F h _).2 hf) hi d
  simp only [strayS, tabE, Int.toNat_natCast]
  exact this
theorem c_Together {i j : Nat} (hij : i ≤ j) (hj : j < N) : ∃ r : Int × Int, FunOK Try.prog 20 [tyR N most strays calls, .one (iP i), .one (iP j)] (.tup [.agg [iP r.1, iP r.2], .one (iP 0)]) ∧ Spans N most strays calls (fun x _ => sumT x (j + 1) - sumT x i) r := by
  have hk := ok_Together (n := N) (most := most) (strays := strays) (calls := calls) (i : Int) (j : Int)
  rw [show togB N i j = true by unfold togB; rw [inB_t (by omega) (by omega), inB_t (by omega) (by omega)]; simpa using hij, why0 h hf, ansR0] at hk
  refine ⟨_, hk, fun d => ?_⟩
  have := ends_sum h ((can_F h _).2 hf) (i := i) (j := j + 1) (by omega) (by omega) d
  simp only [togS, tabE, Int.toNat_natCast]
  exact this
theorem c_Fits {c : Int × Int × Int × Int} (hc : isCallB N c = true) : ∃ r : Int × Int, FunOK Try.prog 22 [tyR N most strays calls, .agg (row4 c)] (.tup [.one (iP (fitsV c r.1 r.2)), .one (iP 0)]) ∧ Spans N most strays calls (fun x y => cntT N x y c) r := by
  have hk := ok_Fits (n := N) (most := most) (strays := strays) (calls := calls) (c := c)
  rw [hc, why0 h hf] at hk
  refine ⟨(-(tabE N most strays calls (cntZ N c) (cntA N c)), tabE N most strays calls (cntA N c) (cntZ N c)), hk, fun d => ?_⟩
  have := ends_cnt h ((can_F h _).2 hf) hc d
  simp only [tabE, Int.toNat_natCast]
  exact this
end
section
variable (h : TOK N most strays calls) (hf : ¬ Whole N most strays calls)
include h hf
theorem x_Shorn {i : Nat} (hi : i < N) : FunOK Try.prog 14 [tyR N most strays calls, .one (iP i)] (.tup [.agg [iP 0, iP 0], .one (iP 10)]) := by
  have hk := ok_Shorn (n := N) (most := most) (strays := strays) (calls := calls) (i := (i : Int))
  rw [inB_t (by omega) (by omega), why10 h hf, ansR_ne (by decide)] at hk
  exact hk
theorem x_Pen {i : Nat} (hi : i < N) : FunOK Try.prog 16 [tyR N most strays calls, .one (iP i)] (.tup [.agg [iP 0, iP 0], .one (iP 10)]) := by
  have hk := ok_Pen (n := N) (most := most) (strays := strays) (calls := calls) (i := (i : Int))
  rw [inB_t (by omega) (by omega), why10 h hf, ansR_ne (by decide)] at hk
  exact hk
theorem x_Stray {i : Nat} (hi : i + 1 < N) : FunOK Try.prog 18 [tyR N most strays calls, .one (iP i)] (.tup [.agg [iP 0, iP 0], .one (iP 10)]) := by
  have hk := ok_Stray (n := N) (most := most) (strays := strays) (calls := calls) (i := (i : Int))
  rw [inB_t (by omega) (by omega), why10 h hf, ansR_ne (by decide)] at hk
  exact hk
theorem x_Together {i j : Nat} (hij : i ≤ j) (hj : j < N) : FunOK Try.prog 20 [tyR N most strays calls, .one (iP i), .one (iP j)] (.tup [.agg [iP 0, iP 0], .one (iP 10)]) := by
  have hk := ok_Together (n := N) (most := most) (strays := strays) (calls := calls) (i : Int) (j : Int)
  rw [show togB N i j = true by unfold togB; rw [inB_t (by omega) (by omega), inB_t (by omega) (by omega)]; simpa using hij, why10 h hf, ansR_ne (by decide)] at hk
  exact hk
theorem x_Fits {c : Int × Int × Int × Int} (hc : isCallB N c = true) : FunOK Try.prog 22 [tyR N most strays calls, .agg (row4 c)] (.tup [.one (iP 0), .one (iP 10)]) := by
  have hk := ok_Fits (n := N) (most := most) (strays := strays) (calls := calls) (c := c)
  rw [hc, why10 h hf, ansN_ne (by decide)] at hk
  exact hk
end
theorem diff_every_bit (S i : Nat) : (diffN (2 ^ calls.length - 1) S).testBit i = (decide (i < calls.length) && !S.testBit i) := by rw [diffN_bit, every_bit]
theorem sus_bit {p : Nat → Bool} {w : Nat} {L : List Nat} (b : Nat) : ∀ i, i ≤ L.length → ((susA p w L i).testBit b = true ↔ ∃ k, k < i ∧ popc (L.getD k 0) = popc w ∧ p (L.getD k 0) = true ∧ (L.getD k 0).testBit b = true)
  | 0, _ => by simp [susA]
  | i + 1, hi => by
    have ih := sus_bit (p := p) (w := w) (L := L) b i (by omega)
    unfold susA
    split
    · rename_i h
      rw [Nat.testBit_or, Bool.or_eq_true, ih]
      constructor
      · rintro (⟨k, hk, h'⟩ | h')
        · exact ⟨k, by omega, h'⟩
        · exact ⟨i, by omega, h.1, h.2, h'⟩
      · rintro ⟨k, hk, h'⟩
        by_cases hki : k = i
        · subst hki; exact .inr h'.2.2
        · exact .inl ⟨k, by omega, h'⟩
    · rename_i h
      rw [ih]
      constructor
      · rintro ⟨k, hk, h'⟩; exact ⟨k, by omega, h'⟩
      · rintro ⟨k, hk, h'⟩
        by_cases hki : k = i
        · subst hki; exact absurd ⟨h'.1, h'.2.1⟩ h
        · exact ⟨k, by omega, h'⟩
/-- A set of the fewest calls without which there is a truth; the suspects. -/
structure Outs (N : Nat) (most : Int) (strays : List (Int × Int)) (calls : List (Int × Int × Int × Int)) (w s : Nat) : Prop where
  lt : w < 2 ^ calls.length
  ok : Feas N most strays calls (diffN (2 ^ calls.length - 1) w)
  least : ∀ x, x < 2 ^ calls.length → Feas N most strays calls (diffN (2 ^ calls.length - 1) x) → x = w ∨ ahead w x
  slt : s < 256
  sus : ∀ b, s.testBit b = true ↔ ∃ x, x < 2 ^ calls.length ∧ popc x = popc w ∧ Feas N most strays calls (diffN (2 ^ calls.length - 1) x) ∧ x.testBit b = true
theorem c_False (h : TOK N most strays calls) (hf : Feas N most strays calls 0) : ∃ w s : Nat, FunOK Try.prog 24 [tyR N most strays calls] (.tup [.one (iP (popc w)), .one (iP w), .one (iP 0)]) ∧ FunOK Try.prog 26 [tyR N most strays calls] (.tup [.one (iP s), .one (iP 0)]) ∧ Outs N most strays calls w s := by
  have h1 := ok_False (n := N) (most := most) (strays := strays) (calls := calls)
  have h2 := ok_Suspects (n := N) (most := most) (strays := strays) (calls := calls)
  have hidx : wIdx N most strays calls ≠ -1 := by
    unfold wIdx
    rw [Int.toNat_natCast]
    intro hi
    have := idxB_no.1 hi (2 ^ calls.length - 1) (mem_sets h.cl (by have := Nat.two_pow_pos calls.length; omega))
    rw [← Bool.not_eq_true, pW_F h] at this
    exact this (feas_mono (fun i hi hb => by rw [diff_every_bit, every_bit] at hb; simp [hi] at hb) hf)
  have hwhy : whyW N most strays calls = 0 := by
    unfold whyW
    rw [tok_to h, if_neg (by decide), if_neg hidx]
  rw [hwhy] at h1 h2
  refine ⟨wSet N most strays calls, susS N most strays calls, h1, h2, ?_⟩
  obtain ⟨i, hi⟩ : ∃ i : Nat, wIdx N most strays calls = i := ⟨(wIdx N most strays calls).toNat, by
    have := idxB_geq (pW (N : Int).toNat most strays calls) (setsL calls.length)
    have : wIdx N most strays calls ≥ -1 := this
    omega⟩
  have hi' : idxB (pW N most strays calls) (setsL calls.length) = i := by
    have := hi
    unfold wIdx at this
    rwa [Int.toNat_natCast] at this
  have hl := idx_least h.cl hi' (w := wSet N most strays calls) (by unfold wSet; rw [hi]; rfl)
  have hall : ∀ i, i < (setsL calls.length).length → (setsL calls.length).getD i 0 < 256 := fun i hi => sets_at h.cl hi
  refine ⟨hl.1, (pW_F h _).1 hl.2.1, fun x hx hfx => hl.2.2 x hx ((pW_F h _).2 hfx), susA_lt hall _ (Nat.le_refl _), fun b => ?_⟩
  unfold susS
  rw [sus_bit b _ (Nat.le_refl _), Int.toNat_natCast]
  constructor
  · rintro ⟨k, hk, hp, hw, hb⟩
    exact ⟨_, sets_lt (getD_mem hk), hp, (pW_F h _).1 hw, hb⟩
  · rintro ⟨x, hx, hp, hw, hb⟩
    obtain ⟨k, hk, rfl⟩ := List.getElem_of_mem (mem_sets h.cl hx)
    have hkd : (setsL calls.length)[k] = (setsL calls.length).getD k 0 := by rw [List.getD_eq_getElem?_getD, List.getElem?_eq_getElem hk]; rfl
    rw [hkd] at hp hw hb
    exact ⟨k, hk, hp, (pW_F h _).2 hw, hb⟩
theorem x_False (h : TOK N most strays calls) (hf : ¬ Feas N most strays calls 0) : FunOK Try.prog 24 [tyR N most strays calls] (.tup [.one (iP 0), .one (iP 0), .one (iP 10)]) ∧ FunOK Try.prog 26 [tyR N most strays calls] (.tup [.one (iP 0), .one (iP 10)]) := by
  have h1 := ok_False (n := N) (most := most) (strays := strays) (calls := calls)
  have h2 := ok_Suspects (n := N) (most := most) (strays := strays) (calls := calls)
  have hidx : wIdx N most strays calls = -1 := by
    unfold wIdx
    rw [Int.toNat_natCast]
    refine idxB_no.2 fun x hx => ?_
    rw [← Bool.not_eq_true, pW_F h]
    intro hx
    exact hf (feas_mono (fun i hi hb => by rw [Nat.zero_testBit] at hb; cases hb) hx)
  have hwhy : whyW N most strays calls = 10 := by
    unfold whyW
    rw [tok_to h, if_neg (by decide), if_pos hidx]
  rw [hwhy] at h1 h2
  rw [ansN_ne (by decide)] at h2
  unfold ansF at h1
  rw [if_neg (by decide), if_neg (by decide)] at h1
  exact ⟨h1, h2⟩
theorem c_Clash (h : TOK N most strays calls) (hf : ¬ Whole N most strays calls) : ∃ w : Nat, FunOK Try.prog 28 [tyR N most strays calls] (.tup [.one (iP w), .one (iP 0)]) ∧ w < 2 ^ calls.length ∧ ¬ Feas N most strays calls w ∧ ∀ x, x < 2 ^ calls.length → ¬ Feas N most strays calls x → x = w ∨ ahead w x := by
  have h1 := ok_Clash (n := N) (most := most) (strays := strays) (calls := calls)
  have hidx : cIdx N most strays calls ≠ -1 := by
    unfold cIdx
    rw [Int.toNat_natCast]
    intro hi
    have := idxB_no.1 hi (2 ^ calls.length - 1) (mem_sets h.cl (by have := Nat.two_pow_pos calls.length; omega))
    rw [← Bool.not_eq_true, pC_F h] at this
    exact this hf
  have hwhy : whyC N most strays calls = 0 := by
    unfold whyC
    rw [tok_to h, if_neg (by decide), if_neg hidx]
  rw [hwhy] at h1
  obtain ⟨i, hi⟩ : ∃ i : Nat, cIdx N most strays calls = i := ⟨(cIdx N most strays calls).toNat, by
    have := idxB_geq (pC (N : Int).toNat most strays calls) (setsL calls.length)
    have : cIdx N most strays calls ≥ -1 := this
    omega⟩
  have hi' : idxB (pC N most strays calls) (setsL calls.length) = i := by
    have := hi
    unfold cIdx at this
    rwa [Int.toNat_natCast] at this
  have hl := idx_least h.cl hi' (w := cSet N most strays calls) (by unfold cSet; rw [hi]; rfl)
  exact ⟨cSet N most strays calls, h1, hl.1, (pC_F h _).1 hl.2.1, fun x hx hfx => hl.2.2 x hx ((pC_F h _).2 hfx)⟩
theorem x_Clash (h : TOK N most strays calls) (hf : Whole N most strays calls) : FunOK Try.prog 28 [tyR N most strays calls] (.tup [.one (iP 0), .one (iP 4)]) := by
  have h1 := ok_Clash (n := N) (most := most) (strays := strays) (calls := calls)
  have hidx : cIdx N most strays calls = -1 := by
    unfold cIdx
    rw [Int.toNat_natCast]
    refine idxB_no.2 fun x hx => ?_
    rw [← Bool.not_eq_true, pC_F h]
    intro hx
    exact hx (feas_mono (fun i hi hb => by rw [every_bit]; simpa using hi) hf)
  have hwhy : whyC N most strays calls = 4 := by
    unfold whyC
    rw [tok_to h, if_neg (by decide), if_pos hidx]
  rw [hwhy, ansN_ne (by decide)] at h1
  exact h1
/-- Of a truth by all calls: none must be false, nor are any suspected. -/
theorem whole_out (h : TOK N most strays calls) (hf : Whole N most strays calls) {w s : Nat} (ho : Outs N most strays calls w s) : w = 0 ∧ s = 0 := by
  have h0 : Feas N most strays calls (diffN (2 ^ calls.length - 1) 0) := by
    have : diffN (2 ^ calls.length - 1) 0 = 2 ^ calls.length - 1 := by unfold diffN; simp
    rw [this]; exact hf
  have hw : w = 0 := by
    rcases ho.least 0 (Nat.two_pow_pos _) h0 with h | h
    · exact h.symm
    · unfold ahead at h; rw [popc_zero] at h; omega
  subst hw
  refine ⟨rfl, ?_⟩
  apply Nat.eq_of_testBit_eq
  intro b
  rw [Nat.zero_testBit, ← Bool.not_eq_true, ho.sus b]
  rintro ⟨x, hx, hp, _, hb⟩
  rw [popc_zero] at hp
  rw [popc_pos (lt_pow8 h.cl hx) hp, Nat.zero_testBit] at hb
  cases hb
end
end Go.Proofs.Ytejbglbiefpagaa
