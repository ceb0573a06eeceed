/- Kj: texts joined (BvC BvD BvE). -/
import Derived.Test.YtknikcpeacmpmaaKg
import Derived.Test.YtknikcpeacmpmaaKd
import Derived.Test.YtknikcpeacmpmaaKe
set_option linter.all false
/- burr: which bales hold a burr for some mobs, by some tests, walked. -/
namespace Go.Proofs.Ytknikcpeacmpmaa
open Go Go.RowKit Go.Sh Go.Pv
set_option maxHeartbeats 2000000
set_option maxRecDepth 8000
set_option pp.maxSteps 60000
def sN (bales : List (Int × Int)) (i : Nat) : Nat := (bales.getD i (0, 0)).1.toNat
def pN (bales : List (Int × Int)) (i : Nat) : Nat := (bales.getD i (0, 0)).2.toNat
/-- The first bales of some sets that have to do with some mobs. -/
def hitF (f : Nat → Nat) (m : Nat) : Nat → Nat
  | 0 => 0
  | i + 1 => if f i &&& m = 0 then hitF f m i else hitF f m i ||| 2 ^ i
theorem hitF_lt (f : Nat → Nat) (m : Nat) : ∀ i, hitF f m i < 2 ^ i
  | 0 => by simp [hitF]
  | i + 1 => by
    have ih := hitF_lt f m i
    have hp : 2 ^ (i + 1) = 2 * 2 ^ i := by rw [Nat.pow_succ]; omega
    unfold hitF
    split
    · omega
    · exact Nat.or_lt_two_pow (by omega) (by omega)
theorem hitF_bit (f : Nat → Nat) (m : Nat) : ∀ i b, (hitF f m i).testBit b = (decide (b < i) && decide (f b &&& m ≠ 0))
  | 0, b => by simp [hitF]
  | i + 1, b => by
    have ih := hitF_bit f m i b
    unfold hitF
    by_cases hb : b = i
    · subst hb
      have hz : (hitF f m b).testBit b = false := by rw [ih]; simp
      split
      · rename_i h0; rw [hz]; simp [h0]
      · rename_i h0; rw [Nat.testBit_or, hz, Nat.testBit_two_pow_self]; simp [h0]
    · have h1 : decide (b < i + 1) = decide (b < i) := by
        by_cases h : b < i
        · rw [decide_eq_true h, decide_eq_true (by omega)]
        · rw [decide_eq_false h, decide_eq_false (by omega)]
      rw [h1, ← ih]
      split
      · rfl
      · rw [Nat.testBit_or, Nat.testBit_two_pow]
        have : decide (i = b) = false := decide_eq_false (fun e => hb e.symm)
        rw [this, Bool.or_false]
/-- Which bales hold a burr, for some mobs, by some tests. -/
def heldF (bales : List (Int × Int)) (m : Nat) (tests : List (Int × Bool)) : Nat × Nat := tests.foldl testF (hitF (sN bales) m bales.length, hitF (pN bales) m bales.length)
/-- Bales and tests, within bounds. -/
structure BOK (N lo hi top : Nat) (bales : List (Int × Int)) (tests : List (Int × Bool)) : Prop where
  n1 : 1 ≤ N
  n5 : N ≤ 5
  lh : lo ≤ hi
  hn : hi ≤ N
  b6 : bales.length ≤ 6
  tp : top < 2 ^ bales.length
  t6 : tests.length ≤ 6
  ba : ∀ i, i < bales.length → (0 ≤ (bales.getD i (0, 0)).1 ∧ (bales.getD i (0, 0)).1 < (2 ^ N : Nat)) ∧ (0 ≤ (bales.getD i (0, 0)).2 ∧ (bales.getD i (0, 0)).2 < (2 ^ N : Nat)) ∧ diffN (sN bales i) (pN bales i) = 0
  te : ∀ t ∈ tests, 0 ≤ t.1 ∧ t.1 < bales.length
theorem pow32 {N : Nat} (h : N ≤ 5) : 2 ^ N ≤ 32 := by
  calc 2 ^ N ≤ 2 ^ 5 := Nat.pow_le_pow_right (by decide) h
    _ = 32 := by decide
theorem pow64 {N : Nat} (h : N ≤ 6) : 2 ^ N ≤ 64 := by
  calc 2 ^ N ≤ 2 ^ 6 := Nat.pow_le_pow_right (by decide) h
    _ = 64 := by decide
theorem fold_test_lt {tests : List (Int × Bool)} (ht : ∀ t ∈ tests, 0 ≤ t.1 ∧ t.1 < 6) : ∀ {h : Nat × Nat}, h.1 < 64 → h.2 < 64 → (tests.foldl testF h).1 < 64 ∧ (tests.foldl testF h).2 < 64 := by
  induction tests with
  | nil => intro h h1 h2; exact ⟨h1, h2⟩
  | cons t r ih =>
    intro h h1 h2
    obtain ⟨g1, g2⟩ := testF_lt (t := t) h1 h2 (ht t List.mem_cons_self)
    exact ih (fun x hx => ht x (List.mem_cons_of_mem _ hx)) g1 g2
def shP (N lo hi top : Int) (bales : List (Int × Int)) (tests : List (Int × Bool)) : PV := .ptr [iP N, iP lo, iP hi, .sl (bales.map row2), iP top, .sl (tests.map rowB)]
theorem get_someB {l : List (Int × Bool)} {k : Nat} (h : k < l.length) : l[k]? = some (l.getD k (0, false)) := by simp [List.getD, h]
section
variable {bales : List (Int × Int)}
attribute [local go_sem] rowB get_someB
theorem ok_held {N lo hi top : Int} {tests0 tests : List (Int × Bool)} {m : Nat} (hm : m < 32) (hb6 : bales.length ≤ 6) (hb : ∀ i, i < bales.length → (0 ≤ (bales.getD i (0, 0)).1 ∧ (bales.getD i (0, 0)).1 < 32) ∧ (0 ≤ (bales.getD i (0, 0)).2 ∧ (bales.getD i (0, 0)).2 < 32)) (htl : tests.length ≤ 100) (ht : ∀ t ∈ tests, 0 ≤ t.1 ∧ t.1 < 6) :
    FunOK Try.prog 51 [.one (shP N lo hi top bales tests0), .one (iP m), .one (.sl (tests.map rowB))] (.one (.agg [iP ((heldF bales m tests).1 : Nat), iP ((heldF bales m tests).2 : Nat)])) := by
  refine fun_ok (nt := 61) (rs := [.cell 6 74]) Try.func51 rfl rfl rfl (by simp) fun Z w0 => ?_; simp only [initFr, avR, List.map_cons, List.map_nil]
  simp only [shP]
  refine tw ?_; try with_reducible intro QQ hQQ
  refine aw_weak (weak_keep [1, 2, 6, 16, 17, 18] (by simp only [go_sem, ↓reduceIte]; rfl)) ?_
  refine aw_loop_ov (ι := { i : Nat // i ≤ bales.length }) (fun i => [(18, iA i.1)]) (fun i => [(0, .box [.p (iP ((hitF (sN bales) m i.1 : Nat) : Int)), .p (iP ((hitF (pN bales) m i.1 : Nat) : Int))])]) (fun i => bales.length - i.1) ⟨0, by omega⟩ (by first | rfl | (simp only [go_sem, ↓reduceIte]; first | done | rfl | (simp; try rfl))) ?_
  rintro ⟨i, hi⟩
  simp (disch := decide) only [ov, ovL, AL.get_nil, AL.get_eq, AL.get_ne, Option.getD_some, Option.getD_none]
  by_cases hil : i < bales.length
  · have hbi := hb i hil
    have l1 := Nat.lt_of_lt_of_le (hitF_lt (sN bales) m i) (pow64 (N := i) (by omega))
    have l2 := Nat.lt_of_lt_of_le (hitF_lt (pN bales) m i) (pow64 (N := i) (by omega))
    have e1 : hitF (sN bales) m (i + 1) = if sN bales i &&& m = 0 then hitF (sN bales) m i else hitF (sN bales) m i ||| 2 ^ i := rfl
    have e2 : hitF (pN bales) m (i + 1) = if pN bales i &&& m = 0 then hitF (pN bales) m i else hitF (pN bales) m i ||| 2 ^ i := rfl
    obtain ⟨⟨s, p⟩, hsp⟩ : ∃ x, bales.getD i (0, 0) = x := ⟨_, rfl⟩
    have es : sN bales i = s.toNat := by unfold sN; rw [hsp]
    have ep : pN bales i = p.toNat := by unfold pN; rw [hsp]
    rw [hsp] at hbi
    dsimp only at hbi
    obtain ⟨s, rfl⟩ : ∃ k : Nat, s = k := ⟨s.toNat, by omega⟩
    obtain ⟨p, rfl⟩ : ∃ k : Nat, p = k := ⟨p.toNat, by omega⟩
    rw [es, Int.toNat_natCast] at e1
    rw [ep, Int.toNat_natCast] at e2
    have hp := pow_six (b := i) (by omega)
    have hu1 := ok_union2 (a := hitF (sN bales) m i) (b := 2 ^ i) (by omega) (by omega)
    have hu2 := ok_union2 (a := hitF (pN bales) m i) (b := 2 ^ i) (by omega) (by omega)
    have hsh : ∀ (T : TypeId) (p q : Operand), binA Try.prog .shl T p q (.int .i64 1) (.int .i64 (i : Int)) = some (.int .i64 ((2 ^ i : Nat) : Int)) := fun T p q => bin_shl_one .i64 T p q (by omega)
    have ha1 : ∀ (T : TypeId) (x y : Operand), binA Try.prog .and T x y (.int .i64 (s : Int)) (.int .i64 (m : Int)) = some (.int .i64 ((s &&& m : Nat) : Int)) := fun T x y => bin_and_nat T x y (by omega) (by omega)
    have ha2 : ∀ (T : TypeId) (x y : Operand), binA Try.prog .and T x y (.int .i64 (p : Int)) (.int .i64 (m : Int)) = some (.int .i64 ((p &&& m : Nat) : Int)) := fun T x y => bin_and_nat T x y (by omega) (by omega)
    generalize s &&& m = x1 at *
    generalize p &&& m = x2 at *
    generalize hitF (sN bales) m i = A at *
    generalize hitF (pN bales) m i = B at *
    generalize 2 ^ i = z at *
    clear hb es ep
    by_cases h1 : x1 = 0
    · rw [if_pos h1] at e1
      by_cases h2 : x2 = 0
      · rw [if_pos h2] at e2
        (repeat (first | apply aw_seq | apply aw_block | apply aw_skip | apply aw_label | apply aw_exit | ((first | refine aw_region (hideO fun QQ hQQ => ?_) | refine aw_draw mixed (hideD fun QQ hQQ => ?_)); simp (maxSteps := 400000) (disch := first | decide | omega) only [hsp, ha1, ha2, hsh, go_sem, ↓reduceIte]; try (first | with_reducible refine unhide hQQ ?_ | refine ⟨by kernel_rfl, unhide hQQ ?_⟩); clear hQQ QQ) | with_reducible first | apply then_n | apply block_n | apply then_x | apply then_r | apply nog_n | apply nog_r | apply block_r | apply block_e (by decide) | apply block_x (by decide)))
        refine aw_cond2 (by simp (disch := first | decide | omega) only [hsp, ha1, ha2, hsh, go_sem, ↓reduceIte]; rfl) ?_; first | refine .inl ⟨by first | rfl | exact decide_eq_true (by omega) | exact decide_eq_true (by assumption) | (simp (disch := first | decide | omega) only [if_pos_d, if_neg_d, decide_eq_true_eq, Bool.not_eq_true', decide_eq_false_iff_not]; omega), ?_⟩ | refine .inr ⟨by first | rfl | exact decide_eq_false (by omega) | exact decide_eq_false (by assumption) | (simp (disch := first | decide | omega) only [if_pos_d, if_neg_d, decide_eq_true_eq, Bool.not_eq_true', decide_eq_false_iff_not]; omega), ?_⟩
        (repeat (first | apply aw_seq | apply aw_block | apply aw_skip | apply aw_label | apply aw_exit | ((first | refine aw_region (hideO fun QQ hQQ => ?_) | refine aw_draw mixed (hideD fun QQ hQQ => ?_)); simp (maxSteps := 400000) (disch := first | decide | omega) only [hsp, ha1, ha2, hsh, go_sem, ↓reduceIte]; try (first | with_reducible refine unhide hQQ ?_ | refine ⟨by kernel_rfl, unhide hQQ ?_⟩); clear hQQ QQ) | with_reducible first | apply then_n | apply block_n | apply then_x | apply then_r | apply nog_n | apply nog_r | apply block_r | apply block_e (by decide) | apply block_x (by decide)))
        refine aw_cond2 (by simp (disch := first | decide | omega) only [hsp, ha1, ha2, hsh, go_sem, ↓reduceIte]; rfl) ?_; first | refine .inl ⟨by first | rfl | exact decide_eq_true (by omega) | exact decide_eq_true (by assumption) | (simp (disch := first | decide | omega) only [if_pos_d, if_neg_d, decide_eq_true_eq, Bool.not_eq_true', decide_eq_false_iff_not]; omega), ?_⟩ | refine .inr ⟨by first | rfl | exact decide_eq_false (by omega) | exact decide_eq_false (by assumption) | (simp (disch := first | decide | omega) only [if_pos_d, if_neg_d, decide_eq_true_eq, Bool.not_eq_true', decide_eq_false_iff_not]; omega), ?_⟩
        (repeat (first | apply aw_seq | apply aw_block | apply aw_skip | apply aw_label | apply aw_exit | ((first | refine aw_region (hideO fun QQ hQQ => ?_) | refine aw_draw mixed (hideD fun QQ hQQ => ?_)); simp (maxSteps := 400000) (disch := first | decide | omega) only [hsp, ha1, ha2, hsh, go_sem, ↓reduceIte]; try (first | with_reducible refine unhide hQQ ?_ | refine ⟨by kernel_rfl, unhide hQQ ?_⟩); clear hQQ QQ) | with_reducible first | apply then_n | apply block_n | apply then_x | apply then_r | apply nog_n | apply nog_r | apply block_r | apply block_e (by decide) | apply block_x (by decide)))
        refine aw_cond2 (by simp (disch := first | decide | omega) only [hsp, ha1, ha2, hsh, go_sem, ↓reduceIte]; rfl) ?_; first | refine .inl ⟨by first | rfl | exact decide_eq_true (by omega) | exact decide_eq_true (by assumption) | (simp (disch := first | decide | omega) only [if_pos_d, if_neg_d, decide_eq_true_eq, Bool.not_eq_true', decide_eq_false_iff_not]; omega), ?_⟩ | refine .inr ⟨by first | rfl | exact decide_eq_false (by omega) | exact decide_eq_false (by assumption) | (simp (disch := first | decide | omega) only [if_pos_d, if_neg_d, decide_eq_true_eq, Bool.not_eq_true', decide_eq_false_iff_not]; omega), ?_⟩
        (repeat (first | apply aw_seq | apply aw_block | apply aw_skip | apply aw_label | apply aw_exit | ((first | refine aw_region (hideO fun QQ hQQ => ?_) | refine aw_draw mixed (hideD fun QQ hQQ => ?_)); simp (maxSteps := 400000) (disch := first | decide | omega) only [hsp, ha1, ha2, hsh, go_sem, ↓reduceIte]; try (first | with_reducible refine unhide hQQ ?_ | refine ⟨by kernel_rfl, unhide hQQ ?_⟩); clear hQQ QQ) | with_reducible first | apply then_n | apply block_n | apply then_x | apply then_r | apply nog_n | apply nog_r | apply block_r | apply block_e (by decide) | apply block_x (by decide)))
        refine ⟨⟨i + 1, by omega⟩, ?_, weak_round ?_ (by first | rfl | (simp only [hsp, ha1, ha2, hsh, go_sem, ↓reduceIte]))⟩
        rotate_left
        · simp only [e1, e2]
          (simp only [hsp, ha1, ha2, hsh, go_sem, ↓reduceIte]; try rfl)
        · simp only; omega
      · rw [if_neg h2] at e2
        (repeat (first | apply aw_seq | apply aw_block | apply aw_skip | apply aw_label | apply aw_exit | ((first | refine aw_region (hideO fun QQ hQQ => ?_) | refine aw_draw mixed (hideD fun QQ hQQ => ?_)); simp (maxSteps := 400000) (disch := first | decide | omega) only [hsp, ha1, ha2, hsh, go_sem, ↓reduceIte]; try (first | with_reducible refine unhide hQQ ?_ | refine ⟨by kernel_rfl, unhide hQQ ?_⟩); clear hQQ QQ) | with_reducible first | apply then_n | apply block_n | apply then_x | apply then_r | apply nog_n | apply nog_r | apply block_r | apply block_e (by decide) | apply block_x (by decide)))
        refine aw_cond2 (by simp (disch := first | decide | omega) only [hsp, ha1, ha2, hsh, go_sem, ↓reduceIte]; rfl) ?_; first | refine .inl ⟨by first | rfl | exact decide_eq_true (by omega) | exact decide_eq_true (by assumption) | (simp (disch := first | decide | omega) only [if_pos_d, if_neg_d, decide_eq_true_eq, Bool.not_eq_true', decide_eq_false_iff_not]; omega), ?_⟩ | refine .inr ⟨by first | rfl | exact decide_eq_false (by omega) | exact decide_eq_false (by assumption) | (simp (disch := first | decide | omega) only [if_pos_d, if_neg_d, decide_eq_true_eq, Bool.not_eq_true', decide_eq_false_iff_not]; omega), ?_⟩
        (repeat (first | apply aw_seq | apply aw_block | apply aw_skip | apply aw_label | apply aw_exit | ((first | refine aw_region (hideO fun QQ hQQ => ?_) | refine aw_draw mixed (hideD fun QQ hQQ => ?_)); simp (maxSteps := 400000) (disch := first | decide | omega) only [hsp, ha1, ha2, hsh, go_sem, ↓reduceIte]; try (first | with_reducible refine unhide hQQ ?_ | refine ⟨by kernel_rfl, unhide hQQ ?_⟩); clear hQQ QQ) | with_reducible first | apply then_n | apply block_n | apply then_x | apply then_r | apply nog_n | apply nog_r | apply block_r | apply block_e (by decide) | apply block_x (by decide)))
        refine aw_cond2 (by simp (disch := first | decide | omega) only [hsp, ha1, ha2, hsh, go_sem, ↓reduceIte]; rfl) ?_; first | refine .inl ⟨by first | rfl | exact decide_eq_true (by omega) | exact decide_eq_true (by assumption) | (simp (disch := first | decide | omega) only [if_pos_d, if_neg_d, decide_eq_true_eq, Bool.not_eq_true', decide_eq_false_iff_not]; omega), ?_⟩ | refine .inr ⟨by first | rfl | exact decide_eq_false (by omega) | exact decide_eq_false (by assumption) | (simp (disch := first | decide | omega) only [if_pos_d, if_neg_d, decide_eq_true_eq, Bool.not_eq_true', decide_eq_false_iff_not]; omega), ?_⟩
        (repeat (first | apply aw_seq | apply aw_block | apply aw_skip | apply aw_label | apply aw_exit | ((first | refine aw_region (hideO fun QQ hQQ => ?_) | refine aw_draw mixed (hideD fun QQ hQQ => ?_)); simp (maxSteps := 400000) (disch := first | decide | omega) only [hsp, ha1, ha2, hsh, go_sem, ↓reduceIte]; try (first | with_reducible refine unhide hQQ ?_ | refine ⟨by kernel_rfl, unhide hQQ ?_⟩); clear hQQ QQ) | with_reducible first | apply then_n | apply block_n | apply then_x | apply then_r | apply nog_n | apply nog_r | apply block_r | apply block_e (by decide) | apply block_x (by decide)))
        refine aw_cond2 (by simp (disch := first | decide | omega) only [hsp, ha1, ha2, hsh, go_sem, ↓reduceIte]; rfl) ?_; first | refine .inl ⟨by first | rfl | exact decide_eq_true (by omega) | exact decide_eq_true (by assumption) | (simp (disch := first | decide | omega) only [if_pos_d, if_neg_d, decide_eq_true_eq, Bool.not_eq_true', decide_eq_false_iff_not]; omega), ?_⟩ | refine .inr ⟨by first | rfl | exact decide_eq_false (by omega) | exact decide_eq_false (by assumption) | (simp (disch := first | decide | omega) only [if_pos_d, if_neg_d, decide_eq_true_eq, Bool.not_eq_true', decide_eq_false_iff_not]; omega), ?_⟩
        (repeat (first | apply aw_seq | apply aw_block | apply aw_skip | apply aw_label | apply aw_exit | ((first | refine aw_region (hideO fun QQ hQQ => ?_) | refine aw_draw mixed (hideD fun QQ hQQ => ?_)); simp (maxSteps := 400000) (disch := first | decide | omega) only [hsp, ha1, ha2, hsh, go_sem, ↓reduceIte]; try (first | with_reducible refine unhide hQQ ?_ | refine ⟨by kernel_rfl, unhide hQQ ?_⟩); clear hQQ QQ) | with_reducible first | apply then_n | apply block_n | apply then_x | apply then_r | apply nog_n | apply nog_r | apply block_r | apply block_e (by decide) | apply block_x (by decide)))
        (refine callD_ok rfl rfl 88 true rfl (by simp (disch := first | decide | omega) only [hsp, ha1, ha2, hsh, go_sem, ↓reduceIte]; try rfl) (fun _ => rfl) (hu2) Try.func88 rfl (by decide) ?_); simp (maxSteps := 400000) (disch := first | decide | omega) only [hsp, ha1, ha2, hsh, go_sem, ↓reduceIte]; (try (refine ⟨by kernel_rfl, unhide hQQ ?_⟩; clear hQQ QQ; (repeat with_reducible first | apply then_n | apply block_n | apply then_x | apply then_r | apply nog_n | apply nog_r | apply block_r | apply block_e (by decide) | apply block_x (by decide))))
        (repeat (first | apply aw_seq | apply aw_block | apply aw_skip | apply aw_label | apply aw_exit | ((first | refine aw_region (hideO fun QQ hQQ => ?_) | refine aw_draw mixed (hideD fun QQ hQQ => ?_)); simp (maxSteps := 400000) (disch := first | decide | omega) only [hsp, ha1, ha2, hsh, go_sem, ↓reduceIte]; try (first | with_reducible refine unhide hQQ ?_ | refine ⟨by kernel_rfl, unhide hQQ ?_⟩); clear hQQ QQ) | with_reducible first | apply then_n | apply block_n | apply then_x | apply then_r | apply nog_n | apply nog_r | apply block_r | apply block_e (by decide) | apply block_x (by decide)))
        refine ⟨⟨i + 1, by omega⟩, ?_, weak_round ?_ (by first | rfl | (simp only [hsp, ha1, ha2, hsh, go_sem, ↓reduceIte]))⟩
        rotate_left
        · simp only [e1, e2]
          (simp only [hsp, ha1, ha2, hsh, go_sem, ↓reduceIte]; try rfl)
        · simp only; omega
    · rw [if_neg h1] at e1
      by_cases h2 : x2 = 0
      · rw [if_pos h2] at e2
        (repeat (first | apply aw_seq | apply aw_block | apply aw_skip | apply aw_label | apply aw_exit | ((first | refine aw_region (hideO fun QQ hQQ => ?_) | refine aw_draw mixed (hideD fun QQ hQQ => ?_)); simp (maxSteps := 400000) (disch := first | decide | omega) only [hsp, ha1, ha2, hsh, go_sem, ↓reduceIte]; try (first | with_reducible refine unhide hQQ ?_ | refine ⟨by kernel_rfl, unhide hQQ ?_⟩); clear hQQ QQ) | with_reducible first | apply then_n | apply block_n | apply then_x | apply then_r | apply nog_n | apply nog_r | apply block_r | apply block_e (by decide) | apply block_x (by decide)))
        refine aw_cond2 (by simp (disch := first | decide | omega) only [hsp, ha1, ha2, hsh, go_sem, ↓reduceIte]; rfl) ?_; first | refine .inl ⟨by first | rfl | exact decide_eq_true (by omega) | exact decide_eq_true (by assumption) | (simp (disch := first | decide | omega) only [if_pos_d, if_neg_d, decide_eq_true_eq, Bool.not_eq_true', decide_eq_false_iff_not]; omega), ?_⟩ | refine .inr ⟨by first | rfl | exact decide_eq_false (by omega) | exact decide_eq_false (by assumption) | (simp (disch := first | decide | omega) only [if_pos_d, if_neg_d, decide_eq_true_eq, Bool.not_eq_true', decide_eq_false_iff_not]; omega), ?_⟩
        (repeat (first | apply aw_seq | apply aw_block | apply aw_skip | apply aw_label | apply aw_exit | ((first | refine aw_region (hideO fun QQ hQQ => ?_) | refine aw_draw mixed (hideD fun QQ hQQ => ?_)); simp (maxSteps := 400000) (disch := first | decide | omega) only [hsp, ha1, ha2, hsh, go_sem, ↓reduceIte]; try (first | with_reducible refine unhide hQQ ?_ | refine ⟨by kernel_rfl, unhide hQQ ?_⟩); clear hQQ QQ) | with_reducible first | apply then_n | apply block_n | apply then_x | apply then_r | apply nog_n | apply nog_r | apply block_r | apply block_e (by decide) | apply block_x (by decide)))
        refine aw_cond2 (by simp (disch := first | decide | omega) only [hsp, ha1, ha2, hsh, go_sem, ↓reduceIte]; rfl) ?_; first | refine .inl ⟨by first | rfl | exact decide_eq_true (by omega) | exact decide_eq_true (by assumption) | (simp (disch := first | decide | omega) only [if_pos_d, if_neg_d, decide_eq_true_eq, Bool.not_eq_true', decide_eq_false_iff_not]; omega), ?_⟩ | refine .inr ⟨by first | rfl | exact decide_eq_false (by omega) | exact decide_eq_false (by assumption) | (simp (disch := first | decide | omega) only [if_pos_d, if_neg_d, decide_eq_true_eq, Bool.not_eq_true', decide_eq_false_iff_not]; omega), ?_⟩
        (repeat (first | apply aw_seq | apply aw_block | apply aw_skip | apply aw_label | apply aw_exit | ((first | refine aw_region (hideO fun QQ hQQ => ?_) | refine aw_draw mixed (hideD fun QQ hQQ => ?_)); simp (maxSteps := 400000) (disch := first | decide | omega) only [hsp, ha1, ha2, hsh, go_sem, ↓reduceIte]; try (first | with_reducible refine unhide hQQ ?_ | refine ⟨by kernel_rfl, unhide hQQ ?_⟩); clear hQQ QQ) | with_reducible first | apply then_n | apply block_n | apply then_x | apply then_r | apply nog_n | apply nog_r | apply block_r | apply block_e (by decide) | apply block_x (by decide)))
        (refine callD_ok rfl rfl 88 true rfl (by simp (disch := first | decide | omega) only [hsp, ha1, ha2, hsh, go_sem, ↓reduceIte]; try rfl) (fun _ => rfl) (hu1) Try.func88 rfl (by decide) ?_); simp (maxSteps := 400000) (disch := first | decide | omega) only [hsp, ha1, ha2, hsh, go_sem, ↓reduceIte]; (try (refine ⟨by kernel_rfl, unhide hQQ ?_⟩; clear hQQ QQ; (repeat with_reducible first | apply then_n | apply block_n | apply then_x | apply then_r | apply nog_n | apply nog_r | apply block_r | apply block_e (by decide) | apply block_x (by decide))))
        (repeat (first | apply aw_seq | apply aw_block | apply aw_skip | apply aw_label | apply aw_exit | ((first | refine aw_region (hideO fun QQ hQQ => ?_) | refine aw_draw mixed (hideD fun QQ hQQ => ?_)); simp (maxSteps := 400000) (disch := first | decide | omega) only [hsp, ha1, ha2, hsh, go_sem, ↓reduceIte]; try (first | with_reducible refine unhide hQQ ?_ | refine ⟨by kernel_rfl, unhide hQQ ?_⟩); clear hQQ QQ) | with_reducible first | apply then_n | apply block_n | apply then_x | apply then_r | apply nog_n | apply nog_r | apply block_r | apply block_e (by decide) | apply block_x (by decide)))
        refine aw_cond2 (by simp (disch := first | decide | omega) only [hsp, ha1, ha2, hsh, go_sem, ↓reduceIte]; rfl) ?_; first | refine .inl ⟨by first | rfl | exact decide_eq_true (by omega) | exact decide_eq_true (by assumption) | (simp (disch := first | decide | omega) only [if_pos_d, if_neg_d, decide_eq_true_eq, Bool.not_eq_true', decide_eq_false_iff_not]; omega), ?_⟩ | refine .inr ⟨by first | rfl | exact decide_eq_false (by omega) | exact decide_eq_false (by assumption) | (simp (disch := first | decide | omega) only [if_pos_d, if_neg_d, decide_eq_true_eq, Bool.not_eq_true', decide_eq_false_iff_not]; omega), ?_⟩
        (repeat (first | apply aw_seq | apply aw_block | apply aw_skip | apply aw_label | apply aw_exit | ((first | refine aw_region (hideO fun QQ hQQ => ?_) | refine aw_draw mixed (hideD fun QQ hQQ => ?_)); simp (maxSteps := 400000) (disch := first | decide | omega) only [hsp, ha1, ha2, hsh, go_sem, ↓reduceIte]; try (first | with_reducible refine unhide hQQ ?_ | refine ⟨by kernel_rfl, unhide hQQ ?_⟩); clear hQQ QQ) | with_reducible first | apply then_n | apply block_n | apply then_x | apply then_r | apply nog_n | apply nog_r | apply block_r | apply block_e (by decide) | apply block_x (by decide)))
        refine ⟨⟨i + 1, by omega⟩, ?_, weak_round ?_ (by first | rfl | (simp only [hsp, ha1, ha2, hsh, go_sem, ↓reduceIte]))⟩
        rotate_left
        · simp only [e1, e2]
          (simp only [hsp, ha1, ha2, hsh, go_sem, ↓reduceIte]; try rfl)
        · simp only; omega
      · rw [if_neg h2] at e2
        (repeat (first | apply aw_seq | apply aw_block | apply aw_skip | apply aw_label | apply aw_exit | ((first | refine aw_region (hideO fun QQ hQQ => ?_) | refine aw_draw mixed (hideD fun QQ hQQ => ?_)); simp (maxSteps := 400000) (disch := first | decide | omega) only [hsp, ha1, ha2, hsh, go_sem, ↓reduceIte]; try (first | with_reducible refine unhide hQQ ?_ | refine ⟨by kernel_rfl, unhide hQQ ?_⟩); clear hQQ QQ) | with_reducible first | apply then_n | apply block_n | apply then_x | apply then_r | apply nog_n | apply nog_r | apply block_r | apply block_e (by decide) | apply block_x (by decide)))
        refine aw_cond2 (by simp (disch := first | decide | omega) only [hsp, ha1, ha2, hsh, go_sem, ↓reduceIte]; rfl) ?_; first | refine .inl ⟨by first | rfl | exact decide_eq_true (by omega) | exact decide_eq_true (by assumption) | (simp (disch := first | decide | omega) only [if_pos_d, if_neg_d, decide_eq_true_eq, Bool.not_eq_true', decide_eq_false_iff_not]; omega), ?_⟩ | refine .inr ⟨by first | rfl | exact decide_eq_false (by omega) | exact decide_eq_false (by assumption) | (simp (disch := first | decide | omega) only [if_pos_d, if_neg_d, decide_eq_true_eq, Bool.not_eq_true', decide_eq_false_iff_not]; omega), ?_⟩
        (repeat (first | apply aw_seq | apply aw_block | apply aw_skip | apply aw_label | apply aw_exit | ((first | refine aw_region (hideO fun QQ hQQ => ?_) | refine aw_draw mixed (hideD fun QQ hQQ => ?_)); simp (maxSteps := 400000) (disch := first | decide | omega) only [hsp, ha1, ha2, hsh, go_sem, ↓reduceIte]; try (first | with_reducible refine unhide hQQ ?_ | refine ⟨by kernel_rfl, unhide hQQ ?_⟩); clear hQQ QQ) | with_reducible first | apply then_n | apply block_n | apply then_x | apply then_r | apply nog_n | apply nog_r | apply block_r | apply block_e (by decide) | apply block_x (by decide)))
        refine aw_cond2 (by simp (disch := first | decide | omega) only [hsp, ha1, ha2, hsh, go_sem, ↓reduceIte]; rfl) ?_; first | refine .inl ⟨by first | rfl | exact decide_eq_true (by omega) | exact decide_eq_true (by assumption) | (simp (disch := first | decide | omega) only [if_pos_d, if_neg_d, decide_eq_true_eq, Bool.not_eq_true', decide_eq_false_iff_not]; omega), ?_⟩ | refine .inr ⟨by first | rfl | exact decide_eq_false (by omega) | exact decide_eq_false (by assumption) | (simp (disch := first | decide | omega) only [if_pos_d, if_neg_d, decide_eq_true_eq, Bool.not_eq_true', decide_eq_false_iff_not]; omega), ?_⟩
        (repeat (first | apply aw_seq | apply aw_block | apply aw_skip | apply aw_label | apply aw_exit | ((first | refine aw_region (hideO fun QQ hQQ => ?_) | refine aw_draw mixed (hideD fun QQ hQQ => ?_)); simp (maxSteps := 400000) (disch := first | decide | omega) only [hsp, ha1, ha2, hsh, go_sem, ↓reduceIte]; try (first | with_reducible refine unhide hQQ ?_ | refine ⟨by kernel_rfl, unhide hQQ ?_⟩); clear hQQ QQ) | with_reducible first | apply then_n | apply block_n | apply then_x | apply then_r | apply nog_n | apply nog_r | apply block_r | apply block_e (by decide) | apply block_x (by decide)))
        (refine callD_ok rfl rfl 88 true rfl (by simp (disch := first | decide | omega) only [hsp, ha1, ha2, hsh, go_sem, ↓reduceIte]; try rfl) (fun _ => rfl) (hu1) Try.func88 rfl (by decide) ?_); simp (maxSteps := 400000) (disch := first | decide | omega) only [hsp, ha1, ha2, hsh, go_sem, ↓reduceIte]; (try (refine ⟨by kernel_rfl, unhide hQQ ?_⟩; clear hQQ QQ; (repeat with_reducible first | apply then_n | apply block_n | apply then_x | apply then_r | apply nog_n | apply nog_r | apply block_r | apply block_e (by decide) | apply block_x (by decide))))
        (repeat (first | apply aw_seq | apply aw_block | apply aw_skip | apply aw_label | apply aw_exit | ((first | refine aw_region (hideO fun QQ hQQ => ?_) | refine aw_draw mixed (hideD fun QQ hQQ => ?_)); simp (maxSteps := 400000) (disch := first | decide | omega) only [hsp, ha1, ha2, hsh, go_sem, ↓reduceIte]; try (first | with_reducible refine unhide hQQ ?_ | refine ⟨by kernel_rfl, unhide hQQ ?_⟩); clear hQQ QQ) | with_reducible first | apply then_n | apply block_n | apply then_x | apply then_r | apply nog_n | apply nog_r | apply block_r | apply block_e (by decide) | apply block_x (by decide)))
        refine aw_cond2 (by simp (disch := first | decide | omega) only [hsp, ha1, ha2, hsh, go_sem, ↓reduceIte]; rfl) ?_; first | refine .inl ⟨by first | rfl | exact decide_eq_true (by omega) | exact decide_eq_true (by assumption) | (simp (disch := first | decide | omega) only [if_pos_d, if_neg_d, decide_eq_true_eq, Bool.not_eq_true', decide_eq_false_iff_not]; omega), ?_⟩ | refine .inr ⟨by first | rfl | exact decide_eq_false (by omega) | exact decide_eq_false (by assumption) | (simp (disch := first | decide | omega) only [if_pos_d, if_neg_d, decide_eq_true_eq, Bool.not_eq_true', decide_eq_false_iff_not]; omega), ?_⟩
        (repeat (first | apply aw_seq | apply aw_block | apply aw_skip | apply aw_label | apply aw_exit | ((first | refine aw_region (hideO fun QQ hQQ => ?_) | refine aw_draw mixed (hideD fun QQ hQQ => ?_)); simp (maxSteps := 400000) (disch := first | decide | omega) only [hsp, ha1, ha2, hsh, go_sem, ↓reduceIte]; try (first | with_reducible refine unhide hQQ ?_ | refine ⟨by kernel_rfl, unhide hQQ ?_⟩); clear hQQ QQ) | with_reducible first | apply then_n | apply block_n | apply then_x | apply then_r | apply nog_n | apply nog_r | apply block_r | apply block_e (by decide) | apply block_x (by decide)))
        (refine callD_ok rfl rfl 88 true rfl (by simp (disch := first | decide | omega) only [hsp, ha1, ha2, hsh, go_sem, ↓reduceIte]; try rfl) (fun _ => rfl) (hu2) Try.func88 rfl (by decide) ?_); simp (maxSteps := 400000) (disch := first | decide | omega) only [hsp, ha1, ha2, hsh, go_sem, ↓reduceIte]; (try (refine ⟨by kernel_rfl, unhide hQQ ?_⟩; clear hQQ QQ; (repeat with_reducible first | apply then_n | apply block_n | apply then_x | apply then_r | apply nog_n | apply nog_r | apply block_r | apply block_e (by decide) | apply block_x (by decide))))
        (repeat (first | apply aw_seq | apply aw_block | apply aw_skip | apply aw_label | apply aw_exit | ((first | refine aw_region (hideO fun QQ hQQ => ?_) | refine aw_draw mixed (hideD fun QQ hQQ => ?_)); simp (maxSteps := 400000) (disch := first | decide | omega) only [hsp, ha1, ha2, hsh, go_sem, ↓reduceIte]; try (first | with_reducible refine unhide hQQ ?_ | refine ⟨by kernel_rfl, unhide hQQ ?_⟩); clear hQQ QQ) | with_reducible first | apply then_n | apply block_n | apply then_x | apply then_r | apply nog_n | apply nog_r | apply block_r | apply block_e (by decide) | apply block_x (by decide)))
        refine ⟨⟨i + 1, by omega⟩, ?_, weak_round ?_ (by first | rfl | (simp only [hsp, ha1, ha2, hsh, go_sem, ↓reduceIte]))⟩
        rotate_left
        · simp only [e1, e2]
          (simp only [hsp, ha1, ha2, hsh, go_sem, ↓reduceIte]; try rfl)
        · simp only; omega
  · have hie : i = bales.length := by omega
    subst hie
    have l1 := Nat.lt_of_lt_of_le (hitF_lt (sN bales) m bales.length) (pow64 hb6)
    have l2 := Nat.lt_of_lt_of_le (hitF_lt (pN bales) m bales.length) (pow64 hb6)
    unfold heldF
    generalize hitF (sN bales) m bales.length = A at *
    generalize hitF (pN bales) m bales.length = B at *
    refine tw ?_; try with_reducible intro QQ hQQ
    refine ti ?_; try clear hQQ QQ
    refine tw ?_; try with_reducible intro QQ hQQ
    refine aw_weak (weak_keep [6, 48, 49, 50] (by simp only [go_sem, ↓reduceIte]; rfl)) ?_
    refine aw_loop_ov (ι := { k : Nat // k ≤ tests.length }) (fun k => [(50, iA k.1)]) (fun k => [(0, .box [.p (iP ((((tests.take k.1).foldl testF (A, B)).1 : Nat) : Int)), .p (iP ((((tests.take k.1).foldl testF (A, B)).2 : Nat) : Int))])]) (fun k => tests.length - k.1) ⟨0, by omega⟩ (by first | rfl | (simp only [go_sem, ↓reduceIte]; first | done | rfl | (simp; try rfl))) ?_
    rintro ⟨k, hk⟩
    simp (disch := decide) only [ov, ovL, AL.get_nil, AL.get_eq, AL.get_ne, Option.getD_some, Option.getD_none]
    by_cases hkl : k < tests.length
    · obtain ⟨g1, g2⟩ := fold_test_lt (tests := tests.take k) (fun t h => ht t (List.mem_of_mem_take h)) (h := (A, B)) l1 l2
      have e1 : tests.take (k + 1) = tests.take k ++ [tests.getD k (0, false)] := by
        rw [List.take_succ, List.getElem?_eq_getElem hkl, List.getD_eq_getElem?_getD, List.getElem?_eq_getElem hkl]; rfl
      have e2 : (tests.take (k + 1)).foldl testF (A, B) = testF ((tests.take k).foldl testF (A, B)) (tests.getD k (0, false)) := by rw [e1, List.foldl_append]; rfl
      have htk := ht _ (mem_of_getD (d := (0, false)) hkl)
      obtain ⟨⟨c, fb⟩, hc⟩ : ∃ t, tests.getD k (0, false) = t := ⟨_, rfl⟩
      rw [hc] at htk e2
      obtain ⟨⟨x, y⟩, hxy⟩ : ∃ q, (tests.take k).foldl testF (A, B) = q := ⟨_, rfl⟩
      rw [hxy] at g1 g2 e2
      dsimp only at g1 g2
      have hT := ok_tested g1 g2 htk
      simp only [rowB] at hT
      simp only [hxy]
      (repeat (first | apply aw_seq | apply aw_block | apply aw_skip | apply aw_label | apply aw_exit | ((first | refine aw_region (hideO fun QQ hQQ => ?_) | refine aw_draw mixed (hideD fun QQ hQQ => ?_)); simp (maxSteps := 400000) (disch := first | decide | omega) only [hc, go_sem, ↓reduceIte]; try (first | with_reducible refine unhide hQQ ?_ | refine ⟨by kernel_rfl, unhide hQQ ?_⟩); clear hQQ QQ) | with_reducible first | apply then_n | apply block_n | apply then_x | apply then_r | apply nog_n | apply nog_r | apply block_r | apply block_e (by decide) | apply block_x (by decide)))
      refine aw_cond2 (by simp (disch := first | decide | omega) only [hc, go_sem, ↓reduceIte]; rfl) ?_; first | refine .inl ⟨by first | rfl | exact decide_eq_true (by omega) | exact decide_eq_true (by assumption) | (simp (disch := first | decide | omega) only [if_pos_d, if_neg_d, decide_eq_true_eq, Bool.not_eq_true', decide_eq_false_iff_not]; omega), ?_⟩ | refine .inr ⟨by first | rfl | exact decide_eq_false (by omega) | exact decide_eq_false (by assumption) | (simp (disch := first | decide | omega) only [if_pos_d, if_neg_d, decide_eq_true_eq, Bool.not_eq_true', decide_eq_false_iff_not]; omega), ?_⟩
      (repeat (first | apply aw_seq | apply aw_block | apply aw_skip | apply aw_label | apply aw_exit | ((first | refine aw_region (hideO fun QQ hQQ => ?_) | refine aw_draw mixed (hideD fun QQ hQQ => ?_)); simp (maxSteps := 400000) (disch := first | decide | omega) only [hc, go_sem, ↓reduceIte]; try (first | with_reducible refine unhide hQQ ?_ | refine ⟨by kernel_rfl, unhide hQQ ?_⟩); clear hQQ QQ) | with_reducible first | apply then_n | apply block_n | apply then_x | apply then_r | apply nog_n | apply nog_r | apply block_r | apply block_e (by decide) | apply block_x (by decide)))
      (refine ⟨rfl, .inr ⟨rfl, callS_bound (any := true) rfl rfl 89 (by simp (disch := first | decide | omega) only [hc, go_sem, ↓reduceIte]; try rfl) (by simp (disch := first | decide | omega) only [hc, go_sem, ↓reduceIte]; try rfl) Try.func89 rfl (by decide) (fun _ => rfl) (hT) ?_⟩⟩); simp (maxSteps := 400000) (disch := first | decide | omega) only [hc, go_sem, ↓reduceIte]; (try (with_reducible refine unhide hQQ ?_; clear hQQ QQ; (repeat with_reducible first | apply then_n | apply block_n | apply then_x | apply then_r | apply nog_n | apply nog_r | apply block_r | apply block_e (by decide) | apply block_x (by decide))))
      (repeat (first | apply aw_seq | apply aw_block | apply aw_skip | apply aw_label | apply aw_exit | ((first | refine aw_region (hideO fun QQ hQQ => ?_) | refine aw_draw mixed (hideD fun QQ hQQ => ?_)); simp (maxSteps := 400000) (disch := first | decide | omega) only [hc, go_sem, ↓reduceIte]; try (first | with_reducible refine unhide hQQ ?_ | refine ⟨by kernel_rfl, unhide hQQ ?_⟩); clear hQQ QQ) | with_reducible first | apply then_n | apply block_n | apply then_x | apply then_r | apply nog_n | apply nog_r | apply block_r | apply block_e (by decide) | apply block_x (by decide)))
      refine ⟨⟨k + 1, by omega⟩, ?_, weak_round ?_ (by first | rfl | (simp only [hc, go_sem, ↓reduceIte]))⟩
      rotate_left
      · simp only [e2]
        (simp only [hc, go_sem, ↓reduceIte]; try rfl)
      · simp only; omega
    · have hke : k = tests.length := by omega
      subst hke
      rw [List.take_length]
      refine tw ?_; try with_reducible intro QQ hQQ
      refine ti ?_; try clear hQQ QQ
      refine tw ?_; try with_reducible intro QQ hQQ
      refine aw_ret ?_; refine ⟨.inr rfl, ?_⟩; simp only [resA, res1, go_sem, ↓reduceIte]
end
end Go.Proofs.Ytknikcpeacmpmaa
/- burr: how many truths there are, walked. -/
namespace Go.Proofs.Ytknikcpeacmpmaa
open Go Go.RowKit Go.Sh Go.Pv
attribute [go_sem] keepA nub
set_option maxHeartbeats 2000000
set_option maxRecDepth 8000
set_option pp.maxSteps 60000
/-- How many truths there are with the first sets of mobs. -/
def cntF (lo hi : Nat) (bales : List (Int × Int)) (tests : List (Int × Bool)) : Nat → Nat
  | 0 => 0
  | m + 1 => if lo ≤ popc m ∧ popc m ≤ hi then cntF lo hi bales tests m + waysH (heldF bales m tests) else cntF lo hi bales tests m
theorem popc6_all : (List.range 64).all (fun x => Nat.ble (popc x) 6) = true := by decide +kernel
theorem popc6 {x : Nat} (h : x < 64) : popc x ≤ 6 := Nat.le_of_ble_eq_true (List.all_eq_true.1 popc6_all x (List.mem_range.2 h))
theorem waysH_le (h : Nat × Nat) (h2 : h.2 < 64) : waysH h ≤ 64 := by
  unfold waysH
  split
  · exact pow64 (popc6 (Nat.lt_of_le_of_lt (diffN_le _ _) h2))
  · omega
theorem held_lt {bales : List (Int × Int)} {m : Nat} {tests : List (Int × Bool)} (hb6 : bales.length ≤ 6) (ht : ∀ t ∈ tests, 0 ≤ t.1 ∧ t.1 < 6) : (heldF bales m tests).1 < 64 ∧ (heldF bales m tests).2 < 64 :=
  fold_test_lt (tests := tests) ht (h := (hitF (sN bales) m bales.length, hitF (pN bales) m bales.length)) (Nat.lt_of_lt_of_le (hitF_lt _ _ _) (pow64 hb6)) (Nat.lt_of_lt_of_le (hitF_lt _ _ _) (pow64 hb6))
theorem cntF_le (lo hi : Nat) (bales : List (Int × Int)) (tests : List (Int × Bool)) (h : ∀ m, waysH (heldF bales m tests) ≤ 64) : ∀ i, cntF lo hi bales tests i ≤ 64 * i
  | 0 => Nat.le_refl _
  | i + 1 => by
    have ih := cntF_le lo hi bales tests h i
    have := h i
    unfold cntF
    split <;> omega
section
variable {bales : List (Int × Int)}
theorem ok_count {N lo up : Nat} {top : Int} {tests0 tests : List (Int × Bool)} (hN : N ≤ 5) (hup : up ≤ 5) (hb6 : bales.length ≤ 6) (hb : ∀ i, i < bales.length → (0 ≤ (bales.getD i (0, 0)).1 ∧ (bales.getD i (0, 0)).1 < 32) ∧ (0 ≤ (bales.getD i (0, 0)).2 ∧ (bales.getD i (0, 0)).2 < 32)) (htl : tests.length ≤ 100) (ht : ∀ t ∈ tests, 0 ≤ t.1 ∧ t.1 < 6) :
    FunOK Try.prog 65 [.one (shP N lo up top bales tests0), .one (.sl (tests.map rowB))] (.one (.one (iP (cntF lo up bales tests (2 ^ N) : Nat)))) := by
  have hsh : ∀ (T : TypeId) (p q : Operand), binA Try.prog .shl T p q (.int .i64 1) (.int .i64 (N : Int)) = some (.int .i64 ((2 ^ N : Nat) : Int)) := fun T p q => bin_shl_one .i64 T p q (by omega)
  have hp := pow32 hN
  have hp0 := Nat.two_pow_pos N
  refine fun_ok (nt := 19) (rs := [.cell 4 3]) Try.func65 rfl rfl rfl (by simp) fun Z w0 => ?_; simp only [initFr, avR, List.map_cons, List.map_nil]
  simp only [shP]
  refine tw ?_; try with_reducible intro QQ hQQ
  (refine callS_ok rfl rfl 50 (by simp (maxSteps := 400000) (disch := first | decide | omega) only [go_sem, ↓reduceIte]; try rfl) (by simp (maxSteps := 400000) (disch := first | decide | omega) only [go_sem, ↓reduceIte]; try rfl) Try.func50 rfl (by decide) ?_); (refine callF_in (nt := 4) (rs := [.tmp 2]) Try.func50 rfl rfl rfl (by simp) fun tm Ds => ?_); simp only [initV, capV, List.map_cons, List.map_nil, List.cons_append, List.nil_append]
  refine tw ?_; try with_reducible intro QQ hQQ
  (refine aw_ret ⟨.inr rfl, _, by (simp (maxSteps := 400000) (disch := first | decide | omega) only [go_sem, ↓reduceIte]; try rfl), by (simp (maxSteps := 400000) (disch := first | decide | omega) only [go_sem, ↓reduceIte]; try rfl), ?_⟩); refine ts ?_; try clear hQQ QQ
  refine tw ?_; try with_reducible intro QQ hQQ
  refine aw_weak (weak_thr [2, 3, 4, 5, 6, 8, 9] (by simp only [go_sem, ↓reduceIte]; rfl)) ?_
  refine aw_rangeFunc (nt := 34) rfl rfl (by simp (disch := first | decide | omega) only [go_sem, ↓reduceIte]; rfl) Try.func87 rfl (by decide) rfl rfl (by decide) fun r bb tm2 Ds2 hr1 hr1p hr2 hr3 hr4 hr5 hr6 hr7 => ?_
  dsimp only [Kx.iter] at hr5 hr7 ⊢
  refine aw_scope rfl ?_
  (repeat (first | apply aw_seq | apply aw_block | apply aw_skip | apply aw_label | apply aw_exit | ((first | refine aw_region (hideO fun QQ hQQ => ?_) | refine aw_draw mixed (hideD fun QQ hQQ => ?_)); simp (maxSteps := 400000) (disch := first | decide | omega) only [hsh, go_sem, ↓reduceIte]; try (first | with_reducible refine unhide hQQ ?_ | refine ⟨by kernel_rfl, unhide hQQ ?_⟩); clear hQQ QQ) | with_reducible first | apply then_n | apply block_n | apply then_x | apply then_r | apply nog_n | apply nog_r | apply block_r | apply block_e (by decide) | apply block_x (by decide)))
  refine aw_weak (weak_keepA [0, 1, 9, 10] (by simp only [go_sem, ↓reduceIte]; rfl)) ?_
  refine aw_loop_ov (ι := { i : Nat // i ≤ 2 ^ N }) (fun i => [(10, iA i.1)]) (fun i => [(2, .box [.p (iP ((cntF lo up bales tests i.1 : Nat) : Int))])]) (fun i => 2 ^ N - i.1) ⟨0, by omega⟩ (by first | rfl | (simp only [go_sem, ↓reduceIte]; first | done | rfl | (simp; try rfl))) ?_
  rintro ⟨i, hi⟩
  simp (disch := decide) only [ov, ovL, AL.get_nil, AL.get_eq, AL.get_ne, Option.getD_some, Option.getD_none]
  by_cases hil : i < 2 ^ N
  · have hs := ok_size i (by omega)
    have hw := ok_within (popc i) lo up
    have e1 : cntF lo up bales tests (i + 1) = if lo ≤ popc i ∧ popc i ≤ up then cntF lo up bales tests i + waysH (heldF bales i tests) else cntF lo up bales tests i := rfl
    by_cases hin : lo ≤ popc i ∧ popc i ≤ up
    · rw [if_pos hin] at e1
      rw [show inB (popc i) lo up = true by simp [inB]; omega] at hw
      refine tw ?_; try with_reducible intro QQ hQQ
      refine ti ?_; try clear hQQ QQ
      refine tw ?_; try with_reducible intro QQ hQQ
      (refine cD 71 rfl rfl rfl (hs) Try.func71 rfl ?_); refine td ?_; try clear hQQ QQ
      (refine cD 86 rfl rfl rfl (hw) Try.func86 rfl ?_); refine td ?_; try clear hQQ QQ
      refine tw ?_; try with_reducible intro QQ hQQ
      refine ti ?_; try clear hQQ QQ
      refine tw ?_; try with_reducible intro QQ hQQ
      refine ⟨rfl, .inr ⟨rfl, callS_yield (L := 7) (C := 6) (avs := [.one (.p (iP (i : Int)))]) rfl rfl (by simp (disch := first | decide | omega) only [go_sem, ↓reduceIte]; try rfl) (by simp (disch := first | decide | omega) only [go_sem, ↓reduceIte]; try rfl) (by simp (disch := first | decide | omega) only [go_sem, ↓reduceIte]; try rfl) hr1 (by simp (disch := first | decide | omega) only [go_sem, ↓reduceIte]; try rfl) hr6 (by rw [hr5]; exact fun t av ht => hr7 t av ht |> fun h => by rw [hr5] at h; exact h) (by rw [hr2]; rfl) ?_ fun Ds tmi => ?_⟩⟩
      · intro t ht
        rw [hr2] at ht
        rw [hr5]
        simp only [List.mem_cons, List.mem_nil_iff, or_false] at ht
        subst ht; decide
      obtain ⟨rB, hrB⟩ : ∃ rB, ({ r with state := .busy } : Loop) = rB := ⟨_, rfl⟩
      rw [hrB, hr2, hr3, hr4, hr5]
      have hrr : ({ rB with state := .ready, pending := none } : Loop) = r := by
        rw [← hrB]
        cases r
        dsimp only at hr1 hr1p
        subst hr1 hr1p
        rfl
      simp only [Kx.round, setPs]
      have hH := ok_held (N := N) (lo := lo) (hi := up) (top := top) (tests0 := tests0) (tests := tests) (m := i) (by omega) hb6 hb htl ht
      have hlt := fold_test_lt (tests := tests) ht (h := (hitF (sN bales) i bales.length, hitF (pN bales) i bales.length)) (Nat.lt_of_lt_of_le (hitF_lt _ _ _) (pow64 hb6)) (Nat.lt_of_lt_of_le (hitF_lt _ _ _) (pow64 hb6))
      have hlt : (heldF bales i tests).1 < 64 ∧ (heldF bales i tests).2 < 64 := hlt
      have hwl := waysH_le (heldF bales i tests) hlt.2
      have hcl := cntF_le lo up bales tests (fun m => waysH_le _ (held_lt hb6 ht).2) i
      have hW := ok_ways hlt.1 hlt.2 (popc6 (Nat.lt_of_le_of_lt (diffN_le _ _) hlt.2))
      simp only [shP] at hH
      generalize hq : heldF bales i tests = q at *
      obtain ⟨qa, qb⟩ := q
      dsimp only at hH hW hwl e1 hlt
      generalize waysH (qa, qb) = w at *
      obtain ⟨c', hc'⟩ : ∃ c', cntF lo up bales tests (i + 1) = c' := ⟨_, rfl⟩
      generalize cntF lo up bales tests i = c at *
      refine tw ?_; try with_reducible intro QQ hQQ
      refine ⟨rfl, by simp (disch := first | decide | omega) only [go_sem, ↓reduceIte], ?_⟩
      refine tw ?_; try with_reducible intro QQ hQQ
      (refine cD 51 rfl rfl rfl (hH) Try.func51 rfl ?_); refine td ?_; try clear hQQ QQ
      (refine cD 93 rfl rfl rfl (hW) Try.func93 rfl ?_); refine td ?_; try clear hQQ QQ
      refine tw ?_; try with_reducible intro QQ hQQ
      refine ⟨by simp (disch := first | decide | omega) only [go_sem, ↓reduceIte]; try rfl, none, .inl ⟨rfl, rfl⟩, rB, by simp (disch := first | decide | omega) only [go_sem, ↓reduceIte]; try rfl, ?_⟩
      (simp (maxSteps := 400000) (disch := first | decide | omega) only [Option.isNone_none, hrr, go_sem, ↓reduceIte]; (try (with_reducible refine unhide hQQ ?_; clear hQQ QQ; (repeat with_reducible first | apply then_n | apply block_n | apply then_x | apply then_r | apply nog_n | apply nog_r | apply block_r | apply block_e (by decide) | apply block_x (by decide)))))
      (repeat (first | apply aw_seq | apply aw_block | apply aw_skip | apply aw_label | apply aw_exit | ((first | refine aw_region (hideO fun QQ hQQ => ?_) | refine aw_draw mixed (hideD fun QQ hQQ => ?_)); simp (maxSteps := 400000) (disch := first | decide | omega) only [Option.isNone_none, hrr, go_sem, ↓reduceIte]; try (first | with_reducible refine unhide hQQ ?_ | refine ⟨by kernel_rfl, unhide hQQ ?_⟩); clear hQQ QQ) | with_reducible first | apply then_n | apply block_n | apply then_x | apply then_r | apply nog_n | apply nog_r | apply block_r | apply block_e (by decide) | apply block_x (by decide)))
      refine aw_cond2 (by simp (disch := first | decide | omega) only [Option.isNone_none, hrr, go_sem, ↓reduceIte]; rfl) ?_; first | refine .inl ⟨by first | rfl | exact decide_eq_true (by omega) | exact decide_eq_true (by assumption) | (simp (disch := first | decide | omega) only [if_pos_d, if_neg_d, decide_eq_true_eq, Bool.not_eq_true', decide_eq_false_iff_not]; omega), ?_⟩ | refine .inr ⟨by first | rfl | exact decide_eq_false (by omega) | exact decide_eq_false (by assumption) | (simp (disch := first | decide | omega) only [if_pos_d, if_neg_d, decide_eq_true_eq, Bool.not_eq_true', decide_eq_false_iff_not]; omega), ?_⟩
      (repeat (first | apply aw_seq | apply aw_block | apply aw_skip | apply aw_label | apply aw_exit | ((first | refine aw_region (hideO fun QQ hQQ => ?_) | refine aw_draw mixed (hideD fun QQ hQQ => ?_)); simp (maxSteps := 400000) (disch := first | decide | omega) only [Option.isNone_none, hrr, go_sem, ↓reduceIte]; try (first | with_reducible refine unhide hQQ ?_ | refine ⟨by kernel_rfl, unhide hQQ ?_⟩); clear hQQ QQ) | with_reducible first | apply then_n | apply block_n | apply then_x | apply then_r | apply nog_n | apply nog_r | apply block_r | apply block_e (by decide) | apply block_x (by decide)))
      refine ⟨⟨i + 1, by omega⟩, ?_, weak_round ?_ (by first | rfl | (simp only [Option.isNone_none, hrr, go_sem, ↓reduceIte]))⟩
      rotate_left
      · simp only [e1]
        (simp only [Option.isNone_none, hrr, go_sem, ↓reduceIte]; try rfl)
      · simp only; omega
    · rw [if_neg hin] at e1
      rw [show inB (popc i) lo up = false by simp [inB]; omega] at hw
      refine tw ?_; try with_reducible intro QQ hQQ
      refine ti ?_; try clear hQQ QQ
      refine tw ?_; try with_reducible intro QQ hQQ
      (refine cD 71 rfl rfl rfl (hs) Try.func71 rfl ?_); refine td ?_; try clear hQQ QQ
      (refine cD 86 rfl rfl rfl (hw) Try.func86 rfl ?_); refine td ?_; try clear hQQ QQ
      refine tw ?_; try with_reducible intro QQ hQQ
      refine ti ?_; try clear hQQ QQ
      (refine aw_exit ?_); (repeat with_reducible first | apply then_n | apply block_n | apply then_x | apply then_r | apply nog_n | apply nog_r | apply block_r | apply block_e (by decide) | apply block_x (by decide))
      refine tw ?_; try with_reducible intro QQ hQQ
      refine ⟨⟨i + 1, by omega⟩, ?_, weak_round ?_ (by first | rfl | (simp only [go_sem, ↓reduceIte]))⟩
      rotate_left
      · simp only [e1]
        (simp only [go_sem, ↓reduceIte]; try rfl)
      · simp only; omega
  · have hie : i = 2 ^ N := by omega
    subst hie
    refine tw ?_; try with_reducible intro QQ hQQ
    refine ti ?_; try clear hQQ QQ
    refine tw ?_; try with_reducible intro QQ hQQ
    refine ⟨.inl rfl, by simp (disch := first | decide | omega) only [go_sem, ↓reduceIte]; try rfl, r, by simp (disch := first | decide | omega) only [go_sem, ↓reduceIte]; try rfl, by rw [hr1]; decide, ?_⟩
    rw [hr1p]
    (repeat (first | with_reducible refine then_n ?_ | with_reducible refine block_n ?_))
    show AW _ _ _ _
    refine tw ?_; try with_reducible intro QQ hQQ
    refine aw_ret ?_; refine ⟨.inr rfl, ?_⟩; simp only [resA, res1, go_sem, ↓reduceIte]
end
end Go.Proofs.Ytknikcpeacmpmaa
/- burr: errors, and their answers; what is told. -/
namespace Go.Proofs.Ytknikcpeacmpmaa
open Go Go.RowKit Go.Sh Go.Pv
set_option maxHeartbeats 4000000
set_option maxRecDepth 8000
set_option pp.maxSteps 60000
theorem ifcA_of {P : Program} {T : TypeId} {fs : Array Field} {v : Value} (h : P.underlying T = some (.struct fs)) : ifcA P T v = some (.iface T v) := by
  unfold ifcA Instr.makeInterface
  rw [peek_bind, peek_und h]
  rfl
theorem ifc106 (v : Value) : ifcA Try.prog 106 v = some (.iface 106 v) := ifcA_of (fs := match Try.prog.underlying 106 with | some (.struct fs) => fs | _ => #[]) (by kernel_rfl)
attribute [go_sem] ifc106
/-- The panic of an error. -/
def stopV (c : Int) : Value := .iface 106 (.agg #[.int .i64 c])
theorem ok_must (c : Int) : FunOK Try.prog 76 [.one (.v (.bool true)), .one (iP c)] (.tup []) := by
  refine fun_ok (nt := 9) (rs := []) Try.func76 rfl rfl rfl (by simp) fun Z w0 => ?_; simp only [initFr, avR, List.map_cons, List.map_nil]
  refine tw ?_; try with_reducible intro QQ hQQ
  refine ti ?_; try clear hQQ QQ
  refine tw ?_; try with_reducible intro QQ hQQ
  (refine ⟨.inl rfl, ?_⟩); simp only [resA, res1, go_sem, ↓reduceIte]
theorem x_must (c : Int) : FunX Try.prog 76 [.one (.v (.bool false)), .one (iP c)] (stopV c) := by
  refine fun_x (nt := 9) Try.func76 rfl rfl (by simp) fun Z w0 => ?_; simp only [initFr, avR, List.map_cons, List.map_nil]
  refine tw ?_; try with_reducible intro QQ hQQ
  refine ti ?_; try clear hQQ QQ
  refine tw ?_; try with_reducible intro QQ hQQ
  refine ⟨rfl, .inr ⟨rfl, callS_panic rfl (by (simp (disch := first | decide | omega) only [go_sem, ↓reduceIte]); try rfl) ?_⟩⟩
  rfl
/-- What is recovered is turned into an error. -/
theorem stopped_idle (p : Addr) (w : World) : Calls Try.prog 47 #[.nilIface, .pointer (some p)] w fun e w' => (∃ v, e = .returned v) ∧ Below w.heap.size w w' := by
  go_enter Try.func47, Try.ntmps47
  go_wp2
  exact ⟨rfl, _, results_none rfl _ _ _, ⟨_, rfl⟩, Below.refl _ _⟩
theorem stopped_stop (p : Addr) (x c : Int) (w : World) (hc : w.cell? p = some (.int .i64 x)) (hz : w.frozen? p = false) : Calls Try.prog 47 #[stopV c, .pointer (some p)] w fun e w' => (∃ v, e = .returned v) ∧ ∃ w1, Below w.heap.size w w1 ∧ w' = w1.setCell p (.int .i64 c) := by
  have hta : ∀ w, (Instr.typeAssert (.iface 106 (.agg #[.int .i64 c])) 20 106 true).run Try.prog w = .ok (.tuple #[.agg #[.int .i64 c], .bool true]) w := fun _ => by kernel_rfl
  have hlt := World.block_lt_of_cell? _ _ hc
  have hb : ∀ ob, Below w.heap.size w (w.alloc ob) := fun ob => (Below.refl _ w).alloc (Nat.le_refl _) _
  have hc1 : (w.alloc (.cells #[.int .i64 c] 106)).cell? p = some (.int .i64 x) := ((hb _).cell hlt).trans hc
  have hz1 : (w.alloc (.cells #[.int .i64 c] 106)).frozen? p = false := ((hb _).frozen hlt).trans hz
  go_enter Try.func47, Try.ntmps47
  unfold stopV
  go_wp2
  exact ⟨rfl, _, results_none rfl _ _ _, ⟨_, rfl⟩, _, hb _, rfl⟩
theorem ans46 : AnswersOK Try.prog 46 stopV := answers_of Try.func46 rfl rfl rfl rfl rfl rfl rfl rfl rfl Try.func47 rfl (by decide) stopped_idle stopped_stop
theorem ans55 : AnswersOK Try.prog 55 stopV := answers_of Try.func55 rfl rfl rfl rfl rfl rfl rfl rfl rfl Try.func47 rfl (by decide) stopped_idle stopped_stop
theorem ans57 : AnswersOK Try.prog 57 stopV := answers_of Try.func57 rfl rfl rfl rfl rfl rfl rfl rfl rfl Try.func47 rfl (by decide) stopped_idle stopped_stop
theorem ans63 : AnswersOK Try.prog 63 stopV := answers_of Try.func63 rfl rfl rfl rfl rfl rfl rfl rfl rfl Try.func47 rfl (by decide) stopped_idle stopped_stop
theorem ans64 : AnswersOK Try.prog 64 stopV := answers_of Try.func64 rfl rfl rfl rfl rfl rfl rfl rfl rfl Try.func47 rfl (by decide) stopped_idle stopped_stop
theorem ans67 : AnswersOK Try.prog 67 stopV := answers_of Try.func67 rfl rfl rfl rfl rfl rfl rfl rfl rfl Try.func47 rfl (by decide) stopped_idle stopped_stop
theorem ans75 : AnswersOK Try.prog 75 stopV := answers_of Try.func75 rfl rfl rfl rfl rfl rfl rfl rfl rfl Try.func47 rfl (by decide) stopped_idle stopped_stop
theorem ans79 : AnswersOK Try.prog 79 stopV := answers_of Try.func79 rfl rfl rfl rfl rfl rfl rfl rfl rfl Try.func47 rfl (by decide) stopped_idle stopped_stop
section
variable {bales : List (Int × Int)}
theorem ok_told {N lo up : Nat} {top : Int} {tests : List (Int × Bool)} (hN : N ≤ 5) (hup : up ≤ 5) (hb6 : bales.length ≤ 6) (hb : ∀ i, i < bales.length → (0 ≤ (bales.getD i (0, 0)).1 ∧ (bales.getD i (0, 0)).1 < 32) ∧ (0 ≤ (bales.getD i (0, 0)).2 ∧ (bales.getD i (0, 0)).2 < 32)) (htl : tests.length ≤ 100) (ht : ∀ t ∈ tests, 0 ≤ t.1 ∧ t.1 < 6) (h0 : 0 < cntF lo up bales tests (2 ^ N)) :
    FunOK Try.prog 49 [.one (shP N lo up top bales tests)] (.one (.one (iP (cntF lo up bales tests (2 ^ N) : Nat)))) := by
  have hc := ok_count (N := N) (lo := lo) (up := up) (top := top) (tests0 := tests) hN hup hb6 hb htl ht
  have hm := ok_must 10
  simp only [shP] at hc
  generalize cntF lo up bales tests (2 ^ N) = c at *
  refine fun_ok (nt := 15) (rs := [.tmp 2]) Try.func49 rfl rfl rfl (by simp) fun Z w0 => ?_; simp only [initFr, avR, List.map_cons, List.map_nil]
  simp only [shP]
  refine tw ?_; try with_reducible intro QQ hQQ
  ((refine cO 65 rfl rfl rfl (hc) Try.func65 rfl ?_); refine tu ?_; try clear hQQ QQ); refine tw ?_; try with_reducible intro QQ hQQ
  ((refine cO 76 rfl rfl rfl (hm) Try.func76 rfl ?_); refine tu ?_; try clear hQQ QQ); refine tw ?_; try with_reducible intro QQ hQQ
  refine aw_ret ?_; refine ⟨.inr rfl, ?_⟩; simp only [resA, res1, go_sem, ↓reduceIte]
theorem x_told {N lo up : Nat} {top : Int} {tests : List (Int × Bool)} (hN : N ≤ 5) (hup : up ≤ 5) (hb6 : bales.length ≤ 6) (hb : ∀ i, i < bales.length → (0 ≤ (bales.getD i (0, 0)).1 ∧ (bales.getD i (0, 0)).1 < 32) ∧ (0 ≤ (bales.getD i (0, 0)).2 ∧ (bales.getD i (0, 0)).2 < 32)) (htl : tests.length ≤ 100) (ht : ∀ t ∈ tests, 0 ≤ t.1 ∧ t.1 < 6) (h0 : cntF lo up bales tests (2 ^ N) = 0) :
    FunX Try.prog 49 [.one (shP N lo up top bales tests)] (stopV 10) := by
  have hc := ok_count (N := N) (lo := lo) (up := up) (top := top) (tests0 := tests) hN hup hb6 hb htl ht
  rw [h0] at hc
  simp only [shP] at hc
  refine fun_x (nt := 15) Try.func49 rfl rfl (by simp) fun Z w0 => ?_; simp only [initFr, avR, List.map_cons, List.map_nil]
  simp only [shP]
  refine tw ?_; try with_reducible intro QQ hQQ
  ((refine cO 65 rfl rfl rfl (hc) Try.func65 rfl ?_); refine tu ?_; try clear hQQ QQ); refine tw ?_; try with_reducible intro QQ hQQ
  (refine ⟨rfl, .inr ⟨rfl, callS_x rfl 76 ⟨by simp (disch := first | decide | omega) only [go_sem, ↓reduceIte]; try rfl, by simp (disch := first | decide | omega) only [go_sem, ↓reduceIte]; try rfl⟩ Try.func76 rfl (by decide) (x_must 10) ?_⟩⟩)
  rfl
end
end Go.Proofs.Ytknikcpeacmpmaa
