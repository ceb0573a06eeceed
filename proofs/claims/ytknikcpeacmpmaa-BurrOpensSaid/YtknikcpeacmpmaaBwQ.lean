/- burr: which bales must be opened, by the document, walked. -/
import Derived.Test.YtknikcpeacmpmaaBwN
set_option linter.all false
namespace Go.Proofs.Ytknikcpeacmpmaa
open Go Go.RowKit Go.Sh Go.Pv
set_option maxHeartbeats 8000000
set_option maxRecDepth 8000
set_option pp.maxSteps 60000
/-- The bales of the truth at a place. -/
def hAt (l : List (Nat × Nat)) (i : Nat) : Nat := (l.getD i (0, 0)).2
def pairR (l : List (Nat × Nat)) (S T i k : Nat) : Prop := hAt l i &&& S = hAt l k &&& S → hAt l i &&& T = hAt l k &&& T
theorem tells_pairs {l : List (Nat × Nat)} {S T : Nat} : Tells S T (l.map (·.2)) ↔ ∀ i, i < l.length → ∀ k, k < i → pairR l S T i k := by
  have hg : ∀ i (h : i < l.length), hAt l i = (l[i]).2 := fun i h => by simp [hAt, List.getD, h]
  constructor
  · intro h i hi k hk e
    rw [hg i hi, hg k (by omega)] at e ⊢
    exact h _ (List.mem_map.2 ⟨_, List.getElem_mem hi, rfl⟩) _ (List.mem_map.2 ⟨_, List.getElem_mem (show k < l.length by omega), rfl⟩) e
  · intro h a ha b hb e
    obtain ⟨x, hx, rfl⟩ := List.mem_map.1 ha
    obtain ⟨y, hy, rfl⟩ := List.mem_map.1 hb
    obtain ⟨i, hi, rfl⟩ := List.getElem_of_mem hx
    obtain ⟨k, hk, rfl⟩ := List.getElem_of_mem hy
    rcases Nat.lt_trichotomy i k with h1 | h1 | h1
    · have := h k hk i h1
      unfold pairR at this
      rw [hg k hk, hg i hi] at this
      exact (this e.symm).symm
    · subst h1; rfl
    · have := h i hi k h1
      unfold pairR at this
      rw [hg k hk, hg i hi] at this
      exact this e
section
variable {n lo hi top : Int} {bales : List (Int × Int)} {tests : List (Int × Bool)}
attribute [local go_sem] rowT get_someT
theorem ok_tellsR (l : List (Nat × Nat)) (hl : l.length ≤ 2048) (hx : ∀ x ∈ l, x.2 < 64) (T S : Nat) (hT : T < 64) (hS : S < 64) : FunOK Try.prog 74 [buR n lo hi T bales tests, .one (.sl (l.map rowT)), .one (iP S)] (.one (.one (.v (.bool (decide (Tells S T (l.map (·.2)))))))) := by
  have hiff := tells_pairs (l := l) (S := S) (T := T)
  obtain ⟨R, hR⟩ : ∃ R, decide (Tells S T (l.map (·.2))) = R := ⟨_, rfl⟩
  have hgood : (∀ i, i < l.length → ∀ k, k < i → pairR l S T i k) → R = true := fun h => by rw [← hR]; exact decide_eq_true (hiff.2 h)
  have hbad : ∀ i, i < l.length → ∀ k, k < i → ¬ pairR l S T i k → R = false := fun i hi k hk hn => by rw [← hR]; exact decide_eq_false fun h => hn (hiff.1 h i hi k hk)
  rw [hR]
  clear hR hiff
  simp only [buR]
  refine fun_ok (nt := 54) (rs := [.tmp 6]) Try.func74 rfl rfl rfl (by simp) fun Z w0 => ?_; simp only [initFr, avR, List.map_cons, List.map_nil]
  refine tw ?_; try with_reducible intro QQ hQQ
  refine aw_weak (weak_keep [1, 2, 3, 7] (by simp only [go_sem, ↓reduceIte]; rfl)) ?_
  refine aw_loop_ov (ι := { i : Nat // i ≤ l.length ∧ ∀ j, j < i → ∀ k, k < j → pairR l S T j k }) (fun i => [(7, iA i.1)]) (fun _ => []) (fun i => l.length - i.1) ⟨0, by omega, fun k hk => absurd hk (by omega)⟩ (by first | rfl | (simp only [go_sem, ↓reduceIte]; first | done | rfl | (simp; try rfl))) ?_
  rintro ⟨i, hi', hij⟩
  simp (disch := decide) only [ov, ovL, AL.get_nil, AL.get_eq, AL.get_ne, Option.getD_some, Option.getD_none]
  by_cases hil : i < l.length
  · have hbi := hbad i hil
    have hmi := hx _ (mem_of_getD (d := (0, 0)) hil)
    refine tw ?_; try with_reducible intro QQ hQQ
    refine ti ?_; try clear hQQ QQ
    refine tw ?_; try with_reducible intro QQ hQQ
    refine aw_weak (weak_keep [1, 2, 3, 7, 8] (by simp only [go_sem, ↓reduceIte]; rfl)) ?_
    refine aw_loop_ov (ι := { k : Nat // k ≤ i ∧ ∀ j, j < k → pairR l S T i j }) (fun k => [(8, iA k.1)]) (fun _ => []) (fun k => i - k.1) ⟨0, by omega, fun k hk => absurd hk (by omega)⟩ (by first | rfl | (simp only [go_sem, ↓reduceIte]; first | done | rfl | (simp; try rfl))) ?_
    rintro ⟨k, hk, hkj⟩
    simp (disch := decide) only [ov, ovL, AL.get_nil, AL.get_eq, AL.get_ne, Option.getD_some, Option.getD_none]
    by_cases hkl : k < i
    · have hmk := hx _ (mem_of_getD (d := (0, 0)) (show k < l.length by omega))
      have hnext : pairR l S T i k → ∀ j, j < k + 1 → pairR l S T i j := fun h0 j hj => by
        by_cases e : j = k
        · rw [e]; exact h0
        · exact hkj j (by omega)
      have hbk := hbi k hkl
      have hkl2 : k < l.length := by omega
      unfold pairR hAt at hnext hbk
      obtain ⟨⟨a1, b1⟩, hi1⟩ : ∃ q, l.getD i (0, 0) = q := ⟨_, rfl⟩
      obtain ⟨⟨a2, b2⟩, hk1⟩ : ∃ q, l.getD k (0, 0) = q := ⟨_, rfl⟩
      rw [hi1] at hmi
      rw [hk1] at hmk
      simp only [hi1, hk1] at hbk
      have hnext : (b1 &&& S = b2 &&& S → b1 &&& T = b2 &&& T) → ∀ j, j < k + 1 → pairR l S T i j := fun g => hnext (by rw [hi1, hk1]; exact g)
      dsimp only at hmi hmk
      have c1 := ok_both b1 S hmi hS
      have c2 := ok_both b2 S hmk hS
      have c3 := ok_both b1 T hmi hT
      have c4 := ok_both b2 T hmk hT
      clear hij hbad hgood hkj hbi hx
      generalize b1 &&& S = x1 at *
      generalize b2 &&& S = x2 at *
      generalize b1 &&& T = x3 at *
      generalize b2 &&& T = x4 at *
      by_cases h1 : x1 = x2
      · by_cases h2 : x3 = x4
        · have hn2 := hnext fun _ => h2
          clear hbk hnext
          subst h1 h2
          (repeat (first | apply aw_seq | apply aw_block | apply aw_skip | apply aw_label | apply aw_exit | ((first | refine aw_region (hideO fun QQ hQQ => ?_) | refine aw_draw mixed (hideD fun QQ hQQ => ?_)); simp (maxSteps := 400000) (disch := first | decide | omega) only [hi1, hk1, go_sem, ↓reduceIte]; try (first | with_reducible refine unhide hQQ ?_ | refine ⟨by kernel_rfl, unhide hQQ ?_⟩); clear hQQ QQ) | with_reducible first | apply then_n | apply block_n | apply then_x | apply then_r | apply nog_n | apply nog_r | apply block_r | apply block_e (by decide) | apply block_x (by decide)))
          refine aw_cond2 (by simp (disch := first | decide | omega) only [hi1, hk1, go_sem, ↓reduceIte]; rfl) ?_; first | refine .inl ⟨by first | rfl | exact decide_eq_true (by omega) | exact decide_eq_true (by assumption) | (simp (disch := first | decide | omega) only [if_pos_d, if_neg_d, decide_eq_true_eq, Bool.not_eq_true', decide_eq_false_iff_not]; omega), ?_⟩ | refine .inr ⟨by first | rfl | exact decide_eq_false (by omega) | exact decide_eq_false (by assumption) | (simp (disch := first | decide | omega) only [if_pos_d, if_neg_d, decide_eq_true_eq, Bool.not_eq_true', decide_eq_false_iff_not]; omega), ?_⟩
          (repeat (first | apply aw_seq | apply aw_block | apply aw_skip | apply aw_label | apply aw_exit | ((first | refine aw_region (hideO fun QQ hQQ => ?_) | refine aw_draw mixed (hideD fun QQ hQQ => ?_)); simp (maxSteps := 400000) (disch := first | decide | omega) only [hi1, hk1, go_sem, ↓reduceIte]; try (first | with_reducible refine unhide hQQ ?_ | refine ⟨by kernel_rfl, unhide hQQ ?_⟩); clear hQQ QQ) | with_reducible first | apply then_n | apply block_n | apply then_x | apply then_r | apply nog_n | apply nog_r | apply block_r | apply block_e (by decide) | apply block_x (by decide)))
          (refine callD_ok rfl rfl 62 true rfl (by simp (disch := first | decide | omega) only [hi1, hk1, go_sem, ↓reduceIte]; try rfl) (fun _ => rfl) (c1) Try.func62 rfl (by decide) ?_); simp (maxSteps := 400000) (disch := first | decide | omega) only [hi1, hk1, go_sem, ↓reduceIte]; (try (refine ⟨by kernel_rfl, unhide hQQ ?_⟩; clear hQQ QQ; (repeat with_reducible first | apply then_n | apply block_n | apply then_x | apply then_r | apply nog_n | apply nog_r | apply block_r | apply block_e (by decide) | apply block_x (by decide))))
          (refine callD_ok rfl rfl 62 true rfl (by simp (disch := first | decide | omega) only [hi1, hk1, go_sem, ↓reduceIte]; try rfl) (fun _ => rfl) (c2) Try.func62 rfl (by decide) ?_); simp (maxSteps := 400000) (disch := first | decide | omega) only [hi1, hk1, go_sem, ↓reduceIte]; (try (refine ⟨by kernel_rfl, unhide hQQ ?_⟩; clear hQQ QQ; (repeat with_reducible first | apply then_n | apply block_n | apply then_x | apply then_r | apply nog_n | apply nog_r | apply block_r | apply block_e (by decide) | apply block_x (by decide))))
          (refine callD_ok rfl rfl 62 true rfl (by simp (disch := first | decide | omega) only [hi1, hk1, go_sem, ↓reduceIte]; try rfl) (fun _ => rfl) (c3) Try.func62 rfl (by decide) ?_); simp (maxSteps := 400000) (disch := first | decide | omega) only [hi1, hk1, go_sem, ↓reduceIte]; (try (refine ⟨by kernel_rfl, unhide hQQ ?_⟩; clear hQQ QQ; (repeat with_reducible first | apply then_n | apply block_n | apply then_x | apply then_r | apply nog_n | apply nog_r | apply block_r | apply block_e (by decide) | apply block_x (by decide))))
          (refine callD_ok rfl rfl 62 true rfl (by simp (disch := first | decide | omega) only [hi1, hk1, go_sem, ↓reduceIte]; try rfl) (fun _ => rfl) (c4) Try.func62 rfl (by decide) ?_); simp (maxSteps := 400000) (disch := first | decide | omega) only [hi1, hk1, go_sem, ↓reduceIte]; (try (refine ⟨by kernel_rfl, unhide hQQ ?_⟩; clear hQQ QQ; (repeat with_reducible first | apply then_n | apply block_n | apply then_x | apply then_r | apply nog_n | apply nog_r | apply block_r | apply block_e (by decide) | apply block_x (by decide))))
          (repeat (first | apply aw_seq | apply aw_block | apply aw_skip | apply aw_label | apply aw_exit | ((first | refine aw_region (hideO fun QQ hQQ => ?_) | refine aw_draw mixed (hideD fun QQ hQQ => ?_)); simp (maxSteps := 400000) (disch := first | decide | omega) only [hi1, hk1, go_sem, ↓reduceIte]; try (first | with_reducible refine unhide hQQ ?_ | refine ⟨by kernel_rfl, unhide hQQ ?_⟩); clear hQQ QQ) | with_reducible first | apply then_n | apply block_n | apply then_x | apply then_r | apply nog_n | apply nog_r | apply block_r | apply block_e (by decide) | apply block_x (by decide)))
          refine aw_cond2 (by simp (disch := first | decide | omega) only [hi1, hk1, go_sem, ↓reduceIte]; rfl) ?_; first | refine .inl ⟨by first | rfl | exact decide_eq_true (by omega) | exact decide_eq_true (by assumption) | (simp (disch := first | decide | omega) only [if_pos_d, if_neg_d, decide_eq_true_eq, Bool.not_eq_true', decide_eq_false_iff_not]; omega), ?_⟩ | refine .inr ⟨by first | rfl | exact decide_eq_false (by omega) | exact decide_eq_false (by assumption) | (simp (disch := first | decide | omega) only [if_pos_d, if_neg_d, decide_eq_true_eq, Bool.not_eq_true', decide_eq_false_iff_not]; omega), ?_⟩
          (repeat (first | apply aw_seq | apply aw_block | apply aw_skip | apply aw_label | apply aw_exit | ((first | refine aw_region (hideO fun QQ hQQ => ?_) | refine aw_draw mixed (hideD fun QQ hQQ => ?_)); simp (maxSteps := 400000) (disch := first | decide | omega) only [hi1, hk1, go_sem, ↓reduceIte]; try (first | with_reducible refine unhide hQQ ?_ | refine ⟨by kernel_rfl, unhide hQQ ?_⟩); clear hQQ QQ) | with_reducible first | apply then_n | apply block_n | apply then_x | apply then_r | apply nog_n | apply nog_r | apply block_r | apply block_e (by decide) | apply block_x (by decide)))
          (refine ⟨⟨k + 1, by omega, hn2⟩, ?_, weak_round (by simp only [hi1, hk1, go_sem, ↓reduceIte]; first | done | rfl) (by first | rfl | (simp only [hi1, hk1, go_sem, ↓reduceIte]))⟩; (simp only; omega))
        · rw [hbk (fun g => h2 (g h1))]
          subst h1
          clear hbk hnext
          (repeat (first | apply aw_seq | apply aw_block | apply aw_skip | apply aw_label | apply aw_exit | ((first | refine aw_region (hideO fun QQ hQQ => ?_) | refine aw_draw mixed (hideD fun QQ hQQ => ?_)); simp (maxSteps := 400000) (disch := first | decide | omega) only [hi1, hk1, go_sem, ↓reduceIte]; try (first | with_reducible refine unhide hQQ ?_ | refine ⟨by kernel_rfl, unhide hQQ ?_⟩); clear hQQ QQ) | with_reducible first | apply then_n | apply block_n | apply then_x | apply then_r | apply nog_n | apply nog_r | apply block_r | apply block_e (by decide) | apply block_x (by decide)))
          refine aw_cond2 (by simp (disch := first | decide | omega) only [hi1, hk1, go_sem, ↓reduceIte]; rfl) ?_; first | refine .inl ⟨by first | rfl | exact decide_eq_true (by omega) | exact decide_eq_true (by assumption) | (simp (disch := first | decide | omega) only [if_pos_d, if_neg_d, decide_eq_true_eq, Bool.not_eq_true', decide_eq_false_iff_not]; omega), ?_⟩ | refine .inr ⟨by first | rfl | exact decide_eq_false (by omega) | exact decide_eq_false (by assumption) | (simp (disch := first | decide | omega) only [if_pos_d, if_neg_d, decide_eq_true_eq, Bool.not_eq_true', decide_eq_false_iff_not]; omega), ?_⟩
          (repeat (first | apply aw_seq | apply aw_block | apply aw_skip | apply aw_label | apply aw_exit | ((first | refine aw_region (hideO fun QQ hQQ => ?_) | refine aw_draw mixed (hideD fun QQ hQQ => ?_)); simp (maxSteps := 400000) (disch := first | decide | omega) only [hi1, hk1, go_sem, ↓reduceIte]; try (first | with_reducible refine unhide hQQ ?_ | refine ⟨by kernel_rfl, unhide hQQ ?_⟩); clear hQQ QQ) | with_reducible first | apply then_n | apply block_n | apply then_x | apply then_r | apply nog_n | apply nog_r | apply block_r | apply block_e (by decide) | apply block_x (by decide)))
          (refine callD_ok rfl rfl 62 true rfl (by simp (disch := first | decide | omega) only [hi1, hk1, go_sem, ↓reduceIte]; try rfl) (fun _ => rfl) (c1) Try.func62 rfl (by decide) ?_); simp (maxSteps := 400000) (disch := first | decide | omega) only [hi1, hk1, go_sem, ↓reduceIte]; (try (refine ⟨by kernel_rfl, unhide hQQ ?_⟩; clear hQQ QQ; (repeat with_reducible first | apply then_n | apply block_n | apply then_x | apply then_r | apply nog_n | apply nog_r | apply block_r | apply block_e (by decide) | apply block_x (by decide))))
          (refine callD_ok rfl rfl 62 true rfl (by simp (disch := first | decide | omega) only [hi1, hk1, go_sem, ↓reduceIte]; try rfl) (fun _ => rfl) (c2) Try.func62 rfl (by decide) ?_); simp (maxSteps := 400000) (disch := first | decide | omega) only [hi1, hk1, go_sem, ↓reduceIte]; (try (refine ⟨by kernel_rfl, unhide hQQ ?_⟩; clear hQQ QQ; (repeat with_reducible first | apply then_n | apply block_n | apply then_x | apply then_r | apply nog_n | apply nog_r | apply block_r | apply block_e (by decide) | apply block_x (by decide))))
          (refine callD_ok rfl rfl 62 true rfl (by simp (disch := first | decide | omega) only [hi1, hk1, go_sem, ↓reduceIte]; try rfl) (fun _ => rfl) (c3) Try.func62 rfl (by decide) ?_); simp (maxSteps := 400000) (disch := first | decide | omega) only [hi1, hk1, go_sem, ↓reduceIte]; (try (refine ⟨by kernel_rfl, unhide hQQ ?_⟩; clear hQQ QQ; (repeat with_reducible first | apply then_n | apply block_n | apply then_x | apply then_r | apply nog_n | apply nog_r | apply block_r | apply block_e (by decide) | apply block_x (by decide))))
          (refine callD_ok rfl rfl 62 true rfl (by simp (disch := first | decide | omega) only [hi1, hk1, go_sem, ↓reduceIte]; try rfl) (fun _ => rfl) (c4) Try.func62 rfl (by decide) ?_); simp (maxSteps := 400000) (disch := first | decide | omega) only [hi1, hk1, go_sem, ↓reduceIte]; (try (refine ⟨by kernel_rfl, unhide hQQ ?_⟩; clear hQQ QQ; (repeat with_reducible first | apply then_n | apply block_n | apply then_x | apply then_r | apply nog_n | apply nog_r | apply block_r | apply block_e (by decide) | apply block_x (by decide))))
          (repeat (first | apply aw_seq | apply aw_block | apply aw_skip | apply aw_label | apply aw_exit | ((first | refine aw_region (hideO fun QQ hQQ => ?_) | refine aw_draw mixed (hideD fun QQ hQQ => ?_)); simp (maxSteps := 400000) (disch := first | decide | omega) only [hi1, hk1, go_sem, ↓reduceIte]; try (first | with_reducible refine unhide hQQ ?_ | refine ⟨by kernel_rfl, unhide hQQ ?_⟩); clear hQQ QQ) | with_reducible first | apply then_n | apply block_n | apply then_x | apply then_r | apply nog_n | apply nog_r | apply block_r | apply block_e (by decide) | apply block_x (by decide)))
          refine aw_cond2 (by simp (disch := first | decide | omega) only [hi1, hk1, go_sem, ↓reduceIte]; rfl) ?_; first | refine .inl ⟨by first | rfl | exact decide_eq_true (by omega) | exact decide_eq_true (by assumption) | (simp (disch := first | decide | omega) only [if_pos_d, if_neg_d, decide_eq_true_eq, Bool.not_eq_true', decide_eq_false_iff_not]; omega), ?_⟩ | refine .inr ⟨by first | rfl | exact decide_eq_false (by omega) | exact decide_eq_false (by assumption) | (simp (disch := first | decide | omega) only [if_pos_d, if_neg_d, decide_eq_true_eq, Bool.not_eq_true', decide_eq_false_iff_not]; omega), ?_⟩
          (repeat (first | apply aw_seq | apply aw_block | apply aw_skip | apply aw_label | apply aw_exit | ((first | refine aw_region (hideO fun QQ hQQ => ?_) | refine aw_draw mixed (hideD fun QQ hQQ => ?_)); simp (maxSteps := 400000) (disch := first | decide | omega) only [hi1, hk1, go_sem, ↓reduceIte]; try (first | with_reducible refine unhide hQQ ?_ | refine ⟨by kernel_rfl, unhide hQQ ?_⟩); clear hQQ QQ) | with_reducible first | apply then_n | apply block_n | apply then_x | apply then_r | apply nog_n | apply nog_r | apply block_r | apply block_e (by decide) | apply block_x (by decide)))
          refine aw_ret ?_; refine ⟨.inr rfl, ?_⟩; simp only [resA, res1, go_sem, ↓reduceIte]
      · have hnext := hnext fun e => absurd e h1
        clear hbk
        (repeat (first | apply aw_seq | apply aw_block | apply aw_skip | apply aw_label | apply aw_exit | ((first | refine aw_region (hideO fun QQ hQQ => ?_) | refine aw_draw mixed (hideD fun QQ hQQ => ?_)); simp (maxSteps := 400000) (disch := first | decide | omega) only [hi1, hk1, go_sem, ↓reduceIte]; try (first | with_reducible refine unhide hQQ ?_ | refine ⟨by kernel_rfl, unhide hQQ ?_⟩); clear hQQ QQ) | with_reducible first | apply then_n | apply block_n | apply then_x | apply then_r | apply nog_n | apply nog_r | apply block_r | apply block_e (by decide) | apply block_x (by decide)))
        refine aw_cond2 (by simp (disch := first | decide | omega) only [hi1, hk1, go_sem, ↓reduceIte]; rfl) ?_; first | refine .inl ⟨by first | rfl | exact decide_eq_true (by omega) | exact decide_eq_true (by assumption) | (simp (disch := first | decide | omega) only [if_pos_d, if_neg_d, decide_eq_true_eq, Bool.not_eq_true', decide_eq_false_iff_not]; omega), ?_⟩ | refine .inr ⟨by first | rfl | exact decide_eq_false (by omega) | exact decide_eq_false (by assumption) | (simp (disch := first | decide | omega) only [if_pos_d, if_neg_d, decide_eq_true_eq, Bool.not_eq_true', decide_eq_false_iff_not]; omega), ?_⟩
        (repeat (first | apply aw_seq | apply aw_block | apply aw_skip | apply aw_label | apply aw_exit | ((first | refine aw_region (hideO fun QQ hQQ => ?_) | refine aw_draw mixed (hideD fun QQ hQQ => ?_)); simp (maxSteps := 400000) (disch := first | decide | omega) only [hi1, hk1, go_sem, ↓reduceIte]; try (first | with_reducible refine unhide hQQ ?_ | refine ⟨by kernel_rfl, unhide hQQ ?_⟩); clear hQQ QQ) | with_reducible first | apply then_n | apply block_n | apply then_x | apply then_r | apply nog_n | apply nog_r | apply block_r | apply block_e (by decide) | apply block_x (by decide)))
        (refine callD_ok rfl rfl 62 true rfl (by simp (disch := first | decide | omega) only [hi1, hk1, go_sem, ↓reduceIte]; try rfl) (fun _ => rfl) (c1) Try.func62 rfl (by decide) ?_); simp (maxSteps := 400000) (disch := first | decide | omega) only [hi1, hk1, go_sem, ↓reduceIte]; (try (refine ⟨by kernel_rfl, unhide hQQ ?_⟩; clear hQQ QQ; (repeat with_reducible first | apply then_n | apply block_n | apply then_x | apply then_r | apply nog_n | apply nog_r | apply block_r | apply block_e (by decide) | apply block_x (by decide))))
        (refine callD_ok rfl rfl 62 true rfl (by simp (disch := first | decide | omega) only [hi1, hk1, go_sem, ↓reduceIte]; try rfl) (fun _ => rfl) (c2) Try.func62 rfl (by decide) ?_); simp (maxSteps := 400000) (disch := first | decide | omega) only [hi1, hk1, go_sem, ↓reduceIte]; (try (refine ⟨by kernel_rfl, unhide hQQ ?_⟩; clear hQQ QQ; (repeat with_reducible first | apply then_n | apply block_n | apply then_x | apply then_r | apply nog_n | apply nog_r | apply block_r | apply block_e (by decide) | apply block_x (by decide))))
        (repeat (first | apply aw_seq | apply aw_block | apply aw_skip | apply aw_label | apply aw_exit | ((first | refine aw_region (hideO fun QQ hQQ => ?_) | refine aw_draw mixed (hideD fun QQ hQQ => ?_)); simp (maxSteps := 400000) (disch := first | decide | omega) only [hi1, hk1, go_sem, ↓reduceIte]; try (first | with_reducible refine unhide hQQ ?_ | refine ⟨by kernel_rfl, unhide hQQ ?_⟩); clear hQQ QQ) | with_reducible first | apply then_n | apply block_n | apply then_x | apply then_r | apply nog_n | apply nog_r | apply block_r | apply block_e (by decide) | apply block_x (by decide)))
        refine aw_cond2 (by simp (disch := first | decide | omega) only [hi1, hk1, go_sem, ↓reduceIte]; rfl) ?_; first | refine .inl ⟨by first | rfl | exact decide_eq_true (by omega) | exact decide_eq_true (by assumption) | (simp (disch := first | decide | omega) only [if_pos_d, if_neg_d, decide_eq_true_eq, Bool.not_eq_true', decide_eq_false_iff_not]; omega), ?_⟩ | refine .inr ⟨by first | rfl | exact decide_eq_false (by omega) | exact decide_eq_false (by assumption) | (simp (disch := first | decide | omega) only [if_pos_d, if_neg_d, decide_eq_true_eq, Bool.not_eq_true', decide_eq_false_iff_not]; omega), ?_⟩
        (repeat (first | apply aw_seq | apply aw_block | apply aw_skip | apply aw_label | apply aw_exit | ((first | refine aw_region (hideO fun QQ hQQ => ?_) | refine aw_draw mixed (hideD fun QQ hQQ => ?_)); simp (maxSteps := 400000) (disch := first | decide | omega) only [hi1, hk1, go_sem, ↓reduceIte]; try (first | with_reducible refine unhide hQQ ?_ | refine ⟨by kernel_rfl, unhide hQQ ?_⟩); clear hQQ QQ) | with_reducible first | apply then_n | apply block_n | apply then_x | apply then_r | apply nog_n | apply nog_r | apply block_r | apply block_e (by decide) | apply block_x (by decide)))
        (refine ⟨⟨k + 1, by omega, hnext⟩, ?_, weak_round (by simp only [hi1, hk1, go_sem, ↓reduceIte]; first | done | rfl) (by first | rfl | (simp only [hi1, hk1, go_sem, ↓reduceIte]))⟩; (simp only; omega))
    · have : k = i := by omega
      subst this
      have hnx : ∀ j, j < k + 1 → ∀ m, m < j → pairR l S T j m := fun j hj m hm => by
        by_cases e : j = k
        · subst e; exact hkj m hm
        · exact hij j (by omega) m hm
      clear hij hbad hgood hkj hbi hx
      refine tw ?_; try with_reducible intro QQ hQQ
      refine ti ?_; try clear hQQ QQ
      refine tw ?_; try with_reducible intro QQ hQQ
      (refine ⟨⟨k + 1, by omega, hnx⟩, ?_, weak_round (by simp only [go_sem, ↓reduceIte]; first | done | rfl) (by first | rfl | (simp only [go_sem, ↓reduceIte]))⟩; (simp only; omega))
  · have : i = l.length := by omega
    subst this
    rw [hgood hij]
    clear hij hbad hgood hx
    refine tw ?_; try with_reducible intro QQ hQQ
    refine ti ?_; try clear hQQ QQ
    refine tw ?_; try with_reducible intro QQ hQQ
    refine aw_ret ?_; refine ⟨.inr rfl, ?_⟩; simp only [resA, res1, go_sem, ↓reduceIte]
end
end Go.Proofs.Ytknikcpeacmpmaa
