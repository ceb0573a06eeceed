/- Kh: texts joined (TzD TzE). -/
import Derived.Test.YtejbglbiefpagaaKg
set_option linter.all false
/- tally, the document's functions: what is right, and those that are truths. -/
namespace Go.Proofs.Ytejbglbiefpagaa
open Go Go.RowKit Go.Sh Go.Pv
set_option maxHeartbeats 4000000
set_option maxRecDepth 8000
set_option pp.maxSteps 60000
/-- All can be so, by the calls of a set. -/
def RightG (N : Nat) (calls : List (Int × Int × Int × Int)) (set : Nat) (t : List Int × List Int) : Prop :=
  (∀ p, p < N → 0 ≤ penG N t p) ∧ ∀ i, i < calls.length → set.testBit i = true → inC N (fX t.1) (fX t.2) (calls.getD i (0, 0, 0, 0))
noncomputable def rightB (N : Nat) (calls : List (Int × Int × Int × Int)) (set : Nat) (t : List Int × List Int) : Bool := @decide (RightG N calls set t) (Classical.propDecidable _)
theorem rightB_iff {N : Nat} {calls : List (Int × Int × Int × Int)} {set : Nat} {t : List Int × List Int} : rightB N calls set t = true ↔ RightG N calls set t := by
  unfold rightB; exact @decide_eq_true_iff _ (Classical.propDecidable _)
theorem inB_iff {a b c : Int} : inB a b c = true ↔ b ≤ a ∧ a ≤ c := by simp [inB]
section
variable {N : Nat} {most : Int} {strays : List (Int × Int)} {calls : List (Int × Int × Int × Int)}
attribute [local go_sem] row4 get_some4 get_someT rowT rowsK_rT rowsK_nil' rowsK_cons' not_isEmpty_nil Bool.false_or
theorem ok_right109 (h : TOK N most strays calls) {t : List Int × List Int} (hG : GoodT N t) {set : Nat} (hs : set < 256) : FunOK Try.prog 109 [tyR N most strays calls, .agg (rowT t), .one (iP set)] (.one (.one (.v (.bool (rightB N calls set t))))) := by
  have n1 := h.n1
  have n5 := h.n5
  have hcl := h.cl
  obtain ⟨b, hb⟩ : ∃ b, rightB N calls set t = b := ⟨_, rfl⟩
  rw [hb]
  have hbf : ¬ RightG N calls set t → b = false := fun hn => by
    rw [← hb]; rw [← Bool.not_eq_true]; exact fun hc => hn (rightB_iff.1 hc)
  have hbt : RightG N calls set t → b = true := fun hn => by rw [← hb]; exact rightB_iff.2 hn
  have hIn := fun p (hp : p < N) => ok_In57 hG n5 hp
  have hCn := fun c hc => ok_Counts74 (c := c) hG n1 n5 hc
  simp only [rowT, row4] at hIn hCn
  refine fun_ok (nt := 48) (rs := [.tmp 6]) Try.func109 rfl rfl rfl (by simp) fun Z w0 => ?_; simp only [initFr, avR, List.map_cons, List.map_nil]
  simp only [tyR, List.map_cons, List.map_nil]
  refine tw ?_; try with_reducible intro QQ hQQ
  refine aw_weak (weak_keep [2, 3, 4, 7] (by simp only [go_sem, ↓reduceIte]; rfl)) ?_
  refine aw_loop_ov (ι := { p : Nat // p ≤ N ∧ ∀ k, k < p → 0 ≤ penG N t k }) (fun p => [(7, iA p.1)]) (fun _ => []) (fun p => N - p.1) ⟨0, by omega, fun k hk => absurd hk (by omega)⟩ (by first | rfl | (simp only [go_sem, ↓reduceIte]; first | done | rfl | (simp; try rfl))) ?_
  rintro ⟨p, hp, hpk⟩
  simp (disch := decide) only [ov, ovL, AL.get_nil, AL.get_eq, AL.get_ne, Option.getD_some, Option.getD_none]
  by_cases hpN : p < N
  · have hI := hIn p hpN
    have hx : 0 ≤ penG N t p → ∀ k, k < p + 1 → 0 ≤ penG N t k := fun h0 k hk => by
      by_cases e : k = p
      · rw [e]; exact h0
      · exact hpk k (by omega)
    have hno : penG N t p < 0 → b = false := fun hv => hbf fun hr => by have := hr.1 p hpN; omega
    generalize penG N t p = v at hI hx hno
    by_cases hv : v < 0
    · have := hno hv
      subst this
      clear hx hno hbf hbt hpk hCn hIn
      refine tw ?_; try with_reducible intro QQ hQQ
      refine ti ?_; try clear hQQ QQ
      refine tw ?_; try with_reducible intro QQ hQQ
      ((refine cO 57 rfl rfl rfl (hI) Try.func57 rfl ?_); refine tu ?_; try clear hQQ QQ); refine tw ?_; try with_reducible intro QQ hQQ
      refine ti ?_; try clear hQQ QQ
      refine tw ?_; try with_reducible intro QQ hQQ
      refine aw_ret ?_; refine ⟨.inr rfl, ?_⟩; simp only [resA, res1, go_sem, ↓reduceIte]
    · have hx := hx (by omega)
      clear hno
      refine tw ?_; try with_reducible intro QQ hQQ
      refine ti ?_; try clear hQQ QQ
      refine tw ?_; try with_reducible intro QQ hQQ
      ((refine cO 57 rfl rfl rfl (hI) Try.func57 rfl ?_); refine tu ?_; try clear hQQ QQ); refine tw ?_; try with_reducible intro QQ hQQ
      refine ti ?_; try clear hQQ QQ
      refine tw ?_; try with_reducible intro QQ hQQ
      (refine ⟨⟨p + 1, by omega, hx⟩, ?_, weak_round (by simp only [go_sem, ↓reduceIte]; first | done | rfl) (by first | rfl | (simp only [go_sem, ↓reduceIte]))⟩; (simp only; omega))
  have hpe : p = N := by omega
  subst hpe
  refine tw ?_; try with_reducible intro QQ hQQ
  refine ti ?_; try clear hQQ QQ
  refine tw ?_; try with_reducible intro QQ hQQ
  refine aw_weak (weak_keep [2, 3, 4, 8] (by simp only [go_sem, ↓reduceIte]; rfl)) ?_
  refine aw_loop_ov (ι := { i : Nat // i ≤ calls.length ∧ ∀ k, k < i → set.testBit k = true → inC p (fX t.1) (fX t.2) (calls.getD k (0, 0, 0, 0)) }) (fun i => [(8, iA i.1)]) (fun _ => []) (fun i => calls.length - i.1) ⟨0, by omega, fun k hk => absurd hk (by omega)⟩ (by first | rfl | (simp only [go_sem, ↓reduceIte]; first | done | rfl | (simp; try rfl))) ?_
  rintro ⟨i, hi, hik⟩
  simp (disch := decide) only [ov, ovL, AL.get_nil, AL.get_eq, AL.get_ne, Option.getD_some, Option.getD_none]
  by_cases hil : i < calls.length
  · have hcb := h.ca i hil
    have hH := ok_Has86 hs (n := i) (by omega)
    have hx : (set.testBit i = true → inC p (fX t.1) (fX t.2) (calls.getD i (0, 0, 0, 0))) → ∀ k, k < i + 1 → set.testBit k = true → inC p (fX t.1) (fX t.2) (calls.getD k (0, 0, 0, 0)) := fun h0 k hk => by
      by_cases e : k = i
      · rw [e]; exact h0
      · exact hik k (by omega)
    have hno : set.testBit i = true → ¬ inC p (fX t.1) (fX t.2) (calls.getD i (0, 0, 0, 0)) → b = false := fun h1 h2 => hbf fun hr => h2 (hr.2 i hil h1)
    cases hbit : set.testBit i
    · rw [hbit] at hH
      have hx := hx (fun hn => by rw [hbit] at hn; cases hn)
      clear hno hik hIn hCn hbf hbt hpk
      refine tw ?_; try with_reducible intro QQ hQQ
      refine ti ?_; try clear hQQ QQ
      refine tw ?_; try with_reducible intro QQ hQQ
      (refine cD 86 rfl rfl rfl (hH) Try.func86 rfl ?_); refine td ?_; try clear hQQ QQ
      refine tw ?_; try with_reducible intro QQ hQQ
      refine ti ?_; try clear hQQ QQ
      refine tw ?_; try with_reducible intro QQ hQQ
      (refine ⟨⟨i + 1, by omega, hx⟩, ?_, weak_round (by simp only [go_sem, ↓reduceIte]; first | done | rfl) (by first | rfl | (simp only [go_sem, ↓reduceIte]))⟩; (simp only; omega))
    · rw [hbit] at hH
      have hC := hCn _ hcb
      have hC2 : inC p (fX t.1) (fX t.2) (calls.getD i (0, 0, 0, 0)) ↔ (calls.getD i (0, 0, 0, 0)).2.2.1 ≤ cntG p t (calls.getD i (0, 0, 0, 0)) ∧ cntG p t (calls.getD i (0, 0, 0, 0)) ≤ (calls.getD i (0, 0, 0, 0)).2.2.2 := Iff.rfl
      rw [hC2] at hno hx
      clear hC2
      generalize cntG p t (calls.getD i (0, 0, 0, 0)) = v at hC hno hx
      obtain ⟨⟨ck, cat, clo, chi⟩, hc⟩ : ∃ c, calls.getD i (0, 0, 0, 0) = c := ⟨_, rfl⟩
      rw [hc] at hC hno
      have hx := fun h0 => hx fun _ => h0
      rw [hc] at hx
      have hn3 := ok_in73 v clo chi
      dsimp only at hno hx hC
      cases hv : inB v clo chi
      · rw [hv] at hn3
        have := hno hbit fun hh => by rw [← inB_iff, hv] at hh; cases hh
        subst this
        clear hx hno hbf hbt hpk hCn hIn hik
        (repeat (first | apply aw_seq | apply aw_block | apply aw_skip | apply aw_label | apply aw_exit | ((first | refine aw_region (hideO fun QQ hQQ => ?_) | refine aw_draw mixed (hideD fun QQ hQQ => ?_)); simp (maxSteps := 400000) (disch := first | decide | omega) only [hc, go_sem, ↓reduceIte]; try (first | with_reducible refine unhide hQQ ?_ | refine ⟨by kernel_rfl, unhide hQQ ?_⟩); clear hQQ QQ) | with_reducible first | apply then_n | apply block_n | apply then_x | apply then_r | apply nog_n | apply nog_r | apply block_r | apply block_e (by decide) | apply block_x (by decide)))
        refine aw_cond2 (by simp (disch := first | decide | omega) only [hc, go_sem, ↓reduceIte]; rfl) ?_; first | refine .inl ⟨by first | rfl | exact decide_eq_true (by omega) | exact decide_eq_true (by assumption) | (simp (disch := first | decide | omega) only [if_pos_d, if_neg_d, decide_eq_true_eq, Bool.not_eq_true', decide_eq_false_iff_not]; omega), ?_⟩ | refine .inr ⟨by first | rfl | exact decide_eq_false (by omega) | exact decide_eq_false (by assumption) | (simp (disch := first | decide | omega) only [if_pos_d, if_neg_d, decide_eq_true_eq, Bool.not_eq_true', decide_eq_false_iff_not]; omega), ?_⟩
        (repeat (first | apply aw_seq | apply aw_block | apply aw_skip | apply aw_label | apply aw_exit | ((first | refine aw_region (hideO fun QQ hQQ => ?_) | refine aw_draw mixed (hideD fun QQ hQQ => ?_)); simp (maxSteps := 400000) (disch := first | decide | omega) only [hc, go_sem, ↓reduceIte]; try (first | with_reducible refine unhide hQQ ?_ | refine ⟨by kernel_rfl, unhide hQQ ?_⟩); clear hQQ QQ) | with_reducible first | apply then_n | apply block_n | apply then_x | apply then_r | apply nog_n | apply nog_r | apply block_r | apply block_e (by decide) | apply block_x (by decide)))
        (refine callD_ok rfl rfl 86 true rfl (by simp (disch := first | decide | omega) only [hc, go_sem, ↓reduceIte]; try rfl) (fun _ => rfl) (hH) Try.func86 rfl (by decide) ?_); simp (maxSteps := 400000) (disch := first | decide | omega) only [hc, go_sem, ↓reduceIte]; (try (refine ⟨by kernel_rfl, unhide hQQ ?_⟩; clear hQQ QQ; (repeat with_reducible first | apply then_n | apply block_n | apply then_x | apply then_r | apply nog_n | apply nog_r | apply block_r | apply block_e (by decide) | apply block_x (by decide))))
        (refine callD_ok rfl rfl 74 true rfl (by simp (disch := first | decide | omega) only [hc, go_sem, ↓reduceIte]; try rfl) (fun _ => rfl) (hC) Try.func74 rfl (by decide) ?_); simp (maxSteps := 400000) (disch := first | decide | omega) only [hc, go_sem, ↓reduceIte]; (try (refine ⟨by kernel_rfl, unhide hQQ ?_⟩; clear hQQ QQ; (repeat with_reducible first | apply then_n | apply block_n | apply then_x | apply then_r | apply nog_n | apply nog_r | apply block_r | apply block_e (by decide) | apply block_x (by decide))))
        (refine callD_ok rfl rfl 73 true rfl (by simp (disch := first | decide | omega) only [hc, go_sem, ↓reduceIte]; try rfl) (fun _ => rfl) (hn3) Try.func73 rfl (by decide) ?_); simp (maxSteps := 400000) (disch := first | decide | omega) only [hc, go_sem, ↓reduceIte]; (try (refine ⟨by kernel_rfl, unhide hQQ ?_⟩; clear hQQ QQ; (repeat with_reducible first | apply then_n | apply block_n | apply then_x | apply then_r | apply nog_n | apply nog_r | apply block_r | apply block_e (by decide) | apply block_x (by decide))))
        (repeat (first | apply aw_seq | apply aw_block | apply aw_skip | apply aw_label | apply aw_exit | ((first | refine aw_region (hideO fun QQ hQQ => ?_) | refine aw_draw mixed (hideD fun QQ hQQ => ?_)); simp (maxSteps := 400000) (disch := first | decide | omega) only [hc, go_sem, ↓reduceIte]; try (first | with_reducible refine unhide hQQ ?_ | refine ⟨by kernel_rfl, unhide hQQ ?_⟩); clear hQQ QQ) | with_reducible first | apply then_n | apply block_n | apply then_x | apply then_r | apply nog_n | apply nog_r | apply block_r | apply block_e (by decide) | apply block_x (by decide)))
        refine aw_cond2 (by simp (disch := first | decide | omega) only [hc, go_sem, ↓reduceIte]; rfl) ?_; first | refine .inl ⟨by first | rfl | exact decide_eq_true (by omega) | exact decide_eq_true (by assumption) | (simp (disch := first | decide | omega) only [if_pos_d, if_neg_d, decide_eq_true_eq, Bool.not_eq_true', decide_eq_false_iff_not]; omega), ?_⟩ | refine .inr ⟨by first | rfl | exact decide_eq_false (by omega) | exact decide_eq_false (by assumption) | (simp (disch := first | decide | omega) only [if_pos_d, if_neg_d, decide_eq_true_eq, Bool.not_eq_true', decide_eq_false_iff_not]; omega), ?_⟩
        (repeat (first | apply aw_seq | apply aw_block | apply aw_skip | apply aw_label | apply aw_exit | ((first | refine aw_region (hideO fun QQ hQQ => ?_) | refine aw_draw mixed (hideD fun QQ hQQ => ?_)); simp (maxSteps := 400000) (disch := first | decide | omega) only [hc, go_sem, ↓reduceIte]; try (first | with_reducible refine unhide hQQ ?_ | refine ⟨by kernel_rfl, unhide hQQ ?_⟩); clear hQQ QQ) | with_reducible first | apply then_n | apply block_n | apply then_x | apply then_r | apply nog_n | apply nog_r | apply block_r | apply block_e (by decide) | apply block_x (by decide)))
        refine aw_ret ?_; refine ⟨.inr rfl, ?_⟩; simp only [resA, res1, go_sem, ↓reduceIte]
      · rw [hv] at hn3
        have hx := hx (inB_iff.1 hv)
        clear hno hbf hbt hpk hCn hIn hik
        (repeat (first | apply aw_seq | apply aw_block | apply aw_skip | apply aw_label | apply aw_exit | ((first | refine aw_region (hideO fun QQ hQQ => ?_) | refine aw_draw mixed (hideD fun QQ hQQ => ?_)); simp (maxSteps := 400000) (disch := first | decide | omega) only [hc, go_sem, ↓reduceIte]; try (first | with_reducible refine unhide hQQ ?_ | refine ⟨by kernel_rfl, unhide hQQ ?_⟩); clear hQQ QQ) | with_reducible first | apply then_n | apply block_n | apply then_x | apply then_r | apply nog_n | apply nog_r | apply block_r | apply block_e (by decide) | apply block_x (by decide)))
        refine aw_cond2 (by simp (disch := first | decide | omega) only [hc, go_sem, ↓reduceIte]; rfl) ?_; first | refine .inl ⟨by first | rfl | exact decide_eq_true (by omega) | exact decide_eq_true (by assumption) | (simp (disch := first | decide | omega) only [if_pos_d, if_neg_d, decide_eq_true_eq, Bool.not_eq_true', decide_eq_false_iff_not]; omega), ?_⟩ | refine .inr ⟨by first | rfl | exact decide_eq_false (by omega) | exact decide_eq_false (by assumption) | (simp (disch := first | decide | omega) only [if_pos_d, if_neg_d, decide_eq_true_eq, Bool.not_eq_true', decide_eq_false_iff_not]; omega), ?_⟩
        (repeat (first | apply aw_seq | apply aw_block | apply aw_skip | apply aw_label | apply aw_exit | ((first | refine aw_region (hideO fun QQ hQQ => ?_) | refine aw_draw mixed (hideD fun QQ hQQ => ?_)); simp (maxSteps := 400000) (disch := first | decide | omega) only [hc, go_sem, ↓reduceIte]; try (first | with_reducible refine unhide hQQ ?_ | refine ⟨by kernel_rfl, unhide hQQ ?_⟩); clear hQQ QQ) | with_reducible first | apply then_n | apply block_n | apply then_x | apply then_r | apply nog_n | apply nog_r | apply block_r | apply block_e (by decide) | apply block_x (by decide)))
        (refine callD_ok rfl rfl 86 true rfl (by simp (disch := first | decide | omega) only [hc, go_sem, ↓reduceIte]; try rfl) (fun _ => rfl) (hH) Try.func86 rfl (by decide) ?_); simp (maxSteps := 400000) (disch := first | decide | omega) only [hc, go_sem, ↓reduceIte]; (try (refine ⟨by kernel_rfl, unhide hQQ ?_⟩; clear hQQ QQ; (repeat with_reducible first | apply then_n | apply block_n | apply then_x | apply then_r | apply nog_n | apply nog_r | apply block_r | apply block_e (by decide) | apply block_x (by decide))))
        (refine callD_ok rfl rfl 74 true rfl (by simp (disch := first | decide | omega) only [hc, go_sem, ↓reduceIte]; try rfl) (fun _ => rfl) (hC) Try.func74 rfl (by decide) ?_); simp (maxSteps := 400000) (disch := first | decide | omega) only [hc, go_sem, ↓reduceIte]; (try (refine ⟨by kernel_rfl, unhide hQQ ?_⟩; clear hQQ QQ; (repeat with_reducible first | apply then_n | apply block_n | apply then_x | apply then_r | apply nog_n | apply nog_r | apply block_r | apply block_e (by decide) | apply block_x (by decide))))
        (refine callD_ok rfl rfl 73 true rfl (by simp (disch := first | decide | omega) only [hc, go_sem, ↓reduceIte]; try rfl) (fun _ => rfl) (hn3) Try.func73 rfl (by decide) ?_); simp (maxSteps := 400000) (disch := first | decide | omega) only [hc, go_sem, ↓reduceIte]; (try (refine ⟨by kernel_rfl, unhide hQQ ?_⟩; clear hQQ QQ; (repeat with_reducible first | apply then_n | apply block_n | apply then_x | apply then_r | apply nog_n | apply nog_r | apply block_r | apply block_e (by decide) | apply block_x (by decide))))
        (repeat (first | apply aw_seq | apply aw_block | apply aw_skip | apply aw_label | apply aw_exit | ((first | refine aw_region (hideO fun QQ hQQ => ?_) | refine aw_draw mixed (hideD fun QQ hQQ => ?_)); simp (maxSteps := 400000) (disch := first | decide | omega) only [hc, go_sem, ↓reduceIte]; try (first | with_reducible refine unhide hQQ ?_ | refine ⟨by kernel_rfl, unhide hQQ ?_⟩); clear hQQ QQ) | with_reducible first | apply then_n | apply block_n | apply then_x | apply then_r | apply nog_n | apply nog_r | apply block_r | apply block_e (by decide) | apply block_x (by decide)))
        refine aw_cond2 (by simp (disch := first | decide | omega) only [hc, go_sem, ↓reduceIte]; rfl) ?_; first | refine .inl ⟨by first | rfl | exact decide_eq_true (by omega) | exact decide_eq_true (by assumption) | (simp (disch := first | decide | omega) only [if_pos_d, if_neg_d, decide_eq_true_eq, Bool.not_eq_true', decide_eq_false_iff_not]; omega), ?_⟩ | refine .inr ⟨by first | rfl | exact decide_eq_false (by omega) | exact decide_eq_false (by assumption) | (simp (disch := first | decide | omega) only [if_pos_d, if_neg_d, decide_eq_true_eq, Bool.not_eq_true', decide_eq_false_iff_not]; omega), ?_⟩
        (repeat (first | apply aw_seq | apply aw_block | apply aw_skip | apply aw_label | apply aw_exit | ((first | refine aw_region (hideO fun QQ hQQ => ?_) | refine aw_draw mixed (hideD fun QQ hQQ => ?_)); simp (maxSteps := 400000) (disch := first | decide | omega) only [hc, go_sem, ↓reduceIte]; try (first | with_reducible refine unhide hQQ ?_ | refine ⟨by kernel_rfl, unhide hQQ ?_⟩); clear hQQ QQ) | with_reducible first | apply then_n | apply block_n | apply then_x | apply then_r | apply nog_n | apply nog_r | apply block_r | apply block_e (by decide) | apply block_x (by decide)))
        (refine ⟨⟨i + 1, by omega, hx⟩, ?_, weak_round (by simp only [hc, go_sem, ↓reduceIte]; first | done | rfl) (by first | rfl | (simp only [hc, go_sem, ↓reduceIte]))⟩; (simp only; omega))
  · have hie : i = calls.length := by omega
    subst hie
    have := hbt ⟨hpk, hik⟩
    subst this
    refine tw ?_; try with_reducible intro QQ hQQ
    refine ti ?_; try clear hQQ QQ
    refine tw ?_; try with_reducible intro QQ hQQ
    refine aw_ret ?_; refine ⟨.inr rfl, ?_⟩; simp only [resA, res1, go_sem, ↓reduceIte]
theorem ok_of92 (h : TOK N most strays calls) {L : List (List Int × List Int)} (hL : ∀ t ∈ L, GoodT N t) (hlen : L.length ≤ 100000) {set : Nat} (hs : set < 256) : FunOK Try.prog 92 [tyR N most strays calls, .one (.sl (L.map rowT)), .one (iP set)] (.one (.one (.sl ((L.filter (rightB N calls set)).map rowT)))) := by
  have hR := fun t ht => ok_right109 h (hL t ht) hs
  simp only [tyR, rowT] at hR
  refine fun_ok (nt := 30) (rs := [.tmp 6]) Try.func92 rfl rfl rfl (by simp) fun Z w0 => ?_; simp only [initFr, avR, List.map_cons, List.map_nil]
  simp only [tyR, List.map_cons, List.map_nil]
  refine tw ?_; try with_reducible intro QQ hQQ
  refine aw_weak (weak_own 7 81 2 (by simp (disch := first | decide | omega) only [go_sem, ↓reduceIte]; try rfl)) ?_
  refine aw_weak (weak_keep [1, 2, 3, 7, 8] (by simp only [go_sem, ↓reduceIte]; rfl)) ?_
  refine aw_loop_ov (ι := { i : Nat // i ≤ L.length }) (fun i => [(8, iA i.1), (7, .one (.own 1 ((L.take i.1).filter (rightB N calls set)).length))]) (fun i => [(1, .arr 81 2 (((L.take i.1).filter (rightB N calls set)).map rowT) true)]) (fun i => L.length - i.1) ⟨0, by omega⟩ (by first | rfl | (simp only [go_sem, ↓reduceIte]; first | done | rfl | (simp; try rfl))) ?_
  rintro ⟨i, hi⟩
  simp (disch := decide) only [ov, ovL, AL.get_nil, AL.get_eq, AL.get_ne, Option.getD_some, Option.getD_none]
  have hfl : ((L.take i).filter (rightB N calls set)).length ≤ i := Nat.le_trans (List.length_filter_le _ _) (by rw [List.length_take]; omega)
  by_cases hil : i < L.length
  · have ht := hR (L.getD i ([], [])) (mem_of_getD hil)
    have e1 : L.take (i + 1) = L.take i ++ [L.getD i ([], [])] := by
      rw [List.take_succ, List.getElem?_eq_getElem hil, List.getD_eq_getElem?_getD, List.getElem?_eq_getElem hil]; rfl
    have e2 : (L.take (i + 1)).filter (rightB N calls set) = (L.take i).filter (rightB N calls set) ++ if rightB N calls set (L.getD i ([], [])) then [L.getD i ([], [])] else [] := by
      rw [e1, List.filter_append, List.filter_cons, List.filter_nil]
    obtain ⟨⟨X, Y⟩, hXY⟩ : ∃ t, L.getD i ([], []) = t := ⟨_, rfl⟩
    rw [hXY] at ht e2
    dsimp only at ht
    generalize hF : (L.take i).filter (rightB N calls set) = F at *
    cases hr : rightB N calls set (X, Y)
    · rw [hr] at ht e2
      rw [if_neg (by decide), List.append_nil] at e2
      (repeat (first | apply aw_seq | apply aw_block | apply aw_skip | apply aw_label | apply aw_exit | ((first | refine aw_region (hideO fun QQ hQQ => ?_) | refine aw_draw mixed (hideD fun QQ hQQ => ?_)); simp (maxSteps := 400000) (disch := first | decide | omega) only [hXY, go_sem, ↓reduceIte]; try (first | with_reducible refine unhide hQQ ?_ | refine ⟨by kernel_rfl, unhide hQQ ?_⟩); clear hQQ QQ) | with_reducible first | apply then_n | apply block_n | apply then_x | apply then_r | apply nog_n | apply nog_r | apply block_r | apply block_e (by decide) | apply block_x (by decide)))
      refine aw_cond2 (by simp (disch := first | decide | omega) only [hXY, go_sem, ↓reduceIte]; rfl) ?_; first | refine .inl ⟨by first | rfl | exact decide_eq_true (by omega) | exact decide_eq_true (by assumption) | (simp (disch := first | decide | omega) only [if_pos_d, if_neg_d, decide_eq_true_eq, Bool.not_eq_true', decide_eq_false_iff_not]; omega), ?_⟩ | refine .inr ⟨by first | rfl | exact decide_eq_false (by omega) | exact decide_eq_false (by assumption) | (simp (disch := first | decide | omega) only [if_pos_d, if_neg_d, decide_eq_true_eq, Bool.not_eq_true', decide_eq_false_iff_not]; omega), ?_⟩
      (repeat (first | apply aw_seq | apply aw_block | apply aw_skip | apply aw_label | apply aw_exit | ((first | refine aw_region (hideO fun QQ hQQ => ?_) | refine aw_draw mixed (hideD fun QQ hQQ => ?_)); simp (maxSteps := 400000) (disch := first | decide | omega) only [hXY, go_sem, ↓reduceIte]; try (first | with_reducible refine unhide hQQ ?_ | refine ⟨by kernel_rfl, unhide hQQ ?_⟩); clear hQQ QQ) | with_reducible first | apply then_n | apply block_n | apply then_x | apply then_r | apply nog_n | apply nog_r | apply block_r | apply block_e (by decide) | apply block_x (by decide)))
      (refine callD_ok rfl rfl 109 true rfl (by simp (disch := first | decide | omega) only [hXY, go_sem, ↓reduceIte]; try rfl) (fun _ => rfl) (ht) Try.func109 rfl (by decide) ?_); simp (maxSteps := 400000) (disch := first | decide | omega) only [hXY, go_sem, ↓reduceIte]; (try (refine ⟨by kernel_rfl, unhide hQQ ?_⟩; clear hQQ QQ; (repeat with_reducible first | apply then_n | apply block_n | apply then_x | apply then_r | apply nog_n | apply nog_r | apply block_r | apply block_e (by decide) | apply block_x (by decide))))
      (repeat (first | apply aw_seq | apply aw_block | apply aw_skip | apply aw_label | apply aw_exit | ((first | refine aw_region (hideO fun QQ hQQ => ?_) | refine aw_draw mixed (hideD fun QQ hQQ => ?_)); simp (maxSteps := 400000) (disch := first | decide | omega) only [hXY, go_sem, ↓reduceIte]; try (first | with_reducible refine unhide hQQ ?_ | refine ⟨by kernel_rfl, unhide hQQ ?_⟩); clear hQQ QQ) | with_reducible first | apply then_n | apply block_n | apply then_x | apply then_r | apply nog_n | apply nog_r | apply block_r | apply block_e (by decide) | apply block_x (by decide)))
      refine aw_cond2 (by simp (disch := first | decide | omega) only [hXY, go_sem, ↓reduceIte]; rfl) ?_; first | refine .inl ⟨by first | rfl | exact decide_eq_true (by omega) | exact decide_eq_true (by assumption) | (simp (disch := first | decide | omega) only [if_pos_d, if_neg_d, decide_eq_true_eq, Bool.not_eq_true', decide_eq_false_iff_not]; omega), ?_⟩ | refine .inr ⟨by first | rfl | exact decide_eq_false (by omega) | exact decide_eq_false (by assumption) | (simp (disch := first | decide | omega) only [if_pos_d, if_neg_d, decide_eq_true_eq, Bool.not_eq_true', decide_eq_false_iff_not]; omega), ?_⟩
      (repeat (first | apply aw_seq | apply aw_block | apply aw_skip | apply aw_label | apply aw_exit | ((first | refine aw_region (hideO fun QQ hQQ => ?_) | refine aw_draw mixed (hideD fun QQ hQQ => ?_)); simp (maxSteps := 400000) (disch := first | decide | omega) only [hXY, go_sem, ↓reduceIte]; try (first | with_reducible refine unhide hQQ ?_ | refine ⟨by kernel_rfl, unhide hQQ ?_⟩); clear hQQ QQ) | with_reducible first | apply then_n | apply block_n | apply then_x | apply then_r | apply nog_n | apply nog_r | apply block_r | apply block_e (by decide) | apply block_x (by decide)))
      refine ⟨⟨i + 1, by omega⟩, ?_, weak_round ?_ (by first | rfl | (simp only [hXY, go_sem, ↓reduceIte]))⟩
      rotate_left
      · simp only [e2]
        (simp only [hXY, go_sem, ↓reduceIte]; try rfl)
      · simp only; omega
    · rw [hr] at ht e2
      rw [if_pos rfl] at e2
      (repeat (first | apply aw_seq | apply aw_block | apply aw_skip | apply aw_label | apply aw_exit | ((first | refine aw_region (hideO fun QQ hQQ => ?_) | refine aw_draw mixed (hideD fun QQ hQQ => ?_)); simp (maxSteps := 400000) (disch := first | decide | omega) only [hXY, go_sem, ↓reduceIte]; try (first | with_reducible refine unhide hQQ ?_ | refine ⟨by kernel_rfl, unhide hQQ ?_⟩); clear hQQ QQ) | with_reducible first | apply then_n | apply block_n | apply then_x | apply then_r | apply nog_n | apply nog_r | apply block_r | apply block_e (by decide) | apply block_x (by decide)))
      refine aw_cond2 (by simp (disch := first | decide | omega) only [hXY, go_sem, ↓reduceIte]; rfl) ?_; first | refine .inl ⟨by first | rfl | exact decide_eq_true (by omega) | exact decide_eq_true (by assumption) | (simp (disch := first | decide | omega) only [if_pos_d, if_neg_d, decide_eq_true_eq, Bool.not_eq_true', decide_eq_false_iff_not]; omega), ?_⟩ | refine .inr ⟨by first | rfl | exact decide_eq_false (by omega) | exact decide_eq_false (by assumption) | (simp (disch := first | decide | omega) only [if_pos_d, if_neg_d, decide_eq_true_eq, Bool.not_eq_true', decide_eq_false_iff_not]; omega), ?_⟩
      (repeat (first | apply aw_seq | apply aw_block | apply aw_skip | apply aw_label | apply aw_exit | ((first | refine aw_region (hideO fun QQ hQQ => ?_) | refine aw_draw mixed (hideD fun QQ hQQ => ?_)); simp (maxSteps := 400000) (disch := first | decide | omega) only [hXY, go_sem, ↓reduceIte]; try (first | with_reducible refine unhide hQQ ?_ | refine ⟨by kernel_rfl, unhide hQQ ?_⟩); clear hQQ QQ) | with_reducible first | apply then_n | apply block_n | apply then_x | apply then_r | apply nog_n | apply nog_r | apply block_r | apply block_e (by decide) | apply block_x (by decide)))
      (refine callD_ok rfl rfl 109 true rfl (by simp (disch := first | decide | omega) only [hXY, go_sem, ↓reduceIte]; try rfl) (fun _ => rfl) (ht) Try.func109 rfl (by decide) ?_); simp (maxSteps := 400000) (disch := first | decide | omega) only [hXY, go_sem, ↓reduceIte]; (try (refine ⟨by kernel_rfl, unhide hQQ ?_⟩; clear hQQ QQ; (repeat with_reducible first | apply then_n | apply block_n | apply then_x | apply then_r | apply nog_n | apply nog_r | apply block_r | apply block_e (by decide) | apply block_x (by decide))))
      (repeat (first | apply aw_seq | apply aw_block | apply aw_skip | apply aw_label | apply aw_exit | ((first | refine aw_region (hideO fun QQ hQQ => ?_) | refine aw_draw mixed (hideD fun QQ hQQ => ?_)); simp (maxSteps := 400000) (disch := first | decide | omega) only [hXY, go_sem, ↓reduceIte]; try (first | with_reducible refine unhide hQQ ?_ | refine ⟨by kernel_rfl, unhide hQQ ?_⟩); clear hQQ QQ) | with_reducible first | apply then_n | apply block_n | apply then_x | apply then_r | apply nog_n | apply nog_r | apply block_r | apply block_e (by decide) | apply block_x (by decide)))
      refine aw_cond2 (by simp (disch := first | decide | omega) only [hXY, go_sem, ↓reduceIte]; rfl) ?_; first | refine .inl ⟨by first | rfl | exact decide_eq_true (by omega) | exact decide_eq_true (by assumption) | (simp (disch := first | decide | omega) only [if_pos_d, if_neg_d, decide_eq_true_eq, Bool.not_eq_true', decide_eq_false_iff_not]; omega), ?_⟩ | refine .inr ⟨by first | rfl | exact decide_eq_false (by omega) | exact decide_eq_false (by assumption) | (simp (disch := first | decide | omega) only [if_pos_d, if_neg_d, decide_eq_true_eq, Bool.not_eq_true', decide_eq_false_iff_not]; omega), ?_⟩
      (repeat (first | apply aw_seq | apply aw_block | apply aw_skip | apply aw_label | apply aw_exit | ((first | refine aw_region (hideO fun QQ hQQ => ?_) | refine aw_draw mixed (hideD fun QQ hQQ => ?_)); simp (maxSteps := 400000) (disch := first | decide | omega) only [hXY, go_sem, ↓reduceIte]; try (first | with_reducible refine unhide hQQ ?_ | refine ⟨by kernel_rfl, unhide hQQ ?_⟩); clear hQQ QQ) | with_reducible first | apply then_n | apply block_n | apply then_x | apply then_r | apply nog_n | apply nog_r | apply block_r | apply block_e (by decide) | apply block_x (by decide)))
      refine ⟨⟨i + 1, by omega⟩, ?_, weak_round ?_ (by first | rfl | (simp only [hXY, go_sem, ↓reduceIte]))⟩
      rotate_left
      · simp only [ov, ovL, e2]
        simp only [hXY, go_sem, ↓reduceIte]
        all_goals (try simp [rowT])
      · simp only; omega
  · have hie : i = L.length := by omega
    subst hie
    rw [List.take_length]
    refine tw ?_; try with_reducible intro QQ hQQ
    refine ti ?_; try clear hQQ QQ
    refine tw ?_; try with_reducible intro QQ hQQ
    refine aw_ret ?_; refine ⟨.inr rfl, ?_⟩; simp only [resA, res1, go_sem, ↓reduceIte]
    try rw [List.take_of_length_le (by simp)]
    all_goals (try simp)
end
end Go.Proofs.Ytejbglbiefpagaa
/- tally, the document's functions: all that there can be (plain), and how many. -/
namespace Go.Proofs.Ytejbglbiefpagaa
open Go Go.RowKit Go.Sh Go.Pv
theorem ran_mem {α : Type} {f : Int → List α} {lo : Int} {x : α} : ∀ {m : Nat}, x ∈ ranF f lo m ↔ ∃ j : Nat, j < m ∧ x ∈ f (lo + j)
  | 0 => by simp [ranF]
  | m + 1 => by
    unfold ranF
    rw [List.mem_append, ran_mem (m := m)]
    constructor
    · rintro (⟨j, h1, h2⟩ | h)
      · exact ⟨j, by omega, h2⟩
      · exact ⟨m, by omega, h⟩
    · rintro ⟨j, h1, h2⟩
      by_cases e : j = m
      · subst e; exact .inr h2
      · exact .inl ⟨j, by omega, h2⟩
theorem ran_same {α : Type} {f : Int → List α} {lo : Int} {c : Nat} (h : ∀ k, (f k).length = c) : ∀ m : Nat, (ranF f lo m).length = m * c
  | 0 => by simp [ranF]
  | m + 1 => by unfold ranF; rw [List.length_append, ran_same h m, h, Nat.succ_mul]
/-- How many lists go on. -/
def waysF (l : List (Int × Int)) : Nat → Nat → Nat
  | 0, _ => 1
  | n + 1, k => ((l.getD k (0, 0)).2 - (l.getD k (0, 0)).1 + 1).toNat * waysF l n (k + 1)
theorem lists_len (l : List (Int × Int)) : ∀ n pre, (listsF l n pre).length = waysF l n pre.length
  | 0, pre => rfl
  | n + 1, pre => by
    unfold listsF waysF
    rw [ran_same (c := waysF l n (pre.length + 1)) fun k => by rw [lists_len l n (pre ++ [k])]; simp]
theorem lists_mem (l : List (Int × Int)) : ∀ n pre x, l.length = pre.length + n → (x ∈ listsF l n pre ↔ x.length = l.length ∧ x.take pre.length = pre ∧ ∀ i, pre.length ≤ i → i < l.length → (l.getD i (0, 0)).1 ≤ x.getD i 0 ∧ x.getD i 0 ≤ (l.getD i (0, 0)).2)
  | 0, pre, x, hl => by
    unfold listsF
    rw [List.mem_singleton]
    constructor
    · rintro rfl
      exact ⟨by omega, List.take_of_length_le (Nat.le_refl _), fun i h1 h2 => absurd h2 (by omega)⟩
    · rintro ⟨h1, h2, _⟩
      rw [List.take_of_length_le (by omega)] at h2
      exact h2
  | n + 1, pre, x, hl => by
    unfold listsF
    rw [ran_mem]
    constructor
    · rintro ⟨j, h1, h2⟩
      obtain ⟨g1, g2, g3⟩ := (lists_mem l n _ x (by simp; omega)).1 h2
      simp only [List.length_append, List.length_cons, List.length_nil, Nat.zero_add] at g2 g3
      have hx : x.getD pre.length 0 = (l.getD pre.length (0, 0)).1 + j := by
        have : (x.take (pre.length + 1)).getD pre.length 0 = (pre ++ [(l.getD pre.length (0, 0)).1 + (j : Int)]).getD pre.length 0 := by rw [g2]
        rw [List.getD_eq_getElem?_getD, List.getElem?_take, if_pos (by omega), ← List.getD_eq_getElem?_getD] at this
        rw [this]; simp
      refine ⟨g1, ?_, fun i h3 h4 => ?_⟩
      · have : (x.take (pre.length + 1)).take pre.length = (pre ++ [(l.getD pre.length (0, 0)).1 + (j : Int)]).take pre.length := by rw [g2]
        rw [List.take_take, Nat.min_eq_left (by omega), List.take_left] at this
        exact this
      · by_cases e : i = pre.length
        · subst e
          rw [hx]; omega
        · exact g3 i (by omega) h4
    · rintro ⟨g1, g2, g3⟩
      have hb := g3 pre.length (Nat.le_refl _) (by omega)
      refine ⟨(x.getD pre.length 0 - (l.getD pre.length (0, 0)).1).toNat, by omega, (lists_mem l n _ x (by simp; omega)).2 ⟨g1, ?_, fun i h3 h4 => g3 i (by simp at h3; omega) h4⟩⟩
      have he : (l.getD pre.length (0, 0)).1 + ((x.getD pre.length 0 - (l.getD pre.length (0, 0)).1).toNat : Int) = x.getD pre.length 0 := by omega
      rw [he]
      simp only [List.length_append, List.length_cons, List.length_nil, Nat.zero_add]
      rw [List.take_succ, g2]
      have hp : pre.length < x.length := by omega
      rw [List.getD_eq_getElem?_getD, List.getElem?_eq_getElem hp]; rfl
theorem listsA_mem {l : List (Int × Int)} {x : List Int} : x ∈ listsA l ↔ x.length = l.length ∧ ∀ i, i < l.length → (l.getD i (0, 0)).1 ≤ x.getD i 0 ∧ x.getD i 0 ≤ (l.getD i (0, 0)).2 := by
  unfold listsA
  rw [lists_mem l l.length [] x (by simp)]
  simp
theorem listsA_len (l : List (Int × Int)) : (listsA l).length = waysF l l.length 0 := by unfold listsA; rw [lists_len]; rfl
/-- Each of some with each of others. -/
def pairs {α β : Type} (a : List α) (b : List β) : List (α × β) := a.flatMap fun x => b.map fun y => (x, y)
theorem pairs_mem {α β : Type} {a : List α} {b : List β} {t : α × β} : t ∈ pairs a b ↔ t.1 ∈ a ∧ t.2 ∈ b := by
  unfold pairs
  obtain ⟨x, y⟩ := t
  simp [List.mem_flatMap, List.mem_map]
theorem pairs_len {α β : Type} (a : List α) (b : List β) : (pairs a b).length = a.length * b.length := by
  unfold pairs
  induction a with
  | nil => simp
  | cons x r ih => rw [List.flatMap_cons, List.length_append, ih, List.length_map, List.length_cons, Nat.succ_mul]; omega
theorem pairs_take {α β : Type} (a : List α) (b : List β) (d : α) {i : Nat} (hi : i < a.length) : pairs (a.take (i + 1)) b = pairs (a.take i) b ++ b.map fun y => (a.getD i d, y) := by
  have e1 : a.take (i + 1) = a.take i ++ [a.getD i d] := by
    rw [List.take_succ, List.getElem?_eq_getElem hi, List.getD_eq_getElem?_getD, List.getElem?_eq_getElem hi]; rfl
  unfold pairs
  rw [e1, List.flatMap_append]; simp
/-- All that there can be. -/
def allG (N : Nat) (most : Int) (strays : List (Int × Int)) : List (List Int × List Int) := pairs (listsA (List.replicate N (0, most))) (listsA strays)
section
variable {N : Nat} {most : Int} {strays : List (Int × Int)} {calls : List (Int × Int × Int × Int)}
theorem rep_getD {i : Nat} (hi : i < N) (most : Int) : (List.replicate N ((0 : Int), most)).getD i (0, 0) = (0, most) := by
  rw [List.getD_eq_getElem?_getD, List.getElem?_replicate, if_pos hi]; rfl
theorem allG_mem {t : List Int × List Int} : t ∈ allG N most strays ↔ (t.1.length = N ∧ ∀ i, i < N → 0 ≤ fX t.1 i ∧ fX t.1 i ≤ most) ∧ t.2.length = strays.length ∧ ∀ i, i < strays.length → (strays.getD i (0, 0)).1 ≤ fX t.2 i ∧ fX t.2 i ≤ (strays.getD i (0, 0)).2 := by
  unfold allG
  rw [pairs_mem, listsA_mem, listsA_mem, List.length_replicate]
  refine and_congr (and_congr Iff.rfl ⟨fun h i hi => ?_, fun h i hi => ?_⟩) Iff.rfl
  · have := h i hi; rw [rep_getD hi] at this; exact this
  · rw [rep_getD hi]; exact h i hi
theorem allG_good (h : TOK N most strays calls) {t : List Int × List Int} (ht : t ∈ allG N most strays) : GoodT N t := by
  obtain ⟨⟨h1, h2⟩, h3, h4⟩ := allG_mem.1 ht
  have sl := h.sl
  have m60 := h.m60
  refine ⟨h1, by omega, fun i => ?_, fun i => ?_⟩
  · by_cases hi : i < N
    · have := h2 i hi; omega
    · unfold fX; rw [List.getD_eq_getElem?_getD, List.getElem?_eq_none (by omega)]; decide
  · by_cases hi : i < strays.length
    · have := h4 i hi
      have := span_of (h.st i hi)
      omega
    · unfold fX; rw [List.getD_eq_getElem?_getD, List.getElem?_eq_none (by omega)]; decide
/-- The truths of the document, by the calls of a set. -/
noncomputable def truthsG (N : Nat) (most : Int) (strays : List (Int × Int)) (calls : List (Int × Int × Int × Int)) (set : Nat) : List (List Int × List Int) := (allG N most strays).filter (rightB N calls set)
theorem truths_isT (h : TOK N most strays calls) {set : Nat} {t : List Int × List Int} (ht : t ∈ truthsG N most strays calls set) : IsT N most strays calls set (fX t.1) (fX t.2) := by
  obtain ⟨h1, h2⟩ := List.mem_filter.1 ht
  obtain ⟨⟨_, g2⟩, _, g4⟩ := allG_mem.1 h1
  have h2 := rightB_iff.1 h2
  exact isT_bits.2 ⟨⟨g2, g4, h2.1⟩, h2.2⟩
theorem isT_truths (h : TOK N most strays calls) {set : Nat} {x y : Nat → Int} (t : IsT N most strays calls set x y) : ∃ u, u ∈ truthsG N most strays calls set ∧ (∀ i, i < N → fX u.1 i = x i) ∧ ∀ i, i + 1 < N → fX u.2 i = y i := by
  have sl := h.sl
  have gx : ∀ (z : Nat → Int) (m i : Nat), i < m → fX ((List.range m).map z) i = z i := fun z m i hi => by
    unfold fX; rw [List.getD_eq_getElem?_getD, List.getElem?_map, List.getElem?_range hi]; rfl
  have hx : ∀ i, i < N → fX ((List.range N).map x) i = x i := gx x N
  have hy : ∀ i, i < strays.length → fX ((List.range strays.length).map y) i = y i := gx y _
  have hpen : ∀ p, p < N → penT N (fX ((List.range N).map x)) (fX ((List.range strays.length).map y)) p = penT N x y p := fun p hp => by
    unfold penT
    rw [hx p hp]
    by_cases h0 : p = 0
    · rw [if_pos h0, if_pos h0]
      by_cases h1 : p + 1 = N
      · rw [if_pos h1, if_pos h1]
      · rw [if_neg h1, if_neg h1, hy p (by omega)]
    · rw [if_neg h0, if_neg h0, hy (p - 1) (by omega)]
      by_cases h1 : p + 1 = N
      · rw [if_pos h1, if_pos h1]
      · rw [if_neg h1, if_neg h1, hy p (by omega)]
  have hsum : ∀ k, k ≤ N → sumT (fX ((List.range N).map x)) k = sumT x k := fun k hk => by
    induction k with
    | zero => rfl
    | succ k ih => rw [sum_step, sum_step, ih (by omega), hx k (by omega)]
  refine ⟨((List.range N).map x, (List.range strays.length).map y), List.mem_filter.2 ⟨allG_mem.2 ⟨⟨by simp, fun i hi => by rw [hx i hi]; exact t.sh i hi⟩, by simp, fun i hi => by rw [hy i hi]; exact t.st i hi⟩, rightB_iff.2 ⟨fun p hp => ?_, fun i hi hb => ?_⟩⟩, hx, fun i hi => hy i (by omega)⟩
  · show 0 ≤ penT N _ _ p
    rw [hpen p hp]; exact t.pe p hp
  · have hcb := h.ca i hi
    have := t.ca i hi hb
    have hcc := (call_of hcb).1
    have e : cntT N (fX ((List.range N).map x)) (fX ((List.range strays.length).map y)) (calls.getD i (0, 0, 0, 0)) = cntT N x y (calls.getD i (0, 0, 0, 0)) := by
      unfold cntT
      rcases hcc with k2 | ⟨k0 | k1, h3⟩
      · rw [if_neg (by omega), if_neg (by omega), if_neg (by omega), if_neg (by omega), hsum N (Nat.le_refl _)]
      · rw [if_pos k0, if_pos k0, hx _ (by omega)]
      · rw [if_neg (by omega), if_pos k1, if_neg (by omega), if_pos k1, hpen _ (by omega)]
    unfold inC
    rw [e]; exact this
theorem truths_nil (h : TOK N most strays calls) {S : Nat} : truthsG N most strays calls S = [] ↔ ¬ Feas N most strays calls S := by
  constructor
  · rintro he ⟨x, y, t⟩
    obtain ⟨u, hu, _⟩ := isT_truths h t
    rw [he] at hu; cases hu
  · intro hn
    cases hL : truthsG N most strays calls S with
    | nil => rfl
    | cons u r => exact absurd ⟨_, _, truths_isT h (t := u) (by rw [hL]; exact List.mem_cons_self)⟩ hn
end
end Go.Proofs.Ytejbglbiefpagaa
