/- Kj: texts joined (TzM TzN TzO). -/
import Derived.Test.YtejbglbiefpagaaTzK
import Derived.Test.YtejbglbiefpagaaTyF
import Derived.Test.YtejbglbiefpagaaTxE
import Derived.Test.YtejbglbiefpagaaTyC
set_option linter.all false
/- tally, the document's functions: the sets of the fewest calls without which there is a truth. -/
namespace Go.Proofs.Ytejbglbiefpagaa
open Go Go.RowKit Go.Sh Go.Pv
set_option maxHeartbeats 4000000
set_option maxRecDepth 8000
set_option pp.maxSteps 60000
/-- A row of a set. -/
def rowN (x : Nat) : List PV := [iP (x : Int)]
theorem rowsK_rN (l : List Nat) : rowsK 1 (l.map rowN) = True := eq_true fun i r h => by rw [List.getElem?_map] at h; obtain ⟨x, _, rfl⟩ := Option.map_eq_some_iff.1 h; rfl
theorem get_someN {l : List Nat} {k : Nat} (h : k < l.length) : l[k]? = some (l.getD k 0) := by simp [List.getD, h]
section
variable {N : Nat} {most : Int} {strays : List (Int × Int)} {calls : List (Int × Int × Int × Int)}
theorem sub_bit {m s : Nat} (hs : s ≤ 2 ^ m - 1) (i : Nat) : (2 ^ m - 1 - s).testBit i = (decide (i < m) && !s.testBit i) := by
  have h0 := Nat.two_pow_pos m
  rw [show 2 ^ m - 1 - s = 2 ^ m - (s + 1) by omega]
  exact Nat.testBit_two_pow_sub_succ (by omega) i
theorem truths_sub (h : TOK N most strays calls) {s : Nat} (hs : s ≤ 2 ^ calls.length - 1) : (truthsG N most strays calls (2 ^ calls.length - 1 - s) = []) ↔ pW N most strays calls s = false := by
  rw [truths_nil h, ← Bool.not_eq_true, pW_F h]
  have : Feas N most strays calls (2 ^ calls.length - 1 - s) ↔ Feas N most strays calls (diffN (2 ^ calls.length - 1) s) := by
    constructor <;> refine feas_mono fun i hi hb => ?_
    · rw [diff_every_bit] at hb; rw [sub_bit hs]; exact hb
    · rw [sub_bit hs] at hb; rw [diff_every_bit]; exact hb
  rw [this]
/-- The sets of so many calls without which there is a truth, up to one. -/
def setsQ (p : Nat → Bool) (n i : Nat) : List Nat := (List.range i).filter fun s => popc s == n && p s
theorem setsQ_succ (p : Nat → Bool) (n i : Nat) : setsQ p n (i + 1) = setsQ p n i ++ if popc i == n && p i then [i] else [] := by
  unfold setsQ
  rw [List.range_succ, List.filter_append, List.filter_cons, List.filter_nil]
theorem setsQ_len (p : Nat → Bool) (n i : Nat) : (setsQ p n i).length ≤ i := by
  have := List.length_filter_le (fun s => popc s == n && p s) (List.range i)
  rw [List.length_range] at this
  exact this
theorem setsQ_mem {p : Nat → Bool} {n i x : Nat} : x ∈ setsQ p n i ↔ x < i ∧ popc x = n ∧ p x = true := by
  unfold setsQ
  rw [List.mem_filter, List.mem_range, Bool.and_eq_true, beq_iff_eq]
theorem setsQ_pw (p : Nat → Bool) (n i : Nat) : (setsQ p n i).Pairwise (· < ·) := List.pairwise_lt_range.filter _
attribute [local go_sem] row4 rowN rowsK_rN get_someN get_some4 rowsK_nil' rowsK_cons' not_isEmpty_nil Bool.false_or
theorem without_at (h : TOK N most strays calls) (w : Ways N most strays) {R : List Nat} (hR : (∃ n0, n0 ≤ calls.length ∧ (∀ k, k < n0 → setsQ (pW N most strays calls) k (2 ^ calls.length) = []) ∧ setsQ (pW N most strays calls) n0 (2 ^ calls.length) = R ∧ R ≠ []) ∨ (R = [] ∧ ∀ k, k ≤ calls.length → setsQ (pW N most strays calls) k (2 ^ calls.length) = [])) :
    FunOK Try.prog 80 [tyR N most strays calls] (.one (.one (.sl (R.map rowN)))) := by
  have hcl := h.cl
  have hx := Nat.two_pow_pos calls.length
  have hx8 : 2 ^ calls.length ≤ 256 := Nat.pow_le_pow_right (n := 2) (by decide) h.cl
  have hall := ok_all91 h w.a w.b w.ab
  have hev := ok_Every93 (n := N) (most := most) (strays := strays) (calls := calls) h.cl
  have hof := fun (S : Nat) (hS : S < 256) => ok_of92 h (L := allG N most strays) (fun t ht => allG_good h ht) (all_len w) (set := S) hS
  have htl := fun (S : Nat) => truths_len (calls := calls) w S
  simp only [tyR] at hall hev hof
  have hpw : ∀ s, s ≤ 2 ^ calls.length - 1 → (0 < (truthsG N most strays calls (2 ^ calls.length - 1 - s)).length ↔ pW N most strays calls s = true) := fun s hs => by
    rw [List.length_pos_iff, ne_eq, truths_sub h hs, Bool.not_eq_false]
  have hofT : ∀ S, (allG N most strays).filter (rightB N calls S) = truthsG N most strays calls S := fun S => rfl
  generalize hp : pW N most strays calls = p at *
  refine fun_ok (nt := 45) (rs := [.tmp 2]) Try.func80 rfl rfl rfl (by simp) fun Z w0 => ?_; simp only [initFr, avR, List.map_cons, List.map_nil]
  simp only [tyR, List.map_cons, List.map_nil]
  refine tw ?_; try with_reducible intro QQ hQQ
  ((refine cB 91 rfl rfl rfl (hall) Try.func91 rfl ?_); refine tu ?_; try clear hQQ QQ); refine tw ?_; try with_reducible intro QQ hQQ
  generalize hL : allG N most strays = L at *
  refine aw_weak (weak_keep [1, 3, 4] (by simp only [go_sem, ↓reduceIte]; rfl)) ?_
  refine aw_loop_ov (ι := { n : Nat // n ≤ calls.length + 1 ∧ ∀ k, k < n → setsQ p k (2 ^ calls.length) = [] }) (fun n => [(4, iA n.1)]) (fun _ => []) (fun n => calls.length + 1 - n.1) ⟨0, by omega, fun k hk => absurd hk (by omega)⟩ (by first | rfl | (simp only [go_sem, ↓reduceIte]; first | done | rfl | (simp; try rfl))) ?_
  rintro ⟨n, hn, hnk⟩
  simp (disch := decide) only [ov, ovL, AL.get_nil, AL.get_eq, AL.get_ne, Option.getD_some, Option.getD_none]
  by_cases hnl : n ≤ calls.length
  · refine tw ?_; try with_reducible intro QQ hQQ
    refine ti ?_; try clear hQQ QQ
    refine tw ?_; try with_reducible intro QQ hQQ
    refine aw_weak (weak_own 5 3 1 (by simp (disch := first | decide | omega) only [go_sem, ↓reduceIte]; try rfl)) ?_
    refine aw_weak (weak_keep [1, 3, 4, 5, 6] (by simp only [go_sem, ↓reduceIte]; rfl)) ?_
    refine aw_loop_ov (ι := { i : Nat // i ≤ 2 ^ calls.length }) (fun i => [(6, iA i.1), (5, .one (.own 1 (setsQ p n i.1).length))]) (fun i => [(1, .arr 3 1 ((setsQ p n i.1).map rowN) true)]) (fun i => 2 ^ calls.length - i.1) ⟨0, by omega⟩ (by first | rfl | (simp only [go_sem, ↓reduceIte]; first | done | rfl | (simp; try rfl))) ?_
    rintro ⟨i, hi⟩
    simp (disch := decide) only [ov, ovL, AL.get_nil, AL.get_eq, AL.get_ne, Option.getD_some, Option.getD_none]
    have hql := setsQ_len p n i
    by_cases hil : i < 2 ^ calls.length
    · have hsz := ok_Size i (by omega)
      have e1 := setsQ_succ p n i
      have hpi := hpw i (by omega)
      have ho := hof (2 ^ calls.length - 1 - i) (by omega)
      have htl := htl (2 ^ calls.length - 1 - i)
      rw [hofT] at ho
      have esub : ((2 ^ calls.length - 1 : Nat) : Int) - (i : Int) = ((2 ^ calls.length - 1 - i : Nat) : Int) := by omega
      generalize setsQ p n i = Q at *
      generalize truthsG N most strays calls (2 ^ calls.length - 1 - i) = T at *
      obtain ⟨ev, hev'⟩ : ∃ ev, 2 ^ calls.length - 1 = ev := ⟨_, rfl⟩
      rw [hev'] at hev ho esub
      obtain ⟨d, hd⟩ : ∃ d, ev - i = d := ⟨_, rfl⟩
      rw [hd] at ho esub
      have hie : i ≤ ev := by omega
      clear hof hofT hpw
      by_cases hs : popc i = n
      · rw [show (popc i == n) = true by rw [hs]; simp, Bool.true_and] at e1
        cases hb : p i
        · rw [hb] at e1 hpi
          rw [if_neg (by decide), List.append_nil] at e1
          have hT0 : ¬ 0 < T.length := fun hh => by have := hpi.1 hh; cases this
          (repeat (first | apply aw_seq | apply aw_block | apply aw_skip | apply aw_label | apply aw_exit | ((first | refine aw_region (hideO fun QQ hQQ => ?_) | refine aw_draw mixed (hideD fun QQ hQQ => ?_)); simp (maxSteps := 400000) (disch := first | decide | omega) only [esub, hd, hs, go_sem, ↓reduceIte]; try (first | with_reducible refine unhide hQQ ?_ | refine ⟨by kernel_rfl, unhide hQQ ?_⟩); clear hQQ QQ) | with_reducible first | apply then_n | apply block_n | apply then_x | apply then_r | apply nog_n | apply nog_r | apply block_r | apply block_e (by decide) | apply block_x (by decide)))
          ((refine callO_ok rfl rfl 93 true rfl (by simp (disch := first | decide | omega) only [esub, hd, hs, go_sem, ↓reduceIte]; try rfl) (fun _ => rfl) (hev) Try.func93 rfl (by decide) ?_); simp (maxSteps := 400000) (disch := first | decide | omega) only [esub, hd, hs, go_sem, ↓reduceIte]; try (with_reducible refine unhide hQQ ?_; clear hQQ QQ)); (repeat (first | apply aw_seq | apply aw_block | apply aw_skip | apply aw_label | apply aw_exit | ((first | refine aw_region (hideO fun QQ hQQ => ?_) | refine aw_draw mixed (hideD fun QQ hQQ => ?_)); simp (maxSteps := 400000) (disch := first | decide | omega) only [esub, hd, hs, go_sem, ↓reduceIte]; try (first | with_reducible refine unhide hQQ ?_ | refine ⟨by kernel_rfl, unhide hQQ ?_⟩); clear hQQ QQ) | with_reducible first | apply then_n | apply block_n | apply then_x | apply then_r | apply nog_n | apply nog_r | apply block_r | apply block_e (by decide) | apply block_x (by decide)))
          refine aw_cond2 (by simp (disch := first | decide | omega) only [esub, hd, hs, go_sem, ↓reduceIte]; rfl) ?_; first | refine .inl ⟨by first | rfl | exact decide_eq_true (by omega) | exact decide_eq_true (by assumption) | (simp (disch := first | decide | omega) only [if_pos_d, if_neg_d, decide_eq_true_eq, Bool.not_eq_true', decide_eq_false_iff_not]; omega), ?_⟩ | refine .inr ⟨by first | rfl | exact decide_eq_false (by omega) | exact decide_eq_false (by assumption) | (simp (disch := first | decide | omega) only [if_pos_d, if_neg_d, decide_eq_true_eq, Bool.not_eq_true', decide_eq_false_iff_not]; omega), ?_⟩
          (repeat (first | apply aw_seq | apply aw_block | apply aw_skip | apply aw_label | apply aw_exit | ((first | refine aw_region (hideO fun QQ hQQ => ?_) | refine aw_draw mixed (hideD fun QQ hQQ => ?_)); simp (maxSteps := 400000) (disch := first | decide | omega) only [esub, hd, hs, go_sem, ↓reduceIte]; try (first | with_reducible refine unhide hQQ ?_ | refine ⟨by kernel_rfl, unhide hQQ ?_⟩); clear hQQ QQ) | with_reducible first | apply then_n | apply block_n | apply then_x | apply then_r | apply nog_n | apply nog_r | apply block_r | apply block_e (by decide) | apply block_x (by decide)))
          (refine callD_ok rfl rfl 42 true rfl (by simp (disch := first | decide | omega) only [esub, hd, hs, go_sem, ↓reduceIte]; try rfl) (fun _ => rfl) (hsz) Try.func42 rfl (by decide) ?_); simp (maxSteps := 400000) (disch := first | decide | omega) only [esub, hd, hs, go_sem, ↓reduceIte]; (try (refine ⟨by kernel_rfl, unhide hQQ ?_⟩; clear hQQ QQ; (repeat with_reducible first | apply then_n | apply block_n | apply then_x | apply then_r | apply nog_n | apply nog_r | apply block_r | apply block_e (by decide) | apply block_x (by decide))))
          (refine callD_ok rfl rfl 93 true rfl (by simp (disch := first | decide | omega) only [esub, hd, hs, go_sem, ↓reduceIte]; try rfl) (fun _ => rfl) (hev) Try.func93 rfl (by decide) ?_); simp (maxSteps := 400000) (disch := first | decide | omega) only [esub, hd, hs, go_sem, ↓reduceIte]; (try (refine ⟨by kernel_rfl, unhide hQQ ?_⟩; clear hQQ QQ; (repeat with_reducible first | apply then_n | apply block_n | apply then_x | apply then_r | apply nog_n | apply nog_r | apply block_r | apply block_e (by decide) | apply block_x (by decide))))
          ((refine callD_ok rfl rfl 92 false rfl (by simp (disch := first | decide | omega) only [esub, hd, hs, go_sem, ↓reduceIte]; try rfl) (fun h => by cases h) (ho) Try.func92 rfl (by decide) ?_); simp (maxSteps := 400000) (disch := first | decide | omega) only [esub, hd, hs, go_sem, ↓reduceIte]; try (refine ⟨by kernel_rfl, unhide hQQ ?_⟩; clear hQQ QQ)); (repeat (first | apply aw_seq | apply aw_block | apply aw_skip | apply aw_label | apply aw_exit | ((first | refine aw_region (hideO fun QQ hQQ => ?_) | refine aw_draw mixed (hideD fun QQ hQQ => ?_)); simp (maxSteps := 400000) (disch := first | decide | omega) only [esub, hd, hs, go_sem, ↓reduceIte]; try (first | with_reducible refine unhide hQQ ?_ | refine ⟨by kernel_rfl, unhide hQQ ?_⟩); clear hQQ QQ) | with_reducible first | apply then_n | apply block_n | apply then_x | apply then_r | apply nog_n | apply nog_r | apply block_r | apply block_e (by decide) | apply block_x (by decide)))
          refine aw_cond2 (by simp (disch := first | decide | omega) only [esub, hd, hs, go_sem, ↓reduceIte]; rfl) ?_; first | refine .inl ⟨by first | rfl | exact decide_eq_true (by omega) | exact decide_eq_true (by assumption) | (simp (disch := first | decide | omega) only [if_pos_d, if_neg_d, decide_eq_true_eq, Bool.not_eq_true', decide_eq_false_iff_not]; omega), ?_⟩ | refine .inr ⟨by first | rfl | exact decide_eq_false (by omega) | exact decide_eq_false (by assumption) | (simp (disch := first | decide | omega) only [if_pos_d, if_neg_d, decide_eq_true_eq, Bool.not_eq_true', decide_eq_false_iff_not]; omega), ?_⟩
          (repeat (first | apply aw_seq | apply aw_block | apply aw_skip | apply aw_label | apply aw_exit | ((first | refine aw_region (hideO fun QQ hQQ => ?_) | refine aw_draw mixed (hideD fun QQ hQQ => ?_)); simp (maxSteps := 400000) (disch := first | decide | omega) only [esub, hd, hs, go_sem, ↓reduceIte]; try (first | with_reducible refine unhide hQQ ?_ | refine ⟨by kernel_rfl, unhide hQQ ?_⟩); clear hQQ QQ) | with_reducible first | apply then_n | apply block_n | apply then_x | apply then_r | apply nog_n | apply nog_r | apply block_r | apply block_e (by decide) | apply block_x (by decide)))
          refine ⟨⟨i + 1, by omega⟩, ?_, weak_round ?_ (by first | rfl | (simp only [esub, hd, hs, go_sem, ↓reduceIte]))⟩
          rotate_left
          · simp only [e1]
            (simp only [esub, hd, hs, go_sem, ↓reduceIte]; try rfl)
          · simp only; omega
        · rw [hb] at e1 hpi
          rw [if_pos rfl] at e1
          have hT0 : 0 < T.length := hpi.2 rfl
          (repeat (first | apply aw_seq | apply aw_block | apply aw_skip | apply aw_label | apply aw_exit | ((first | refine aw_region (hideO fun QQ hQQ => ?_) | refine aw_draw mixed (hideD fun QQ hQQ => ?_)); simp (maxSteps := 400000) (disch := first | decide | omega) only [esub, hd, hs, go_sem, ↓reduceIte]; try (first | with_reducible refine unhide hQQ ?_ | refine ⟨by kernel_rfl, unhide hQQ ?_⟩); clear hQQ QQ) | with_reducible first | apply then_n | apply block_n | apply then_x | apply then_r | apply nog_n | apply nog_r | apply block_r | apply block_e (by decide) | apply block_x (by decide)))
          ((refine callO_ok rfl rfl 93 true rfl (by simp (disch := first | decide | omega) only [esub, hd, hs, go_sem, ↓reduceIte]; try rfl) (fun _ => rfl) (hev) Try.func93 rfl (by decide) ?_); simp (maxSteps := 400000) (disch := first | decide | omega) only [esub, hd, hs, go_sem, ↓reduceIte]; try (with_reducible refine unhide hQQ ?_; clear hQQ QQ)); (repeat (first | apply aw_seq | apply aw_block | apply aw_skip | apply aw_label | apply aw_exit | ((first | refine aw_region (hideO fun QQ hQQ => ?_) | refine aw_draw mixed (hideD fun QQ hQQ => ?_)); simp (maxSteps := 400000) (disch := first | decide | omega) only [esub, hd, hs, go_sem, ↓reduceIte]; try (first | with_reducible refine unhide hQQ ?_ | refine ⟨by kernel_rfl, unhide hQQ ?_⟩); clear hQQ QQ) | with_reducible first | apply then_n | apply block_n | apply then_x | apply then_r | apply nog_n | apply nog_r | apply block_r | apply block_e (by decide) | apply block_x (by decide)))
          refine aw_cond2 (by simp (disch := first | decide | omega) only [esub, hd, hs, go_sem, ↓reduceIte]; rfl) ?_; first | refine .inl ⟨by first | rfl | exact decide_eq_true (by omega) | exact decide_eq_true (by assumption) | (simp (disch := first | decide | omega) only [if_pos_d, if_neg_d, decide_eq_true_eq, Bool.not_eq_true', decide_eq_false_iff_not]; omega), ?_⟩ | refine .inr ⟨by first | rfl | exact decide_eq_false (by omega) | exact decide_eq_false (by assumption) | (simp (disch := first | decide | omega) only [if_pos_d, if_neg_d, decide_eq_true_eq, Bool.not_eq_true', decide_eq_false_iff_not]; omega), ?_⟩
          (repeat (first | apply aw_seq | apply aw_block | apply aw_skip | apply aw_label | apply aw_exit | ((first | refine aw_region (hideO fun QQ hQQ => ?_) | refine aw_draw mixed (hideD fun QQ hQQ => ?_)); simp (maxSteps := 400000) (disch := first | decide | omega) only [esub, hd, hs, go_sem, ↓reduceIte]; try (first | with_reducible refine unhide hQQ ?_ | refine ⟨by kernel_rfl, unhide hQQ ?_⟩); clear hQQ QQ) | with_reducible first | apply then_n | apply block_n | apply then_x | apply then_r | apply nog_n | apply nog_r | apply block_r | apply block_e (by decide) | apply block_x (by decide)))
          (refine callD_ok rfl rfl 42 true rfl (by simp (disch := first | decide | omega) only [esub, hd, hs, go_sem, ↓reduceIte]; try rfl) (fun _ => rfl) (hsz) Try.func42 rfl (by decide) ?_); simp (maxSteps := 400000) (disch := first | decide | omega) only [esub, hd, hs, go_sem, ↓reduceIte]; (try (refine ⟨by kernel_rfl, unhide hQQ ?_⟩; clear hQQ QQ; (repeat with_reducible first | apply then_n | apply block_n | apply then_x | apply then_r | apply nog_n | apply nog_r | apply block_r | apply block_e (by decide) | apply block_x (by decide))))
          (refine callD_ok rfl rfl 93 true rfl (by simp (disch := first | decide | omega) only [esub, hd, hs, go_sem, ↓reduceIte]; try rfl) (fun _ => rfl) (hev) Try.func93 rfl (by decide) ?_); simp (maxSteps := 400000) (disch := first | decide | omega) only [esub, hd, hs, go_sem, ↓reduceIte]; (try (refine ⟨by kernel_rfl, unhide hQQ ?_⟩; clear hQQ QQ; (repeat with_reducible first | apply then_n | apply block_n | apply then_x | apply then_r | apply nog_n | apply nog_r | apply block_r | apply block_e (by decide) | apply block_x (by decide))))
          ((refine callD_ok rfl rfl 92 false rfl (by simp (disch := first | decide | omega) only [esub, hd, hs, go_sem, ↓reduceIte]; try rfl) (fun h => by cases h) (ho) Try.func92 rfl (by decide) ?_); simp (maxSteps := 400000) (disch := first | decide | omega) only [esub, hd, hs, go_sem, ↓reduceIte]; try (refine ⟨by kernel_rfl, unhide hQQ ?_⟩; clear hQQ QQ)); (repeat (first | apply aw_seq | apply aw_block | apply aw_skip | apply aw_label | apply aw_exit | ((first | refine aw_region (hideO fun QQ hQQ => ?_) | refine aw_draw mixed (hideD fun QQ hQQ => ?_)); simp (maxSteps := 400000) (disch := first | decide | omega) only [esub, hd, hs, go_sem, ↓reduceIte]; try (first | with_reducible refine unhide hQQ ?_ | refine ⟨by kernel_rfl, unhide hQQ ?_⟩); clear hQQ QQ) | with_reducible first | apply then_n | apply block_n | apply then_x | apply then_r | apply nog_n | apply nog_r | apply block_r | apply block_e (by decide) | apply block_x (by decide)))
          refine aw_cond2 (by simp (disch := first | decide | omega) only [esub, hd, hs, go_sem, ↓reduceIte]; rfl) ?_; first | refine .inl ⟨by first | rfl | exact decide_eq_true (by omega) | exact decide_eq_true (by assumption) | (simp (disch := first | decide | omega) only [if_pos_d, if_neg_d, decide_eq_true_eq, Bool.not_eq_true', decide_eq_false_iff_not]; omega), ?_⟩ | refine .inr ⟨by first | rfl | exact decide_eq_false (by omega) | exact decide_eq_false (by assumption) | (simp (disch := first | decide | omega) only [if_pos_d, if_neg_d, decide_eq_true_eq, Bool.not_eq_true', decide_eq_false_iff_not]; omega), ?_⟩
          (repeat (first | apply aw_seq | apply aw_block | apply aw_skip | apply aw_label | apply aw_exit | ((first | refine aw_region (hideO fun QQ hQQ => ?_) | refine aw_draw mixed (hideD fun QQ hQQ => ?_)); simp (maxSteps := 400000) (disch := first | decide | omega) only [esub, hd, hs, go_sem, ↓reduceIte]; try (first | with_reducible refine unhide hQQ ?_ | refine ⟨by kernel_rfl, unhide hQQ ?_⟩); clear hQQ QQ) | with_reducible first | apply then_n | apply block_n | apply then_x | apply then_r | apply nog_n | apply nog_r | apply block_r | apply block_e (by decide) | apply block_x (by decide)))
          refine ⟨⟨i + 1, by omega⟩, ?_, weak_round ?_ (by first | rfl | (simp only [esub, hd, hs, go_sem, ↓reduceIte]))⟩
          rotate_left
          · simp only [ov, ovL, e1]
            simp only [esub, hd, hs, go_sem, ↓reduceIte]
            all_goals (try simp [rowN])
          · simp only; omega
      · rw [show (popc i == n) = false by simpa using hs, Bool.false_and, if_neg (by decide), List.append_nil] at e1
        have hsI : ¬ ((popc i : Nat) : Int) = (n : Int) := by omega
        refine tw ?_; try with_reducible intro QQ hQQ
        ((refine cO 93 rfl rfl rfl (hev) Try.func93 rfl ?_); refine tu ?_; try clear hQQ QQ); refine tw ?_; try with_reducible intro QQ hQQ
        refine ti ?_; try clear hQQ QQ
        refine tw ?_; try with_reducible intro QQ hQQ
        (refine cD 42 rfl rfl rfl (hsz) Try.func42 rfl ?_); refine td ?_; try clear hQQ QQ
        refine tw ?_; try with_reducible intro QQ hQQ
        refine ti ?_; try clear hQQ QQ
        refine tw ?_; try with_reducible intro QQ hQQ
        refine ⟨⟨i + 1, by omega⟩, ?_, weak_round ?_ (by first | rfl | (simp only [go_sem, ↓reduceIte]))⟩
        rotate_left
        · simp only [e1]
          (simp only [go_sem, ↓reduceIte]; try rfl)
        · simp only; omega
    · have hie : i = 2 ^ calls.length := by omega
      obtain ⟨Q, hQ⟩ : ∃ Q, setsQ p n i = Q := ⟨_, rfl⟩
      rw [hQ] at hql ⊢
      rw [hie] at hQ
      by_cases hQ0 : Q = []
      · subst hQ0
        refine tw ?_; try with_reducible intro QQ hQQ
        ((refine cO 93 rfl rfl rfl (hev) Try.func93 rfl ?_); refine tu ?_; try clear hQQ QQ); refine tw ?_; try with_reducible intro QQ hQQ
        refine ti ?_; try clear hQQ QQ
        refine tw ?_; try with_reducible intro QQ hQQ
        refine ti ?_; try clear hQQ QQ
        refine tw ?_; try with_reducible intro QQ hQQ
        (refine ⟨⟨n + 1, by omega, fun k hk => by
          by_cases e : k = n
          · rw [e]; exact hQ
          · exact hnk k (by omega)⟩, ?_, weak_round (by simp only [go_sem, ↓reduceIte]; first | done | rfl) (by first | rfl | (simp only [go_sem, ↓reduceIte]))⟩; (simp only; omega))
      · have hlen : 0 < Q.length := List.length_pos_iff.2 hQ0
        have hRQ : R = Q := by
          rcases hR with ⟨n0, g1, g2, g3, g4⟩ | ⟨g1, g2⟩
          · have : n0 = n := by
              rcases Nat.lt_trichotomy n0 n with hlt | he | hgt
              · exact absurd (g3.symm.trans (hnk n0 hlt)) g4
              · exact he
              · exact absurd (hQ.symm.trans (g2 n hgt)) hQ0
            rw [← g3, this, hQ]
          · exact absurd (hQ.symm.trans (g2 n hnl)) hQ0
        rw [hRQ]
        refine tw ?_; try with_reducible intro QQ hQQ
        ((refine cO 93 rfl rfl rfl (hev) Try.func93 rfl ?_); refine tu ?_; try clear hQQ QQ); refine tw ?_; try with_reducible intro QQ hQQ
        refine ti ?_; try clear hQQ QQ
        refine tw ?_; try with_reducible intro QQ hQQ
        refine ti ?_; try clear hQQ QQ
        refine tw ?_; try with_reducible intro QQ hQQ
        refine aw_ret ?_; refine ⟨.inr rfl, ?_⟩; simp only [resA, res1, go_sem, ↓reduceIte]
        try rw [List.take_of_length_le (by simp)]
        all_goals (try simp)
  · have hne : n = calls.length + 1 := by omega
    have hR0 : R = [] := by
      rcases hR with ⟨n0, g1, g2, g3, g4⟩ | ⟨g1, g2⟩
      · exact absurd (g3.symm.trans (hnk n0 (by omega))) g4
      · exact g1
    rw [hR0]
    refine tw ?_; try with_reducible intro QQ hQQ
    refine ti ?_; try clear hQQ QQ
    refine tw ?_; try with_reducible intro QQ hQQ
    refine aw_ret ?_; refine ⟨.inr rfl, ?_⟩; simp only [resA, res1, go_sem, ↓reduceIte]
    all_goals (try rfl)
end
end Go.Proofs.Ytejbglbiefpagaa
/- tally, the document's functions: False, Suspects, Clash. -/
namespace Go.Proofs.Ytejbglbiefpagaa
open Go Go.RowKit Go.Sh Go.Pv
set_option maxHeartbeats 4000000
set_option maxRecDepth 8000
set_option pp.maxSteps 60000
section
variable {N : Nat} {n most : Int} {strays : List (Int × Int)} {calls : List (Int × Int × Int × Int)}
attribute [local go_sem] row4 rowN rowsK_rN get_someN get_some4 rowsK_nil' rowsK_cons' not_isEmpty_nil Bool.false_or
theorem f25_arg (hv : validB n most strays calls = false) : FunOK Try.prog 25 [tyR n most strays calls] (.tup [.one (iP 0), .one (iP 0), .one (iP 1)]) := by
  have hc := ok_check79 (n := n) (most := most) (strays := strays) (calls := calls) true
  rw [hv, if_neg (by decide)] at hc
  simp only [tyR] at hc
  refine fun_ok (nt := 24) (rs := [.tmp 2, .tmp 3, .tmp 4]) Try.func25 rfl rfl rfl (by simp) fun Z w0 => ?_; simp only [initFr, avR, List.map_cons, List.map_nil]
  simp only [tyR, List.map_cons, List.map_nil]
  refine tw ?_; try with_reducible intro QQ hQQ
  ((refine cO 79 rfl rfl rfl (hc) Try.func79 rfl ?_); refine tu ?_; try clear hQQ QQ); refine tw ?_; try with_reducible intro QQ hQQ
  refine ti ?_; try clear hQQ QQ
  refine tw ?_; try with_reducible intro QQ hQQ
  refine aw_ret ?_; refine ⟨.inr rfl, ?_⟩; simp only [resA, res1, go_sem, ↓reduceIte]
theorem f27_arg (hv : validB n most strays calls = false) : FunOK Try.prog 27 [tyR n most strays calls] (.tup [.one (iP 0), .one (iP 1)]) := by
  have hc := ok_check79 (n := n) (most := most) (strays := strays) (calls := calls) true
  rw [hv, if_neg (by decide)] at hc
  simp only [tyR] at hc
  refine fun_ok (nt := 49) (rs := [.tmp 2, .tmp 3]) Try.func27 rfl rfl rfl (by simp) fun Z w0 => ?_; simp only [initFr, avR, List.map_cons, List.map_nil]
  simp only [tyR, List.map_cons, List.map_nil]
  refine tw ?_; try with_reducible intro QQ hQQ
  ((refine cO 79 rfl rfl rfl (hc) Try.func79 rfl ?_); refine tu ?_; try clear hQQ QQ); refine tw ?_; try with_reducible intro QQ hQQ
  refine ti ?_; try clear hQQ QQ
  refine tw ?_; try with_reducible intro QQ hQQ
  refine aw_ret ?_; refine ⟨.inr rfl, ?_⟩; simp only [resA, res1, go_sem, ↓reduceIte]
theorem f29_arg (hv : validB n most strays calls = false) : FunOK Try.prog 29 [tyR n most strays calls] (.tup [.one (iP 0), .one (iP 1)]) := by
  have hc := ok_check79 (n := n) (most := most) (strays := strays) (calls := calls) true
  rw [hv, if_neg (by decide)] at hc
  simp only [tyR] at hc
  refine fun_ok (nt := 45) (rs := [.tmp 2, .tmp 3]) Try.func29 rfl rfl rfl (by simp) fun Z w0 => ?_; simp only [initFr, avR, List.map_cons, List.map_nil]
  simp only [tyR, List.map_cons, List.map_nil]
  refine tw ?_; try with_reducible intro QQ hQQ
  ((refine cO 79 rfl rfl rfl (hc) Try.func79 rfl ?_); refine tu ?_; try clear hQQ QQ); refine tw ?_; try with_reducible intro QQ hQQ
  refine ti ?_; try clear hQQ QQ
  refine tw ?_; try with_reducible intro QQ hQQ
  refine aw_ret ?_; refine ⟨.inr rfl, ?_⟩; simp only [resA, res1, go_sem, ↓reduceIte]
theorem check_ok (h : TOK N most strays calls) : FunOK Try.prog 79 [tyR N most strays calls, .one (.v (.bool true))] (.one (.one (iP 0))) := by
  have hc := ok_check79 (n := N) (most := most) (strays := strays) (calls := calls) true
  rw [tok_to h, if_pos rfl, if_pos rfl] at hc
  exact hc
theorem f25_of (h : TOK N most strays calls) {R : List Nat} (hR : FunOK Try.prog 80 [tyR N most strays calls] (.one (.one (.sl (R.map rowN))))) (h8 : ∀ x ∈ R, x < 256) :
    FunOK Try.prog 25 [tyR N most strays calls] (.tup [.one (iP (if R = [] then (0 : Int) else (popc (R.getD 0 0) : Nat))), .one (iP (if R = [] then (0 : Int) else (R.getD 0 0 : Nat))), .one (iP (if R = [] then 10 else 0))]) := by
  have hc := check_ok h
  simp only [tyR] at hc hR
  by_cases h0 : R = []
  · subst h0
    rw [if_pos rfl, if_pos rfl, if_pos rfl]
    refine fun_ok (nt := 24) (rs := [.tmp 2, .tmp 3, .tmp 4]) Try.func25 rfl rfl rfl (by simp) fun Z w0 => ?_; simp only [initFr, avR, List.map_cons, List.map_nil]
    simp only [tyR, List.map_cons, List.map_nil]
    refine tw ?_; try with_reducible intro QQ hQQ
    ((refine cO 79 rfl rfl rfl (hc) Try.func79 rfl ?_); refine tu ?_; try clear hQQ QQ); refine tw ?_; try with_reducible intro QQ hQQ
    refine ti ?_; try clear hQQ QQ
    refine tw ?_; try with_reducible intro QQ hQQ
    ((refine cB 80 rfl rfl rfl (hR) Try.func80 rfl ?_); refine tu ?_; try clear hQQ QQ); refine tw ?_; try with_reducible intro QQ hQQ
    refine ti ?_; try clear hQQ QQ
    refine tw ?_; try with_reducible intro QQ hQQ
    refine aw_ret ?_; refine ⟨.inr rfl, ?_⟩; simp only [resA, res1, go_sem, ↓reduceIte]
  · have hlen : 0 < R.length := List.length_pos_iff.2 h0
    rw [if_neg h0, if_neg h0, if_neg h0]
    have hsz := ok_Size (R.getD 0 0) (h8 _ (mem_of_getD hlen))
    obtain ⟨x, hx⟩ : ∃ x, R.getD 0 0 = x := ⟨_, rfl⟩
    rw [hx] at hsz ⊢
    refine fun_ok (nt := 24) (rs := [.tmp 2, .tmp 3, .tmp 4]) Try.func25 rfl rfl rfl (by simp) fun Z w0 => ?_; simp only [initFr, avR, List.map_cons, List.map_nil]
    simp only [tyR, List.map_cons, List.map_nil]
    (repeat (first | apply aw_seq | apply aw_block | apply aw_skip | apply aw_label | apply aw_exit | ((first | refine aw_region (hideO fun QQ hQQ => ?_) | refine aw_draw mixed (hideD fun QQ hQQ => ?_)); simp (maxSteps := 400000) (disch := first | decide | omega) only [hx, go_sem, ↓reduceIte]; try (first | with_reducible refine unhide hQQ ?_ | refine ⟨by kernel_rfl, unhide hQQ ?_⟩); clear hQQ QQ) | with_reducible first | apply then_n | apply block_n | apply then_x | apply then_r | apply nog_n | apply nog_r | apply block_r | apply block_e (by decide) | apply block_x (by decide)))
    ((refine callO_ok rfl rfl 79 true rfl (by simp (disch := first | decide | omega) only [hx, go_sem, ↓reduceIte]; try rfl) (fun _ => rfl) (hc) Try.func79 rfl (by decide) ?_); simp (maxSteps := 400000) (disch := first | decide | omega) only [hx, go_sem, ↓reduceIte]; try (with_reducible refine unhide hQQ ?_; clear hQQ QQ)); (repeat (first | apply aw_seq | apply aw_block | apply aw_skip | apply aw_label | apply aw_exit | ((first | refine aw_region (hideO fun QQ hQQ => ?_) | refine aw_draw mixed (hideD fun QQ hQQ => ?_)); simp (maxSteps := 400000) (disch := first | decide | omega) only [hx, go_sem, ↓reduceIte]; try (first | with_reducible refine unhide hQQ ?_ | refine ⟨by kernel_rfl, unhide hQQ ?_⟩); clear hQQ QQ) | with_reducible first | apply then_n | apply block_n | apply then_x | apply then_r | apply nog_n | apply nog_r | apply block_r | apply block_e (by decide) | apply block_x (by decide)))
    refine aw_cond2 (by simp (disch := first | decide | omega) only [hx, go_sem, ↓reduceIte]; rfl) ?_; first | refine .inl ⟨by first | rfl | exact decide_eq_true (by omega) | exact decide_eq_true (by assumption) | (simp (disch := first | decide | omega) only [if_pos_d, if_neg_d, decide_eq_true_eq, Bool.not_eq_true', decide_eq_false_iff_not]; omega), ?_⟩ | refine .inr ⟨by first | rfl | exact decide_eq_false (by omega) | exact decide_eq_false (by assumption) | (simp (disch := first | decide | omega) only [if_pos_d, if_neg_d, decide_eq_true_eq, Bool.not_eq_true', decide_eq_false_iff_not]; omega), ?_⟩
    (repeat (first | apply aw_seq | apply aw_block | apply aw_skip | apply aw_label | apply aw_exit | ((first | refine aw_region (hideO fun QQ hQQ => ?_) | refine aw_draw mixed (hideD fun QQ hQQ => ?_)); simp (maxSteps := 400000) (disch := first | decide | omega) only [hx, go_sem, ↓reduceIte]; try (first | with_reducible refine unhide hQQ ?_ | refine ⟨by kernel_rfl, unhide hQQ ?_⟩); clear hQQ QQ) | with_reducible first | apply then_n | apply block_n | apply then_x | apply then_r | apply nog_n | apply nog_r | apply block_r | apply block_e (by decide) | apply block_x (by decide)))
    ((refine callO_ok rfl rfl 80 false rfl (by simp (disch := first | decide | omega) only [hx, go_sem, ↓reduceIte]; try rfl) (fun h => by cases h) (hR) Try.func80 rfl (by decide) ?_); simp (maxSteps := 400000) (disch := first | decide | omega) only [hx, go_sem, ↓reduceIte]; try (with_reducible refine unhide hQQ ?_; clear hQQ QQ)); (repeat (first | apply aw_seq | apply aw_block | apply aw_skip | apply aw_label | apply aw_exit | ((first | refine aw_region (hideO fun QQ hQQ => ?_) | refine aw_draw mixed (hideD fun QQ hQQ => ?_)); simp (maxSteps := 400000) (disch := first | decide | omega) only [hx, go_sem, ↓reduceIte]; try (first | with_reducible refine unhide hQQ ?_ | refine ⟨by kernel_rfl, unhide hQQ ?_⟩); clear hQQ QQ) | with_reducible first | apply then_n | apply block_n | apply then_x | apply then_r | apply nog_n | apply nog_r | apply block_r | apply block_e (by decide) | apply block_x (by decide)))
    refine aw_cond2 (by simp (disch := first | decide | omega) only [hx, go_sem, ↓reduceIte]; rfl) ?_; first | refine .inl ⟨by first | rfl | exact decide_eq_true (by omega) | exact decide_eq_true (by assumption) | (simp (disch := first | decide | omega) only [if_pos_d, if_neg_d, decide_eq_true_eq, Bool.not_eq_true', decide_eq_false_iff_not]; omega), ?_⟩ | refine .inr ⟨by first | rfl | exact decide_eq_false (by omega) | exact decide_eq_false (by assumption) | (simp (disch := first | decide | omega) only [if_pos_d, if_neg_d, decide_eq_true_eq, Bool.not_eq_true', decide_eq_false_iff_not]; omega), ?_⟩
    (repeat (first | apply aw_seq | apply aw_block | apply aw_skip | apply aw_label | apply aw_exit | ((first | refine aw_region (hideO fun QQ hQQ => ?_) | refine aw_draw mixed (hideD fun QQ hQQ => ?_)); simp (maxSteps := 400000) (disch := first | decide | omega) only [hx, go_sem, ↓reduceIte]; try (first | with_reducible refine unhide hQQ ?_ | refine ⟨by kernel_rfl, unhide hQQ ?_⟩); clear hQQ QQ) | with_reducible first | apply then_n | apply block_n | apply then_x | apply then_r | apply nog_n | apply nog_r | apply block_r | apply block_e (by decide) | apply block_x (by decide)))
    (refine callD_ok rfl rfl 42 true rfl (by simp (disch := first | decide | omega) only [hx, go_sem, ↓reduceIte]; try rfl) (fun _ => rfl) (hsz) Try.func42 rfl (by decide) ?_); simp (maxSteps := 400000) (disch := first | decide | omega) only [hx, go_sem, ↓reduceIte]; (try (refine ⟨by kernel_rfl, unhide hQQ ?_⟩; clear hQQ QQ; (repeat with_reducible first | apply then_n | apply block_n | apply then_x | apply then_r | apply nog_n | apply nog_r | apply block_r | apply block_e (by decide) | apply block_x (by decide))))
    (repeat (first | apply aw_seq | apply aw_block | apply aw_skip | apply aw_label | apply aw_exit | ((first | refine aw_region (hideO fun QQ hQQ => ?_) | refine aw_draw mixed (hideD fun QQ hQQ => ?_)); simp (maxSteps := 400000) (disch := first | decide | omega) only [hx, go_sem, ↓reduceIte]; try (first | with_reducible refine unhide hQQ ?_ | refine ⟨by kernel_rfl, unhide hQQ ?_⟩); clear hQQ QQ) | with_reducible first | apply then_n | apply block_n | apply then_x | apply then_r | apply nog_n | apply nog_r | apply block_r | apply block_e (by decide) | apply block_x (by decide)))
    refine aw_ret ?_; refine ⟨.inr rfl, ?_⟩; simp only [resA, res1, go_sem, ↓reduceIte]
theorem addBit_all : (List.range 256).all (fun o => (List.range 8).all fun c => o.testBit c || (Nat.blt (o + 2 ^ c) 256 && (List.range 8).all fun b => (o + 2 ^ c).testBit b == (o.testBit b || b == c))) = true := by decide +kernel
theorem addBit {o c : Nat} (ho : o < 256) (hc : c < 8) (h0 : o.testBit c = false) : o + 2 ^ c < 256 ∧ ∀ b, (o + 2 ^ c).testBit b = (o.testBit b || b == c) := by
  have := List.all_eq_true.1 (List.all_eq_true.1 addBit_all o (List.mem_range.2 ho)) c (List.mem_range.2 hc)
  rw [h0, Bool.false_or, Bool.and_eq_true] at this
  obtain ⟨h1, h2⟩ := this
  have hlt : o + 2 ^ c < 256 := by unfold Nat.blt at h1; exact Nat.le_of_ble_eq_true h1
  refine ⟨hlt, fun b => ?_⟩
  by_cases hb : b < 8
  · have := List.all_eq_true.1 h2 b (List.mem_range.2 hb)
    simpa using this
  · have e1 : ∀ x, x < 256 → x.testBit b = false := fun x hx => Nat.testBit_lt_two_pow (Nat.lt_of_lt_of_le hx (Nat.pow_le_pow_right (n := 2) (by decide) (show 8 ≤ b by omega)))
    rw [e1 _ hlt, e1 _ ho]
    have : (b == c) = false := by simp; omega
    rw [this]; rfl
theorem f27_of (h : TOK N most strays calls) {R : List Nat} (hR : FunOK Try.prog 80 [tyR N most strays calls] (.one (.one (.sl (R.map rowN))))) (hlen : R.length ≤ 256) (h8 : ∀ x ∈ R, x < 2 ^ calls.length) {s : Nat} (hs : s < 256) (hsb : ∀ b, s.testBit b = true ↔ ∃ x ∈ R, x.testBit b = true) :
    FunOK Try.prog 27 [tyR N most strays calls] (.tup [.one (iP (if R = [] then (0 : Int) else s)), .one (iP (if R = [] then 10 else 0))]) := by
  have hc := check_ok h
  have hcl := h.cl
  have hx8 : 2 ^ calls.length ≤ 256 := Nat.pow_le_pow_right (n := 2) (by decide) h.cl
  simp only [tyR] at hc hR
  by_cases h0 : R = []
  · subst h0
    rw [if_pos rfl, if_pos rfl]
    refine fun_ok (nt := 49) (rs := [.tmp 2, .tmp 3]) Try.func27 rfl rfl rfl (by simp) fun Z w0 => ?_; simp only [initFr, avR, List.map_cons, List.map_nil]
    simp only [tyR, List.map_cons, List.map_nil]
    refine tw ?_; try with_reducible intro QQ hQQ
    ((refine cO 79 rfl rfl rfl (hc) Try.func79 rfl ?_); refine tu ?_; try clear hQQ QQ); refine tw ?_; try with_reducible intro QQ hQQ
    refine ti ?_; try clear hQQ QQ
    refine tw ?_; try with_reducible intro QQ hQQ
    ((refine cB 80 rfl rfl rfl (hR) Try.func80 rfl ?_); refine tu ?_; try clear hQQ QQ); refine tw ?_; try with_reducible intro QQ hQQ
    refine ti ?_; try clear hQQ QQ
    refine tw ?_; try with_reducible intro QQ hQQ
    refine aw_ret ?_; refine ⟨.inr rfl, ?_⟩; simp only [resA, res1, go_sem, ↓reduceIte]
  · have hlen0 : 0 < R.length := List.length_pos_iff.2 h0
    rw [if_neg h0, if_neg h0]
    refine fun_ok (nt := 49) (rs := [.tmp 2, .tmp 3]) Try.func27 rfl rfl rfl (by simp) fun Z w0 => ?_; simp only [initFr, avR, List.map_cons, List.map_nil]
    simp only [tyR, List.map_cons, List.map_nil]
    refine tw ?_; try with_reducible intro QQ hQQ
    ((refine cO 79 rfl rfl rfl (hc) Try.func79 rfl ?_); refine tu ?_; try clear hQQ QQ); refine tw ?_; try with_reducible intro QQ hQQ
    refine ti ?_; try clear hQQ QQ
    refine tw ?_; try with_reducible intro QQ hQQ
    ((refine cB 80 rfl rfl rfl (hR) Try.func80 rfl ?_); refine tu ?_; try clear hQQ QQ); refine tw ?_; try with_reducible intro QQ hQQ
    refine ti ?_; try clear hQQ QQ
    refine tw ?_; try with_reducible intro QQ hQQ
    refine aw_weak (weak_keep [1, 5, 6, 7] (by simp only [go_sem, ↓reduceIte]; rfl)) ?_
    refine aw_loop_ov (ι := { q : Nat × Nat // q.1 ≤ R.length ∧ q.2 < 256 ∧ ∀ b, q.2.testBit b = true ↔ ∃ x ∈ R.take q.1, x.testBit b = true }) (fun q => [(7, iA q.1.1), (6, iA q.1.2)]) (fun _ => []) (fun q => R.length - q.1.1) ⟨(0, 0), by omega, by decide, fun b => by simp⟩ (by first | rfl | (simp only [go_sem, ↓reduceIte]; first | done | rfl | (simp; try rfl))) ?_
    rintro ⟨⟨i, o⟩, hi, ho, hob⟩
    simp (disch := decide) only [ov, ovL, AL.get_nil, AL.get_eq, AL.get_ne, Option.getD_some, Option.getD_none]
    dsimp only at hi ho hob
    by_cases hil : i < R.length
    · have hxm := h8 _ (mem_of_getD (d := 0) hil)
      have e1 : R.take (i + 1) = R.take i ++ [R.getD i 0] := by
        rw [List.take_succ, List.getElem?_eq_getElem hil, List.getD_eq_getElem?_getD, List.getElem?_eq_getElem hil]; rfl
      obtain ⟨x, hx⟩ : ∃ x, R.getD i 0 = x := ⟨_, rfl⟩
      rw [hx] at hxm e1
      refine tw ?_; try with_reducible intro QQ hQQ
      refine ti ?_; try clear hQQ QQ
      refine tw ?_; try with_reducible intro QQ hQQ
      refine aw_weak (weak_keep [1, 5, 6, 7, 8] (by simp only [go_sem, ↓reduceIte]; rfl)) ?_
      refine aw_loop_ov (ι := { q : Nat × Nat // q.1 ≤ calls.length ∧ q.2 < 256 ∧ ∀ b, q.2.testBit b = true ↔ (∃ x ∈ R.take i, x.testBit b = true) ∨ (b < q.1 ∧ x.testBit b = true) }) (fun q => [(8, iA q.1.1), (6, iA q.1.2)]) (fun _ => []) (fun q => calls.length - q.1.1) ⟨(0, o), by omega, ho, fun b => by rw [hob b]; simp⟩ (by first | rfl | (simp only [go_sem, ↓reduceIte]; first | done | rfl | (simp; try rfl))) ?_
      rintro ⟨⟨c, o'⟩, hcc, ho', hob'⟩
      simp (disch := decide) only [ov, ovL, AL.get_nil, AL.get_eq, AL.get_ne, Option.getD_some, Option.getD_none]
      dsimp only at hcc ho' hob'
      by_cases hcl2 : c < calls.length
      · have hH1 := ok_Has86 (s := x) (n := c) (by omega) (by omega)
        have hH2 := ok_Has86 (s := o') (n := c) (by omega) (by omega)
        have hP := ok_power87 (n := c) (by omega)
        have keepb : (x.testBit c = true → o'.testBit c = true) → ∀ b, o'.testBit b = true ↔ (∃ x ∈ R.take i, x.testBit b = true) ∨ (b < c + 1 ∧ x.testBit b = true) := fun hk b => by
          rw [hob' b]
          constructor
          · rintro (h1 | ⟨h1, h2⟩)
            · exact .inl h1
            · exact .inr ⟨by omega, h2⟩
          · rintro (h1 | ⟨h1, h2⟩)
            · exact .inl h1
            · by_cases e : b = c
              · subst e
                exact (hob' b).1 (hk h2)
              · exact .inr ⟨by omega, h2⟩
        cases hb1 : x.testBit c
        · rw [hb1] at hH1
          have hk := keepb (fun hh => by rw [hb1] at hh; cases hh)
          clear keepb hob' hob hsb
          (repeat (first | apply aw_seq | apply aw_block | apply aw_skip | apply aw_label | apply aw_exit | ((first | refine aw_region (hideO fun QQ hQQ => ?_) | refine aw_draw mixed (hideD fun QQ hQQ => ?_)); simp (maxSteps := 400000) (disch := first | decide | omega) only [hx, go_sem, ↓reduceIte]; try (first | with_reducible refine unhide hQQ ?_ | refine ⟨by kernel_rfl, unhide hQQ ?_⟩); clear hQQ QQ) | with_reducible first | apply then_n | apply block_n | apply then_x | apply then_r | apply nog_n | apply nog_r | apply block_r | apply block_e (by decide) | apply block_x (by decide)))
          refine aw_cond2 (by simp (disch := first | decide | omega) only [hx, go_sem, ↓reduceIte]; rfl) ?_; first | refine .inl ⟨by first | rfl | exact decide_eq_true (by omega) | exact decide_eq_true (by assumption) | (simp (disch := first | decide | omega) only [if_pos_d, if_neg_d, decide_eq_true_eq, Bool.not_eq_true', decide_eq_false_iff_not]; omega), ?_⟩ | refine .inr ⟨by first | rfl | exact decide_eq_false (by omega) | exact decide_eq_false (by assumption) | (simp (disch := first | decide | omega) only [if_pos_d, if_neg_d, decide_eq_true_eq, Bool.not_eq_true', decide_eq_false_iff_not]; omega), ?_⟩
          (repeat (first | apply aw_seq | apply aw_block | apply aw_skip | apply aw_label | apply aw_exit | ((first | refine aw_region (hideO fun QQ hQQ => ?_) | refine aw_draw mixed (hideD fun QQ hQQ => ?_)); simp (maxSteps := 400000) (disch := first | decide | omega) only [hx, go_sem, ↓reduceIte]; try (first | with_reducible refine unhide hQQ ?_ | refine ⟨by kernel_rfl, unhide hQQ ?_⟩); clear hQQ QQ) | with_reducible first | apply then_n | apply block_n | apply then_x | apply then_r | apply nog_n | apply nog_r | apply block_r | apply block_e (by decide) | apply block_x (by decide)))
          ((refine callO_ok rfl rfl 86 true rfl (by simp (disch := first | decide | omega) only [hx, go_sem, ↓reduceIte]; try rfl) (fun _ => rfl) (hH1) Try.func86 rfl (by decide) ?_); simp (maxSteps := 400000) (disch := first | decide | omega) only [hx, go_sem, ↓reduceIte]; try (with_reducible refine unhide hQQ ?_; clear hQQ QQ)); (repeat (first | apply aw_seq | apply aw_block | apply aw_skip | apply aw_label | apply aw_exit | ((first | refine aw_region (hideO fun QQ hQQ => ?_) | refine aw_draw mixed (hideD fun QQ hQQ => ?_)); simp (maxSteps := 400000) (disch := first | decide | omega) only [hx, go_sem, ↓reduceIte]; try (first | with_reducible refine unhide hQQ ?_ | refine ⟨by kernel_rfl, unhide hQQ ?_⟩); clear hQQ QQ) | with_reducible first | apply then_n | apply block_n | apply then_x | apply then_r | apply nog_n | apply nog_r | apply block_r | apply block_e (by decide) | apply block_x (by decide)))
          refine aw_cond2 (by simp (disch := first | decide | omega) only [hx, go_sem, ↓reduceIte]; rfl) ?_; first | refine .inl ⟨by first | rfl | exact decide_eq_true (by omega) | exact decide_eq_true (by assumption) | (simp (disch := first | decide | omega) only [if_pos_d, if_neg_d, decide_eq_true_eq, Bool.not_eq_true', decide_eq_false_iff_not]; omega), ?_⟩ | refine .inr ⟨by first | rfl | exact decide_eq_false (by omega) | exact decide_eq_false (by assumption) | (simp (disch := first | decide | omega) only [if_pos_d, if_neg_d, decide_eq_true_eq, Bool.not_eq_true', decide_eq_false_iff_not]; omega), ?_⟩
          (repeat (first | apply aw_seq | apply aw_block | apply aw_skip | apply aw_label | apply aw_exit | ((first | refine aw_region (hideO fun QQ hQQ => ?_) | refine aw_draw mixed (hideD fun QQ hQQ => ?_)); simp (maxSteps := 400000) (disch := first | decide | omega) only [hx, go_sem, ↓reduceIte]; try (first | with_reducible refine unhide hQQ ?_ | refine ⟨by kernel_rfl, unhide hQQ ?_⟩); clear hQQ QQ) | with_reducible first | apply then_n | apply block_n | apply then_x | apply then_r | apply nog_n | apply nog_r | apply block_r | apply block_e (by decide) | apply block_x (by decide)))
          (refine ⟨⟨(c + 1, o'), by dsimp only; omega, ho', hk⟩, ?_, weak_round (by simp only [hx, go_sem, ↓reduceIte]; first | done | rfl) (by first | rfl | (simp only [hx, go_sem, ↓reduceIte]))⟩; (simp only; omega))
        · rw [hb1] at hH1
          cases hb2 : o'.testBit c
          · rw [hb2] at hH2
            obtain ⟨a1, a2⟩ := addBit ho' (c := c) (by omega) hb2
            have hk : ∀ b, (o' + 2 ^ c).testBit b = true ↔ (∃ x ∈ R.take i, x.testBit b = true) ∨ (b < c + 1 ∧ x.testBit b = true) := fun b => by
              rw [a2 b, Bool.or_eq_true, hob' b]
              constructor
              · rintro ((h1 | ⟨h1, h2⟩) | h1)
                · exact .inl h1
                · exact .inr ⟨by omega, h2⟩
                · have e : b = c := by simpa using h1
                  subst e
                  exact .inr ⟨by omega, hb1⟩
              · rintro (h1 | ⟨h1, h2⟩)
                · exact .inl (.inl h1)
                · by_cases e : b = c
                  · exact .inr (by simp [e])
                  · exact .inl (.inr ⟨by omega, h2⟩)
            have hadd : ((o' : Nat) : Int) + ((2 ^ c : Nat) : Int) = ((o' + 2 ^ c : Nat) : Int) := by omega
            clear keepb hob' hob hsb a2
            obtain ⟨z, hz⟩ : ∃ z, o' + 2 ^ c = z := ⟨_, rfl⟩
            rw [hz] at a1 hk hadd
            obtain ⟨y, hy⟩ : ∃ y, 2 ^ c = y := ⟨_, rfl⟩
            rw [hy] at hP hadd hz
            (repeat (first | apply aw_seq | apply aw_block | apply aw_skip | apply aw_label | apply aw_exit | ((first | refine aw_region (hideO fun QQ hQQ => ?_) | refine aw_draw mixed (hideD fun QQ hQQ => ?_)); simp (maxSteps := 400000) (disch := first | decide | omega) only [hx, hadd, hz, go_sem, ↓reduceIte]; try (first | with_reducible refine unhide hQQ ?_ | refine ⟨by kernel_rfl, unhide hQQ ?_⟩); clear hQQ QQ) | with_reducible first | apply then_n | apply block_n | apply then_x | apply then_r | apply nog_n | apply nog_r | apply block_r | apply block_e (by decide) | apply block_x (by decide)))
            refine aw_cond2 (by simp (disch := first | decide | omega) only [hx, hadd, hz, go_sem, ↓reduceIte]; rfl) ?_; first | refine .inl ⟨by first | rfl | exact decide_eq_true (by omega) | exact decide_eq_true (by assumption) | (simp (disch := first | decide | omega) only [if_pos_d, if_neg_d, decide_eq_true_eq, Bool.not_eq_true', decide_eq_false_iff_not]; omega), ?_⟩ | refine .inr ⟨by first | rfl | exact decide_eq_false (by omega) | exact decide_eq_false (by assumption) | (simp (disch := first | decide | omega) only [if_pos_d, if_neg_d, decide_eq_true_eq, Bool.not_eq_true', decide_eq_false_iff_not]; omega), ?_⟩
            (repeat (first | apply aw_seq | apply aw_block | apply aw_skip | apply aw_label | apply aw_exit | ((first | refine aw_region (hideO fun QQ hQQ => ?_) | refine aw_draw mixed (hideD fun QQ hQQ => ?_)); simp (maxSteps := 400000) (disch := first | decide | omega) only [hx, hadd, hz, go_sem, ↓reduceIte]; try (first | with_reducible refine unhide hQQ ?_ | refine ⟨by kernel_rfl, unhide hQQ ?_⟩); clear hQQ QQ) | with_reducible first | apply then_n | apply block_n | apply then_x | apply then_r | apply nog_n | apply nog_r | apply block_r | apply block_e (by decide) | apply block_x (by decide)))
            (refine callO_ok rfl rfl 86 true rfl (by simp (disch := first | decide | omega) only [hx, hadd, hz, go_sem, ↓reduceIte]; try rfl) (fun _ => rfl) (hH1) Try.func86 rfl (by decide) ?_); simp (maxSteps := 400000) (disch := first | decide | omega) only [hx, hadd, hz, go_sem, ↓reduceIte]; (try (with_reducible refine unhide hQQ ?_; clear hQQ QQ; (repeat with_reducible first | apply then_n | apply block_n | apply then_x | apply then_r | apply nog_n | apply nog_r | apply block_r | apply block_e (by decide) | apply block_x (by decide))))
            ((refine callO_ok rfl rfl 86 true rfl (by simp (disch := first | decide | omega) only [hx, hadd, hz, go_sem, ↓reduceIte]; try rfl) (fun _ => rfl) (hH2) Try.func86 rfl (by decide) ?_); simp (maxSteps := 400000) (disch := first | decide | omega) only [hx, hadd, hz, go_sem, ↓reduceIte]; try (with_reducible refine unhide hQQ ?_; clear hQQ QQ)); (repeat (first | apply aw_seq | apply aw_block | apply aw_skip | apply aw_label | apply aw_exit | ((first | refine aw_region (hideO fun QQ hQQ => ?_) | refine aw_draw mixed (hideD fun QQ hQQ => ?_)); simp (maxSteps := 400000) (disch := first | decide | omega) only [hx, hadd, hz, go_sem, ↓reduceIte]; try (first | with_reducible refine unhide hQQ ?_ | refine ⟨by kernel_rfl, unhide hQQ ?_⟩); clear hQQ QQ) | with_reducible first | apply then_n | apply block_n | apply then_x | apply then_r | apply nog_n | apply nog_r | apply block_r | apply block_e (by decide) | apply block_x (by decide)))
            refine aw_cond2 (by simp (disch := first | decide | omega) only [hx, hadd, hz, go_sem, ↓reduceIte]; rfl) ?_; first | refine .inl ⟨by first | rfl | exact decide_eq_true (by omega) | exact decide_eq_true (by assumption) | (simp (disch := first | decide | omega) only [if_pos_d, if_neg_d, decide_eq_true_eq, Bool.not_eq_true', decide_eq_false_iff_not]; omega), ?_⟩ | refine .inr ⟨by first | rfl | exact decide_eq_false (by omega) | exact decide_eq_false (by assumption) | (simp (disch := first | decide | omega) only [if_pos_d, if_neg_d, decide_eq_true_eq, Bool.not_eq_true', decide_eq_false_iff_not]; omega), ?_⟩
            (repeat (first | apply aw_seq | apply aw_block | apply aw_skip | apply aw_label | apply aw_exit | ((first | refine aw_region (hideO fun QQ hQQ => ?_) | refine aw_draw mixed (hideD fun QQ hQQ => ?_)); simp (maxSteps := 400000) (disch := first | decide | omega) only [hx, hadd, hz, go_sem, ↓reduceIte]; try (first | with_reducible refine unhide hQQ ?_ | refine ⟨by kernel_rfl, unhide hQQ ?_⟩); clear hQQ QQ) | with_reducible first | apply then_n | apply block_n | apply then_x | apply then_r | apply nog_n | apply nog_r | apply block_r | apply block_e (by decide) | apply block_x (by decide)))
            ((refine callO_ok rfl rfl 87 true rfl (by simp (disch := first | decide | omega) only [hx, hadd, hz, go_sem, ↓reduceIte]; try rfl) (fun _ => rfl) (hP) Try.func87 rfl (by decide) ?_); simp (maxSteps := 400000) (disch := first | decide | omega) only [hx, hadd, hz, go_sem, ↓reduceIte]; try (with_reducible refine unhide hQQ ?_; clear hQQ QQ)); (repeat (first | apply aw_seq | apply aw_block | apply aw_skip | apply aw_label | apply aw_exit | ((first | refine aw_region (hideO fun QQ hQQ => ?_) | refine aw_draw mixed (hideD fun QQ hQQ => ?_)); simp (maxSteps := 400000) (disch := first | decide | omega) only [hx, hadd, hz, go_sem, ↓reduceIte]; try (first | with_reducible refine unhide hQQ ?_ | refine ⟨by kernel_rfl, unhide hQQ ?_⟩); clear hQQ QQ) | with_reducible first | apply then_n | apply block_n | apply then_x | apply then_r | apply nog_n | apply nog_r | apply block_r | apply block_e (by decide) | apply block_x (by decide)))
            (refine ⟨⟨(c + 1, z), by dsimp only; omega, a1, hk⟩, ?_, weak_round (by simp only [hx, hadd, hz, go_sem, ↓reduceIte]; first | done | rfl) (by first | rfl | (simp only [hx, hadd, hz, go_sem, ↓reduceIte]))⟩; (simp only; omega))
          · rw [hb2] at hH2
            have hk := keepb (fun _ => hb2)
            clear keepb hob' hob hsb
            (repeat (first | apply aw_seq | apply aw_block | apply aw_skip | apply aw_label | apply aw_exit | ((first | refine aw_region (hideO fun QQ hQQ => ?_) | refine aw_draw mixed (hideD fun QQ hQQ => ?_)); simp (maxSteps := 400000) (disch := first | decide | omega) only [hx, go_sem, ↓reduceIte]; try (first | with_reducible refine unhide hQQ ?_ | refine ⟨by kernel_rfl, unhide hQQ ?_⟩); clear hQQ QQ) | with_reducible first | apply then_n | apply block_n | apply then_x | apply then_r | apply nog_n | apply nog_r | apply block_r | apply block_e (by decide) | apply block_x (by decide)))
            refine aw_cond2 (by simp (disch := first | decide | omega) only [hx, go_sem, ↓reduceIte]; rfl) ?_; first | refine .inl ⟨by first | rfl | exact decide_eq_true (by omega) | exact decide_eq_true (by assumption) | (simp (disch := first | decide | omega) only [if_pos_d, if_neg_d, decide_eq_true_eq, Bool.not_eq_true', decide_eq_false_iff_not]; omega), ?_⟩ | refine .inr ⟨by first | rfl | exact decide_eq_false (by omega) | exact decide_eq_false (by assumption) | (simp (disch := first | decide | omega) only [if_pos_d, if_neg_d, decide_eq_true_eq, Bool.not_eq_true', decide_eq_false_iff_not]; omega), ?_⟩
            (repeat (first | apply aw_seq | apply aw_block | apply aw_skip | apply aw_label | apply aw_exit | ((first | refine aw_region (hideO fun QQ hQQ => ?_) | refine aw_draw mixed (hideD fun QQ hQQ => ?_)); simp (maxSteps := 400000) (disch := first | decide | omega) only [hx, go_sem, ↓reduceIte]; try (first | with_reducible refine unhide hQQ ?_ | refine ⟨by kernel_rfl, unhide hQQ ?_⟩); clear hQQ QQ) | with_reducible first | apply then_n | apply block_n | apply then_x | apply then_r | apply nog_n | apply nog_r | apply block_r | apply block_e (by decide) | apply block_x (by decide)))
            (refine callO_ok rfl rfl 86 true rfl (by simp (disch := first | decide | omega) only [hx, go_sem, ↓reduceIte]; try rfl) (fun _ => rfl) (hH1) Try.func86 rfl (by decide) ?_); simp (maxSteps := 400000) (disch := first | decide | omega) only [hx, go_sem, ↓reduceIte]; (try (with_reducible refine unhide hQQ ?_; clear hQQ QQ; (repeat with_reducible first | apply then_n | apply block_n | apply then_x | apply then_r | apply nog_n | apply nog_r | apply block_r | apply block_e (by decide) | apply block_x (by decide))))
            ((refine callO_ok rfl rfl 86 true rfl (by simp (disch := first | decide | omega) only [hx, go_sem, ↓reduceIte]; try rfl) (fun _ => rfl) (hH2) Try.func86 rfl (by decide) ?_); simp (maxSteps := 400000) (disch := first | decide | omega) only [hx, go_sem, ↓reduceIte]; try (with_reducible refine unhide hQQ ?_; clear hQQ QQ)); (repeat (first | apply aw_seq | apply aw_block | apply aw_skip | apply aw_label | apply aw_exit | ((first | refine aw_region (hideO fun QQ hQQ => ?_) | refine aw_draw mixed (hideD fun QQ hQQ => ?_)); simp (maxSteps := 400000) (disch := first | decide | omega) only [hx, go_sem, ↓reduceIte]; try (first | with_reducible refine unhide hQQ ?_ | refine ⟨by kernel_rfl, unhide hQQ ?_⟩); clear hQQ QQ) | with_reducible first | apply then_n | apply block_n | apply then_x | apply then_r | apply nog_n | apply nog_r | apply block_r | apply block_e (by decide) | apply block_x (by decide)))
            refine aw_cond2 (by simp (disch := first | decide | omega) only [hx, go_sem, ↓reduceIte]; rfl) ?_; first | refine .inl ⟨by first | rfl | exact decide_eq_true (by omega) | exact decide_eq_true (by assumption) | (simp (disch := first | decide | omega) only [if_pos_d, if_neg_d, decide_eq_true_eq, Bool.not_eq_true', decide_eq_false_iff_not]; omega), ?_⟩ | refine .inr ⟨by first | rfl | exact decide_eq_false (by omega) | exact decide_eq_false (by assumption) | (simp (disch := first | decide | omega) only [if_pos_d, if_neg_d, decide_eq_true_eq, Bool.not_eq_true', decide_eq_false_iff_not]; omega), ?_⟩
            (repeat (first | apply aw_seq | apply aw_block | apply aw_skip | apply aw_label | apply aw_exit | ((first | refine aw_region (hideO fun QQ hQQ => ?_) | refine aw_draw mixed (hideD fun QQ hQQ => ?_)); simp (maxSteps := 400000) (disch := first | decide | omega) only [hx, go_sem, ↓reduceIte]; try (first | with_reducible refine unhide hQQ ?_ | refine ⟨by kernel_rfl, unhide hQQ ?_⟩); clear hQQ QQ) | with_reducible first | apply then_n | apply block_n | apply then_x | apply then_r | apply nog_n | apply nog_r | apply block_r | apply block_e (by decide) | apply block_x (by decide)))
            (refine ⟨⟨(c + 1, o'), by dsimp only; omega, ho', hk⟩, ?_, weak_round (by simp only [hx, go_sem, ↓reduceIte]; first | done | rfl) (by first | rfl | (simp only [hx, go_sem, ↓reduceIte]))⟩; (simp only; omega))
      · have hce : c = calls.length := by omega
        have hk : ∀ b, o'.testBit b = true ↔ ∃ y ∈ R.take (i + 1), y.testBit b = true := fun b => by
          rw [hob' b, e1]
          constructor
          · rintro (⟨y, h1, h2⟩ | ⟨h1, h2⟩)
            · exact ⟨y, List.mem_append_left _ h1, h2⟩
            · exact ⟨x, List.mem_append_right _ (List.mem_singleton.2 rfl), h2⟩
          · rintro ⟨y, h1, h2⟩
            rcases List.mem_append.1 h1 with h1 | h1
            · exact .inl ⟨y, h1, h2⟩
            · rw [List.mem_singleton.1 h1] at h2
              exact .inr ⟨by rw [hce]; exact bit_lt hxm h2, h2⟩
        clear hob' hob hsb
        refine tw ?_; try with_reducible intro QQ hQQ
        refine ti ?_; try clear hQQ QQ
        refine tw ?_; try with_reducible intro QQ hQQ
        (refine ⟨⟨(i + 1, o'), by dsimp only; omega, ho', hk⟩, ?_, weak_round (by simp only [go_sem, ↓reduceIte]; first | done | rfl) (by first | rfl | (simp only [go_sem, ↓reduceIte]))⟩; (simp only; omega))
    · have hie : i = R.length := by omega
      have hos : o = s := by
        apply Nat.eq_of_testBit_eq
        intro b
        have h1 := hob b
        have h2 := hsb b
        rw [List.take_of_length_le (by omega)] at h1
        rw [Bool.eq_iff_iff, h1, h2]
      subst hos
      clear hob hsb
      refine tw ?_; try with_reducible intro QQ hQQ
      refine ti ?_; try clear hQQ QQ
      refine tw ?_; try with_reducible intro QQ hQQ
      refine aw_ret ?_; refine ⟨.inr rfl, ?_⟩; simp only [resA, res1, go_sem, ↓reduceIte]
end
end Go.Proofs.Ytejbglbiefpagaa
/- tally, the document's functions: Clash; and THE LAW TallySets, whole. -/
namespace Go.Proofs.Ytejbglbiefpagaa
open Go Go.RowKit Go.Sh Go.Pv
set_option maxHeartbeats 4000000
set_option maxRecDepth 8000
set_option pp.maxSteps 60000
theorem popc_every_all : (List.range 9).all (fun m => (List.range (2 ^ m)).all fun s => Nat.blt (popc s) (popc (2 ^ m - 1)) || Nat.beq s (2 ^ m - 1)) = true := by decide +kernel
theorem popc_every {m s : Nat} (hm : m ≤ 8) (hs : s < 2 ^ m) : popc s < popc (2 ^ m - 1) ∨ s = 2 ^ m - 1 := by
  have := List.all_eq_true.1 (List.all_eq_true.1 popc_every_all m (List.mem_range.2 (by omega))) s (List.mem_range.2 hs)
  rw [Bool.or_eq_true] at this
  rcases this with h | h
  · exact .inl (by unfold Nat.blt at h; exact Nat.le_of_ble_eq_true h)
  · exact .inr (Nat.eq_of_beq_eq_true h)
section
variable {N : Nat} {n most : Int} {strays : List (Int × Int)} {calls : List (Int × Int × Int × Int)}
attribute [local go_sem] row4 rowN rowsK_rN get_someN get_some4 rowsK_nil' rowsK_cons' not_isEmpty_nil Bool.false_or
theorem f29_of (h : TOK N most strays calls) (w : Ways N most strays) {s : Nat} (hW : ¬ Whole N most strays calls → s < 2 ^ calls.length ∧ ¬ Feas N most strays calls s ∧ ∀ x, x < 2 ^ calls.length → ¬ Feas N most strays calls x → x = s ∨ ahead s x) :
    FunOK Try.prog 29 [tyR N most strays calls] (.tup [.one (iP (if truthsG N most strays calls (2 ^ calls.length - 1) = [] then (s : Int) else 0)), .one (iP (if truthsG N most strays calls (2 ^ calls.length - 1) = [] then 0 else 4))]) := by
  have hc := check_ok h
  have hcl := h.cl
  have hx := Nat.two_pow_pos calls.length
  have hx8 : 2 ^ calls.length ≤ 256 := Nat.pow_le_pow_right (n := 2) (by decide) h.cl
  have hall := ok_all91 h w.a w.b w.ab
  have hev := ok_Every93 (n := N) (most := most) (strays := strays) (calls := calls) h.cl
  have hof := fun (S : Nat) (hS : S < 256) => ok_of92 h (L := allG N most strays) (fun t ht => allG_good h ht) (all_len w) (set := S) hS
  have htl := fun (S : Nat) => truths_len (calls := calls) w S
  have hofT : ∀ S, (allG N most strays).filter (rightB N calls S) = truthsG N most strays calls S := fun S => rfl
  have hnil := fun (S : Nat) => truths_nil h (S := S)
  simp only [tyR] at hc hall hev hof
  by_cases h0 : truthsG N most strays calls (2 ^ calls.length - 1) = []
  · have hnw : ¬ Whole N most strays calls := (hnil _).1 h0
    obtain ⟨w1, w2, w3⟩ := hW hnw
    rw [if_pos h0, if_pos h0]
    have ho := hof (2 ^ calls.length - 1) (by omega)
    rw [hofT, h0] at ho
    have ho : FunOK Try.prog 92 _ (.one (.one (.sl []))) := ho
    obtain ⟨full, hfull⟩ : ∃ f, 2 ^ calls.length - 1 = f := ⟨_, rfl⟩
    have hpe : ∀ s, s < 2 ^ calls.length → popc s < popc full ∨ s = full := fun s hs => by rw [← hfull]; exact popc_every hcl hs
    rw [hfull] at hev ho h0
    generalize hL : allG N most strays = L at *
    refine fun_ok (nt := 45) (rs := [.tmp 2, .tmp 3]) Try.func29 rfl rfl rfl (by simp) fun Z w0 => ?_; simp only [initFr, avR, List.map_cons, List.map_nil]
    simp only [tyR, List.map_cons, List.map_nil]
    refine tw ?_; try with_reducible intro QQ hQQ
    ((refine cO 79 rfl rfl rfl (hc) Try.func79 rfl ?_); refine tu ?_; try clear hQQ QQ); refine tw ?_; try with_reducible intro QQ hQQ
    refine ti ?_; try clear hQQ QQ
    refine tw ?_; try with_reducible intro QQ hQQ
    ((refine cB 91 rfl rfl rfl (hall) Try.func91 rfl ?_); refine tu ?_; try clear hQQ QQ); refine tw ?_; try with_reducible intro QQ hQQ
    (refine cD 93 rfl rfl rfl (hev) Try.func93 rfl ?_); refine td ?_; try clear hQQ QQ
    ((refine cG 92 rfl rfl rfl (ho) Try.func92 rfl ?_); refine tv ?_; try clear hQQ QQ); refine tw ?_; try with_reducible intro QQ hQQ
    refine ti ?_; try clear hQQ QQ
    refine tw ?_; try with_reducible intro QQ hQQ
    ((refine cO 93 rfl rfl rfl (hev) Try.func93 rfl ?_); refine tu ?_; try clear hQQ QQ); refine tw ?_; try with_reducible intro QQ hQQ
    refine aw_weak (weak_keep [1, 5, 6, 7] (by simp only [go_sem, ↓reduceIte]; rfl)) ?_
    refine aw_loop_ov (ι := { q : Nat × Nat // q.1 ≤ 2 ^ calls.length ∧ q.2 < 2 ^ calls.length ∧ ¬ Feas N most strays calls q.2 ∧ (q.2 = full ∨ q.2 < q.1) ∧ ∀ x, x < q.1 → ¬ Feas N most strays calls x → popc q.2 < popc x ∨ (popc q.2 = popc x ∧ q.2 ≤ x) }) (fun q => [(7, iA q.1.1), (6, iA q.1.2)]) (fun _ => []) (fun q => 2 ^ calls.length - q.1.1) ⟨(0, full), by omega, by dsimp only; omega, (hnil full).1 h0, .inl rfl, fun x hx => absurd hx (by omega)⟩ (by first | rfl | (simp only [go_sem, ↓reduceIte]; first | done | rfl | (simp; try rfl))) ?_
    rintro ⟨⟨i, b⟩, hi, hb, hbf, hbb, hbx⟩
    simp (disch := decide) only [ov, ovL, AL.get_nil, AL.get_eq, AL.get_ne, Option.getD_some, Option.getD_none]
    dsimp only at hi hb hbf hbb hbx
    by_cases hil : i < 2 ^ calls.length
    · have hs1 := ok_Size i (by omega)
      have hs2 := ok_Size b (by omega)
      have hoi := hof i (by omega)
      have htl := htl i
      have hni := hnil i
      rw [hofT] at hoi
      have hie : i ≤ full := by omega
      have keepb : (Feas N most strays calls i ∨ popc b ≤ popc i) → ∀ x, x < i + 1 → ¬ Feas N most strays calls x → popc b < popc x ∨ (popc b = popc x ∧ b ≤ x) := fun hk x hx hfx => by
        by_cases e : x = i
        · subst e
          rcases hk with hk | hk
          · exact absurd hk hfx
          · rcases Nat.lt_or_ge (popc b) (popc x) with h1 | h1
            · exact .inl h1
            · refine .inr ⟨by omega, ?_⟩
              rcases hbb with h2 | h2
              · rcases hpe x (by omega) with h3 | h3
                · rw [h2] at hk; omega
                · omega
              · omega
        · exact hbx x (by omega) hfx
      by_cases hlt : popc i < popc b
      · by_cases hT : truthsG N most strays calls i = []
        · have hfi := hni.1 hT
          rw [hT] at hoi
          have hoi : FunOK Try.prog 92 _ (.one (.one (.sl []))) := hoi
          have hnew : ∀ x, x < i + 1 → ¬ Feas N most strays calls x → popc i < popc x ∨ (popc i = popc x ∧ i ≤ x) := fun x hx hfx => by
            by_cases e : x = i
            · subst e; exact .inr ⟨rfl, Nat.le_refl _⟩
            · have := hbx x (by omega) hfx
              omega
          clear keepb hbx hof hofT hnil hW w3 hpe
          refine tw ?_; try with_reducible intro QQ hQQ
          ((refine cO 93 rfl rfl rfl (hev) Try.func93 rfl ?_); refine tu ?_; try clear hQQ QQ); refine tw ?_; try with_reducible intro QQ hQQ
          refine ti ?_; try clear hQQ QQ
          refine tw ?_; try with_reducible intro QQ hQQ
          (refine cO 42 rfl rfl rfl (hs1) Try.func42 rfl ?_); refine ts ?_; try clear hQQ QQ
          (refine cO 42 rfl rfl rfl (hs2) Try.func42 rfl ?_); refine ts ?_; try clear hQQ QQ
          ((refine cB 92 rfl rfl rfl (hoi) Try.func92 rfl ?_); refine tu ?_; try clear hQQ QQ); refine tw ?_; try with_reducible intro QQ hQQ
          refine ti ?_; try clear hQQ QQ
          refine tw ?_; try with_reducible intro QQ hQQ
          (refine ⟨⟨(i + 1, i), by dsimp only; omega, hil, hfi, .inr (by dsimp only; omega), hnew⟩, ?_, weak_round (by simp only [go_sem, ↓reduceIte]; first | done | rfl) (by first | rfl | (simp only [go_sem, ↓reduceIte]))⟩; (simp only; omega))
        · have hfi : Feas N most strays calls i := Classical.byContradiction fun hn => hT (hni.2 hn)
          have hk := keepb (.inl hfi)
          have hT0 : 0 < (truthsG N most strays calls i).length := List.length_pos_iff.2 hT
          generalize truthsG N most strays calls i = T at *
          clear keepb hbx hof hofT hnil hW w3 hpe
          refine tw ?_; try with_reducible intro QQ hQQ
          ((refine cO 93 rfl rfl rfl (hev) Try.func93 rfl ?_); refine tu ?_; try clear hQQ QQ); refine tw ?_; try with_reducible intro QQ hQQ
          refine ti ?_; try clear hQQ QQ
          refine tw ?_; try with_reducible intro QQ hQQ
          (refine cO 42 rfl rfl rfl (hs1) Try.func42 rfl ?_); refine ts ?_; try clear hQQ QQ
          (refine cO 42 rfl rfl rfl (hs2) Try.func42 rfl ?_); refine ts ?_; try clear hQQ QQ
          ((refine cB 92 rfl rfl rfl (hoi) Try.func92 rfl ?_); refine tu ?_; try clear hQQ QQ); refine tw ?_; try with_reducible intro QQ hQQ
          refine ti ?_; try clear hQQ QQ
          refine tw ?_; try with_reducible intro QQ hQQ
          (refine ⟨⟨(i + 1, b), by dsimp only; omega, hb, hbf, by dsimp only; omega, hk⟩, ?_, weak_round (by simp only [go_sem, ↓reduceIte]; first | done | rfl) (by first | rfl | (simp only [go_sem, ↓reduceIte]))⟩; (simp only; omega))
      · have hk := keepb (.inr (by omega))
        clear keepb hbx hof hofT hnil hW w3 hpe
        refine tw ?_; try with_reducible intro QQ hQQ
        ((refine cO 93 rfl rfl rfl (hev) Try.func93 rfl ?_); refine tu ?_; try clear hQQ QQ); refine tw ?_; try with_reducible intro QQ hQQ
        refine ti ?_; try clear hQQ QQ
        refine tw ?_; try with_reducible intro QQ hQQ
        (refine cO 42 rfl rfl rfl (hs1) Try.func42 rfl ?_); refine ts ?_; try clear hQQ QQ
        ((refine cO 42 rfl rfl rfl (hs2) Try.func42 rfl ?_); refine tu ?_; try clear hQQ QQ); refine tw ?_; try with_reducible intro QQ hQQ
        refine ti ?_; try clear hQQ QQ
        refine tw ?_; try with_reducible intro QQ hQQ
        (refine ⟨⟨(i + 1, b), by dsimp only; omega, hb, hbf, by dsimp only; omega, hk⟩, ?_, weak_round (by simp only [go_sem, ↓reduceIte]; first | done | rfl) (by first | rfl | (simp only [go_sem, ↓reduceIte]))⟩; (simp only; omega))
    · have hie : i = 2 ^ calls.length := by omega
      have hbs : b = s := by
        rcases w3 b hb hbf with h1 | h1
        · exact h1
        · have := hbx s (by omega) w2
          unfold ahead at h1
          omega
      subst hbs
      have hie2 : ¬ i ≤ full := by omega
      clear hbx hof hofT hnil hW w3 hpe
      refine tw ?_; try with_reducible intro QQ hQQ
      ((refine cO 93 rfl rfl rfl (hev) Try.func93 rfl ?_); refine tu ?_; try clear hQQ QQ); refine tw ?_; try with_reducible intro QQ hQQ
      refine ti ?_; try clear hQQ QQ
      refine tw ?_; try with_reducible intro QQ hQQ
      refine aw_ret ?_; refine ⟨.inr rfl, ?_⟩; simp only [resA, res1, go_sem, ↓reduceIte]
  · rw [if_neg h0, if_neg h0]
    have ho := hof (2 ^ calls.length - 1) (by omega)
    have htl := htl (2 ^ calls.length - 1)
    rw [hofT] at ho
    have hT0 : 0 < (truthsG N most strays calls (2 ^ calls.length - 1)).length := List.length_pos_iff.2 h0
    generalize truthsG N most strays calls (2 ^ calls.length - 1) = T at *
    generalize hL : allG N most strays = L at *
    clear hof hofT hnil hW
    refine fun_ok (nt := 45) (rs := [.tmp 2, .tmp 3]) Try.func29 rfl rfl rfl (by simp) fun Z w0 => ?_; simp only [initFr, avR, List.map_cons, List.map_nil]
    simp only [tyR, List.map_cons, List.map_nil]
    refine tw ?_; try with_reducible intro QQ hQQ
    ((refine cO 79 rfl rfl rfl (hc) Try.func79 rfl ?_); refine tu ?_; try clear hQQ QQ); refine tw ?_; try with_reducible intro QQ hQQ
    refine ti ?_; try clear hQQ QQ
    refine tw ?_; try with_reducible intro QQ hQQ
    ((refine cB 91 rfl rfl rfl (hall) Try.func91 rfl ?_); refine tu ?_; try clear hQQ QQ); refine tw ?_; try with_reducible intro QQ hQQ
    (refine cD 93 rfl rfl rfl (hev) Try.func93 rfl ?_); refine td ?_; try clear hQQ QQ
    ((refine cG 92 rfl rfl rfl (ho) Try.func92 rfl ?_); refine tv ?_; try clear hQQ QQ); refine tw ?_; try with_reducible intro QQ hQQ
    refine ti ?_; try clear hQQ QQ
    refine tw ?_; try with_reducible intro QQ hQQ
    refine aw_ret ?_; refine ⟨.inr rfl, ?_⟩; simp only [resA, res1, go_sem, ↓reduceIte]
theorem v_False (hv : validB n most strays calls = false) : FunOK Try.prog 24 [tyR n most strays calls] (.tup [.one (iP 0), .one (iP 0), .one (iP 1)]) := by
  have hk := ok_False (n := n) (most := most) (strays := strays) (calls := calls)
  have hw : whyW n most strays calls = 1 := by unfold whyW; rw [if_pos hv]
  rw [hw] at hk
  exact hk
theorem v_Suspects (hv : validB n most strays calls = false) : FunOK Try.prog 26 [tyR n most strays calls] (.tup [.one (iP 0), .one (iP 1)]) := by
  have hk := ok_Suspects (n := n) (most := most) (strays := strays) (calls := calls)
  have hw : whyW n most strays calls = 1 := by unfold whyW; rw [if_pos hv]
  rw [hw] at hk
  exact hk
/-- Both answer the same. -/
structure Same3 (n most : Int) (strays : List (Int × Int)) (calls : List (Int × Int × Int × Int)) : Prop where
  fal : ∃ r1 r2 e, FunOK Try.prog 24 [tyR n most strays calls] (.tup [.one (iP r1), .one (iP r2), .one (iP e)]) ∧ FunOK Try.prog 25 [tyR n most strays calls] (.tup [.one (iP r1), .one (iP r2), .one (iP e)])
  sus : ∃ r e, FunOK Try.prog 26 [tyR n most strays calls] (.tup [.one (iP r), .one (iP e)]) ∧ FunOK Try.prog 27 [tyR n most strays calls] (.tup [.one (iP r), .one (iP e)])
  cla : ∃ r e, FunOK Try.prog 28 [tyR n most strays calls] (.tup [.one (iP r), .one (iP e)]) ∧ FunOK Try.prog 29 [tyR n most strays calls] (.tup [.one (iP r), .one (iP e)])
theorem same3_arg (hv : validB n most strays calls = false) : Same3 n most strays calls :=
  ⟨⟨0, 0, 1, v_False hv, f25_arg hv⟩, ⟨0, 1, v_Suspects hv, f27_arg hv⟩, ⟨0, 1, v_Clash hv, f29_arg hv⟩⟩
theorem same3_ok (h : TOK N most strays calls) (w : Ways N most strays) : Same3 N most strays calls := by
  have hcl := h.cl
  have hx8 : 2 ^ calls.length ≤ 256 := Nat.pow_le_pow_right (n := 2) (by decide) h.cl
  have hcla : ∃ r e, FunOK Try.prog 28 [tyR N most strays calls] (.tup [.one (iP r), .one (iP e)]) ∧ FunOK Try.prog 29 [tyR N most strays calls] (.tup [.one (iP r), .one (iP e)]) := by
    by_cases hf : Whole N most strays calls
    · have := f29_of (s := 0) h w fun hn => absurd hf hn
      have hne : truthsG N most strays calls (2 ^ calls.length - 1) ≠ [] := fun he => (truths_nil h).1 he hf
      rw [if_neg hne, if_neg hne] at this
      exact ⟨0, 4, x_Clash h hf, this⟩
    · obtain ⟨s, q, h1, h2, h3⟩ := c_Clash h hf
      have := f29_of (s := s) h w fun _ => ⟨h1, h2, h3⟩
      have hne : truthsG N most strays calls (2 ^ calls.length - 1) = [] := (truths_nil h).2 hf
      rw [if_pos hne, if_pos hne] at this
      exact ⟨_, _, q, this⟩
  by_cases h0 : Feas N most strays calls 0
  · obtain ⟨w0, s, q24, q26, ho⟩ := c_False h h0
    have hmem : w0 ∈ setsQ (pW N most strays calls) (popc w0) (2 ^ calls.length) := setsQ_mem.2 ⟨ho.lt, rfl, (pW_F h _).2 ho.ok⟩
    have hne : setsQ (pW N most strays calls) (popc w0) (2 ^ calls.length) ≠ [] := fun he => by rw [he] at hmem; cases hmem
    have hR := without_at h w (R := setsQ (pW N most strays calls) (popc w0) (2 ^ calls.length)) (.inl ⟨popc w0, popc_le hcl ho.lt, fun k hk => by
      rw [List.eq_nil_iff_forall_not_mem]
      intro x hx
      obtain ⟨g1, g2, g3⟩ := setsQ_mem.1 hx
      have := ho.least x g1 ((pW_F h _).1 g3)
      rcases this with rfl | ha
      · omega
      · unfold ahead at ha; omega, rfl, hne⟩)
    have hlt : ∀ x ∈ setsQ (pW N most strays calls) (popc w0) (2 ^ calls.length), x < 2 ^ calls.length := fun x hx => (setsQ_mem.1 hx).1
    have h25 := f25_of h hR fun x hx => Nat.lt_of_lt_of_le (hlt x hx) hx8
    have hhead : (setsQ (pW N most strays calls) (popc w0) (2 ^ calls.length)).getD 0 0 = w0 := by
      have hpw := setsQ_pw (pW N most strays calls) (popc w0) (2 ^ calls.length)
      have hmem' := fun x => setsQ_mem (p := pW N most strays calls) (n := popc w0) (i := 2 ^ calls.length) (x := x)
      cases hq : setsQ (pW N most strays calls) (popc w0) (2 ^ calls.length) with
      | nil => exact absurd hq hne
      | cons a r =>
        rw [hq] at hpw hmem hmem'
        show a = w0
        obtain ⟨g1, g2, g3⟩ := (hmem' a).1 List.mem_cons_self
        rcases ho.least a g1 ((pW_F h _).1 g3) with e | ha
        · exact e
        · rcases List.mem_cons.1 hmem with e | hr
          · exact e.symm
          · have := (List.pairwise_cons.1 hpw).1 w0 hr
            unfold ahead at ha
            omega
    rw [if_neg hne, if_neg hne, if_neg hne, hhead] at h25
    have h27 := f27_of h hR (Nat.le_trans (setsQ_len _ _ _) hx8) hlt ho.slt fun b => by
      rw [ho.sus b]
      constructor
      · rintro ⟨x, g1, g2, g3, g4⟩
        exact ⟨x, setsQ_mem.2 ⟨g1, g2, (pW_F h _).2 g3⟩, g4⟩
      · rintro ⟨x, g1, g2⟩
        obtain ⟨k1, k2, k3⟩ := setsQ_mem.1 g1
        exact ⟨x, k1, k2, (pW_F h _).1 k3, g2⟩
    rw [if_neg hne, if_neg hne] at h27
    exact ⟨⟨_, _, _, q24, h25⟩, ⟨_, _, q26, h27⟩, hcla⟩
  · obtain ⟨q24, q26⟩ := x_False h h0
    have hR := without_at h w (R := []) (.inr ⟨rfl, fun k hk => by
      rw [List.eq_nil_iff_forall_not_mem]
      intro x hx
      obtain ⟨g1, g2, g3⟩ := setsQ_mem.1 hx
      exact h0 (feas_mono (fun i hi hb => by rw [Nat.zero_testBit] at hb; cases hb) ((pW_F h _).1 g3))⟩)
    have h25 := f25_of h hR fun x hx => by cases hx
    have h27 := f27_of (s := 0) h hR (by decide) (fun x hx => by cases hx) (by decide) fun b => by simp
    exact ⟨⟨_, _, _, q24, h25⟩, ⟨_, _, q26, h27⟩, hcla⟩
theorem sets_heavy (hh : FunOK Try.prog 12 [tyR n most strays calls, .one (iP 600)] (.one (.one (.v (.bool true))))) : FunOK Try.prog 4 [tyR n most strays calls] (.one (.one (.v (.bool true)))) := by
  have hal := ok_alive
  simp only [tyR] at hh
  refine fun_ok (nt := 88) (rs := [.tmp 2]) Try.func4 rfl rfl rfl (by simp) fun Z w0 => ?_; simp only [initFr, avR, List.map_cons, List.map_nil]
  simp only [tyR, List.map_cons, List.map_nil]
  refine tw ?_; try with_reducible intro QQ hQQ
  ((refine cO 12 rfl rfl rfl (hh) Try.func12 rfl ?_); refine tu ?_; try clear hQQ QQ); refine tw ?_; try with_reducible intro QQ hQQ
  refine ti ?_; try clear hQQ QQ
  refine tw ?_; try with_reducible intro QQ hQQ
  ((refine cO 13 rfl rfl rfl (hal) Try.func13 rfl ?_); refine tu ?_; try clear hQQ QQ); refine tw ?_; try with_reducible intro QQ hQQ
  refine aw_ret ?_; refine ⟨.inr rfl, ?_⟩; simp only [resA, res1, go_sem, ↓reduceIte]
theorem sets_same (hh : FunOK Try.prog 12 [tyR n most strays calls, .one (iP 600)] (.one (.one (.v (.bool false))))) (S : Same3 n most strays calls) : FunOK Try.prog 4 [tyR n most strays calls] (.one (.one (.v (.bool true)))) := by
  have hal := ok_alive
  obtain ⟨⟨a1, a2, ae, q24, q25⟩, ⟨b, be, q26, q27⟩, ⟨d, de, q28, q29⟩⟩ := S
  simp only [tyR] at hh q24 q25 q26 q27 q28 q29
  refine fun_ok (nt := 88) (rs := [.tmp 2]) Try.func4 rfl rfl rfl (by simp) fun Z w0 => ?_; simp only [initFr, avR, List.map_cons, List.map_nil]
  simp only [tyR, List.map_cons, List.map_nil]
  refine tw ?_; try with_reducible intro QQ hQQ
  ((refine cO 12 rfl rfl rfl (hh) Try.func12 rfl ?_); refine tu ?_; try clear hQQ QQ); refine tw ?_; try with_reducible intro QQ hQQ
  refine ti ?_; try clear hQQ QQ
  refine tw ?_; try with_reducible intro QQ hQQ
  ((refine cO 24 rfl rfl rfl (q24) Try.func24 rfl ?_); refine tu ?_; try clear hQQ QQ); refine tw ?_; try with_reducible intro QQ hQQ
  ((refine cO 25 rfl rfl rfl (q25) Try.func25 rfl ?_); refine tu ?_; try clear hQQ QQ); refine tw ?_; try with_reducible intro QQ hQQ
  ((refine cO 26 rfl rfl rfl (q26) Try.func26 rfl ?_); refine tu ?_; try clear hQQ QQ); refine tw ?_; try with_reducible intro QQ hQQ
  ((refine cO 27 rfl rfl rfl (q27) Try.func27 rfl ?_); refine tu ?_; try clear hQQ QQ); refine tw ?_; try with_reducible intro QQ hQQ
  ((refine cO 28 rfl rfl rfl (q28) Try.func28 rfl ?_); refine tu ?_; try clear hQQ QQ); refine tw ?_; try with_reducible intro QQ hQQ
  ((refine cO 29 rfl rfl rfl (q29) Try.func29 rfl ?_); refine tu ?_; try clear hQQ QQ); refine tw ?_; try with_reducible intro QQ hQQ
  ((refine cO 13 rfl rfl rfl (hal) Try.func13 rfl ?_); refine tu ?_; try clear hQQ QQ); refine tw ?_; try with_reducible intro QQ hQQ
  refine aw_ret ?_; refine ⟨.inr rfl, ?_⟩; simp only [resA, res1, go_sem, ↓reduceIte]
theorem main_sets (n most : Int) (strays : List (Int × Int)) (calls : List (Int × Int × Int × Int)) : FunOK Try.prog 4 [tyR n most strays calls] (.one (.one (.v (.bool true)))) := by
  cases hl : longB strays calls
  · cases hv : validB n most strays calls
    · exact sets_same (heavy_arg 600 hl hv) (same3_arg hv)
    · obtain ⟨hn, hT⟩ := tok_of hv
      rw [hn]
      have hh := heavy_ok 600 hT
      by_cases hw : 600 < waysN n.toNat most strays
      · rw [decide_eq_true hw] at hh
        exact sets_heavy hh
      · rw [decide_eq_false hw] at hh
        exact sets_same hh (same3_ok hT (ways_ok hT (by omega)))
  · exact sets_heavy (heavy_long 600 hl)
end
end Go.Proofs.Ytejbglbiefpagaa
