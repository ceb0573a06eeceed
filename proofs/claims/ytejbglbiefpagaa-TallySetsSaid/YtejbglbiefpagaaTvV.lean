/- tally: Suspects, walked. -/
import Derived.Test.YtejbglbiefpagaaTvU
set_option linter.all false
namespace Go.Proofs.Ytejbglbiefpagaa
open Go Go.RowKit Go.Sh Go.Pv
set_option maxHeartbeats 8000000
set_option maxRecDepth 20000
attribute [local go_sem] conv104_3 uP
/-- All sets of so many calls of which something is so, together. -/
def susA (p : Nat → Bool) (w : Nat) (L : List Nat) : Nat → Nat
  | 0 => 0
  | i + 1 => if popc (L.getD i 0) = popc w ∧ p (L.getD i 0) = true then susA p w L i ||| L.getD i 0 else susA p w L i
theorem susA_lt {p : Nat → Bool} {w : Nat} {L : List Nat} (hL : ∀ i, i < L.length → L.getD i 0 < 256) : ∀ i, i ≤ L.length → susA p w L i < 256
  | 0, _ => by simp [susA]
  | i + 1, h => by
    unfold susA
    have ih := susA_lt (p := p) (w := w) hL i (by omega)
    split
    · exact Nat.or_lt_two_pow (n := 8) ih (hL i (by omega))
    · exact ih
section
variable {n most : Int} {strays : List (Int × Int)} {calls : List (Int × Int × Int × Int)}
def susS (n most : Int) (strays : List (Int × Int)) (calls : List (Int × Int × Int × Int)) : Nat := susA (pW n.toNat most strays calls) (wSet n most strays calls) (setsL calls.length) (setsL calls.length).length
theorem ok_Suspects : FunOK Try.prog 26 [tyR n most strays calls] (ansN (whyW n most strays calls) (susS n most strays calls)) := by
  refine fun_exp (l := [_]) (od := _) (nt := 41) (t := 9) (eb := 1) (rs := [.tmp 2, .cell 3 32]) ans81 Try.func26 rfl rfl rfl (by simp) rfl rfl rfl Try.func81 rfl (by decide) fun Z w0 => ?_; simp only [initFr, avR, List.map_cons, List.map_nil]
  simp only [tyR, List.map_cons, List.map_nil]
  refine tw ?_; try with_reducible intro QQ hQQ
  refine ⟨rfl, ?_⟩
  (refine ts ?_; try clear hQQ QQ)
  refine tw ?_; try with_reducible intro QQ hQQ
  cases hv : validB n most strays calls
  · have hwhy : whyW n most strays calls = 1 := by simp [whyW, hv]
    have hb := hwhy
    refine callS_ok rfl rfl 48 (by simp (disch := first | decide | omega) only [go_sem, ↓reduceIte]; try rfl) (by simp (disch := first | decide | omega) only [go_sem, ↓reduceIte]; try rfl) Try.func48 rfl (by decide) (CallF.mono (c_open_arg hv Try.func76 rfl (by decide) ?_) fun _ _ h => False.elim h)
    exact ⟨1, 0, rfl, by simp (disch := first | decide | omega) only [go_sem, ↓reduceIte]; try rfl, by simp (disch := first | decide | omega) only [go_sem, ↓reduceIte]; try rfl, by simp (disch := first | decide | omega) only [resA, res1, ansR, ansN, hwhy, hb, go_sem, ↓reduceIte]; try rfl⟩
  obtain ⟨hnn, hT⟩ := tok_of hv
  have hn5 := valid_n hv
  generalize n.toNat = N at hnn hT
  subst hnn
  rcases idxB_cases (pW N most strays calls) (setsL calls.length) with hi | ⟨i0, hi0, hidx⟩
  · have hwhy : whyW N most strays calls = 10 := by
      have : wIdx N most strays calls = -1 := hi
      simp [whyW, hv, this]
    have hb := hwhy
    refine callS_ok rfl rfl 48 (by simp (disch := first | decide | omega) only [go_sem, ↓reduceIte]; try rfl) (by simp (disch := first | decide | omega) only [go_sem, ↓reduceIte]; try rfl) Try.func48 rfl (by decide) (CallF.mono (c_open_ok hT Try.func76 rfl (by decide) ?_) ?_); (exact is_box0); rintro _ _ ⟨rfl, rfl⟩; refine ts ?_; try clear hQQ QQ
    refine tw ?_; try with_reducible intro QQ hQQ
    refine callO_SX [5, 4] (sx_without hT hi) rfl rfl (by simp (disch := first | decide | omega) only [go_sem, ↓reduceIte]; try rfl) (by simp (disch := first | decide | omega) only [go_sem, ↓reduceIte]; try rfl) Try.func77 rfl (by decide) (by rfl) (by repeat' (first | trivial | apply And.intro | (simp (disch := first | decide | omega) only [go_sem, ↓reduceIte]; first | done | rfl))) (by decide) (by decide) (by first | rfl | (simp (disch := first | decide | omega) only [go_sem, ↓reduceIte]; try rfl)) ?_
    exact ⟨10, 0, rfl, by simp (disch := first | decide | omega) only [go_sem, ↓reduceIte]; try rfl, by simp (disch := first | decide | omega) only [go_sem, ↓reduceIte]; try rfl, by simp (disch := first | decide | omega) only [resA, res1, ansR, ansN, hwhy, hb, go_sem, ↓reduceIte]; try rfl⟩
  · have hw0 : wIdx N most strays calls = i0 := hidx
    have hwhy : whyW N most strays calls = 0 := by
      simp [whyW, hv, hw0]
    have hb := hwhy
    have hws : wSet N most strays calls = (setsL calls.length).getD i0 0 := by unfold wSet; rw [hw0]; rfl
    have h256 := sets_at hT.cl hi0
    have hall := fun i => sets_at (i := i) hT.cl
    have hbits := ok_bits _ h256
    have hwo := s_without hT hi0 hidx
    have hse := s_sets (n := N) (most := most) (strays := strays) (F := tabF N most strays calls) hT.cl
    have hev := ok_every N most strays calls hT.cl
    have he8 := every8 hT
    have hlen := sets_len _ hT.cl
    have hsus : susS N most strays calls = susA (pW N most strays calls) ((setsL calls.length).getD i0 0) (setsL calls.length) (setsL calls.length).length := by
      unfold susS; rw [hws]; rfl
    rw [hsus]
    have hpw : ∀ x, pW N most strays calls x = canB (tabF N most strays calls (diffN (2 ^ calls.length - 1) x)) 11 := fun _ => rfl
    have htab : ∀ x, FunS Try.prog 83 [.one (.box 0 0), .one (.p (uP (diffN (2 ^ calls.length - 1) x)))] (ydH N most strays calls (keepI (tabF N most strays calls)) Try.prog) 2 (.one (.agg ((mk (tabF N most strays calls (diffN (2 ^ calls.length - 1) x))).map iP))) := fun x =>
      s_table hT (diffN (2 ^ calls.length - 1) x) (by have := diffN_le (2 ^ calls.length - 1) x; omega)
    generalize (setsL calls.length).getD i0 0 = w at *
    generalize hL : setsL calls.length = L at hse hall hlen hi0
    generalize pW N most strays calls = p at *
    simp only [uP, ydP] at hbits hwo htab hev
    generalize (2 ^ calls.length - 1) = E at *
    have hslt := fun i h => susA_lt (p := p) (w := w) hall i h
    have hand : ∀ (P : Program) (T : TypeId) (x y : Operand) (s : Nat), s < 256 → binA P .andNot T x y (.int .u64 (E : Int)) (.int .u64 (s : Int)) = some (.int .u64 ((diffN E s : Nat) : Int)) := fun P T x y s hs => binu_andNot T x y (by omega) (by omega)
    refine callS_ok rfl rfl 48 (by simp (disch := first | decide | omega) only [go_sem, ↓reduceIte]; try rfl) (by simp (disch := first | decide | omega) only [go_sem, ↓reduceIte]; try rfl) Try.func48 rfl (by decide) (CallF.mono (c_open_ok hT Try.func76 rfl (by decide) ?_) ?_); (exact is_box0); rintro _ _ ⟨rfl, rfl⟩; refine ts ?_; try clear hQQ QQ
    refine tw ?_; try with_reducible intro QQ hQQ
    (refine callO_S [5, 4] (hwo) rfl rfl (by simp (disch := first | decide | omega) only [go_sem, ↓reduceIte]; try rfl) (by simp (disch := first | decide | omega) only [go_sem, ↓reduceIte]; try rfl) Try.func77 rfl (by decide) (by rfl) (by repeat' (first | trivial | apply And.intro | (simp (disch := first | decide | omega) only [go_sem, ↓reduceIte]; first | done | rfl))) (by decide) (by decide) (by first | rfl | (simp (disch := first | decide | omega) only [go_sem, ↓reduceIte]; try rfl)) ?_); refine ts ?_; try clear hQQ QQ
    ((refine cO 78 rfl rfl rfl (hbits) Try.func78 rfl ?_); refine tu ?_; try clear hQQ QQ); refine tw ?_; try with_reducible intro QQ hQQ
    (refine callO_S [5, 4] (hse) rfl rfl (by simp (disch := first | decide | omega) only [go_sem, ↓reduceIte]; try rfl) (by simp (disch := first | decide | omega) only [go_sem, ↓reduceIte]; try rfl) Try.func82 rfl (by decide) (by rfl) (by repeat' (first | trivial | apply And.intro | (simp (disch := first | decide | omega) only [go_sem, ↓reduceIte]; first | done | rfl))) (by decide) (by decide) (by first | rfl | (simp (disch := first | decide | omega) only [go_sem, ↓reduceIte]; try rfl)) ?_); refine ts ?_; try clear hQQ QQ
    refine tw ?_; try with_reducible intro QQ hQQ
    refine aw_weak (weak_keepA [3, 4, 5, 6, 9, 16, 17, 18] (by simp only [go_sem, ↓reduceIte]; rfl)) ?_
    refine aw_loop_ov (ι := { i : Nat // i ≤ L.length }) (fun i => [(18, iA i.1), (6, .one (.p (.v (.int .u64 (susA p w L i.1 : Int)))))]) (fun _ => []) (fun i => L.length - i.1) ⟨0, by omega⟩ (by first | rfl | (simp only [go_sem, ↓reduceIte]; first | done | rfl | (simp; try rfl))) ?_
    rintro ⟨i, hi⟩
    simp (disch := decide) only [ov, ovL, AL.get_nil, AL.get_eq, AL.get_ne, Option.getD_some, Option.getD_none]
    have hsl := hslt i hi
    by_cases hil : i < L.length
    · have hx := hall i hil
      have hbi := ok_bits _ hx
      have htx := htab (L.getD i 0)
      have hcan := ok_can (tabF N most strays calls (diffN E (L.getD i 0)))
      have hpx := hpw (L.getD i 0)
      have handx := fun P T x y => hand P T x y _ hx
      have hor : ∀ (P : Program) (T : TypeId) (x y : Operand), binA P .or T x y (.int .u64 (susA p w L i : Int)) (.int .u64 (L.getD i 0 : Int)) = some (.int .u64 ((susA p w L i ||| L.getD i 0 : Nat) : Int)) := fun P T x y => binu_or T x y (by omega) (by omega)
      simp only [uP] at hbi
      by_cases hpc : popc (L.getD i 0) = popc w
      · cases hp : p (L.getD i 0)
        · rw [← hpx, hp] at hcan
          have e2 : susA p w L (i + 1) = susA p w L i := by
            conv => lhs; unfold susA
            rw [if_neg (by rw [hp]; simp)]
          (repeat (first | apply aw_seq | apply aw_block | apply aw_skip | apply aw_label | apply aw_exit | ((first | refine aw_region (hideO fun QQ hQQ => ?_) | refine aw_draw mixed (hideD fun QQ hQQ => ?_)); simp (maxSteps := 400000) (disch := first | decide | omega) only [get_someU, rowU, handx, hor, go_sem, ↓reduceIte]; try (first | with_reducible refine unhide hQQ ?_ | refine ⟨by kernel_rfl, unhide hQQ ?_⟩); clear hQQ QQ) | with_reducible first | apply then_n | apply block_n | apply then_x | apply then_r | apply nog_n | apply nog_r | apply block_r | apply block_e (by decide) | apply block_x (by decide)))
          refine aw_cond2 (by simp (disch := first | decide | omega) only [get_someU, rowU, handx, hor, go_sem, ↓reduceIte]; rfl) ?_; first | refine .inl ⟨by first | rfl | exact decide_eq_true (by omega) | exact decide_eq_true (by assumption) | (simp (disch := first | decide | omega) only [if_pos_d, if_neg_d, decide_eq_true_eq, Bool.not_eq_true', decide_eq_false_iff_not]; omega), ?_⟩ | refine .inr ⟨by first | rfl | exact decide_eq_false (by omega) | exact decide_eq_false (by assumption) | (simp (disch := first | decide | omega) only [if_pos_d, if_neg_d, decide_eq_true_eq, Bool.not_eq_true', decide_eq_false_iff_not]; omega), ?_⟩
          (repeat (first | apply aw_seq | apply aw_block | apply aw_skip | apply aw_label | apply aw_exit | ((first | refine aw_region (hideO fun QQ hQQ => ?_) | refine aw_draw mixed (hideD fun QQ hQQ => ?_)); simp (maxSteps := 400000) (disch := first | decide | omega) only [get_someU, rowU, handx, hor, go_sem, ↓reduceIte]; try (first | with_reducible refine unhide hQQ ?_ | refine ⟨by kernel_rfl, unhide hQQ ?_⟩); clear hQQ QQ) | with_reducible first | apply then_n | apply block_n | apply then_x | apply then_r | apply nog_n | apply nog_r | apply block_r | apply block_e (by decide) | apply block_x (by decide)))
          (refine callO_ok rfl rfl 78 true rfl (by simp (disch := first | decide | omega) only [get_someU, rowU, handx, hor, go_sem, ↓reduceIte]; try rfl) (fun _ => rfl) (hbi) Try.func78 rfl (by decide) ?_); simp (maxSteps := 400000) (disch := first | decide | omega) only [get_someU, rowU, handx, hor, go_sem, ↓reduceIte]; (try (with_reducible refine unhide hQQ ?_; clear hQQ QQ; (repeat with_reducible first | apply then_n | apply block_n | apply then_x | apply then_r | apply nog_n | apply nog_r | apply block_r | apply block_e (by decide) | apply block_x (by decide))))
          (refine callO_ok rfl rfl 84 true rfl (by simp (disch := first | decide | omega) only [get_someU, rowU, handx, hor, go_sem, ↓reduceIte]; try rfl) (fun _ => rfl) (hev) Try.func84 rfl (by decide) ?_); simp (maxSteps := 400000) (disch := first | decide | omega) only [get_someU, rowU, handx, hor, go_sem, ↓reduceIte]; (try (with_reducible refine unhide hQQ ?_; clear hQQ QQ; (repeat with_reducible first | apply then_n | apply block_n | apply then_x | apply then_r | apply nog_n | apply nog_r | apply block_r | apply block_e (by decide) | apply block_x (by decide))))
          (refine callO_S [5, 4] (htx) rfl rfl (by simp (disch := first | decide | omega) only [get_someU, rowU, handx, hor, go_sem, ↓reduceIte]; try rfl) (by simp (disch := first | decide | omega) only [get_someU, rowU, handx, hor, go_sem, ↓reduceIte]; try rfl) Try.func83 rfl (by decide) (by rfl) (by repeat' (first | trivial | apply And.intro | (simp (disch := first | decide | omega) only [get_someU, rowU, handx, hor, go_sem, ↓reduceIte]; first | done | rfl))) (by decide) (by decide) (by first | rfl | (simp (disch := first | decide | omega) only [get_someU, rowU, handx, hor, go_sem, ↓reduceIte]; try rfl)) ?_); simp (maxSteps := 400000) (disch := first | decide | omega) only [get_someU, rowU, handx, hor, go_sem, ↓reduceIte]; (try (with_reducible refine unhide hQQ ?_; clear hQQ QQ; (repeat with_reducible first | apply then_n | apply block_n | apply then_x | apply then_r | apply nog_n | apply nog_r | apply block_r | apply block_e (by decide) | apply block_x (by decide))))
          ((refine callO_ok rfl rfl 85 true rfl (by simp (disch := first | decide | omega) only [get_someU, rowU, handx, hor, go_sem, ↓reduceIte]; try rfl) (fun _ => rfl) (hcan) Try.func85 rfl (by decide) ?_); simp (maxSteps := 400000) (disch := first | decide | omega) only [get_someU, rowU, handx, hor, go_sem, ↓reduceIte]; try (with_reducible refine unhide hQQ ?_; clear hQQ QQ)); (repeat (first | apply aw_seq | apply aw_block | apply aw_skip | apply aw_label | apply aw_exit | ((first | refine aw_region (hideO fun QQ hQQ => ?_) | refine aw_draw mixed (hideD fun QQ hQQ => ?_)); simp (maxSteps := 400000) (disch := first | decide | omega) only [get_someU, rowU, handx, hor, go_sem, ↓reduceIte]; try (first | with_reducible refine unhide hQQ ?_ | refine ⟨by kernel_rfl, unhide hQQ ?_⟩); clear hQQ QQ) | with_reducible first | apply then_n | apply block_n | apply then_x | apply then_r | apply nog_n | apply nog_r | apply block_r | apply block_e (by decide) | apply block_x (by decide)))
          refine aw_cond2 (by simp (disch := first | decide | omega) only [get_someU, rowU, handx, hor, go_sem, ↓reduceIte]; rfl) ?_; first | refine .inl ⟨by first | rfl | exact decide_eq_true (by omega) | exact decide_eq_true (by assumption) | (simp (disch := first | decide | omega) only [if_pos_d, if_neg_d, decide_eq_true_eq, Bool.not_eq_true', decide_eq_false_iff_not]; omega), ?_⟩ | refine .inr ⟨by first | rfl | exact decide_eq_false (by omega) | exact decide_eq_false (by assumption) | (simp (disch := first | decide | omega) only [if_pos_d, if_neg_d, decide_eq_true_eq, Bool.not_eq_true', decide_eq_false_iff_not]; omega), ?_⟩
          (repeat (first | apply aw_seq | apply aw_block | apply aw_skip | apply aw_label | apply aw_exit | ((first | refine aw_region (hideO fun QQ hQQ => ?_) | refine aw_draw mixed (hideD fun QQ hQQ => ?_)); simp (maxSteps := 400000) (disch := first | decide | omega) only [get_someU, rowU, handx, hor, go_sem, ↓reduceIte]; try (first | with_reducible refine unhide hQQ ?_ | refine ⟨by kernel_rfl, unhide hQQ ?_⟩); clear hQQ QQ) | with_reducible first | apply then_n | apply block_n | apply then_x | apply then_r | apply nog_n | apply nog_r | apply block_r | apply block_e (by decide) | apply block_x (by decide)))
          refine ⟨⟨i + 1, by omega⟩, ?_, weak_round ?_ (by first | rfl | (simp only [get_someU, rowU, handx, hor, go_sem, ↓reduceIte]))⟩
          rotate_left
          · simp only [e2]
            (simp only [get_someU, rowU, handx, hor, go_sem, ↓reduceIte]; try rfl)
          · simp only; omega
        · rw [← hpx, hp] at hcan
          have e2 : susA p w L (i + 1) = susA p w L i ||| L.getD i 0 := by
            conv => lhs; unfold susA
            rw [if_pos ⟨hpc, hp⟩]
          (repeat (first | apply aw_seq | apply aw_block | apply aw_skip | apply aw_label | apply aw_exit | ((first | refine aw_region (hideO fun QQ hQQ => ?_) | refine aw_draw mixed (hideD fun QQ hQQ => ?_)); simp (maxSteps := 400000) (disch := first | decide | omega) only [get_someU, rowU, handx, hor, go_sem, ↓reduceIte]; try (first | with_reducible refine unhide hQQ ?_ | refine ⟨by kernel_rfl, unhide hQQ ?_⟩); clear hQQ QQ) | with_reducible first | apply then_n | apply block_n | apply then_x | apply then_r | apply nog_n | apply nog_r | apply block_r | apply block_e (by decide) | apply block_x (by decide)))
          refine aw_cond2 (by simp (disch := first | decide | omega) only [get_someU, rowU, handx, hor, go_sem, ↓reduceIte]; rfl) ?_; first | refine .inl ⟨by first | rfl | exact decide_eq_true (by omega) | exact decide_eq_true (by assumption) | (simp (disch := first | decide | omega) only [if_pos_d, if_neg_d, decide_eq_true_eq, Bool.not_eq_true', decide_eq_false_iff_not]; omega), ?_⟩ | refine .inr ⟨by first | rfl | exact decide_eq_false (by omega) | exact decide_eq_false (by assumption) | (simp (disch := first | decide | omega) only [if_pos_d, if_neg_d, decide_eq_true_eq, Bool.not_eq_true', decide_eq_false_iff_not]; omega), ?_⟩
          (repeat (first | apply aw_seq | apply aw_block | apply aw_skip | apply aw_label | apply aw_exit | ((first | refine aw_region (hideO fun QQ hQQ => ?_) | refine aw_draw mixed (hideD fun QQ hQQ => ?_)); simp (maxSteps := 400000) (disch := first | decide | omega) only [get_someU, rowU, handx, hor, go_sem, ↓reduceIte]; try (first | with_reducible refine unhide hQQ ?_ | refine ⟨by kernel_rfl, unhide hQQ ?_⟩); clear hQQ QQ) | with_reducible first | apply then_n | apply block_n | apply then_x | apply then_r | apply nog_n | apply nog_r | apply block_r | apply block_e (by decide) | apply block_x (by decide)))
          (refine callO_ok rfl rfl 78 true rfl (by simp (disch := first | decide | omega) only [get_someU, rowU, handx, hor, go_sem, ↓reduceIte]; try rfl) (fun _ => rfl) (hbi) Try.func78 rfl (by decide) ?_); simp (maxSteps := 400000) (disch := first | decide | omega) only [get_someU, rowU, handx, hor, go_sem, ↓reduceIte]; (try (with_reducible refine unhide hQQ ?_; clear hQQ QQ; (repeat with_reducible first | apply then_n | apply block_n | apply then_x | apply then_r | apply nog_n | apply nog_r | apply block_r | apply block_e (by decide) | apply block_x (by decide))))
          (refine callO_ok rfl rfl 84 true rfl (by simp (disch := first | decide | omega) only [get_someU, rowU, handx, hor, go_sem, ↓reduceIte]; try rfl) (fun _ => rfl) (hev) Try.func84 rfl (by decide) ?_); simp (maxSteps := 400000) (disch := first | decide | omega) only [get_someU, rowU, handx, hor, go_sem, ↓reduceIte]; (try (with_reducible refine unhide hQQ ?_; clear hQQ QQ; (repeat with_reducible first | apply then_n | apply block_n | apply then_x | apply then_r | apply nog_n | apply nog_r | apply block_r | apply block_e (by decide) | apply block_x (by decide))))
          (refine callO_S [5, 4] (htx) rfl rfl (by simp (disch := first | decide | omega) only [get_someU, rowU, handx, hor, go_sem, ↓reduceIte]; try rfl) (by simp (disch := first | decide | omega) only [get_someU, rowU, handx, hor, go_sem, ↓reduceIte]; try rfl) Try.func83 rfl (by decide) (by rfl) (by repeat' (first | trivial | apply And.intro | (simp (disch := first | decide | omega) only [get_someU, rowU, handx, hor, go_sem, ↓reduceIte]; first | done | rfl))) (by decide) (by decide) (by first | rfl | (simp (disch := first | decide | omega) only [get_someU, rowU, handx, hor, go_sem, ↓reduceIte]; try rfl)) ?_); simp (maxSteps := 400000) (disch := first | decide | omega) only [get_someU, rowU, handx, hor, go_sem, ↓reduceIte]; (try (with_reducible refine unhide hQQ ?_; clear hQQ QQ; (repeat with_reducible first | apply then_n | apply block_n | apply then_x | apply then_r | apply nog_n | apply nog_r | apply block_r | apply block_e (by decide) | apply block_x (by decide))))
          ((refine callO_ok rfl rfl 85 true rfl (by simp (disch := first | decide | omega) only [get_someU, rowU, handx, hor, go_sem, ↓reduceIte]; try rfl) (fun _ => rfl) (hcan) Try.func85 rfl (by decide) ?_); simp (maxSteps := 400000) (disch := first | decide | omega) only [get_someU, rowU, handx, hor, go_sem, ↓reduceIte]; try (with_reducible refine unhide hQQ ?_; clear hQQ QQ)); (repeat (first | apply aw_seq | apply aw_block | apply aw_skip | apply aw_label | apply aw_exit | ((first | refine aw_region (hideO fun QQ hQQ => ?_) | refine aw_draw mixed (hideD fun QQ hQQ => ?_)); simp (maxSteps := 400000) (disch := first | decide | omega) only [get_someU, rowU, handx, hor, go_sem, ↓reduceIte]; try (first | with_reducible refine unhide hQQ ?_ | refine ⟨by kernel_rfl, unhide hQQ ?_⟩); clear hQQ QQ) | with_reducible first | apply then_n | apply block_n | apply then_x | apply then_r | apply nog_n | apply nog_r | apply block_r | apply block_e (by decide) | apply block_x (by decide)))
          refine aw_cond2 (by simp (disch := first | decide | omega) only [get_someU, rowU, handx, hor, go_sem, ↓reduceIte]; rfl) ?_; first | refine .inl ⟨by first | rfl | exact decide_eq_true (by omega) | exact decide_eq_true (by assumption) | (simp (disch := first | decide | omega) only [if_pos_d, if_neg_d, decide_eq_true_eq, Bool.not_eq_true', decide_eq_false_iff_not]; omega), ?_⟩ | refine .inr ⟨by first | rfl | exact decide_eq_false (by omega) | exact decide_eq_false (by assumption) | (simp (disch := first | decide | omega) only [if_pos_d, if_neg_d, decide_eq_true_eq, Bool.not_eq_true', decide_eq_false_iff_not]; omega), ?_⟩
          (repeat (first | apply aw_seq | apply aw_block | apply aw_skip | apply aw_label | apply aw_exit | ((first | refine aw_region (hideO fun QQ hQQ => ?_) | refine aw_draw mixed (hideD fun QQ hQQ => ?_)); simp (maxSteps := 400000) (disch := first | decide | omega) only [get_someU, rowU, handx, hor, go_sem, ↓reduceIte]; try (first | with_reducible refine unhide hQQ ?_ | refine ⟨by kernel_rfl, unhide hQQ ?_⟩); clear hQQ QQ) | with_reducible first | apply then_n | apply block_n | apply then_x | apply then_r | apply nog_n | apply nog_r | apply block_r | apply block_e (by decide) | apply block_x (by decide)))
          refine ⟨⟨i + 1, by omega⟩, ?_, weak_round ?_ (by first | rfl | (simp only [get_someU, rowU, handx, hor, go_sem, ↓reduceIte]))⟩
          rotate_left
          · simp only [e2]
            (simp only [get_someU, rowU, handx, hor, go_sem, ↓reduceIte]; try rfl)
          · simp only; omega
      · have e2 : susA p w L (i + 1) = susA p w L i := by
          conv => lhs; unfold susA
          rw [if_neg (fun h => hpc h.1)]
        (repeat (first | apply aw_seq | apply aw_block | apply aw_skip | apply aw_label | apply aw_exit | ((first | refine aw_region (hideO fun QQ hQQ => ?_) | refine aw_draw mixed (hideD fun QQ hQQ => ?_)); simp (maxSteps := 400000) (disch := first | decide | omega) only [get_someU, rowU, handx, hor, go_sem, ↓reduceIte]; try (first | with_reducible refine unhide hQQ ?_ | refine ⟨by kernel_rfl, unhide hQQ ?_⟩); clear hQQ QQ) | with_reducible first | apply then_n | apply block_n | apply then_x | apply then_r | apply nog_n | apply nog_r | apply block_r | apply block_e (by decide) | apply block_x (by decide)))
        refine aw_cond2 (by simp (disch := first | decide | omega) only [get_someU, rowU, handx, hor, go_sem, ↓reduceIte]; rfl) ?_; first | refine .inl ⟨by first | rfl | exact decide_eq_true (by omega) | exact decide_eq_true (by assumption) | (simp (disch := first | decide | omega) only [if_pos_d, if_neg_d, decide_eq_true_eq, Bool.not_eq_true', decide_eq_false_iff_not]; omega), ?_⟩ | refine .inr ⟨by first | rfl | exact decide_eq_false (by omega) | exact decide_eq_false (by assumption) | (simp (disch := first | decide | omega) only [if_pos_d, if_neg_d, decide_eq_true_eq, Bool.not_eq_true', decide_eq_false_iff_not]; omega), ?_⟩
        (repeat (first | apply aw_seq | apply aw_block | apply aw_skip | apply aw_label | apply aw_exit | ((first | refine aw_region (hideO fun QQ hQQ => ?_) | refine aw_draw mixed (hideD fun QQ hQQ => ?_)); simp (maxSteps := 400000) (disch := first | decide | omega) only [get_someU, rowU, handx, hor, go_sem, ↓reduceIte]; try (first | with_reducible refine unhide hQQ ?_ | refine ⟨by kernel_rfl, unhide hQQ ?_⟩); clear hQQ QQ) | with_reducible first | apply then_n | apply block_n | apply then_x | apply then_r | apply nog_n | apply nog_r | apply block_r | apply block_e (by decide) | apply block_x (by decide)))
        ((refine callO_ok rfl rfl 78 true rfl (by simp (disch := first | decide | omega) only [get_someU, rowU, handx, hor, go_sem, ↓reduceIte]; try rfl) (fun _ => rfl) (hbi) Try.func78 rfl (by decide) ?_); simp (maxSteps := 400000) (disch := first | decide | omega) only [get_someU, rowU, handx, hor, go_sem, ↓reduceIte]; try (with_reducible refine unhide hQQ ?_; clear hQQ QQ)); (repeat (first | apply aw_seq | apply aw_block | apply aw_skip | apply aw_label | apply aw_exit | ((first | refine aw_region (hideO fun QQ hQQ => ?_) | refine aw_draw mixed (hideD fun QQ hQQ => ?_)); simp (maxSteps := 400000) (disch := first | decide | omega) only [get_someU, rowU, handx, hor, go_sem, ↓reduceIte]; try (first | with_reducible refine unhide hQQ ?_ | refine ⟨by kernel_rfl, unhide hQQ ?_⟩); clear hQQ QQ) | with_reducible first | apply then_n | apply block_n | apply then_x | apply then_r | apply nog_n | apply nog_r | apply block_r | apply block_e (by decide) | apply block_x (by decide)))
        refine aw_cond2 (by simp (disch := first | decide | omega) only [get_someU, rowU, handx, hor, go_sem, ↓reduceIte]; rfl) ?_; first | refine .inl ⟨by first | rfl | exact decide_eq_true (by omega) | exact decide_eq_true (by assumption) | (simp (disch := first | decide | omega) only [if_pos_d, if_neg_d, decide_eq_true_eq, Bool.not_eq_true', decide_eq_false_iff_not]; omega), ?_⟩ | refine .inr ⟨by first | rfl | exact decide_eq_false (by omega) | exact decide_eq_false (by assumption) | (simp (disch := first | decide | omega) only [if_pos_d, if_neg_d, decide_eq_true_eq, Bool.not_eq_true', decide_eq_false_iff_not]; omega), ?_⟩
        (repeat (first | apply aw_seq | apply aw_block | apply aw_skip | apply aw_label | apply aw_exit | ((first | refine aw_region (hideO fun QQ hQQ => ?_) | refine aw_draw mixed (hideD fun QQ hQQ => ?_)); simp (maxSteps := 400000) (disch := first | decide | omega) only [get_someU, rowU, handx, hor, go_sem, ↓reduceIte]; try (first | with_reducible refine unhide hQQ ?_ | refine ⟨by kernel_rfl, unhide hQQ ?_⟩); clear hQQ QQ) | with_reducible first | apply then_n | apply block_n | apply then_x | apply then_r | apply nog_n | apply nog_r | apply block_r | apply block_e (by decide) | apply block_x (by decide)))
        refine ⟨⟨i + 1, by omega⟩, ?_, weak_round ?_ (by first | rfl | (simp only [get_someU, rowU, handx, hor, go_sem, ↓reduceIte]))⟩
        rotate_left
        · simp only [e2]
          (simp only [get_someU, rowU, handx, hor, go_sem, ↓reduceIte]; try rfl)
        · simp only; omega
    · have hiL : i = L.length := by omega
      subst hiL
      have hans : susS N most strays calls = susA p w L L.length := by rw [hsus, hL]
      refine tw ?_; try with_reducible intro QQ hQQ
      refine ti ?_; try clear hQQ QQ
      refine tw ?_; try with_reducible intro QQ hQQ
      (refine aw_ret ⟨.inr rfl, by simp (disch := first | decide | omega) only [go_sem, ↓reduceIte]; try rfl, by simp (disch := first | decide | omega) only [resA, res1, ansR, ansN, hb, hwhy, hans, go_sem, ↓reduceIte]; try rfl⟩)
end
end Go.Proofs.Ytejbglbiefpagaa
