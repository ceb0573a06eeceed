/- Kwa11: texts joined (WaN WaO WaR). -/
import Derived.Test.YtgdhdikeicgndaaKwa9
import Derived.Test.YtgdhdikeicgndaaWaM
import Derived.Test.YtgdhdikeicgndaaKcx5
import Derived.Test.YtgdhdikeicgndaaKpv12
import Derived.Test.YtgdhdikeicgndaaKpv1
set_option linter.all false
/- classer: refusals, and whether the line is kept, walked. -/
namespace Go.Proofs.Ytgdhdikeicgndaa
open Go Go.RowKit Go.Sh Go.Pv Go.Cl
set_option maxHeartbeats 8000000
set_option maxRecDepth 8000
set_option pp.maxSteps 60000
section
variable {D M May : Nat} {bs : List (Nat × Nat × Nat)}
theorem sx_wrong (h : LOK bs) (hD : D ≤ 30) (n : Int) (hcan : ¬ mist D bs (2 ^ bs.length - 1) ≤ M) : FunSX Try.prog 47 [.one (.box 0 0), .one (.p (iP n))] (tH D M May bs Try.prog) 2 (stopV 10) := by
  have hev := ok_every (D := D) (M := M) (May := May) h
  have hc := s_can (M := M) (May := May) h hD _ (all_lt h)
  rw [decide_eq_false hcan] at hc
  unfold tP at hev
  generalize (2 ^ bs.length - 1) = E at *
  clear hcan
  unfold tH tC
  refine funSX_ok (nt := 35) Try.func47 rfl rfl (by simp) fun Z w0 cap dk tm => ?_; simp only [initV, pins, pinOf, List.map_cons, List.map_nil]
  refine tw ?_; try with_reducible intro QQ hQQ
  ((refine cO 54 rfl rfl rfl (hev) Try.func54 rfl ?_); refine tu ?_; try clear hQQ QQ); refine tw ?_; try with_reducible intro QQ hQQ
  (refine callO_S [0, 1] (hc) rfl rfl (by simp (disch := first | decide | omega) only [go_sem, ↓reduceIte]; try rfl) (by simp (disch := first | decide | omega) only [go_sem, ↓reduceIte]; try rfl) Try.func53 rfl (by decide) (by rfl) (by repeat' (first | trivial | apply And.intro | (simp (disch := first | decide | omega) only [go_sem, ↓reduceIte]; first | done | rfl))) (by decide) (by decide) (by first | rfl | (simp (disch := first | decide | omega) only [go_sem, ↓reduceIte]; try rfl)) ?_); refine ts ?_; try clear hQQ QQ
  refine tw ?_; try with_reducible intro QQ hQQ
  (refine ⟨rfl, .inr ⟨rfl, callS_x rfl 52 ⟨by simp (disch := first | decide | omega) only [go_sem, ↓reduceIte]; try rfl, by simp (disch := first | decide | omega) only [go_sem, ↓reduceIte]; try rfl⟩ Try.func52 rfl (by decide) (x_ask 10) ?_⟩⟩)
  refine ⟨rfl, by simp (disch := first | decide | omega) only [go_sem, ↓reduceIte], ?_⟩
  simp only [List.mem_cons, List.mem_nil_iff, forall_eq_or_imp, forall_eq, false_imp_iff, implies_true, or_false, and_true]
  simp (disch := first | decide | omega) only [go_sem, ↓reduceIte]
/-- Costs, without those of more than May. -/
def overF (May : Nat) (c : Nat → Nat) (w : Nat) : Nat := if May < w then FAR else c w
def overG (May : Nat) (c : Nat → Nat) (k j : Nat) : Nat := if May < j ∧ j < k then 65536 else c j
theorem over_zero (May : Nat) (c : Nat → Nat) : overG May c (May + 1) = c := by funext j; unfold overG; rw [if_neg (by omega)]
theorem over_all (May : Nat) (c : Nat → Nat) : cA (overG May c 31) = cA (overF May c) := arrA_congr fun i hi => by
  unfold overG overF FAR
  by_cases h : May < i
  · rw [if_pos ⟨h, hi⟩, if_pos h]
  · rw [if_neg (by omega), if_neg h]
theorem over_step {May : Nat} {c : Nat → Nat} {i : Nat} (h : May < i) : updF (fun j => ((overG May c i j : Nat) : Int)) i 65536 = fun j => ((overG May c (i + 1) j : Nat) : Int) := by
  funext j
  unfold updF
  by_cases e : j = i
  · subst e
    rw [if_pos rfl]
    unfold overG
    rw [if_pos (by omega)]; rfl
  · rw [if_neg e]
    show ((overG May c i j : Nat) : Int) = _
    congr 1
    unfold overG
    by_cases h2 : May < j ∧ j < i
    · rw [if_pos h2, if_pos (by omega)]
    · rw [if_neg h2, if_neg (by omega)]
/-- The box that has captured a line. -/
def tH2 (D M May : Nat) (bs : List (Nat × Nat × Nat)) (P : Program) : List (Nat × Obj') := (2, .box [.box 0 0]) :: tH D M May bs P
theorem s_over (hMay : May ≤ 30) (c : Nat → Nat) : FunS Try.prog 81 [.agg (cA c), .one (.box 2 0)] (tH2 D M May bs Try.prog) 3 (.one (.agg (cP (overF May c)))) := by
  unfold tH2 tH tC
  refine funS_ok (nt := 18) (rs := [.cell 3 88]) Try.func81 rfl rfl rfl (by simp) fun Z w0 cap pan dk tm => ?_; simp only [initV, pins, pinOf, List.map_cons, List.map_nil]
  refine tw ?_; try with_reducible intro QQ hQQ
  refine aw_weak (weak_restrict [2, 3, 4] [5, 4, 3, 2, 1, 0] 6 (by simp only [go_sem, ↓reduceIte]; rfl)) ?_
  have hz : cA (overG May c (May + 1)) = cA c := by rw [over_zero]
  simp only [cA] at hz
  refine aw_loop_ov (ι := { i : Nat // May + 1 ≤ i ∧ i ≤ 31 }) (fun i => [(4, iA i.1)]) (fun i => [(4, .box (arrA 31 fun j => ((overG May c i.1 j : Nat) : Int)))]) (fun i => 31 - i.1) ⟨May + 1, by omega⟩ (by first | rfl | (simp only [hz, go_sem, ↓reduceIte]; first | done | rfl | (simp; try rfl))) ?_
  clear hz
  rintro ⟨i, hi1, hi⟩
  simp (disch := decide) only [ov, ovL, AL.get_nil, AL.get_eq, AL.get_ne, Option.getD_some, Option.getD_none]
  by_cases hil : i < 31
  · have hst := over_step (c := c) (May := May) (i := i) (by omega)
    (repeat (first | apply aw_seq | apply aw_block | apply aw_skip | apply aw_label | apply aw_exit | ((first | refine aw_region (hideO fun QQ hQQ => ?_) | refine aw_draw mixed (hideD fun QQ hQQ => ?_)); simp (maxSteps := 400000) (disch := first | decide | omega) only [hst, go_sem, ↓reduceIte]; try (first | with_reducible refine unhide hQQ ?_ | refine ⟨by kernel_rfl, unhide hQQ ?_⟩); clear hQQ QQ) | with_reducible first | apply then_n | apply block_n | apply then_x | apply then_r | apply nog_n | apply nog_r | apply block_r | apply block_e (by decide) | apply block_x (by decide)))
    refine aw_cond2 (by simp (disch := first | decide | omega) only [hst, go_sem, ↓reduceIte]; rfl) ?_; first | refine .inl ⟨by first | rfl | exact decide_eq_true (by omega) | exact decide_eq_true (by assumption) | (simp (disch := first | decide | omega) only [if_pos_d, if_neg_d, decide_eq_true_eq, Bool.not_eq_true', decide_eq_false_iff_not]; omega), ?_⟩ | refine .inr ⟨by first | rfl | exact decide_eq_false (by omega) | exact decide_eq_false (by assumption) | (simp (disch := first | decide | omega) only [if_pos_d, if_neg_d, decide_eq_true_eq, Bool.not_eq_true', decide_eq_false_iff_not]; omega), ?_⟩
    (repeat (first | apply aw_seq | apply aw_block | apply aw_skip | apply aw_label | apply aw_exit | ((first | refine aw_region (hideO fun QQ hQQ => ?_) | refine aw_draw mixed (hideD fun QQ hQQ => ?_)); simp (maxSteps := 400000) (disch := first | decide | omega) only [hst, go_sem, ↓reduceIte]; try (first | with_reducible refine unhide hQQ ?_ | refine ⟨by kernel_rfl, unhide hQQ ?_⟩); clear hQQ QQ) | with_reducible first | apply then_n | apply block_n | apply then_x | apply then_r | apply nog_n | apply nog_r | apply block_r | apply block_e (by decide) | apply block_x (by decide)))
    (refine ⟨⟨i + 1, by omega⟩, ?_, weak_round (by simp only [hst, go_sem, ↓reduceIte]; first | done | rfl) (by first | rfl | (simp only [hst, go_sem, ↓reduceIte]))⟩; (simp only; omega))
  · have : i = 31 := by omega
    subst this
    have e := over_all May c
    simp only [cA] at e
    rw [e]
    refine tw ?_; try with_reducible intro QQ hQQ
    refine ti ?_; try clear hQQ QQ
    refine tw ?_; try with_reducible intro QQ hQQ
    (refine aw_ret ⟨.inr rfl, (by simp (maxSteps := 400000) (disch := first | decide | omega) only [go_sem, ↓reduceIte]; try rfl), (by simp (maxSteps := 400000) (disch := first | decide | omega) only [go_sem, ↓reduceIte]; try rfl), (by simp only [List.mem_cons, List.mem_nil_iff, forall_eq_or_imp, forall_eq, false_imp_iff, implies_true, or_false, and_true]; simp (maxSteps := 400000) (disch := first | decide | omega) only [go_sem, ↓reduceIte]; try exact ⟨rfl, rfl⟩)⟩)
theorem s_keeps (h : LOK bs) (hD : D ≤ 30) (hMay : May ≤ 30) : FunS Try.prog 58 [.one (.box 0 0)] (tH D M May bs Try.prog) 2 (.one (.one (.v (.bool (keepB D M May bs))))) := by
  have h1 := h.n1
  have h6 := h.n6
  have hev := ok_every (D := D) (M := M) (May := May) h
  have hst := fun n hn => ok_step (M := M) (May := May) (D := D) h n (2 ^ bs.length - 1) hn (Nat.lt_trans (all_lt h) (by decide))
  have hown : ∀ n, FunOK Try.prog 79 [.agg (stepP D (bG bs n) ((2 ^ bs.length - 1).testBit n))] (.one (.agg (cP (oT bs (2 ^ bs.length - 1) n)))) := fun n => ok_own D (bG bs n) _ (h.bd n).1 (h.bd n).2.1 (h.bd n).2.2
  have haf : ∀ n c, (∀ i, c i ≤ 1000000) → FunOK Try.prog 82 [.agg (stepP D (bG bs n) ((2 ^ bs.length - 1).testBit n)), .agg (cP c)] (.one (.agg (cP (plusF (aft D c) (oT bs (2 ^ bs.length - 1) n))))) := fun n c hc => ok_after D (bG bs n) _ c hD (h.bd n).1 (h.bd n).2.1 (h.bd n).2.2 hc
  have hov : ∀ c, FunS Try.prog 81 [.agg (cA c), .one (.box 2 0)] (tH2 D M May bs Try.prog) 3 (.one (.agg (cP (overF May c)))) := fun c => s_over hMay c
  have hdp : ∀ n, dp D (oK May bs (2 ^ bs.length - 1)) (n + 1) = overF May (plusF (aft D (dp D (oK May bs (2 ^ bs.length - 1)) n)) (oT bs (2 ^ bs.length - 1) (n + 1))) := fun n => by
    funext w
    show plusF _ _ w = _
    unfold overF
    unfold plusF oK
    split
    · unfold cap FAR; omega
    · rfl
  have hd0 : dp D (oK May bs (2 ^ bs.length - 1)) 0 = overF May (oT bs (2 ^ bs.length - 1) 0) := rfl
  have hdb : ∀ n i, dp D (oK May bs (2 ^ bs.length - 1)) n i ≤ 1000000 := fun n i => Nat.le_trans (dp_far (fun i w => by unfold oK; split <;> first | exact Nat.le_refl _ | exact oT_le h _ _ _) n i) (by decide)
  have hle := ok_least (dp D (oK May bs (2 ^ bs.length - 1)) (bs.length - 1)) (hdb _)
  unfold keepB
  unfold tP at hev hst
  simp only [stepP] at hst hown haf
  generalize hdd : dp D (oK May bs (2 ^ bs.length - 1)) = d at *
  generalize oT bs (2 ^ bs.length - 1) = O at *
  generalize (2 ^ bs.length - 1) = E at *
  unfold tH tC
  refine funS_ok (nt := 41) (rs := [.tmp 2]) Try.func58 rfl rfl rfl (by simp) fun Z w0 cap pan dk tm => ?_; simp only [initV, pins, pinOf, List.map_cons, List.map_nil]
  refine tw ?_; try with_reducible intro QQ hQQ
  (refine cD 54 rfl rfl rfl (hev) Try.func54 rfl ?_); refine td ?_; try clear hQQ QQ
  refine tw ?_; try with_reducible intro QQ hQQ
  (refine cD 78 rfl rfl rfl (hst 0 (by omega)) Try.func78 rfl ?_); refine td ?_; try clear hQQ QQ
  refine tw ?_; try with_reducible intro QQ hQQ
  (refine cD 79 rfl rfl rfl (hown 0) Try.func79 rfl ?_); refine td ?_; try clear hQQ QQ
  refine tw ?_; try with_reducible intro QQ hQQ
  (refine callD_R [0, 1, 3] (hov (O 0)) rfl rfl (by simp (disch := first | decide | omega) only [go_sem, ↓reduceIte]; try rfl) (by simp (disch := first | decide | omega) only [go_sem, ↓reduceIte]; try rfl) Try.func81 rfl (by decide) (by rfl) (by repeat' (first | trivial | apply And.intro | (simp (disch := first | decide | omega) only [go_sem, ↓reduceIte]; first | done | rfl))) (by decide) (by decide) (by first | rfl | (simp (disch := first | decide | omega) only [go_sem, ↓reduceIte]; try rfl)) ?_); refine td ?_; try clear hQQ QQ
  refine tw ?_; try with_reducible intro QQ hQQ
  rw [← hd0]
  refine aw_weak (weak_restrict [1, 3, 4, 5] [4, 3, 2, 1, 0] 5 (by simp only [go_sem, ↓reduceIte]; rfl)) ?_
  refine aw_loop_ov (ι := { n : Nat // 1 ≤ n ∧ n ≤ bs.length }) (fun n => [(5, iA n.1)]) (fun n => [(4, .box (cA (d (n.1 - 1))))]) (fun n => bs.length - n.1) ⟨1, by omega⟩ (by first | rfl | (simp only [go_sem, ↓reduceIte]; first | done | rfl | (simp; try rfl))) ?_
  rintro ⟨n, hn1, hn⟩
  simp (disch := decide) only [ov, ovL, AL.get_nil, AL.get_eq, AL.get_ne, Option.getD_some, Option.getD_none]
  by_cases hnl : n < bs.length
  · obtain ⟨k, rfl⟩ : ∃ k, n = k + 1 := ⟨n - 1, by omega⟩
    have hsk := hst (k + 1) hnl
    have hak := haf (k + 1) (d k) (hdb k)
    have hdk := hdp k
    have e1 : k + 1 - 1 = k := rfl
    have e2 : k + 1 + 1 - 1 = k + 1 := rfl
    simp only [e1]
    refine tw ?_; try with_reducible intro QQ hQQ
    refine ti ?_; try clear hQQ QQ
    refine tw ?_; try with_reducible intro QQ hQQ
    (refine cD 54 rfl rfl rfl (hev) Try.func54 rfl ?_); refine td ?_; try clear hQQ QQ
    refine tw ?_; try with_reducible intro QQ hQQ
    (refine cD 78 rfl rfl rfl (hsk) Try.func78 rfl ?_); refine td ?_; try clear hQQ QQ
    refine tw ?_; try with_reducible intro QQ hQQ
    (refine cD 82 rfl rfl rfl (hak) Try.func82 rfl ?_); refine td ?_; try clear hQQ QQ
    refine tw ?_; try with_reducible intro QQ hQQ
    (refine callD_R [0, 1, 3] (hov (plusF (aft D (d k)) (O (k + 1)))) rfl rfl (by simp (disch := first | decide | omega) only [go_sem, ↓reduceIte]; try rfl) (by simp (disch := first | decide | omega) only [go_sem, ↓reduceIte]; try rfl) Try.func81 rfl (by decide) (by rfl) (by repeat' (first | trivial | apply And.intro | (simp (disch := first | decide | omega) only [go_sem, ↓reduceIte]; first | done | rfl))) (by decide) (by decide) (by first | rfl | (simp (disch := first | decide | omega) only [go_sem, ↓reduceIte]; try rfl)) ?_); refine td ?_; try clear hQQ QQ
    refine tw ?_; try with_reducible intro QQ hQQ
    rw [← hdk]
    refine ⟨⟨k + 1 + 1, by omega⟩, ?_, weak_round ?_ (by first | rfl | (simp only [go_sem, ↓reduceIte]))⟩
    rotate_left
    · simp only [e2]
      (simp only [go_sem, ↓reduceIte]; try rfl)
    · simp only; omega
  · have : n = bs.length := by omega
    subst this
    have he : decide (((minR (d (bs.length - 1)) 0 30 : Nat) : Int) ≤ (M : Int)) = decide (minR (d (bs.length - 1)) 0 30 ≤ M) := by congr 1; exact propext Int.ofNat_le
    generalize minR (d (bs.length - 1)) 0 30 = x at *
    (repeat (first | apply aw_seq | apply aw_block | apply aw_skip | apply aw_label | apply aw_exit | ((first | refine aw_region (hideO fun QQ hQQ => ?_) | refine aw_draw mixed (hideD fun QQ hQQ => ?_)); simp (maxSteps := 400000) (disch := first | decide | omega) only [he, go_sem, ↓reduceIte]; try (first | with_reducible refine unhide hQQ ?_ | refine ⟨by kernel_rfl, unhide hQQ ?_⟩); clear hQQ QQ) | with_reducible first | apply then_n | apply block_n | apply then_x | apply then_r | apply nog_n | apply nog_r | apply block_r | apply block_e (by decide) | apply block_x (by decide)))
    refine aw_cond2 (by simp (disch := first | decide | omega) only [he, go_sem, ↓reduceIte]; rfl) ?_; first | refine .inl ⟨by first | rfl | exact decide_eq_true (by omega) | exact decide_eq_true (by assumption) | (simp (disch := first | decide | omega) only [if_pos_d, if_neg_d, decide_eq_true_eq, Bool.not_eq_true', decide_eq_false_iff_not]; omega), ?_⟩ | refine .inr ⟨by first | rfl | exact decide_eq_false (by omega) | exact decide_eq_false (by assumption) | (simp (disch := first | decide | omega) only [if_pos_d, if_neg_d, decide_eq_true_eq, Bool.not_eq_true', decide_eq_false_iff_not]; omega), ?_⟩
    (repeat (first | apply aw_seq | apply aw_block | apply aw_skip | apply aw_label | apply aw_exit | ((first | refine aw_region (hideO fun QQ hQQ => ?_) | refine aw_draw mixed (hideD fun QQ hQQ => ?_)); simp (maxSteps := 400000) (disch := first | decide | omega) only [he, go_sem, ↓reduceIte]; try (first | with_reducible refine unhide hQQ ?_ | refine ⟨by kernel_rfl, unhide hQQ ?_⟩); clear hQQ QQ) | with_reducible first | apply then_n | apply block_n | apply then_x | apply then_r | apply nog_n | apply nog_r | apply block_r | apply block_e (by decide) | apply block_x (by decide)))
    (refine callD_ok rfl rfl 83 true rfl (by simp (disch := first | decide | omega) only [he, go_sem, ↓reduceIte]; try rfl) (fun _ => rfl) (hle) Try.func83 rfl (by decide) ?_); simp (maxSteps := 400000) (disch := first | decide | omega) only [he, go_sem, ↓reduceIte]; (try (refine ⟨by kernel_rfl, unhide hQQ ?_⟩; clear hQQ QQ; (repeat with_reducible first | apply then_n | apply block_n | apply then_x | apply then_r | apply nog_n | apply nog_r | apply block_r | apply block_e (by decide) | apply block_x (by decide))))
    (repeat (first | apply aw_seq | apply aw_block | apply aw_skip | apply aw_label | apply aw_exit | ((first | refine aw_region (hideO fun QQ hQQ => ?_) | refine aw_draw mixed (hideD fun QQ hQQ => ?_)); simp (maxSteps := 400000) (disch := first | decide | omega) only [he, go_sem, ↓reduceIte]; try (first | with_reducible refine unhide hQQ ?_ | refine ⟨by kernel_rfl, unhide hQQ ?_⟩); clear hQQ QQ) | with_reducible first | apply then_n | apply block_n | apply then_x | apply then_r | apply nog_n | apply nog_r | apply block_r | apply block_e (by decide) | apply block_x (by decide)))
    (refine aw_ret ⟨.inr rfl, (by simp (maxSteps := 400000) (disch := first | decide | omega) only [he, go_sem, ↓reduceIte]; try rfl), (by simp (maxSteps := 400000) (disch := first | decide | omega) only [he, go_sem, ↓reduceIte]; try rfl), (by simp only [List.mem_cons, List.mem_nil_iff, forall_eq_or_imp, forall_eq, false_imp_iff, implies_true, or_false, and_true]; simp (maxSteps := 400000) (disch := first | decide | omega) only [he, go_sem, ↓reduceIte]; try exact ⟨rfl, rfl⟩)⟩)
end
end Go.Proofs.Ytgdhdikeicgndaa
/- classer: the exported functions: Wrong, Keeps, All, Line, Mistaken. -/
namespace Go.Proofs.Ytgdhdikeicgndaa
open Go Go.RowKit Go.Sh Go.Pv Go.Cl
set_option maxHeartbeats 800000
set_option maxRecDepth 20000
set_option pp.maxSteps 60000
section
variable (bales : List (Int × Int × Int)) (may drift mist : Int)
/-- A line. -/
def lineR : RV := .agg [.sl (bales.map row3), iP may, iP drift, iP mist]
def nB : List (Nat × Nat × Nat) := bales.map natB
/-- Is there a truth? -/
def canB : Bool := decide (Go.Cl.mist drift.toNat (nB bales) (2 ^ bales.length - 1) ≤ mist.toNat)
/-- The error of a function of a line: is: all else is valid. -/
def whyL (is : Bool) : Int := if lineB bales may drift mist = true then (if is = true then (if canB bales drift mist = true then 0 else 10) else 2) else 1
end
def ansR (e : Int) (s : Int × Int) : RR := .tup [.agg [iP (if e = 0 then s.1 else 0), iP (if e = 0 then s.2 else 0)], .one (iP e)]
def ansN (e n : Int) : RR := .tup [.one (iP (if e = 0 then n else 0)), .one (iP e)]
section
variable {D M May : Nat} {bs : List (Nat × Nat × Nat)}
theorem lineR_cast : lineR (bs.map castB) May D M = .agg [.sl (bs.map baleP), iP (May : Int), iP (D : Int), iP (M : Int)] := by unfold lineR; rw [rows_cast]
theorem nB_cast : nB (bs.map castB) = bs := nats_cast bs
theorem canB_cast : canB (bs.map castB) D M = decide (Go.Cl.mist D bs (2 ^ bs.length - 1) ≤ M) := by unfold canB; rw [nB_cast, List.length_map, Int.toNat_natCast, Int.toNat_natCast]
/-- What is asked: whether a number is a bale's. -/
theorem s_is (g : FuncId) (i : Int) (h : LOK bs) (hg : g = 45 ∨ g = 56 ∨ g = 65) : FunS Try.prog g [.one (.box 0 0), .one (.box 2 0)] ((2, .box [.p (iP i)]) :: tH D M May bs Try.prog) 3 (.one (.one (.v (.bool (inB i 0 ((bs.length : Int) - 1)))))) := by
  have hb := ok_isBale (D := D) (M := M) (May := May) i h
  unfold tP at hb
  unfold tH tC
  rcases hg with rfl | rfl | rfl
  · refine funS_ok (nt := 7) (rs := [.tmp 3]) Try.func45 rfl rfl rfl (by simp) fun Z w0 cap pan dk tm => ?_; simp only [initV, pins, pinOf, List.map_cons, List.map_nil]
    refine tw ?_; try with_reducible intro QQ hQQ
    ((refine cO 46 rfl rfl rfl (hb) Try.func46 rfl ?_); refine tu ?_; try clear hQQ QQ); refine tw ?_; try with_reducible intro QQ hQQ
    (refine aw_ret ⟨.inr rfl, (by simp (maxSteps := 400000) (disch := first | decide | omega) only [go_sem, ↓reduceIte]; try rfl), (by simp (maxSteps := 400000) (disch := first | decide | omega) only [go_sem, ↓reduceIte]; try rfl), (by simp only [List.mem_cons, List.mem_nil_iff, forall_eq_or_imp, forall_eq, false_imp_iff, implies_true, or_false, and_true]; simp (maxSteps := 400000) (disch := first | decide | omega) only [go_sem, ↓reduceIte]; try exact ⟨rfl, rfl⟩)⟩)
  · refine funS_ok (nt := 7) (rs := [.tmp 3]) Try.func56 rfl rfl rfl (by simp) fun Z w0 cap pan dk tm => ?_; simp only [initV, pins, pinOf, List.map_cons, List.map_nil]
    refine tw ?_; try with_reducible intro QQ hQQ
    ((refine cO 46 rfl rfl rfl (hb) Try.func46 rfl ?_); refine tu ?_; try clear hQQ QQ); refine tw ?_; try with_reducible intro QQ hQQ
    (refine aw_ret ⟨.inr rfl, (by simp (maxSteps := 400000) (disch := first | decide | omega) only [go_sem, ↓reduceIte]; try rfl), (by simp (maxSteps := 400000) (disch := first | decide | omega) only [go_sem, ↓reduceIte]; try rfl), (by simp only [List.mem_cons, List.mem_nil_iff, forall_eq_or_imp, forall_eq, false_imp_iff, implies_true, or_false, and_true]; simp (maxSteps := 400000) (disch := first | decide | omega) only [go_sem, ↓reduceIte]; try exact ⟨rfl, rfl⟩)⟩)
  · refine funS_ok (nt := 7) (rs := [.tmp 3]) Try.func65 rfl rfl rfl (by simp) fun Z w0 cap pan dk tm => ?_; simp only [initV, pins, pinOf, List.map_cons, List.map_nil]
    refine tw ?_; try with_reducible intro QQ hQQ
    ((refine cO 46 rfl rfl rfl (hb) Try.func46 rfl ?_); refine tu ?_; try clear hQQ QQ); refine tw ?_; try with_reducible intro QQ hQQ
    (refine aw_ret ⟨.inr rfl, (by simp (maxSteps := 400000) (disch := first | decide | omega) only [go_sem, ↓reduceIte]; try rfl), (by simp (maxSteps := 400000) (disch := first | decide | omega) only [go_sem, ↓reduceIte]; try rfl), (by simp only [List.mem_cons, List.mem_nil_iff, forall_eq_or_imp, forall_eq, false_imp_iff, implies_true, or_false, and_true]; simp (maxSteps := 400000) (disch := first | decide | omega) only [go_sem, ↓reduceIte]; try exact ⟨rfl, rfl⟩)⟩)
theorem s_always : FunS Try.prog 51 [.one (.box 0 0)] (tH D M May bs Try.prog) 2 (.one (.one (.v (.bool true)))) := by
  unfold tH tC
  refine funS_ok (nt := 3) (rs := [.tmp 2]) Try.func51 rfl rfl rfl (by simp) fun Z w0 cap pan dk tm => ?_; simp only [initV, pins, pinOf, List.map_cons, List.map_nil]
  refine tw ?_; try with_reducible intro QQ hQQ
  (refine aw_ret ⟨.inr rfl, (by simp (maxSteps := 400000) (disch := first | decide | omega) only [go_sem, ↓reduceIte]; try rfl), (by simp (maxSteps := 400000) (disch := first | decide | omega) only [go_sem, ↓reduceIte]; try rfl), (by simp only [List.mem_cons, List.mem_nil_iff, forall_eq_or_imp, forall_eq, false_imp_iff, implies_true, or_false, and_true]; simp (maxSteps := 400000) (disch := first | decide | omega) only [go_sem, ↓reduceIte]; try exact ⟨rfl, rfl⟩)⟩)
theorem is_box1 {g : FuncId} {i : Int} {b : Bool} (hS : FunS Try.prog g [.one (.box 0 0), .one (.box 2 0)] ((2, .box [.p (iP i)]) :: tH D M May bs Try.prog) 3 (.one (.one (.v (.bool b)))))
    {hp : List (Nat × Obj')} {nx c : Nat} (hc : AL.get hp c = some (.box [.p (iP i)])) (hcl : c < nx) (K : Kx) (hpX : List (Nat × Obj')) (nxX : Nat) (fr : List (Nat × AV)) (hK : K.P = Try.prog) (h3 : AL.get hpX (nx + 1 + 1 + 1) = some (.box (tC D M May bs (nx + 1 + 1))))
    (h2 : AL.get hpX (nx + 1 + 1) = some (.memo Try.prog 118 (keepI D bs))) (hx : ∀ id o, id < nx → AL.get hp id = some o → AL.get hpX id = some o) :
    CallF K g ([.one (.box (nx + 1 + 1 + 1) 0)] ++ [CC.box c].map capV) ⟨fr, hpX, nxX⟩ fun st' av => st' = ⟨fr, hpX, nxX⟩ ∧ av = .one (.p (.v (.bool b))) :=
  callF_S (hp := (2, .box [.p (iP i)]) :: tH D M May bs Try.prog) (avs0 := [.one (.box 0 0), .one (.box 2 0)]) (nx := 3) [nx + 1 + 1 + 1, nx + 1 + 1, c] (by rw [hK]; exact hS) rfl (show _ ∧ _ ∧ _ ∧ True from ⟨hx c _ hcl hc, h2, h3, trivial⟩) (by simp; omega) (by simp) rfl
theorem is_box0 {g : FuncId} {b : Bool} (hS : FunS Try.prog g [.one (.box 0 0)] (tH D M May bs Try.prog) 2 (.one (.one (.v (.bool b)))))
    {hp : List (Nat × Obj')} {nx : Nat} (K : Kx) (hpX : List (Nat × Obj')) (nxX : Nat) (fr : List (Nat × AV)) (hK : K.P = Try.prog) (h3 : AL.get hpX (nx + 1 + 1 + 1) = some (.box (tC D M May bs (nx + 1 + 1))))
    (h2 : AL.get hpX (nx + 1 + 1) = some (.memo Try.prog 118 (keepI D bs))) (hx : ∀ id o, id < nx → AL.get hp id = some o → AL.get hpX id = some o) :
    CallF K g ([.one (.box (nx + 1 + 1 + 1) 0)] ++ ([] : List CC).map capV) ⟨fr, hpX, nxX⟩ fun st' av => st' = ⟨fr, hpX, nxX⟩ ∧ av = .one (.p (.v (.bool b))) :=
  callF_S (hp := tH D M May bs Try.prog) (avs0 := [.one (.box 0 0)]) (nx := 2) [nx + 1 + 1 + 1, nx + 1 + 1] (by rw [hK]; exact hS) rfl (show _ ∧ _ ∧ True from ⟨h2, h3, trivial⟩) (by simp) (by simp) rfl
end
section
variable {bales : List (Int × Int × Int)} {may drift mist : Int} {bs : List (Nat × Nat × Nat)} {May D M : Nat}
variable {Z : Zn} {w0 : World} {cap : Nat → Prop} {nt : Nat} {rd : Option Nat} {pan : List PanicEntry → St → Prop} {df : Option Nat} {dk : List Nat} {rg : Bool} {fr : List (Nat × AV)} {hp : List (Nat × Obj')} {nx : Nat} {g : FuncId} {caps : List CC} {gn : Func}
/-- What is asked of a line that is opened is answered. -/
def IsOK (g : FuncId) (caps : List CC) (hp : List (Nat × Obj')) (nx : Nat) (D M May : Nat) (bs : List (Nat × Nat × Nat)) (b : Bool) : Prop :=
  ∀ (K : Kx) (hpX : List (Nat × Obj')) (nxX : Nat) (fr : List (Nat × AV)), K.P = Try.prog → AL.get hpX (nx + 1 + 1 + 1) = some (.box (tC D M May bs (nx + 1 + 1))) → AL.get hpX (nx + 1 + 1) = some (.memo Try.prog 118 (keepI D bs)) →
      (∀ id o, id < nx → AL.get hp id = some o → AL.get hpX id = some o) → CallF K g ([.one (.box (nx + 1 + 1 + 1) 0)] ++ caps.map capV) ⟨fr, hpX, nxX⟩ fun st' av => st' = ⟨fr, hpX, nxX⟩ ∧ av = .one (.p (.v (.bool b)))
theorem c_open_ok (hL : LOK bs) (hMay : May ≤ 30) (hD : D ≤ 30) (hM : M ≤ 6) (hg : Try.prog.funcs[g]? = some gn) (hgb : gn.body.isSome = true) (hgn : gn.name ≠ "runtime.NumGoroutine") (hcaps : ∀ i ∈ caps.flatMap refsCC, ∃ o, AL.get hp i = some o) (hIS : IsOK g caps hp nx D M May bs true) :
    CallF ⟨Try.prog, Z, w0, cap, nt, rd, pan, df, dk, rg⟩ 44 [.agg [.p (.sl (bs.map baleP)), .p (iP May), .p (iP D), .p (iP M)], .one (.fn g caps)] ⟨fr, hp, nx⟩ fun st' av => st' = ⟨fr, (nx + 1 + 1 + 1, .box (tC D M May bs (nx + 1 + 1))) :: (nx + 1 + 1, .memo Try.prog 118 (keepI D bs)) :: hp, nx + 1 + 1 + 1 + 1⟩ ∧ av = .one (.box (nx + 1 + 1 + 1) 0) := by
  rw [← rows_cast]
  exact c_open hg hgb hgn true bs May D M (fun _ => ⟨rfl, rfl, rfl, rfl⟩) hcaps (fun _ => hIS) (fun _ _ => ⟨rfl, rfl⟩) (fun hv => by rw [line_to hL hMay hD hM] at hv; cases hv) (fun _ h => by cases h)
theorem c_open_ran (hL : LOK bs) (hMay : May ≤ 30) (hD : D ≤ 30) (hM : M ≤ 6) (hg : Try.prog.funcs[g]? = some gn) (hgb : gn.body.isSome = true) (hgn : gn.name ≠ "runtime.NumGoroutine") (hcaps : ∀ i ∈ caps.flatMap refsCC, ∃ o, AL.get hp i = some o) (hIS : IsOK g caps hp nx D M May bs false) (hp2 : pan [{ v := stopV 2, recovered := false }] ⟨fr, hp, nx⟩) :
    CallF ⟨Try.prog, Z, w0, cap, nt, rd, pan, df, dk, rg⟩ 44 [.agg [.p (.sl (bs.map baleP)), .p (iP May), .p (iP D), .p (iP M)], .one (.fn g caps)] ⟨fr, hp, nx⟩ fun _ _ => False := by
  rw [← rows_cast]
  exact c_open hg hgb hgn false bs May D M (fun _ => ⟨rfl, rfl, rfl, rfl⟩) hcaps (fun _ => hIS) (fun _ h => by cases h) (fun hv => by rw [line_to hL hMay hD hM] at hv; cases hv) (fun _ _ => hp2)
theorem c_open_arg (hv : lineB bales may drift mist = false) (hg : Try.prog.funcs[g]? = some gn) (hgb : gn.body.isSome = true) (hgn : gn.name ≠ "runtime.NumGoroutine") (hcaps : ∀ i ∈ caps.flatMap refsCC, ∃ o, AL.get hp i = some o) (hp2 : pan [{ v := stopV 1, recovered := false }] ⟨fr, hp, nx⟩) :
    CallF ⟨Try.prog, Z, w0, cap, nt, rd, pan, df, dk, rg⟩ 44 [.agg [.p (.sl (bales.map row3)), .p (iP may), .p (iP drift), .p (iP mist)], .one (.fn g caps)] ⟨fr, hp, nx⟩ fun _ _ => False :=
  c_open hg hgb hgn false [] 0 0 0 (fun h => by rw [hv] at h; cases h) hcaps (fun h => by rw [hv] at h; cases h) (fun h => by rw [hv] at h; cases h) (fun _ => hp2) (fun h => by rw [hv] at h; cases h)
theorem ok_Wrong (i : Int) : FunOK Try.prog 14 [lineR bales may drift mist, .one (iP i)] (ansR (whyL bales may drift mist (inB i 0 ((bales.length : Int) - 1))) (((wrongS drift.toNat mist.toNat (nB bales) i.toNat).1 : Nat), ((wrongS drift.toNat mist.toNat (nB bales) i.toNat).2 : Nat))) := by
  refine fun_expA (l := []) (od := _) (nt := 11) (t := 5) (eb := 3) (rs := [.cell 4 28, .cell 5 29]) ans43 Try.func14 rfl rfl rfl (by simp) rfl rfl rfl ansFid_eq Try.func43 rfl (by decide) fun Z w0 => ?_; simp only [initFr, avR, List.map_cons, List.map_nil]
  simp only [lineR, List.map_cons, List.map_nil]
  refine tw ?_; try with_reducible intro QQ hQQ
  refine ⟨rfl, ?_⟩
  (refine ts ?_; try clear hQQ QQ)
  refine tw ?_; try with_reducible intro QQ hQQ
  cases hv : lineB bales may drift mist
  · have hwhy : whyL bales may drift mist (inB i 0 ((bales.length : Int) - 1)) = 1 := by simp [whyL, hv]
    have hb := hwhy
    refine callD_FX rfl rfl (by simp (disch := first | decide | omega) only [go_sem, ↓reduceIte]; try rfl) (by simp (disch := first | decide | omega) only [go_sem, ↓reduceIte]; try rfl) Try.func44 rfl (by decide) ?_ ?_; rotate_left; ((repeat (first | refine evDead_skip (by rfl) ?_ | (refine evDead_step (by rfl) (by simp (maxSteps := 400000) (disch := first | decide | omega) only [go_sem, ↓reduceIte]; try rfl) (by simp (maxSteps := 400000) (disch := first | decide | omega) only [go_sem, ↓reduceIte]; try rfl) ?_; simp (maxSteps := 400000) (disch := first | decide | omega) only [go_sem, ↓reduceIte]))); (try (show okDraw _ _ = true)); kernel_rfl); intro fr hk; refine c_open_arg hv Try.func45 rfl (by decide) ?_ ?_; (intro i hi; first | exact (List.not_mem_nil hi).elim | (simp only [List.flatMap_cons, List.flatMap_nil, refsCC, List.append_nil, List.mem_singleton] at hi; subst hi; exact ⟨_, by simp (disch := first | decide | omega) only [go_sem, ↓reduceIte]; try rfl⟩))
    (have k5 := hk 5 (by rfl); have k4 := hk 4 (by rfl); have k5 := hk 5 (by rfl); simp (disch := first | decide | omega) only [go_sem, ↓reduceIte] at k5 k4 k5; exact ⟨1, 0, rfl, k5, by simp (disch := first | decide | omega) only [go_sem, ↓reduceIte]; try rfl, by simp (disch := first | decide | omega) only [k4, k5, hwhy, hb, resA, res1, ansR, ansN, go_sem, ↓reduceIte]; try rfl⟩)
  obtain ⟨bs, May, D, M, rfl, rfl, rfl, rfl, hL, hMay, hD, hM⟩ := line_of hv
  simp only [nB_cast, Int.toNat_natCast, rows_cast]
  have hIS := fun b (hb : inB i 0 (((bs.map castB).length : Int) - 1) = b) => by
    have := s_is (D := D) (M := M) (May := May) 45 i hL (.inl rfl)
    rw [List.length_map] at hb
    rw [hb] at this
    exact this
  cases hb : inB i 0 (((bs.map castB).length : Int) - 1)
  · have hwhy : whyL (bs.map castB) May D M false = 2 := by simp [whyL, hv]
    have hIS := hIS _ hb
    refine callD_FX rfl rfl (by simp (disch := first | decide | omega) only [go_sem, ↓reduceIte]; try rfl) (by simp (disch := first | decide | omega) only [go_sem, ↓reduceIte]; try rfl) Try.func44 rfl (by decide) ?_ ?_; rotate_left; ((repeat (first | refine evDead_skip (by rfl) ?_ | (refine evDead_step (by rfl) (by simp (maxSteps := 400000) (disch := first | decide | omega) only [go_sem, ↓reduceIte]; try rfl) (by simp (maxSteps := 400000) (disch := first | decide | omega) only [go_sem, ↓reduceIte]; try rfl) ?_; simp (maxSteps := 400000) (disch := first | decide | omega) only [go_sem, ↓reduceIte]))); (try (show okDraw _ _ = true)); kernel_rfl); intro fr hk; refine c_open_ran hL hMay hD hM Try.func45 rfl (by decide) ?_ ?_ ?_; (intro i hi; first | exact (List.not_mem_nil hi).elim | (simp only [List.flatMap_cons, List.flatMap_nil, refsCC, List.append_nil, List.mem_singleton] at hi; subst hi; exact ⟨_, by simp (disch := first | decide | omega) only [go_sem, ↓reduceIte]; try rfl⟩)); (exact is_box1 (c := 1) hIS (by rfl) (by first | decide | (dsimp only; omega)))
    (have k5 := hk 5 (by rfl); have k4 := hk 4 (by rfl); have k5 := hk 5 (by rfl); simp (disch := first | decide | omega) only [go_sem, ↓reduceIte] at k5 k4 k5; exact ⟨2, 0, rfl, k5, by simp (disch := first | decide | omega) only [go_sem, ↓reduceIte]; try rfl, by simp (disch := first | decide | omega) only [k4, k5, hwhy, hb, resA, res1, ansR, ansN, go_sem, ↓reduceIte]; try rfl⟩)
  have hIS := hIS _ hb
  rw [List.length_map] at hb
  have hi : 0 ≤ i ∧ i ≤ (bs.length : Int) - 1 := by simpa [inB] using hb
  obtain ⟨k, rfl⟩ : ∃ k : Nat, i = k := ⟨i.toNat, by omega⟩
  rw [Int.toNat_natCast]
  cases hc : canB (bs.map castB) D M
  · have hwhy : whyL (bs.map castB) May D M true = 10 := by simp [whyL, hv, hc]
    rw [canB_cast] at hc
    have hsx := sx_wrong (May := May) hL hD (k : Int) (of_decide_eq_false hc)
    clear hc hv
    refine callD_F [7, 6] ?_ ?_ 8 rfl rfl (by simp (disch := first | decide | omega) only [go_sem, ↓reduceIte]; try rfl) (by simp (disch := first | decide | omega) only [go_sem, ↓reduceIte]; try rfl) Try.func44 rfl (by decide) ?_ (by dsimp only; omega) (by decide) ?_ ?_; rotate_left 3; (intro fr hk; refine c_open_ok hL hMay hD hM Try.func45 rfl (by decide) ?_ ?_; (intro i hi; first | exact (List.not_mem_nil hi).elim | (simp only [List.flatMap_cons, List.flatMap_nil, refsCC, List.append_nil, List.mem_singleton] at hi; subst hi; exact ⟨_, by simp (disch := first | decide | omega) only [go_sem, ↓reduceIte]; try rfl⟩)); exact is_box1 (c := 1) hIS (by rfl) (by first | decide | (dsimp only; omega))); rotate_left; (intro id hid; simp only [List.mem_cons, List.mem_nil_iff, or_false, not_or] at hid; obtain ⟨_, _⟩ := hid; simp (disch := first | decide | omega) only [go_sem, ↓reduceIte]); refine td ?_; try clear hQQ QQ
    refine tw ?_; try with_reducible intro QQ hQQ
    refine callD_SX [7, 6] (hsx) rfl rfl (by simp (disch := first | decide | omega) only [go_sem, ↓reduceIte]; try rfl) (by simp (disch := first | decide | omega) only [go_sem, ↓reduceIte]; try rfl) Try.func47 rfl (by decide) (by rfl) (by repeat' (first | trivial | apply And.intro | (simp (disch := first | decide | omega) only [go_sem, ↓reduceIte]; first | done | rfl))) (by decide) (by decide) (by first | rfl | (simp (disch := first | decide | omega) only [go_sem, ↓reduceIte]; try rfl)) ?_ ?_; rotate_left; ((repeat (first | refine evDead_skip (by rfl) ?_ | (refine evDead_step (by rfl) (by simp (maxSteps := 400000) (disch := first | decide | omega) only [go_sem, ↓reduceIte]; try rfl) (by simp (maxSteps := 400000) (disch := first | decide | omega) only [go_sem, ↓reduceIte]; try rfl) ?_; simp (maxSteps := 400000) (disch := first | decide | omega) only [go_sem, ↓reduceIte]))); (try (show okDraw _ _ = true)); kernel_rfl); intro fr hk
    (have k5 := hk 5 (by rfl); have k4 := hk 4 (by rfl); have k5 := hk 5 (by rfl); simp (disch := first | decide | omega) only [go_sem, ↓reduceIte] at k5 k4 k5; exact ⟨10, 0, rfl, k5, by simp (disch := first | decide | omega) only [go_sem, ↓reduceIte]; try rfl, by simp (disch := first | decide | omega) only [k4, k5, hwhy, hb, resA, res1, ansR, ansN, go_sem, ↓reduceIte]; try rfl⟩)
  · have hwhy : whyL (bs.map castB) May D M true = 0 := by simp [whyL, hv, hc]
    rw [canB_cast] at hc
    have hw := s_wrong (May := May) hL hD hM k (by omega) (of_decide_eq_true hc)
    clear hc hv
    obtain ⟨⟨x, y⟩, hans⟩ : ∃ q, wrongS D M bs k = q := ⟨_, rfl⟩
    rw [hans] at hw
    rw [← nB_cast (bs := bs)] at hans
    refine callD_F [7, 6] ?_ ?_ 8 rfl rfl (by simp (disch := first | decide | omega) only [go_sem, ↓reduceIte]; try rfl) (by simp (disch := first | decide | omega) only [go_sem, ↓reduceIte]; try rfl) Try.func44 rfl (by decide) ?_ (by dsimp only; omega) (by decide) ?_ ?_; rotate_left 3; (intro fr hk; refine c_open_ok hL hMay hD hM Try.func45 rfl (by decide) ?_ ?_; (intro i hi; first | exact (List.not_mem_nil hi).elim | (simp only [List.flatMap_cons, List.flatMap_nil, refsCC, List.append_nil, List.mem_singleton] at hi; subst hi; exact ⟨_, by simp (disch := first | decide | omega) only [go_sem, ↓reduceIte]; try rfl⟩)); exact is_box1 (c := 1) hIS (by rfl) (by first | decide | (dsimp only; omega))); rotate_left; (intro id hid; simp only [List.mem_cons, List.mem_nil_iff, or_false, not_or] at hid; obtain ⟨_, _⟩ := hid; simp (disch := first | decide | omega) only [go_sem, ↓reduceIte]); refine td ?_; try clear hQQ QQ
    refine tw ?_; try with_reducible intro QQ hQQ
    (refine callD_R [7, 6] (hw) rfl rfl (by simp (disch := first | decide | omega) only [go_sem, ↓reduceIte]; try rfl) (by simp (disch := first | decide | omega) only [go_sem, ↓reduceIte]; try rfl) Try.func47 rfl (by decide) (by rfl) (by repeat' (first | trivial | apply And.intro | (simp (disch := first | decide | omega) only [go_sem, ↓reduceIte]; first | done | rfl))) (by decide) (by decide) (by first | rfl | (simp (disch := first | decide | omega) only [go_sem, ↓reduceIte]; try rfl)) ?_); refine td ?_; try clear hQQ QQ
    refine tw ?_; try with_reducible intro QQ hQQ
    (refine aw_ret ⟨.inr rfl, by simp (disch := first | decide | omega) only [go_sem, ↓reduceIte]; try rfl, by simp (disch := first | decide | omega) only [resA, res1, ansR, ansN, hb, hwhy, hans, go_sem, ↓reduceIte]; try rfl⟩)
theorem ok_Keeps (i : Int) : FunOK Try.prog 18 [lineR bales may drift mist, .one (iP i)] (ansN (whyL bales may drift mist (inB i 0 ((bales.length : Int) - 1))) ((toldS may.toNat (wrongS drift.toNat mist.toNat (nB bales) i.toNat) : Nat))) := by
  refine fun_expA (l := []) (od := _) (nt := 15) (t := 5) (eb := 2) (rs := [.tmp 4, .cell 5 29]) ans43 Try.func18 rfl rfl rfl (by simp) rfl rfl rfl ansFid_eq Try.func43 rfl (by decide) fun Z w0 => ?_; simp only [initFr, avR, List.map_cons, List.map_nil]
  simp only [lineR, List.map_cons, List.map_nil]
  refine tw ?_; try with_reducible intro QQ hQQ
  refine ⟨rfl, ?_⟩
  (refine ts ?_; try clear hQQ QQ)
  refine tw ?_; try with_reducible intro QQ hQQ
  cases hv : lineB bales may drift mist
  · have hwhy : whyL bales may drift mist (inB i 0 ((bales.length : Int) - 1)) = 1 := by simp [whyL, hv]
    have hb := hwhy
    refine callS_ok rfl rfl 44 (by simp (disch := first | decide | omega) only [go_sem, ↓reduceIte]; try rfl) (by simp (disch := first | decide | omega) only [go_sem, ↓reduceIte]; try rfl) Try.func44 rfl (by decide) (CallF.mono (c_open_arg hv Try.func56 rfl (by decide) ?_ ?_) fun _ _ h => False.elim h); (intro i hi; first | exact (List.not_mem_nil hi).elim | (simp only [List.flatMap_cons, List.flatMap_nil, refsCC, List.append_nil, List.mem_singleton] at hi; subst hi; exact ⟨_, by simp (disch := first | decide | omega) only [go_sem, ↓reduceIte]; try rfl⟩))
    exact ⟨1, 0, rfl, by simp (disch := first | decide | omega) only [go_sem, ↓reduceIte]; try rfl, by simp (disch := first | decide | omega) only [go_sem, ↓reduceIte]; try rfl, by simp (disch := first | decide | omega) only [resA, res1, ansR, ansN, hwhy, hb, go_sem, ↓reduceIte]; try rfl⟩
  obtain ⟨bs, May, D, M, rfl, rfl, rfl, rfl, hL, hMay, hD, hM⟩ := line_of hv
  simp only [rows_cast]
  have hIS := fun b (hb : inB i 0 (((bs.map castB).length : Int) - 1) = b) => by
    have := s_is (D := D) (M := M) (May := May) 56 i hL (.inr (.inl rfl))
    rw [List.length_map] at hb
    rw [hb] at this
    exact this
  cases hb : inB i 0 (((bs.map castB).length : Int) - 1)
  · have hwhy : whyL (bs.map castB) May D M false = 2 := by simp [whyL, hv]
    have hIS := hIS _ hb
    refine callS_ok rfl rfl 44 (by simp (disch := first | decide | omega) only [go_sem, ↓reduceIte]; try rfl) (by simp (disch := first | decide | omega) only [go_sem, ↓reduceIte]; try rfl) Try.func44 rfl (by decide) (CallF.mono (c_open_ran hL hMay hD hM Try.func56 rfl (by decide) ?_ ?_ ?_) fun _ _ h => False.elim h); (intro i hi; first | exact (List.not_mem_nil hi).elim | (simp only [List.flatMap_cons, List.flatMap_nil, refsCC, List.append_nil, List.mem_singleton] at hi; subst hi; exact ⟨_, by simp (disch := first | decide | omega) only [go_sem, ↓reduceIte]; try rfl⟩)); (exact is_box1 (c := 1) hIS (by rfl) (by first | decide | (dsimp only; omega)))
    exact ⟨2, 0, rfl, by simp (disch := first | decide | omega) only [go_sem, ↓reduceIte]; try rfl, by simp (disch := first | decide | omega) only [go_sem, ↓reduceIte]; try rfl, by simp (disch := first | decide | omega) only [resA, res1, ansR, ansN, hwhy, hb, go_sem, ↓reduceIte]; try rfl⟩
  have hIS := hIS _ hb
  rw [List.length_map] at hb
  have hi : 0 ≤ i ∧ i ≤ (bs.length : Int) - 1 := by simpa [inB] using hb
  obtain ⟨k, rfl⟩ : ∃ k : Nat, i = k := ⟨i.toNat, by omega⟩
  cases hc : canB (bs.map castB) D M
  · have hwhy : whyL (bs.map castB) May D M true = 10 := by simp [whyL, hv, hc]
    rw [canB_cast] at hc
    have hsx := sx_wrong (May := May) hL hD (k : Int) (of_decide_eq_false hc)
    clear hc hv
    refine callS_ok rfl rfl 44 (by simp (disch := first | decide | omega) only [go_sem, ↓reduceIte]; try rfl) (by simp (disch := first | decide | omega) only [go_sem, ↓reduceIte]; try rfl) Try.func44 rfl (by decide) (CallF.mono (c_open_ok hL hMay hD hM Try.func56 rfl (by decide) ?_ ?_) ?_); (intro i hi; first | exact (List.not_mem_nil hi).elim | (simp only [List.flatMap_cons, List.flatMap_nil, refsCC, List.append_nil, List.mem_singleton] at hi; subst hi; exact ⟨_, by simp (disch := first | decide | omega) only [go_sem, ↓reduceIte]; try rfl⟩)); (exact is_box1 (c := 1) hIS (by rfl) (by first | decide | (dsimp only; omega))); rintro _ _ ⟨rfl, rfl⟩; refine ts ?_; try clear hQQ QQ
    refine tw ?_; try with_reducible intro QQ hQQ
    refine callO_SX [6, 5] (hsx) rfl rfl (by simp (disch := first | decide | omega) only [go_sem, ↓reduceIte]; try rfl) (by simp (disch := first | decide | omega) only [go_sem, ↓reduceIte]; try rfl) Try.func47 rfl (by decide) (by rfl) (by repeat' (first | trivial | apply And.intro | (simp (disch := first | decide | omega) only [go_sem, ↓reduceIte]; first | done | rfl))) (by decide) (by decide) (by first | rfl | (simp (disch := first | decide | omega) only [go_sem, ↓reduceIte]; try rfl)) ?_
    exact ⟨10, 0, rfl, by simp (disch := first | decide | omega) only [go_sem, ↓reduceIte]; try rfl, by simp (disch := first | decide | omega) only [go_sem, ↓reduceIte]; try rfl, by simp (disch := first | decide | omega) only [resA, res1, ansR, ansN, hwhy, hb, go_sem, ↓reduceIte]; try rfl⟩
  · have hwhy : whyL (bs.map castB) May D M true = 0 := by simp [whyL, hv, hc]
    rw [canB_cast] at hc
    have hw := s_wrong (May := May) hL hD hM k (by omega) (of_decide_eq_true hc)
    clear hc hv
    have ht := ok_told (D := D) (M := M) (May := May) (bs := bs) (wrongS D M bs k)
    unfold tP at ht
    obtain ⟨⟨x, y⟩, hans⟩ : ∃ q, wrongS D M bs k = q := ⟨_, rfl⟩
    rw [hans] at hw ht
    rw [← nB_cast (bs := bs)] at hans
    refine callS_ok rfl rfl 44 (by simp (disch := first | decide | omega) only [go_sem, ↓reduceIte]; try rfl) (by simp (disch := first | decide | omega) only [go_sem, ↓reduceIte]; try rfl) Try.func44 rfl (by decide) (CallF.mono (c_open_ok hL hMay hD hM Try.func56 rfl (by decide) ?_ ?_) ?_); (intro i hi; first | exact (List.not_mem_nil hi).elim | (simp only [List.flatMap_cons, List.flatMap_nil, refsCC, List.append_nil, List.mem_singleton] at hi; subst hi; exact ⟨_, by simp (disch := first | decide | omega) only [go_sem, ↓reduceIte]; try rfl⟩)); (exact is_box1 (c := 1) hIS (by rfl) (by first | decide | (dsimp only; omega))); rintro _ _ ⟨rfl, rfl⟩; refine ts ?_; try clear hQQ QQ
    refine tw ?_; try with_reducible intro QQ hQQ
    (refine callO_S [6, 5] (hw) rfl rfl (by simp (disch := first | decide | omega) only [go_sem, ↓reduceIte]; try rfl) (by simp (disch := first | decide | omega) only [go_sem, ↓reduceIte]; try rfl) Try.func47 rfl (by decide) (by rfl) (by repeat' (first | trivial | apply And.intro | (simp (disch := first | decide | omega) only [go_sem, ↓reduceIte]; first | done | rfl))) (by decide) (by decide) (by first | rfl | (simp (disch := first | decide | omega) only [go_sem, ↓reduceIte]; try rfl)) ?_); refine ts ?_; try clear hQQ QQ
    refine tw ?_; try with_reducible intro QQ hQQ
    ((refine cO 57 rfl rfl rfl (ht) Try.func57 rfl ?_); refine tu ?_; try clear hQQ QQ); refine tw ?_; try with_reducible intro QQ hQQ
    (refine aw_ret ⟨.inr rfl, by simp (disch := first | decide | omega) only [go_sem, ↓reduceIte]; try rfl, by simp (disch := first | decide | omega) only [resA, res1, ansR, ansN, hb, hwhy, hans, go_sem, ↓reduceIte]; try rfl⟩)
end
end Go.Proofs.Ytgdhdikeicgndaa
/- classer: numbers, and the first one that suits, walked. -/
namespace Go.Proofs.Ytgdhdikeicgndaa
open Go Go.RowKit Go.Sh Go.Pv Go.Cl
set_option maxHeartbeats 1600000
set_option maxRecDepth 20000
set_option pp.maxSteps 60000
/-- The first numbers, as rows; those behind them are 0. -/
def numR (m i : Nat) : List (List PV) := (List.range m).map fun j => [iP ((if j < i then j else 0 : Nat) : Int)]
theorem numR_len (m i : Nat) : (numR m i).length = m := by unfold numR; simp
theorem numR_zero (m : Nat) : List.replicate m [PV.v (Value.int .i64 0)] = numR m 0 := by
  unfold numR
  apply List.ext_getElem?
  intro j
  by_cases h : j < m
  · simp [h]
  · simp [h]
theorem numR_get {m i : Nat} (h : i < m) : (numR m i)[i]? = some [iP 0] := by unfold numR; simp [h]
theorem numR_set {m i : Nat} (h : i < m) : (numR m i).set i [iP (i : Int)] = numR m (i + 1) := by
  unfold numR
  apply List.ext_getElem?
  intro j
  rw [List.getElem?_set]
  by_cases e : i = j
  · subst e; simp [h]
  · rw [if_neg e]
    by_cases hj : j < m
    · simp only [List.getElem?_map, List.getElem?_range hj, Option.map_some]
      by_cases h2 : j < i
      · rw [if_pos h2, if_pos (by omega)]
      · rw [if_neg h2, if_neg (by omega)]
    · simp [hj]
theorem numR_all (m : Nat) : numR m m = (List.range m).map rowN := by
  unfold numR
  refine List.map_congr_left fun j hj => ?_
  rw [if_pos (List.mem_range.1 hj)]; rfl
attribute [local go_sem] numR_len
theorem ok_numbers (n : Int) (hn : -1000 ≤ n ∧ n ≤ 1000) : FunOK Try.prog 60 [.one (iP n)] (.one (.one (.sl ((List.range n.toNat).map rowN)))) := by
  have hm : (if n > 0 then n else 0) = ((n.toNat : Nat) : Int) := by split <;> omega
  have hm2 : n.toNat ≤ 1000 := by omega
  generalize n.toNat = m at *
  rw [← numR_all]
  refine fun_ok (nt := 19) (rs := [.tmp 2]) Try.func60 rfl rfl rfl (by simp) fun Z w0 => ?_; simp only [initFr, avR, List.map_cons, List.map_nil]
  (repeat (first | apply aw_seq | apply aw_block | apply aw_skip | apply aw_label | apply aw_exit | ((first | refine aw_region (hideO fun QQ hQQ => ?_) | refine aw_draw mixed (hideD fun QQ hQQ => ?_)); simp (maxSteps := 400000) (disch := first | decide | omega) only [hm, go_sem, ↓reduceIte]; try (first | with_reducible refine unhide hQQ ?_ | refine ⟨by kernel_rfl, unhide hQQ ?_⟩); clear hQQ QQ) | with_reducible first | apply then_n | apply block_n | apply then_x | apply then_r | apply nog_n | apply nog_r | apply block_r | apply block_e (by decide) | apply block_x (by decide)))
  refine ⟨rfl, .inr ⟨rfl, callS_makeSlice (n := m) (E := 3) (k := 1) (by_ := 8) (zr := [.v (.int .i64 0)]) rfl rfl (by simp (disch := first | decide | omega) only [hm, go_sem, ↓reduceIte]) (by simp (disch := first | decide | omega) only [hm, go_sem, ↓reduceIte]) (by simp (disch := first | decide | omega) only [hm, go_sem, ↓reduceIte]) (by simp (disch := first | decide | omega) only [hm, go_sem, ↓reduceIte]; try rfl) rfl (by simp (disch := first | decide | omega) only [hm, go_sem, ↓reduceIte]; try rfl) (by simp (disch := first | decide | omega) only [hm, go_sem, ↓reduceIte]; try rfl) (by omega) (by omega) (by unfold maxLen; omega) ?_⟩⟩
  rw [numR_zero]
  (refine ts ?_; try clear hQQ QQ)
  refine tw ?_; try with_reducible intro QQ hQQ
  refine aw_weak (weak_keep [3, 9, 10] (by simp only [go_sem, ↓reduceIte]; rfl)) ?_
  refine aw_loop_ov (ι := { i : Nat // i ≤ m }) (fun i => [(10, iA i.1)]) (fun i => [(0, .arr 3 1 (numR m i.1) false)]) (fun i => m - i.1) ⟨0, by omega⟩ (by first | rfl | (simp only [go_sem, ↓reduceIte]; first | done | rfl | (simp; try rfl))) ?_
  rintro ⟨i, hi⟩
  simp (disch := decide) only [ov, ovL, AL.get_nil, AL.get_eq, AL.get_ne, Option.getD_some, Option.getD_none]
  by_cases hil : i < m
  · have hg := numR_get hil
    have hs := numR_set hil
    (repeat (first | apply aw_seq | apply aw_block | apply aw_skip | apply aw_label | apply aw_exit | ((first | refine aw_region (hideO fun QQ hQQ => ?_) | refine aw_draw mixed (hideD fun QQ hQQ => ?_)); simp (maxSteps := 400000) (disch := first | decide | omega) only [hg, hs, go_sem, ↓reduceIte]; try (first | with_reducible refine unhide hQQ ?_ | refine ⟨by kernel_rfl, unhide hQQ ?_⟩); clear hQQ QQ) | with_reducible first | apply then_n | apply block_n | apply then_x | apply then_r | apply nog_n | apply nog_r | apply block_r | apply block_e (by decide) | apply block_x (by decide)))
    refine aw_cond2 (by simp (disch := first | decide | omega) only [hg, hs, go_sem, ↓reduceIte]; rfl) ?_; first | refine .inl ⟨by first | rfl | exact decide_eq_true (by omega) | exact decide_eq_true (by assumption) | (simp (disch := first | decide | omega) only [if_pos_d, if_neg_d, decide_eq_true_eq, Bool.not_eq_true', decide_eq_false_iff_not]; omega), ?_⟩ | refine .inr ⟨by first | rfl | exact decide_eq_false (by omega) | exact decide_eq_false (by assumption) | (simp (disch := first | decide | omega) only [if_pos_d, if_neg_d, decide_eq_true_eq, Bool.not_eq_true', decide_eq_false_iff_not]; omega), ?_⟩
    (repeat (first | apply aw_seq | apply aw_block | apply aw_skip | apply aw_label | apply aw_exit | ((first | refine aw_region (hideO fun QQ hQQ => ?_) | refine aw_draw mixed (hideD fun QQ hQQ => ?_)); simp (maxSteps := 400000) (disch := first | decide | omega) only [hg, hs, go_sem, ↓reduceIte]; try (first | with_reducible refine unhide hQQ ?_ | refine ⟨by kernel_rfl, unhide hQQ ?_⟩); clear hQQ QQ) | with_reducible first | apply then_n | apply block_n | apply then_x | apply then_r | apply nog_n | apply nog_r | apply block_r | apply block_e (by decide) | apply block_x (by decide)))
    (refine ⟨⟨i + 1, by omega⟩, ?_, weak_round (by simp only [hg, hs, go_sem, ↓reduceIte]; first | done | rfl) (by first | rfl | (simp only [hg, hs, go_sem, ↓reduceIte]))⟩; (simp only; omega))
  · have : i = m := by omega
    subst this
    refine tw ?_; try with_reducible intro QQ hQQ
    refine ti ?_; try clear hQQ QQ
    refine tw ?_; try with_reducible intro QQ hQQ
    refine aw_weak (weak_share 0 (E := 3) (k := 1) (rows := numR i i) (sh := false) (by rfl)) ?_
    refine aw_weak (weak_dataS 2 (t := 0) (n := i) (E := 3) (k := 1) (rows := numR i i) (by rfl) (by rfl)) ?_
    rw [List.take_of_length_le (by rw [numR_len]; exact Nat.le_refl _)]
    refine aw_ret ?_; refine ⟨.inr rfl, ?_⟩; simp only [resA, res1, go_sem, ↓reduceIte]
end Go.Proofs.Ytgdhdikeicgndaa
