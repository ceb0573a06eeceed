/- burr: whether the tests of a set clash, walked. -/
import Derived.Test.YtknikcpeacmpmaaBwA
set_option linter.all false
namespace Go.Proofs.Ytknikcpeacmpmaa
open Go Go.RowKit Go.Sh Go.Pv
set_option maxHeartbeats 8000000
set_option maxRecDepth 8000
set_option pp.maxSteps 60000
/-- Of the first tests those of a set. -/
def selT (tests : List (Int × Bool)) (x : Nat) : Nat → List (Int × Bool)
  | 0 => []
  | k + 1 => selT tests x k ++ if x.testBit k = true then [tests.getD k (0, false)] else []
theorem selT_sub {tests : List (Int × Bool)} {x : Nat} : ∀ {k}, k ≤ tests.length → ∀ t ∈ selT tests x k, t ∈ tests
  | 0, _, t, h => by cases h
  | k + 1, hk, t, h => by
    unfold selT at h
    rw [List.mem_append] at h
    rcases h with h | h
    · exact selT_sub (by omega) t h
    · split at h
      · simp at h; rw [h]
        have := mem_of_getD (l := tests) (i := k) (d := (0, false)) (by omega)
        simpa using this
      · cases h
theorem selT_len (tests : List (Int × Bool)) (x : Nat) : ∀ k, (selT tests x k).length ≤ k
  | 0 => Nat.le_refl _
  | k + 1 => by
    have := selT_len tests x k
    unfold selT
    rw [List.length_append]
    split <;> simp <;> omega
theorem bit_and1 (x i : Nat) : (x >>> i &&& 1 : Nat) = if x.testBit i = true then 1 else 0 := by
  rw [Nat.testBit_eq_decide_div_mod_eq, Nat.and_one_is_mod, Nat.shiftRight_eq_div_pow]
  by_cases h : x / 2 ^ i % 2 = 1
  · rw [h]; simp
  · rw [if_neg (by simpa using h)]; omega
theorem rowsK_2 (t : Int × Bool) : rowsK 2 [rowB t] = True := eq_true fun i r h => by
  cases i with
  | zero => simp at h; subst h; rfl
  | succ i => simp at h
section
variable {n lo hi top : Int} {bales : List (Int × Int)} {tests : List (Int × Bool)}
/-- Do the tests of a set clash? -/
def clashP (N L U : Nat) (bales : List (Int × Int)) (tests : List (Int × Bool)) (x : Nat) : Bool := decide (cntF L U bales (selT tests x tests.length) (2 ^ N) = 0)
attribute [local go_sem] get_someB
theorem s_clash {N L U T : Nat} (hN : N ≤ 5) (hU : U ≤ 5) (hb6 : bales.length ≤ 6) (hb : ∀ i, i < bales.length → (0 ≤ (bales.getD i (0, 0)).1 ∧ (bales.getD i (0, 0)).1 < 32) ∧ (0 ≤ (bales.getD i (0, 0)).2 ∧ (bales.getD i (0, 0)).2 < 32)) (ht6 : tests.length ≤ 6) (hte : ∀ t ∈ tests, 0 ≤ t.1 ∧ t.1 < 6) (x : Nat) (hx : x < 64) :
    FunS Try.prog 80 [.one (.p (iP x)), .one (.box 0 0), .one (.box 2 0)] [(2, .box [.box 1 0]), (1, .box (buC N L U T bales tests)), (0, .box (buC N L U T bales tests))] 3 (.one (.one (.v (.bool (clashP N L U bales tests x))))) := by
  have hcl := ok_count (N := N) (lo := L) (up := U) (top := T) (tests0 := tests) (tests := selT tests x tests.length) hN hU hb6 hb (by have := selT_len tests x tests.length; omega) (fun t h => hte t (selT_sub (Nat.le_refl _) t h))
  have hcp : clashP N L U bales tests x = decide (((cntF L U bales (selT tests x tests.length) (2 ^ N) : Nat) : Int) = 0) := by
    unfold clashP
    by_cases h : cntF L U bales (selT tests x tests.length) (2 ^ N) = 0
    · rw [h]; rfl
    · rw [decide_eq_false h, decide_eq_false (by omega)]
  simp only [shP] at hcl
  rw [hcp]
  generalize cntF L U bales (selT tests x tests.length) (2 ^ N) = c at *
  clear hcp
  unfold buC
  refine funS_ok (nt := 30) (rs := [.tmp 4]) Try.func80 rfl rfl rfl (by simp) fun Z w0 cap pan dk tm => ?_; simp only [initV, pins, pinOf, List.map_cons, List.map_nil]
  refine tw ?_; try with_reducible intro QQ hQQ
  refine aw_weak (weak_own 5 42 2 rfl) ?_
  dsimp only [AL.set]
  refine aw_weak (weak_keepA [0, 2, 5, 9, 10, 11] (by simp only [go_sem, ↓reduceIte]; rfl)) ?_
  refine aw_loop_ov (ι := { k : Nat // k ≤ tests.length }) (fun k => [(11, iA k.1), (5, .one (.own 4 (selT tests x k.1).length))]) (fun k => [(4, .arr 42 2 ((selT tests x k.1).map rowB) true)]) (fun k => tests.length - k.1) ⟨0, by omega⟩ (by first | rfl | (simp only [go_sem, ↓reduceIte]; first | done | rfl | (simp; try rfl))) ?_
  rintro ⟨k, hk⟩
  simp (disch := decide) only [ov, ovL, AL.get_nil, AL.get_eq, AL.get_ne, Option.getD_some, Option.getD_none]
  by_cases hkl : k < tests.length
  · have hsh : ∀ (T : TypeId) (p q : Operand), binA Try.prog .shr T p q (.int .i64 (x : Int)) (.int .i64 (k : Int)) = some (.int .i64 ((x >>> k : Nat) : Int)) := fun T p q => bin_shr_nat .i64 T p q (by omega) (by omega)
    have hle : x >>> k ≤ x := Nat.shiftRight_le x k
    have han : ∀ (T : TypeId) (p q : Operand), binA Try.prog .and T p q (.int .i64 ((x >>> k : Nat) : Int)) (.int .i64 1) = some (.int .i64 ((x >>> k &&& 1 : Nat) : Int)) := fun T p q => bin_and_nat T p q (a := x >>> k) (b := 1) (by omega) (by omega)
    have hbit := bit_and1 x k
    have hlen := selT_len tests x k
    have e1 : selT tests x (k + 1) = selT tests x k ++ if x.testBit k = true then [tests.getD k (0, false)] else [] := rfl
    obtain ⟨⟨c1, fb⟩, hc⟩ : ∃ t, tests.getD k (0, false) = t := ⟨_, rfl⟩
    rw [hc] at e1
    have hlb : ((selT tests x k).length + 1) * 16 ≤ 140737488355328 := by omega
    have hrow : (selT tests x k).map rowB ++ [[iP c1, PV.v (.bool fb)]] = (selT tests x k ++ [(c1, fb)]).map rowB := by simp [rowB]
    have hlen2 : (selT tests x k).length + 1 = (selT tests x k ++ [(c1, fb)]).length := by simp
    have hrk : rowsK 2 [[iP c1, PV.v (.bool fb)]] = True := rowsK_2 (c1, fb)
    generalize selT tests x k = sl at *
    generalize x >>> k &&& 1 = b1 at *
    generalize x >>> k = x1 at *
    cases htb : x.testBit k with
    | true =>
      rw [htb, if_pos rfl] at hbit e1
      subst hbit
      (repeat (first | apply aw_seq | apply aw_block | apply aw_skip | apply aw_label | apply aw_exit | ((first | refine aw_region (hideO fun QQ hQQ => ?_) | refine aw_draw mixed (hideD fun QQ hQQ => ?_)); simp (maxSteps := 400000) (disch := first | decide | omega) only [hc, hsh, han, rowB, hlb, hrk, go_sem, ↓reduceIte]; try (first | with_reducible refine unhide hQQ ?_ | refine ⟨by kernel_rfl, unhide hQQ ?_⟩); clear hQQ QQ) | with_reducible first | apply then_n | apply block_n | apply then_x | apply then_r | apply nog_n | apply nog_r | apply block_r | apply block_e (by decide) | apply block_x (by decide)))
      refine aw_cond2 (by simp (disch := first | decide | omega) only [hc, hsh, han, rowB, hlb, hrk, go_sem, ↓reduceIte]; rfl) ?_; first | refine .inl ⟨by first | rfl | exact decide_eq_true (by omega) | exact decide_eq_true (by assumption) | (simp (disch := first | decide | omega) only [if_pos_d, if_neg_d, decide_eq_true_eq, Bool.not_eq_true', decide_eq_false_iff_not]; omega), ?_⟩ | refine .inr ⟨by first | rfl | exact decide_eq_false (by omega) | exact decide_eq_false (by assumption) | (simp (disch := first | decide | omega) only [if_pos_d, if_neg_d, decide_eq_true_eq, Bool.not_eq_true', decide_eq_false_iff_not]; omega), ?_⟩
      (repeat (first | apply aw_seq | apply aw_block | apply aw_skip | apply aw_label | apply aw_exit | ((first | refine aw_region (hideO fun QQ hQQ => ?_) | refine aw_draw mixed (hideD fun QQ hQQ => ?_)); simp (maxSteps := 400000) (disch := first | decide | omega) only [hc, hsh, han, rowB, hlb, hrk, go_sem, ↓reduceIte]; try (first | with_reducible refine unhide hQQ ?_ | refine ⟨by kernel_rfl, unhide hQQ ?_⟩); clear hQQ QQ) | with_reducible first | apply then_n | apply block_n | apply then_x | apply then_r | apply nog_n | apply nog_r | apply block_r | apply block_e (by decide) | apply block_x (by decide)))
      refine aw_cond2 (by simp (disch := first | decide | omega) only [hc, hsh, han, rowB, hlb, hrk, go_sem, ↓reduceIte]; rfl) ?_; first | refine .inl ⟨by first | rfl | exact decide_eq_true (by omega) | exact decide_eq_true (by assumption) | (simp (disch := first | decide | omega) only [if_pos_d, if_neg_d, decide_eq_true_eq, Bool.not_eq_true', decide_eq_false_iff_not]; omega), ?_⟩ | refine .inr ⟨by first | rfl | exact decide_eq_false (by omega) | exact decide_eq_false (by assumption) | (simp (disch := first | decide | omega) only [if_pos_d, if_neg_d, decide_eq_true_eq, Bool.not_eq_true', decide_eq_false_iff_not]; omega), ?_⟩
      (repeat (first | apply aw_seq | apply aw_block | apply aw_skip | apply aw_label | apply aw_exit | ((first | refine aw_region (hideO fun QQ hQQ => ?_) | refine aw_draw mixed (hideD fun QQ hQQ => ?_)); simp (maxSteps := 400000) (disch := first | decide | omega) only [hc, hsh, han, rowB, hlb, hrk, go_sem, ↓reduceIte]; try (first | with_reducible refine unhide hQQ ?_ | refine ⟨by kernel_rfl, unhide hQQ ?_⟩); clear hQQ QQ) | with_reducible first | apply then_n | apply block_n | apply then_x | apply then_r | apply nog_n | apply nog_r | apply block_r | apply block_e (by decide) | apply block_x (by decide)))
      refine ⟨⟨k + 1, by omega⟩, ?_, weak_round ?_ (by first | rfl | (simp only [hc, hsh, han, rowB, hlb, hrk, go_sem, ↓reduceIte]))⟩
      rotate_left
      · simp only [e1, ← hrow, ← hlen2]
        (simp only [hc, hsh, han, rowB, hlb, hrk, go_sem, ↓reduceIte]; try rfl)
      · simp only; omega
    | false =>
      rw [htb, if_neg (by decide)] at hbit e1
      rw [List.append_nil] at e1
      subst hbit
      (repeat (first | apply aw_seq | apply aw_block | apply aw_skip | apply aw_label | apply aw_exit | ((first | refine aw_region (hideO fun QQ hQQ => ?_) | refine aw_draw mixed (hideD fun QQ hQQ => ?_)); simp (maxSteps := 400000) (disch := first | decide | omega) only [hc, hsh, han, rowB, go_sem, ↓reduceIte]; try (first | with_reducible refine unhide hQQ ?_ | refine ⟨by kernel_rfl, unhide hQQ ?_⟩); clear hQQ QQ) | with_reducible first | apply then_n | apply block_n | apply then_x | apply then_r | apply nog_n | apply nog_r | apply block_r | apply block_e (by decide) | apply block_x (by decide)))
      refine aw_cond2 (by simp (disch := first | decide | omega) only [hc, hsh, han, rowB, go_sem, ↓reduceIte]; rfl) ?_; first | refine .inl ⟨by first | rfl | exact decide_eq_true (by omega) | exact decide_eq_true (by assumption) | (simp (disch := first | decide | omega) only [if_pos_d, if_neg_d, decide_eq_true_eq, Bool.not_eq_true', decide_eq_false_iff_not]; omega), ?_⟩ | refine .inr ⟨by first | rfl | exact decide_eq_false (by omega) | exact decide_eq_false (by assumption) | (simp (disch := first | decide | omega) only [if_pos_d, if_neg_d, decide_eq_true_eq, Bool.not_eq_true', decide_eq_false_iff_not]; omega), ?_⟩
      (repeat (first | apply aw_seq | apply aw_block | apply aw_skip | apply aw_label | apply aw_exit | ((first | refine aw_region (hideO fun QQ hQQ => ?_) | refine aw_draw mixed (hideD fun QQ hQQ => ?_)); simp (maxSteps := 400000) (disch := first | decide | omega) only [hc, hsh, han, rowB, go_sem, ↓reduceIte]; try (first | with_reducible refine unhide hQQ ?_ | refine ⟨by kernel_rfl, unhide hQQ ?_⟩); clear hQQ QQ) | with_reducible first | apply then_n | apply block_n | apply then_x | apply then_r | apply nog_n | apply nog_r | apply block_r | apply block_e (by decide) | apply block_x (by decide)))
      refine aw_cond2 (by simp (disch := first | decide | omega) only [hc, hsh, han, rowB, go_sem, ↓reduceIte]; rfl) ?_; first | refine .inl ⟨by first | rfl | exact decide_eq_true (by omega) | exact decide_eq_true (by assumption) | (simp (disch := first | decide | omega) only [if_pos_d, if_neg_d, decide_eq_true_eq, Bool.not_eq_true', decide_eq_false_iff_not]; omega), ?_⟩ | refine .inr ⟨by first | rfl | exact decide_eq_false (by omega) | exact decide_eq_false (by assumption) | (simp (disch := first | decide | omega) only [if_pos_d, if_neg_d, decide_eq_true_eq, Bool.not_eq_true', decide_eq_false_iff_not]; omega), ?_⟩
      (repeat (first | apply aw_seq | apply aw_block | apply aw_skip | apply aw_label | apply aw_exit | ((first | refine aw_region (hideO fun QQ hQQ => ?_) | refine aw_draw mixed (hideD fun QQ hQQ => ?_)); simp (maxSteps := 400000) (disch := first | decide | omega) only [hc, hsh, han, rowB, go_sem, ↓reduceIte]; try (first | with_reducible refine unhide hQQ ?_ | refine ⟨by kernel_rfl, unhide hQQ ?_⟩); clear hQQ QQ) | with_reducible first | apply then_n | apply block_n | apply then_x | apply then_r | apply nog_n | apply nog_r | apply block_r | apply block_e (by decide) | apply block_x (by decide)))
      refine ⟨⟨k + 1, by omega⟩, ?_, weak_round ?_ (by first | rfl | (simp only [hc, hsh, han, rowB, go_sem, ↓reduceIte]))⟩
      rotate_left
      · simp only [e1]
        (simp only [hc, hsh, han, rowB, go_sem, ↓reduceIte]; try rfl)
      · simp only; omega
  · have hke : k = tests.length := by omega
    subst hke
    generalize selT tests x tests.length = sl at *
    have htk : List.take sl.length (List.map rowB sl) = List.map rowB sl := List.take_of_length_le (by simp)
    have hll : (List.map rowB sl).length = sl.length := by simp
    (repeat (first | apply aw_seq | apply aw_block | apply aw_skip | apply aw_label | apply aw_exit | ((first | refine aw_region (hideO fun QQ hQQ => ?_) | refine aw_draw mixed (hideD fun QQ hQQ => ?_)); simp (maxSteps := 400000) (disch := first | decide | omega) only [htk, hll, go_sem, ↓reduceIte]; try (first | with_reducible refine unhide hQQ ?_ | refine ⟨by kernel_rfl, unhide hQQ ?_⟩); clear hQQ QQ) | with_reducible first | apply then_n | apply block_n | apply then_x | apply then_r | apply nog_n | apply nog_r | apply block_r | apply block_e (by decide) | apply block_x (by decide)))
    refine aw_cond2 (by simp (disch := first | decide | omega) only [htk, hll, go_sem, ↓reduceIte]; rfl) ?_; first | refine .inl ⟨by first | rfl | exact decide_eq_true (by omega) | exact decide_eq_true (by assumption) | (simp (disch := first | decide | omega) only [if_pos_d, if_neg_d, decide_eq_true_eq, Bool.not_eq_true', decide_eq_false_iff_not]; omega), ?_⟩ | refine .inr ⟨by first | rfl | exact decide_eq_false (by omega) | exact decide_eq_false (by assumption) | (simp (disch := first | decide | omega) only [if_pos_d, if_neg_d, decide_eq_true_eq, Bool.not_eq_true', decide_eq_false_iff_not]; omega), ?_⟩
    (repeat (first | apply aw_seq | apply aw_block | apply aw_skip | apply aw_label | apply aw_exit | ((first | refine aw_region (hideO fun QQ hQQ => ?_) | refine aw_draw mixed (hideD fun QQ hQQ => ?_)); simp (maxSteps := 400000) (disch := first | decide | omega) only [htk, hll, go_sem, ↓reduceIte]; try (first | with_reducible refine unhide hQQ ?_ | refine ⟨by kernel_rfl, unhide hQQ ?_⟩); clear hQQ QQ) | with_reducible first | apply then_n | apply block_n | apply then_x | apply then_r | apply nog_n | apply nog_r | apply block_r | apply block_e (by decide) | apply block_x (by decide)))
    ((refine callO_ok rfl rfl 65 true rfl (by simp (disch := first | decide | omega) only [htk, hll, go_sem, ↓reduceIte]; try rfl) (fun _ => rfl) (hcl) Try.func65 rfl (by decide) ?_); simp (maxSteps := 400000) (disch := first | decide | omega) only [htk, hll, go_sem, ↓reduceIte]; try (with_reducible refine unhide hQQ ?_; clear hQQ QQ)); (repeat (first | apply aw_seq | apply aw_block | apply aw_skip | apply aw_label | apply aw_exit | ((first | refine aw_region (hideO fun QQ hQQ => ?_) | refine aw_draw mixed (hideD fun QQ hQQ => ?_)); simp (maxSteps := 400000) (disch := first | decide | omega) only [htk, hll, go_sem, ↓reduceIte]; try (first | with_reducible refine unhide hQQ ?_ | refine ⟨by kernel_rfl, unhide hQQ ?_⟩); clear hQQ QQ) | with_reducible first | apply then_n | apply block_n | apply then_x | apply then_r | apply nog_n | apply nog_r | apply block_r | apply block_e (by decide) | apply block_x (by decide)))
    (refine aw_ret ⟨.inr rfl, (by simp (maxSteps := 400000) (disch := first | decide | omega) only [go_sem, ↓reduceIte]; try rfl), (by simp (maxSteps := 400000) (disch := first | decide | omega) only [go_sem, ↓reduceIte]; try rfl), (by simp only [List.mem_cons, List.mem_nil_iff, forall_eq_or_imp, forall_eq, false_imp_iff, implies_true, or_false, and_true]; simp (maxSteps := 400000) (disch := first | decide | omega) only [go_sem, ↓reduceIte]; try exact ⟨rfl, rfl⟩)⟩)
def clashS (N L U : Nat) (bales : List (Int × Int)) (tests : List (Int × Bool)) : Nat := firstF (clashP N L U bales tests) (setsL tests.length)
def whyC (n lo hi top : Int) (bales : List (Int × Int)) (tests : List (Int × Bool)) : Int := if burrB n lo hi top bales tests = true then (if (setsL tests.length).any (clashP n.toNat lo.toNat hi.toNat bales tests) = true then 0 else 4) else 1
def clashA (n lo hi : Int) (bales : List (Int × Int)) (tests : List (Int × Bool)) : Int := (clashS n.toNat lo.toNat hi.toNat bales tests : Nat)
theorem ok_Clash : FunOK Try.prog 29 [buR n lo hi top bales tests] (ansN (whyC n lo hi top bales tests) (clashA n lo hi bales tests)) := by
  cases hv : burrB n lo hi top bales tests
  · have hwhy : whyC n lo hi top bales tests = 1 := by simp [whyC, hv]
    have hb := hwhy
    refine fun_exp (l := [_]) (od := _) (nt := 15) (t := 5) (eb := 1) (rs := [.tmp 2, .cell 3 30]) ans79 Try.func29 rfl rfl rfl (by simp) rfl rfl rfl Try.func79 rfl (by decide) fun Z w0 => ?_; simp only [initFr, avR, List.map_cons, List.map_nil]
    simp only [buR, List.map_cons, List.map_nil]
    try simp only [List.append_eq, List.cons_append, List.nil_append]
    refine tw ?_; try with_reducible intro QQ hQQ
    refine ⟨rfl, ?_⟩
    (refine ts ?_; try clear hQQ QQ)
    refine tw ?_; try with_reducible intro QQ hQQ
    (refine ⟨rfl, .inr ⟨rfl, callS_x rfl 48 ⟨by simp (disch := first | decide | omega) only [go_sem, ↓reduceIte]; try rfl, by simp (disch := first | decide | omega) only [go_sem, ↓reduceIte]; try rfl⟩ Try.func48 rfl (by decide) (x_open hv) ?_⟩⟩)
    exact ⟨1, 0, rfl, by simp (disch := first | decide | omega) only [go_sem, ↓reduceIte]; try rfl, by simp (disch := first | decide | omega) only [go_sem, ↓reduceIte]; try rfl, by simp (disch := first | decide | omega) only [resA, res1, ansR, ansN, hwhy, hb, go_sem, ↓reduceIte]; try rfl⟩
  obtain ⟨N, L, U, T, rfl, rfl, rfl, rfl, hB⟩ := bok_of hv
  have hU : U ≤ 5 := by have := hB.hn; have := hB.n5; omega
  have hsub := ok_subsets tests.length hB.t6
  have hsl := sets_len hB.t6
  have hsm : ∀ x ∈ setsL tests.length, x < 64 := fun x hx => Nat.lt_of_lt_of_le ((mem_sets hB.t6).1 hx) (pow64 hB.t6)
  have hPC : ∀ (hp : List (Nat × Obj')) (nx : Nat), AL.get hp 0 = some (.box (buC N L U T bales tests)) → AL.get hp 4 = some (.box (buC N L U T bales tests)) → AL.get hp 5 = some (.box [.box 4 0]) → 5 < nx → PredC (.fn 80 [.box 0, .box 5]) (clashP N L U bales tests) (setsL tests.length) hp nx := fun hp nx h0 h4 h5 hn =>
    pred_clo Try.func80 rfl (by decide) fun K st x hK hx hh => callF_S (hp := [(2, .box [.box 1 0]), (1, .box (buC N L U T bales tests)), (0, .box (buC N L U T bales tests))]) (avs0 := [.one (.p (iP x)), .one (.box 0 0), .one (.box 2 0)]) (nx := 3) [0, 4, 5]
      (by rw [hK]; exact s_clash hB.n5 hU hB.b6 hB.b32 hB.t6 hB.te6 x (hsm x hx)) rfl (show _ ∧ _ ∧ _ ∧ True from ⟨hh 5 _ hn h5, hh 4 _ (by omega) h4, hh 0 _ (by omega) h0, trivial⟩) (by decide) (by decide) rfl
  have hcn : whyC N L U T bales tests = if (setsL tests.length).any (clashP N L U bales tests) = true then 0 else 4 := by unfold whyC; rw [hv, if_pos rfl]; rfl
  have hans : clashA N L U bales tests = (firstF (clashP N L U bales tests) (setsL tests.length) : Nat) := rfl
  simp only [buC] at hPC
  cases hany : (setsL tests.length).any (clashP N L U bales tests)
  · rw [hany, if_neg (by decide)] at hcn
    have hwhy := hcn
    have hb := hwhy
    generalize clashP N L U bales tests = p at *
    generalize setsL tests.length = SL at *
    refine fun_exp (l := [_]) (od := _) (nt := 15) (t := 5) (eb := 1) (rs := [.tmp 2, .cell 3 30]) ans79 Try.func29 rfl rfl rfl (by simp) rfl rfl rfl Try.func79 rfl (by decide) fun Z w0 => ?_; simp only [initFr, avR, List.map_cons, List.map_nil]
    simp only [buR, List.map_cons, List.map_nil]
    try simp only [List.append_eq, List.cons_append, List.nil_append]
    refine tw ?_; try with_reducible intro QQ hQQ
    refine ⟨rfl, ?_⟩
    (refine ts ?_; try clear hQQ QQ)
    refine tw ?_; try with_reducible intro QQ hQQ
    refine callS_ok rfl rfl 48 (by simp (disch := first | decide | omega) only [go_sem, ↓reduceIte]; try rfl) (by simp (disch := first | decide | omega) only [go_sem, ↓reduceIte]; try rfl) Try.func48 rfl (by decide) (CallF.mono (c_open hv) ?_); rintro _ _ ⟨rfl, rfl⟩; refine ts ?_; try clear hQQ QQ
    unfold buC
    refine tw ?_; try with_reducible intro QQ hQQ
    (refine cB 69 rfl rfl rfl (hsub) Try.func69 rfl ?_); refine ts ?_; try clear hQQ QQ
    refine callS_ok rfl rfl 68 (by simp (disch := first | decide | omega) only [go_sem, ↓reduceIte]; try rfl) (by simp (disch := first | decide | omega) only [go_sem, ↓reduceIte]; try rfl) Try.func68 rfl (by decide) (CallF.mono (c_firstX (by omega) (hPC _ _ ?_ ?_ ?_ ?_) hany ?_) fun _ _ h => False.elim h)
    · rfl
    · rfl
    · rfl
    · omega
    exact ⟨4, 0, rfl, by simp (disch := first | decide | omega) only [go_sem, ↓reduceIte]; try rfl, by simp (disch := first | decide | omega) only [go_sem, ↓reduceIte]; try rfl, by simp (disch := first | decide | omega) only [resA, res1, ansR, ansN, hwhy, hb, go_sem, ↓reduceIte]; try rfl⟩
  · rw [hany, if_pos rfl] at hcn
    have hwhy := hcn
    have hb := hwhy
    generalize clashP N L U bales tests = p at *
    generalize setsL tests.length = SL at *
    refine fun_exp (l := [_]) (od := _) (nt := 15) (t := 5) (eb := 1) (rs := [.tmp 2, .cell 3 30]) ans79 Try.func29 rfl rfl rfl (by simp) rfl rfl rfl Try.func79 rfl (by decide) fun Z w0 => ?_; simp only [initFr, avR, List.map_cons, List.map_nil]
    simp only [buR, List.map_cons, List.map_nil]
    try simp only [List.append_eq, List.cons_append, List.nil_append]
    refine tw ?_; try with_reducible intro QQ hQQ
    refine ⟨rfl, ?_⟩
    (refine ts ?_; try clear hQQ QQ)
    refine tw ?_; try with_reducible intro QQ hQQ
    refine callS_ok rfl rfl 48 (by simp (disch := first | decide | omega) only [go_sem, ↓reduceIte]; try rfl) (by simp (disch := first | decide | omega) only [go_sem, ↓reduceIte]; try rfl) Try.func48 rfl (by decide) (CallF.mono (c_open hv) ?_); rintro _ _ ⟨rfl, rfl⟩; refine ts ?_; try clear hQQ QQ
    unfold buC
    refine tw ?_; try with_reducible intro QQ hQQ
    (refine cB 69 rfl rfl rfl (hsub) Try.func69 rfl ?_); refine ts ?_; try clear hQQ QQ
    refine callS_ok rfl rfl 68 (by simp (disch := first | decide | omega) only [go_sem, ↓reduceIte]; try rfl) (by simp (disch := first | decide | omega) only [go_sem, ↓reduceIte]; try rfl) Try.func68 rfl (by decide) (CallF.mono (c_first (by omega) (hPC _ _ ?_ ?_ ?_ ?_) hany) ?_)
    · rfl
    · rfl
    · rfl
    · omega
    rintro _ _ ⟨rfl, rfl⟩
    (refine ts ?_; try clear hQQ QQ)
    refine tw ?_; try with_reducible intro QQ hQQ
    (refine aw_ret ⟨.inr rfl, by simp (disch := first | decide | omega) only [go_sem, ↓reduceIte]; try rfl, by simp (disch := first | decide | omega) only [resA, res1, ansR, ansN, hb, hwhy, hans, go_sem, ↓reduceIte]; try rfl⟩)
end
end Go.Proofs.Ytknikcpeacmpmaa
