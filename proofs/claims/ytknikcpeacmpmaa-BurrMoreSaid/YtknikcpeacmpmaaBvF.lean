/- burr: bales are opened. -/
import Derived.Test.YtknikcpeacmpmaaKj
import Derived.Test.YtknikcpeacmpmaaKe
set_option linter.all false
namespace Go.Proofs.Ytknikcpeacmpmaa
open Go Go.RowKit Go.Sh Go.Pv
set_option maxHeartbeats 4000000
set_option maxRecDepth 8000
set_option pp.maxSteps 60000
/-- The bales, as they are handed in. -/
def buR (n lo hi top : Int) (bales : List (Int × Int)) (tests : List (Int × Bool)) : RV := .agg [iP n, iP lo, iP hi, .sl (bales.map row2), iP top, .sl (tests.map rowB)]
/-- Numbers and limits are valid. -/
def headB (n lo hi top : Int) (bales : List (Int × Int)) (tests : List (Int × Bool)) : Bool :=
  (((((inB n 1 5 && decide (0 ≤ lo)) && decide (lo ≤ hi)) && decide (hi ≤ n)) && decide (bales.length ≤ 6)) && inB top 0 ((2 ^ bales.length - 1 : Nat) : Int)) && decide (tests.length ≤ 6)
def baleB (n : Int) (x : Int × Int) : Bool := (inB x.1 0 ((2 ^ n.toNat - 1 : Nat) : Int) && inB x.2 0 ((2 ^ n.toNat - 1 : Nat) : Int)) && decide (diffN x.1.toNat x.2.toNat = 0)
def burrB (n lo hi top : Int) (bales : List (Int × Int)) (tests : List (Int × Bool)) : Bool :=
  headB n lo hi top bales tests && (bales.all (baleB n) && tests.all fun t => inB t.1 0 ((bales.length : Int) - 1))
theorem all_get {α : Type} {p : α → Bool} {l : List α} {d : α} : (l.all p = true) ↔ ∀ i, i < l.length → p (l.getD i d) = true := by
  rw [List.all_eq_true]
  refine ⟨fun h i hi => h _ (mem_of_getD hi), fun h x hx => ?_⟩
  obtain ⟨i, hi, rfl⟩ := List.getElem_of_mem hx
  have := h i hi
  rw [List.getD_eq_getElem?_getD, List.getElem?_eq_getElem hi] at this
  exact this
section
variable {n lo hi top : Int} {bales : List (Int × Int)} {tests : List (Int × Bool)}
theorem x_open_head (h : headB n lo hi top bales tests = false) : FunX Try.prog 48 [buR n lo hi top bales tests] (stopV 1) := by
  have w1 := ok_within n 1 5
  refine fun_x (nt := 107) Try.func48 rfl rfl (by simp) fun Z w0 => ?_; simp only [initFr, avR, List.map_cons, List.map_nil]
  simp only [buR, List.map_cons, List.map_nil]
  try simp only [List.append_eq, List.cons_append, List.nil_append]
  refine tw ?_; try with_reducible intro QQ hQQ
  cases b1 : inB n 1 5
  · rw [b1] at w1
    (refine cD 86 rfl rfl rfl (w1) Try.func86 rfl ?_); refine td ?_; try clear hQQ QQ
    refine callD_X rfl rfl 76 (by simp (disch := first | decide | omega) only [go_sem, ↓reduceIte]; try rfl) (by simp (disch := first | decide | omega) only [go_sem, ↓reduceIte]; try rfl) Try.func76 rfl (by decide) (x_must 1) ?_ ?_; rotate_left; ((repeat (first | refine evDead_skip (by rfl) ?_ | (refine evDead_step (by rfl) (by simp (maxSteps := 400000) (disch := first | decide | omega) only [go_sem, ↓reduceIte]; try rfl) (by simp (maxSteps := 400000) (disch := first | decide | omega) only [go_sem, ↓reduceIte]; try rfl) ?_; simp (maxSteps := 400000) (disch := first | decide | omega) only [go_sem, ↓reduceIte]))); (try (show okDraw _ _ = true)); kernel_rfl); intro fr hk
    rfl
  rw [b1] at w1
  by_cases b2 : 0 ≤ lo
  rotate_left
  · (refine cD 86 rfl rfl rfl (w1) Try.func86 rfl ?_); refine td ?_; try clear hQQ QQ
    refine callD_X rfl rfl 76 (by simp (disch := first | decide | omega) only [go_sem, ↓reduceIte]; try rfl) (by simp (disch := first | decide | omega) only [go_sem, ↓reduceIte]; try rfl) Try.func76 rfl (by decide) (x_must 1) ?_ ?_; rotate_left; ((repeat (first | refine evDead_skip (by rfl) ?_ | (refine evDead_step (by rfl) (by simp (maxSteps := 400000) (disch := first | decide | omega) only [go_sem, ↓reduceIte]; try rfl) (by simp (maxSteps := 400000) (disch := first | decide | omega) only [go_sem, ↓reduceIte]; try rfl) ?_; simp (maxSteps := 400000) (disch := first | decide | omega) only [go_sem, ↓reduceIte]))); (try (show okDraw _ _ = true)); kernel_rfl); intro fr hk
    rfl
  by_cases b3 : lo ≤ hi
  rotate_left
  · (refine cD 86 rfl rfl rfl (w1) Try.func86 rfl ?_); refine td ?_; try clear hQQ QQ
    refine callD_X rfl rfl 76 (by simp (disch := first | decide | omega) only [go_sem, ↓reduceIte]; try rfl) (by simp (disch := first | decide | omega) only [go_sem, ↓reduceIte]; try rfl) Try.func76 rfl (by decide) (x_must 1) ?_ ?_; rotate_left; ((repeat (first | refine evDead_skip (by rfl) ?_ | (refine evDead_step (by rfl) (by simp (maxSteps := 400000) (disch := first | decide | omega) only [go_sem, ↓reduceIte]; try rfl) (by simp (maxSteps := 400000) (disch := first | decide | omega) only [go_sem, ↓reduceIte]; try rfl) ?_; simp (maxSteps := 400000) (disch := first | decide | omega) only [go_sem, ↓reduceIte]))); (try (show okDraw _ _ = true)); kernel_rfl); intro fr hk
    rfl
  by_cases b4 : hi ≤ n
  rotate_left
  · (refine cD 86 rfl rfl rfl (w1) Try.func86 rfl ?_); refine td ?_; try clear hQQ QQ
    refine callD_X rfl rfl 76 (by simp (disch := first | decide | omega) only [go_sem, ↓reduceIte]; try rfl) (by simp (disch := first | decide | omega) only [go_sem, ↓reduceIte]; try rfl) Try.func76 rfl (by decide) (x_must 1) ?_ ?_; rotate_left; ((repeat (first | refine evDead_skip (by rfl) ?_ | (refine evDead_step (by rfl) (by simp (maxSteps := 400000) (disch := first | decide | omega) only [go_sem, ↓reduceIte]; try rfl) (by simp (maxSteps := 400000) (disch := first | decide | omega) only [go_sem, ↓reduceIte]; try rfl) ?_; simp (maxSteps := 400000) (disch := first | decide | omega) only [go_sem, ↓reduceIte]))); (try (show okDraw _ _ = true)); kernel_rfl); intro fr hk
    rfl
  by_cases b5 : bales.length ≤ 6
  rotate_left
  · (refine cD 86 rfl rfl rfl (w1) Try.func86 rfl ?_); refine td ?_; try clear hQQ QQ
    refine callD_X rfl rfl 76 (by simp (disch := first | decide | omega) only [go_sem, ↓reduceIte]; try rfl) (by simp (disch := first | decide | omega) only [go_sem, ↓reduceIte]; try rfl) Try.func76 rfl (by decide) (x_must 1) ?_ ?_; rotate_left; ((repeat (first | refine evDead_skip (by rfl) ?_ | (refine evDead_step (by rfl) (by simp (maxSteps := 400000) (disch := first | decide | omega) only [go_sem, ↓reduceIte]; try rfl) (by simp (maxSteps := 400000) (disch := first | decide | omega) only [go_sem, ↓reduceIte]; try rfl) ?_; simp (maxSteps := 400000) (disch := first | decide | omega) only [go_sem, ↓reduceIte]))); (try (show okDraw _ _ = true)); kernel_rfl); intro fr hk
    rfl
  have hp := pow64 b5
  have hp0 := Nat.two_pow_pos bales.length
  have hsh : ∀ (T : TypeId) (p q : Operand), binA Try.prog .shl T p q (.int .i64 1) (.int .i64 (bales.length : Int)) = some (.int .i64 ((2 ^ bales.length : Nat) : Int)) := fun T p q => bin_shl_one .i64 T p q (by omega)
  have w2 := ok_within top 0 ((2 ^ bales.length - 1 : Nat) : Int)
  have hne : inB top 0 ((2 ^ bales.length - 1 : Nat) : Int) = true → tests.length ≤ 6 → False := fun h1 h2 => by
    unfold headB at h
    rw [b1, h1, decide_eq_true b2, decide_eq_true b3, decide_eq_true b4, decide_eq_true b5, decide_eq_true h2] at h
    cases h
  clear h
  have ecast : ((2 ^ bales.length : Nat) : Int) - 1 = ((2 ^ bales.length - 1 : Nat) : Int) := by omega
  generalize 2 ^ bales.length = x at *
  cases b6 : inB top 0 ((x - 1 : Nat) : Int)
  · rw [b6] at w2
    clear hne
    (refine callD_ok rfl rfl 86 true rfl (by simp (disch := first | decide | omega) only [hsh, ecast, go_sem, ↓reduceIte]; try rfl) (fun _ => rfl) (w1) Try.func86 rfl (by decide) ?_); simp (maxSteps := 400000) (disch := first | decide | omega) only [hsh, ecast, go_sem, ↓reduceIte]; (try (refine ⟨by kernel_rfl, unhide hQQ ?_⟩; clear hQQ QQ; (repeat with_reducible first | apply then_n | apply block_n | apply then_x | apply then_r | apply nog_n | apply nog_r | apply block_r | apply block_e (by decide) | apply block_x (by decide))))
    (refine callD_ok rfl rfl 86 true rfl (by simp (disch := first | decide | omega) only [hsh, ecast, go_sem, ↓reduceIte]; try rfl) (fun _ => rfl) (w2) Try.func86 rfl (by decide) ?_); simp (maxSteps := 400000) (disch := first | decide | omega) only [hsh, ecast, go_sem, ↓reduceIte]; (try (refine ⟨by kernel_rfl, unhide hQQ ?_⟩; clear hQQ QQ; (repeat with_reducible first | apply then_n | apply block_n | apply then_x | apply then_r | apply nog_n | apply nog_r | apply block_r | apply block_e (by decide) | apply block_x (by decide))))
    refine callD_X rfl rfl 76 (by simp (disch := first | decide | omega) only [hsh, ecast, go_sem, ↓reduceIte]; try rfl) (by simp (disch := first | decide | omega) only [hsh, ecast, go_sem, ↓reduceIte]; try rfl) Try.func76 rfl (by decide) (x_must 1) ?_ ?_; rotate_left; ((repeat (first | refine evDead_skip (by rfl) ?_ | (refine evDead_step (by rfl) (by simp (maxSteps := 400000) (disch := first | decide | omega) only [hsh, ecast, go_sem, ↓reduceIte]; try rfl) (by simp (maxSteps := 400000) (disch := first | decide | omega) only [hsh, ecast, go_sem, ↓reduceIte]; try rfl) ?_; simp (maxSteps := 400000) (disch := first | decide | omega) only [hsh, ecast, go_sem, ↓reduceIte]))); (try (show okDraw _ _ = true)); kernel_rfl); intro fr hk
    rfl
  · rw [b6] at w2
    have b7 : ¬ tests.length ≤ 6 := fun h2 => hne b6 h2
    clear hne
    (refine callD_ok rfl rfl 86 true rfl (by simp (disch := first | decide | omega) only [hsh, ecast, go_sem, ↓reduceIte]; try rfl) (fun _ => rfl) (w1) Try.func86 rfl (by decide) ?_); simp (maxSteps := 400000) (disch := first | decide | omega) only [hsh, ecast, go_sem, ↓reduceIte]; (try (refine ⟨by kernel_rfl, unhide hQQ ?_⟩; clear hQQ QQ; (repeat with_reducible first | apply then_n | apply block_n | apply then_x | apply then_r | apply nog_n | apply nog_r | apply block_r | apply block_e (by decide) | apply block_x (by decide))))
    (refine callD_ok rfl rfl 86 true rfl (by simp (disch := first | decide | omega) only [hsh, ecast, go_sem, ↓reduceIte]; try rfl) (fun _ => rfl) (w2) Try.func86 rfl (by decide) ?_); simp (maxSteps := 400000) (disch := first | decide | omega) only [hsh, ecast, go_sem, ↓reduceIte]; (try (refine ⟨by kernel_rfl, unhide hQQ ?_⟩; clear hQQ QQ; (repeat with_reducible first | apply then_n | apply block_n | apply then_x | apply then_r | apply nog_n | apply nog_r | apply block_r | apply block_e (by decide) | apply block_x (by decide))))
    refine callD_X rfl rfl 76 (by simp (disch := first | decide | omega) only [hsh, ecast, go_sem, ↓reduceIte]; try rfl) (by simp (disch := first | decide | omega) only [hsh, ecast, go_sem, ↓reduceIte]; try rfl) Try.func76 rfl (by decide) (x_must 1) ?_ ?_; rotate_left; ((repeat (first | refine evDead_skip (by rfl) ?_ | (refine evDead_step (by rfl) (by simp (maxSteps := 400000) (disch := first | decide | omega) only [hsh, ecast, go_sem, ↓reduceIte]; try rfl) (by simp (maxSteps := 400000) (disch := first | decide | omega) only [hsh, ecast, go_sem, ↓reduceIte]; try rfl) ?_; simp (maxSteps := 400000) (disch := first | decide | omega) only [hsh, ecast, go_sem, ↓reduceIte]))); (try (show okDraw _ _ = true)); kernel_rfl); intro fr hk
    rfl
theorem head_of (h : headB n lo hi top bales tests = true) : (((1 ≤ n ∧ n ≤ 5) ∧ 0 ≤ lo ∧ lo ≤ hi ∧ hi ≤ n) ∧ bales.length ≤ 6 ∧ (0 ≤ top ∧ top ≤ ((2 ^ bales.length - 1 : Nat) : Int)) ∧ tests.length ≤ 6) := by
  unfold headB inB at h
  simp only [Bool.and_eq_true, decide_eq_true_eq] at h
  obtain ⟨⟨⟨⟨⟨⟨h1, h2⟩, h3⟩, h4⟩, h5⟩, h6⟩, h7⟩ := h
  exact ⟨⟨h1, h2, h3, h4⟩, h5, h6, h7⟩
attribute [local go_sem] rowB get_someB
theorem x_open (h : burrB n lo hi top bales tests = false) : FunX Try.prog 48 [buR n lo hi top bales tests] (stopV 1) := by
  cases hh : headB n lo hi top bales tests
  · exact x_open_head hh
  obtain ⟨⟨b1, b2, b3, b4⟩, b5, b6, b7⟩ := head_of hh
  unfold burrB at h
  rw [hh, Bool.true_and] at h
  have hp := pow64 b5
  have hp0 := Nat.two_pow_pos bales.length
  have hsh : ∀ (T : TypeId) (p q : Operand), binA Try.prog .shl T p q (.int .i64 1) (.int .i64 (bales.length : Int)) = some (.int .i64 ((2 ^ bales.length : Nat) : Int)) := fun T p q => bin_shl_one .i64 T p q (by omega)
  have w1 := ok_within n 1 5
  rw [show inB n 1 5 = true by simp [inB]; omega] at w1
  have w2 := ok_within top 0 ((2 ^ bales.length - 1 : Nat) : Int)
  rw [show inB top 0 ((2 ^ bales.length - 1 : Nat) : Int) = true by simp only [inB, Bool.and_eq_true, decide_eq_true_eq]; exact b6] at w2
  have ecast : ((2 ^ bales.length : Nat) : Int) - 1 = ((2 ^ bales.length - 1 : Nat) : Int) := by omega
  have hm := ok_must 1
  obtain ⟨N, rfl⟩ : ∃ N : Nat, n = N := ⟨n.toNat, by omega⟩
  have hq := pow32 (N := N) (by omega)
  have hq0 := Nat.two_pow_pos N
  have hsh2 : ∀ (T : TypeId) (p q : Operand), binA Try.prog .shl T p q (.int .i64 1) (.int .i64 (N : Int)) = some (.int .i64 ((2 ^ N : Nat) : Int)) := fun T p q => bin_shl_one .i64 T p q (by omega)
  have ecast2 : ((2 ^ N : Nat) : Int) - 1 = ((2 ^ N - 1 : Nat) : Int) := by omega
  have hbal : ∀ x, baleB (N : Int) x = ((inB x.1 0 ((2 ^ N - 1 : Nat) : Int) && inB x.2 0 ((2 ^ N - 1 : Nat) : Int)) && decide (diffN x.1.toNat x.2.toNat = 0)) := fun x => by unfold baleB; rw [Int.toNat_natCast]
  generalize 2 ^ N = y at *
  obtain ⟨x, hx⟩ : ∃ x, 2 ^ bales.length = x := ⟨_, rfl⟩
  rw [hx] at *
  refine fun_x (nt := 107) Try.func48 rfl rfl (by simp) fun Z w0 => ?_; simp only [initFr, avR, List.map_cons, List.map_nil]
  simp only [buR, List.map_cons, List.map_nil]
  try simp only [List.append_eq, List.cons_append, List.nil_append]
  (repeat (first | apply aw_seq | apply aw_block | apply aw_skip | apply aw_label | apply aw_exit | ((first | refine aw_region (hideO fun QQ hQQ => ?_) | refine aw_draw mixed (hideD fun QQ hQQ => ?_)); simp (maxSteps := 400000) (disch := first | decide | omega) only [hsh, ecast, hsh2, ecast2, go_sem, ↓reduceIte]; try (first | with_reducible refine unhide hQQ ?_ | refine ⟨by kernel_rfl, unhide hQQ ?_⟩); clear hQQ QQ) | with_reducible first | apply then_n | apply block_n | apply then_x | apply then_r | apply nog_n | apply nog_r | apply block_r | apply block_e (by decide) | apply block_x (by decide)))
  (refine callD_ok rfl rfl 86 true rfl (by simp (disch := first | decide | omega) only [hsh, ecast, hsh2, ecast2, go_sem, ↓reduceIte]; try rfl) (fun _ => rfl) (w1) Try.func86 rfl (by decide) ?_); simp (maxSteps := 400000) (disch := first | decide | omega) only [hsh, ecast, hsh2, ecast2, go_sem, ↓reduceIte]; (try (refine ⟨by kernel_rfl, unhide hQQ ?_⟩; clear hQQ QQ; (repeat with_reducible first | apply then_n | apply block_n | apply then_x | apply then_r | apply nog_n | apply nog_r | apply block_r | apply block_e (by decide) | apply block_x (by decide))))
  (refine callD_ok rfl rfl 86 true rfl (by simp (disch := first | decide | omega) only [hsh, ecast, hsh2, ecast2, go_sem, ↓reduceIte]; try rfl) (fun _ => rfl) (w2) Try.func86 rfl (by decide) ?_); simp (maxSteps := 400000) (disch := first | decide | omega) only [hsh, ecast, hsh2, ecast2, go_sem, ↓reduceIte]; (try (refine ⟨by kernel_rfl, unhide hQQ ?_⟩; clear hQQ QQ; (repeat with_reducible first | apply then_n | apply block_n | apply then_x | apply then_r | apply nog_n | apply nog_r | apply block_r | apply block_e (by decide) | apply block_x (by decide))))
  (refine callD_ok rfl rfl 76 true rfl (by simp (disch := first | decide | omega) only [hsh, ecast, hsh2, ecast2, go_sem, ↓reduceIte]; try rfl) (fun _ => rfl) (hm) Try.func76 rfl (by decide) ?_); simp (maxSteps := 400000) (disch := first | decide | omega) only [hsh, ecast, hsh2, ecast2, go_sem, ↓reduceIte]; (try (refine ⟨by kernel_rfl, unhide hQQ ?_⟩; clear hQQ QQ; (repeat with_reducible first | apply then_n | apply block_n | apply then_x | apply then_r | apply nog_n | apply nog_r | apply block_r | apply block_e (by decide) | apply block_x (by decide))))
  (repeat (first | apply aw_seq | apply aw_block | apply aw_skip | apply aw_label | apply aw_exit | ((first | refine aw_region (hideO fun QQ hQQ => ?_) | refine aw_draw mixed (hideD fun QQ hQQ => ?_)); simp (maxSteps := 400000) (disch := first | decide | omega) only [hsh, ecast, hsh2, ecast2, go_sem, ↓reduceIte]; try (first | with_reducible refine unhide hQQ ?_ | refine ⟨by kernel_rfl, unhide hQQ ?_⟩); clear hQQ QQ) | with_reducible first | apply then_n | apply block_n | apply then_x | apply then_r | apply nog_n | apply nog_r | apply block_r | apply block_e (by decide) | apply block_x (by decide)))
  refine aw_weak (weak_keep [1, 3, 62, 63, 64] (by simp only [go_sem, ↓reduceIte]; rfl)) ?_
  refine aw_loop_ov (ι := { i : Nat // i ≤ bales.length ∧ ∀ k, k < i → baleB (N : Int) (bales.getD k (0, 0)) = true }) (fun i => [(64, iA i.1)]) (fun _ => []) (fun i => bales.length - i.1) ⟨0, by omega, fun k hk => absurd hk (by omega)⟩ (by first | rfl | (simp only [go_sem, ↓reduceIte]; first | done | rfl | (simp; try rfl))) ?_
  rintro ⟨i, hi, hik⟩
  simp (disch := decide) only [ov, ovL, AL.get_nil, AL.get_eq, AL.get_ne, Option.getD_some, Option.getD_none]
  by_cases hil : i < bales.length
  · have hbi := hbal (bales.getD i (0, 0))
    have hx : baleB (N : Int) (bales.getD i (0, 0)) = true → ∀ k, k < i + 1 → baleB (N : Int) (bales.getD k (0, 0)) = true := fun h0 k hk => by
      by_cases e : k = i
      · rw [e]; exact h0
      · exact hik k (by omega)
    obtain ⟨⟨s, p⟩, hsp⟩ : ∃ q, bales.getD i (0, 0) = q := ⟨_, rfl⟩
    rw [hsp] at hbi hx
    dsimp only at hbi
    have v1 := ok_within s 0 ((y - 1 : Nat) : Int)
    have v2 := ok_within p 0 ((y - 1 : Nat) : Int)
    clear hik
    cases c1 : inB s 0 ((y - 1 : Nat) : Int)
    · rw [c1] at v1
      (repeat (first | apply aw_seq | apply aw_block | apply aw_skip | apply aw_label | apply aw_exit | ((first | refine aw_region (hideO fun QQ hQQ => ?_) | refine aw_draw mixed (hideD fun QQ hQQ => ?_)); simp (maxSteps := 400000) (disch := first | decide | omega) only [hsp, go_sem, ↓reduceIte]; try (first | with_reducible refine unhide hQQ ?_ | refine ⟨by kernel_rfl, unhide hQQ ?_⟩); clear hQQ QQ) | with_reducible first | apply then_n | apply block_n | apply then_x | apply then_r | apply nog_n | apply nog_r | apply block_r | apply block_e (by decide) | apply block_x (by decide)))
      refine aw_cond2 (by simp (disch := first | decide | omega) only [hsp, go_sem, ↓reduceIte]; rfl) ?_; first | refine .inl ⟨by first | rfl | exact decide_eq_true (by omega) | exact decide_eq_true (by assumption) | (simp (disch := first | decide | omega) only [if_pos_d, if_neg_d, decide_eq_true_eq, Bool.not_eq_true', decide_eq_false_iff_not]; omega), ?_⟩ | refine .inr ⟨by first | rfl | exact decide_eq_false (by omega) | exact decide_eq_false (by assumption) | (simp (disch := first | decide | omega) only [if_pos_d, if_neg_d, decide_eq_true_eq, Bool.not_eq_true', decide_eq_false_iff_not]; omega), ?_⟩
      (repeat (first | apply aw_seq | apply aw_block | apply aw_skip | apply aw_label | apply aw_exit | ((first | refine aw_region (hideO fun QQ hQQ => ?_) | refine aw_draw mixed (hideD fun QQ hQQ => ?_)); simp (maxSteps := 400000) (disch := first | decide | omega) only [hsp, go_sem, ↓reduceIte]; try (first | with_reducible refine unhide hQQ ?_ | refine ⟨by kernel_rfl, unhide hQQ ?_⟩); clear hQQ QQ) | with_reducible first | apply then_n | apply block_n | apply then_x | apply then_r | apply nog_n | apply nog_r | apply block_r | apply block_e (by decide) | apply block_x (by decide)))
      (refine callO_ok rfl rfl 86 true rfl (by simp (disch := first | decide | omega) only [hsp, go_sem, ↓reduceIte]; try rfl) (fun _ => rfl) (v1) Try.func86 rfl (by decide) ?_); simp (maxSteps := 400000) (disch := first | decide | omega) only [hsp, go_sem, ↓reduceIte]; (try (with_reducible refine unhide hQQ ?_; clear hQQ QQ; (repeat with_reducible first | apply then_n | apply block_n | apply then_x | apply then_r | apply nog_n | apply nog_r | apply block_r | apply block_e (by decide) | apply block_x (by decide))))
      (refine ⟨rfl, .inr ⟨rfl, callS_x rfl 76 ⟨by simp (disch := first | decide | omega) only [hsp, go_sem, ↓reduceIte]; try rfl, by simp (disch := first | decide | omega) only [hsp, go_sem, ↓reduceIte]; try rfl⟩ Try.func76 rfl (by decide) (x_must 1) ?_⟩⟩)
      rfl
    cases c2 : inB p 0 ((y - 1 : Nat) : Int)
    · rw [c1] at v1
      rw [c2] at v2
      (repeat (first | apply aw_seq | apply aw_block | apply aw_skip | apply aw_label | apply aw_exit | ((first | refine aw_region (hideO fun QQ hQQ => ?_) | refine aw_draw mixed (hideD fun QQ hQQ => ?_)); simp (maxSteps := 400000) (disch := first | decide | omega) only [hsp, go_sem, ↓reduceIte]; try (first | with_reducible refine unhide hQQ ?_ | refine ⟨by kernel_rfl, unhide hQQ ?_⟩); clear hQQ QQ) | with_reducible first | apply then_n | apply block_n | apply then_x | apply then_r | apply nog_n | apply nog_r | apply block_r | apply block_e (by decide) | apply block_x (by decide)))
      refine aw_cond2 (by simp (disch := first | decide | omega) only [hsp, go_sem, ↓reduceIte]; rfl) ?_; first | refine .inl ⟨by first | rfl | exact decide_eq_true (by omega) | exact decide_eq_true (by assumption) | (simp (disch := first | decide | omega) only [if_pos_d, if_neg_d, decide_eq_true_eq, Bool.not_eq_true', decide_eq_false_iff_not]; omega), ?_⟩ | refine .inr ⟨by first | rfl | exact decide_eq_false (by omega) | exact decide_eq_false (by assumption) | (simp (disch := first | decide | omega) only [if_pos_d, if_neg_d, decide_eq_true_eq, Bool.not_eq_true', decide_eq_false_iff_not]; omega), ?_⟩
      (repeat (first | apply aw_seq | apply aw_block | apply aw_skip | apply aw_label | apply aw_exit | ((first | refine aw_region (hideO fun QQ hQQ => ?_) | refine aw_draw mixed (hideD fun QQ hQQ => ?_)); simp (maxSteps := 400000) (disch := first | decide | omega) only [hsp, go_sem, ↓reduceIte]; try (first | with_reducible refine unhide hQQ ?_ | refine ⟨by kernel_rfl, unhide hQQ ?_⟩); clear hQQ QQ) | with_reducible first | apply then_n | apply block_n | apply then_x | apply then_r | apply nog_n | apply nog_r | apply block_r | apply block_e (by decide) | apply block_x (by decide)))
      (refine callO_ok rfl rfl 86 true rfl (by simp (disch := first | decide | omega) only [hsp, go_sem, ↓reduceIte]; try rfl) (fun _ => rfl) (v1) Try.func86 rfl (by decide) ?_); simp (maxSteps := 400000) (disch := first | decide | omega) only [hsp, go_sem, ↓reduceIte]; (try (with_reducible refine unhide hQQ ?_; clear hQQ QQ; (repeat with_reducible first | apply then_n | apply block_n | apply then_x | apply then_r | apply nog_n | apply nog_r | apply block_r | apply block_e (by decide) | apply block_x (by decide))))
      (refine callO_ok rfl rfl 86 true rfl (by simp (disch := first | decide | omega) only [hsp, go_sem, ↓reduceIte]; try rfl) (fun _ => rfl) (v2) Try.func86 rfl (by decide) ?_); simp (maxSteps := 400000) (disch := first | decide | omega) only [hsp, go_sem, ↓reduceIte]; (try (with_reducible refine unhide hQQ ?_; clear hQQ QQ; (repeat with_reducible first | apply then_n | apply block_n | apply then_x | apply then_r | apply nog_n | apply nog_r | apply block_r | apply block_e (by decide) | apply block_x (by decide))))
      (refine ⟨rfl, .inr ⟨rfl, callS_x rfl 76 ⟨by simp (disch := first | decide | omega) only [hsp, go_sem, ↓reduceIte]; try rfl, by simp (disch := first | decide | omega) only [hsp, go_sem, ↓reduceIte]; try rfl⟩ Try.func76 rfl (by decide) (x_must 1) ?_⟩⟩)
      rfl
    rw [c1] at v1
    rw [c2] at v2
    simp only [inB, Bool.and_eq_true, decide_eq_true_eq] at c1 c2
    obtain ⟨s, rfl⟩ : ∃ k : Nat, s = k := ⟨s.toNat, by omega⟩
    obtain ⟨p, rfl⟩ : ∃ k : Nat, p = k := ⟨p.toNat, by omega⟩
    have hd : ∀ (T : TypeId) (p' q : Operand), binA Try.prog .andNot T p' q (.int .i64 (s : Int)) (.int .i64 (p : Int)) = some (.int .i64 ((diffN s p : Nat) : Int)) := fun T p' q => bin_andNot_nat T p' q (by omega) (by omega)
    by_cases c3 : diffN s p = 0
    · have hx := hx (by rw [hbi]; simp only [inB, Int.toNat_natCast, Bool.and_eq_true, decide_eq_true_eq]; exact ⟨⟨c1, c2⟩, c3⟩)
      clear hbi
      (repeat (first | apply aw_seq | apply aw_block | apply aw_skip | apply aw_label | apply aw_exit | ((first | refine aw_region (hideO fun QQ hQQ => ?_) | refine aw_draw mixed (hideD fun QQ hQQ => ?_)); simp (maxSteps := 400000) (disch := first | decide | omega) only [hsp, hd, c3, go_sem, ↓reduceIte]; try (first | with_reducible refine unhide hQQ ?_ | refine ⟨by kernel_rfl, unhide hQQ ?_⟩); clear hQQ QQ) | with_reducible first | apply then_n | apply block_n | apply then_x | apply then_r | apply nog_n | apply nog_r | apply block_r | apply block_e (by decide) | apply block_x (by decide)))
      refine aw_cond2 (by simp (disch := first | decide | omega) only [hsp, hd, c3, go_sem, ↓reduceIte]; rfl) ?_; first | refine .inl ⟨by first | rfl | exact decide_eq_true (by omega) | exact decide_eq_true (by assumption) | (simp (disch := first | decide | omega) only [if_pos_d, if_neg_d, decide_eq_true_eq, Bool.not_eq_true', decide_eq_false_iff_not]; omega), ?_⟩ | refine .inr ⟨by first | rfl | exact decide_eq_false (by omega) | exact decide_eq_false (by assumption) | (simp (disch := first | decide | omega) only [if_pos_d, if_neg_d, decide_eq_true_eq, Bool.not_eq_true', decide_eq_false_iff_not]; omega), ?_⟩
      (repeat (first | apply aw_seq | apply aw_block | apply aw_skip | apply aw_label | apply aw_exit | ((first | refine aw_region (hideO fun QQ hQQ => ?_) | refine aw_draw mixed (hideD fun QQ hQQ => ?_)); simp (maxSteps := 400000) (disch := first | decide | omega) only [hsp, hd, c3, go_sem, ↓reduceIte]; try (first | with_reducible refine unhide hQQ ?_ | refine ⟨by kernel_rfl, unhide hQQ ?_⟩); clear hQQ QQ) | with_reducible first | apply then_n | apply block_n | apply then_x | apply then_r | apply nog_n | apply nog_r | apply block_r | apply block_e (by decide) | apply block_x (by decide)))
      (refine callO_ok rfl rfl 86 true rfl (by simp (disch := first | decide | omega) only [hsp, hd, c3, go_sem, ↓reduceIte]; try rfl) (fun _ => rfl) (v1) Try.func86 rfl (by decide) ?_); simp (maxSteps := 400000) (disch := first | decide | omega) only [hsp, hd, c3, go_sem, ↓reduceIte]; (try (with_reducible refine unhide hQQ ?_; clear hQQ QQ; (repeat with_reducible first | apply then_n | apply block_n | apply then_x | apply then_r | apply nog_n | apply nog_r | apply block_r | apply block_e (by decide) | apply block_x (by decide))))
      (refine callO_ok rfl rfl 86 true rfl (by simp (disch := first | decide | omega) only [hsp, hd, c3, go_sem, ↓reduceIte]; try rfl) (fun _ => rfl) (v2) Try.func86 rfl (by decide) ?_); simp (maxSteps := 400000) (disch := first | decide | omega) only [hsp, hd, c3, go_sem, ↓reduceIte]; (try (with_reducible refine unhide hQQ ?_; clear hQQ QQ; (repeat with_reducible first | apply then_n | apply block_n | apply then_x | apply then_r | apply nog_n | apply nog_r | apply block_r | apply block_e (by decide) | apply block_x (by decide))))
      ((refine callO_ok rfl rfl 76 true rfl (by simp (disch := first | decide | omega) only [hsp, hd, c3, go_sem, ↓reduceIte]; try rfl) (fun _ => rfl) (hm) Try.func76 rfl (by decide) ?_); simp (maxSteps := 400000) (disch := first | decide | omega) only [hsp, hd, c3, go_sem, ↓reduceIte]; try (with_reducible refine unhide hQQ ?_; clear hQQ QQ)); (repeat (first | apply aw_seq | apply aw_block | apply aw_skip | apply aw_label | apply aw_exit | ((first | refine aw_region (hideO fun QQ hQQ => ?_) | refine aw_draw mixed (hideD fun QQ hQQ => ?_)); simp (maxSteps := 400000) (disch := first | decide | omega) only [hsp, hd, c3, go_sem, ↓reduceIte]; try (first | with_reducible refine unhide hQQ ?_ | refine ⟨by kernel_rfl, unhide hQQ ?_⟩); clear hQQ QQ) | with_reducible first | apply then_n | apply block_n | apply then_x | apply then_r | apply nog_n | apply nog_r | apply block_r | apply block_e (by decide) | apply block_x (by decide)))
      (refine ⟨⟨i + 1, by omega, hx⟩, ?_, weak_round (by simp only [hsp, hd, c3, go_sem, ↓reduceIte]; first | done | rfl) (by first | rfl | (simp only [hsp, hd, c3, go_sem, ↓reduceIte]))⟩; (simp only; omega))
    · clear hbi hx
      (repeat (first | apply aw_seq | apply aw_block | apply aw_skip | apply aw_label | apply aw_exit | ((first | refine aw_region (hideO fun QQ hQQ => ?_) | refine aw_draw mixed (hideD fun QQ hQQ => ?_)); simp (maxSteps := 400000) (disch := first | decide | omega) only [hsp, hd, go_sem, ↓reduceIte]; try (first | with_reducible refine unhide hQQ ?_ | refine ⟨by kernel_rfl, unhide hQQ ?_⟩); clear hQQ QQ) | with_reducible first | apply then_n | apply block_n | apply then_x | apply then_r | apply nog_n | apply nog_r | apply block_r | apply block_e (by decide) | apply block_x (by decide)))
      refine aw_cond2 (by simp (disch := first | decide | omega) only [hsp, hd, go_sem, ↓reduceIte]; rfl) ?_; first | refine .inl ⟨by first | rfl | exact decide_eq_true (by omega) | exact decide_eq_true (by assumption) | (simp (disch := first | decide | omega) only [if_pos_d, if_neg_d, decide_eq_true_eq, Bool.not_eq_true', decide_eq_false_iff_not]; omega), ?_⟩ | refine .inr ⟨by first | rfl | exact decide_eq_false (by omega) | exact decide_eq_false (by assumption) | (simp (disch := first | decide | omega) only [if_pos_d, if_neg_d, decide_eq_true_eq, Bool.not_eq_true', decide_eq_false_iff_not]; omega), ?_⟩
      (repeat (first | apply aw_seq | apply aw_block | apply aw_skip | apply aw_label | apply aw_exit | ((first | refine aw_region (hideO fun QQ hQQ => ?_) | refine aw_draw mixed (hideD fun QQ hQQ => ?_)); simp (maxSteps := 400000) (disch := first | decide | omega) only [hsp, hd, go_sem, ↓reduceIte]; try (first | with_reducible refine unhide hQQ ?_ | refine ⟨by kernel_rfl, unhide hQQ ?_⟩); clear hQQ QQ) | with_reducible first | apply then_n | apply block_n | apply then_x | apply then_r | apply nog_n | apply nog_r | apply block_r | apply block_e (by decide) | apply block_x (by decide)))
      (refine callO_ok rfl rfl 86 true rfl (by simp (disch := first | decide | omega) only [hsp, hd, go_sem, ↓reduceIte]; try rfl) (fun _ => rfl) (v1) Try.func86 rfl (by decide) ?_); simp (maxSteps := 400000) (disch := first | decide | omega) only [hsp, hd, go_sem, ↓reduceIte]; (try (with_reducible refine unhide hQQ ?_; clear hQQ QQ; (repeat with_reducible first | apply then_n | apply block_n | apply then_x | apply then_r | apply nog_n | apply nog_r | apply block_r | apply block_e (by decide) | apply block_x (by decide))))
      (refine callO_ok rfl rfl 86 true rfl (by simp (disch := first | decide | omega) only [hsp, hd, go_sem, ↓reduceIte]; try rfl) (fun _ => rfl) (v2) Try.func86 rfl (by decide) ?_); simp (maxSteps := 400000) (disch := first | decide | omega) only [hsp, hd, go_sem, ↓reduceIte]; (try (with_reducible refine unhide hQQ ?_; clear hQQ QQ; (repeat with_reducible first | apply then_n | apply block_n | apply then_x | apply then_r | apply nog_n | apply nog_r | apply block_r | apply block_e (by decide) | apply block_x (by decide))))
      (refine ⟨rfl, .inr ⟨rfl, callS_x rfl 76 ⟨by simp (disch := first | decide | omega) only [hsp, hd, go_sem, ↓reduceIte]; try rfl, by simp (disch := first | decide | omega) only [hsp, hd, go_sem, ↓reduceIte]; try rfl⟩ Try.func76 rfl (by decide) (x_must 1) ?_⟩⟩)
      rfl
  · have hie : i = bales.length := by omega
    subst hie
    have hall : bales.all (baleB (N : Int)) = true := all_get.2 hik
    rw [hall, Bool.true_and] at h
    clear hik hall hbal
    refine tw ?_; try with_reducible intro QQ hQQ
    refine ti ?_; try clear hQQ QQ
    refine tw ?_; try with_reducible intro QQ hQQ
    refine aw_weak (weak_keep [1, 89, 90, 91] (by simp only [go_sem, ↓reduceIte]; rfl)) ?_
    refine aw_loop_ov (ι := { k : Nat // k ≤ tests.length ∧ ∀ j, j < k → inB (tests.getD j (0, false)).1 0 ((bales.length : Int) - 1) = true }) (fun k => [(91, iA k.1)]) (fun _ => []) (fun k => tests.length - k.1) ⟨0, by omega, fun k hk => absurd hk (by omega)⟩ (by first | rfl | (simp only [go_sem, ↓reduceIte]; first | done | rfl | (simp; try rfl))) ?_
    rintro ⟨k, hk, hkj⟩
    simp (disch := decide) only [ov, ovL, AL.get_nil, AL.get_eq, AL.get_ne, Option.getD_some, Option.getD_none]
    by_cases hkl : k < tests.length
    · have hx : inB (tests.getD k (0, false)).1 0 ((bales.length : Int) - 1) = true → ∀ j, j < k + 1 → inB (tests.getD j (0, false)).1 0 ((bales.length : Int) - 1) = true := fun h0 j hj => by
        by_cases e : j = k
        · rw [e]; exact h0
        · exact hkj j (by omega)
      obtain ⟨⟨c, fb⟩, hc⟩ : ∃ t, tests.getD k (0, false) = t := ⟨_, rfl⟩
      rw [hc] at hx
      dsimp only at hx
      have v1 := ok_within c 0 ((bales.length : Int) - 1)
      clear hkj
      cases c1 : inB c 0 ((bales.length : Int) - 1)
      · rw [c1] at v1
        (repeat (first | apply aw_seq | apply aw_block | apply aw_skip | apply aw_label | apply aw_exit | ((first | refine aw_region (hideO fun QQ hQQ => ?_) | refine aw_draw mixed (hideD fun QQ hQQ => ?_)); simp (maxSteps := 400000) (disch := first | decide | omega) only [hc, go_sem, ↓reduceIte]; try (first | with_reducible refine unhide hQQ ?_ | refine ⟨by kernel_rfl, unhide hQQ ?_⟩); clear hQQ QQ) | with_reducible first | apply then_n | apply block_n | apply then_x | apply then_r | apply nog_n | apply nog_r | apply block_r | apply block_e (by decide) | apply block_x (by decide)))
        refine aw_cond2 (by simp (disch := first | decide | omega) only [hc, go_sem, ↓reduceIte]; rfl) ?_; first | refine .inl ⟨by first | rfl | exact decide_eq_true (by omega) | exact decide_eq_true (by assumption) | (simp (disch := first | decide | omega) only [if_pos_d, if_neg_d, decide_eq_true_eq, Bool.not_eq_true', decide_eq_false_iff_not]; omega), ?_⟩ | refine .inr ⟨by first | rfl | exact decide_eq_false (by omega) | exact decide_eq_false (by assumption) | (simp (disch := first | decide | omega) only [if_pos_d, if_neg_d, decide_eq_true_eq, Bool.not_eq_true', decide_eq_false_iff_not]; omega), ?_⟩
        (repeat (first | apply aw_seq | apply aw_block | apply aw_skip | apply aw_label | apply aw_exit | ((first | refine aw_region (hideO fun QQ hQQ => ?_) | refine aw_draw mixed (hideD fun QQ hQQ => ?_)); simp (maxSteps := 400000) (disch := first | decide | omega) only [hc, go_sem, ↓reduceIte]; try (first | with_reducible refine unhide hQQ ?_ | refine ⟨by kernel_rfl, unhide hQQ ?_⟩); clear hQQ QQ) | with_reducible first | apply then_n | apply block_n | apply then_x | apply then_r | apply nog_n | apply nog_r | apply block_r | apply block_e (by decide) | apply block_x (by decide)))
        (refine callO_ok rfl rfl 86 true rfl (by simp (disch := first | decide | omega) only [hc, go_sem, ↓reduceIte]; try rfl) (fun _ => rfl) (v1) Try.func86 rfl (by decide) ?_); simp (maxSteps := 400000) (disch := first | decide | omega) only [hc, go_sem, ↓reduceIte]; (try (with_reducible refine unhide hQQ ?_; clear hQQ QQ; (repeat with_reducible first | apply then_n | apply block_n | apply then_x | apply then_r | apply nog_n | apply nog_r | apply block_r | apply block_e (by decide) | apply block_x (by decide))))
        (refine ⟨rfl, .inr ⟨rfl, callS_x rfl 76 ⟨by simp (disch := first | decide | omega) only [hc, go_sem, ↓reduceIte]; try rfl, by simp (disch := first | decide | omega) only [hc, go_sem, ↓reduceIte]; try rfl⟩ Try.func76 rfl (by decide) (x_must 1) ?_⟩⟩)
        rfl
      · rw [c1] at v1
        have hx := hx c1
        (repeat (first | apply aw_seq | apply aw_block | apply aw_skip | apply aw_label | apply aw_exit | ((first | refine aw_region (hideO fun QQ hQQ => ?_) | refine aw_draw mixed (hideD fun QQ hQQ => ?_)); simp (maxSteps := 400000) (disch := first | decide | omega) only [hc, go_sem, ↓reduceIte]; try (first | with_reducible refine unhide hQQ ?_ | refine ⟨by kernel_rfl, unhide hQQ ?_⟩); clear hQQ QQ) | with_reducible first | apply then_n | apply block_n | apply then_x | apply then_r | apply nog_n | apply nog_r | apply block_r | apply block_e (by decide) | apply block_x (by decide)))
        refine aw_cond2 (by simp (disch := first | decide | omega) only [hc, go_sem, ↓reduceIte]; rfl) ?_; first | refine .inl ⟨by first | rfl | exact decide_eq_true (by omega) | exact decide_eq_true (by assumption) | (simp (disch := first | decide | omega) only [if_pos_d, if_neg_d, decide_eq_true_eq, Bool.not_eq_true', decide_eq_false_iff_not]; omega), ?_⟩ | refine .inr ⟨by first | rfl | exact decide_eq_false (by omega) | exact decide_eq_false (by assumption) | (simp (disch := first | decide | omega) only [if_pos_d, if_neg_d, decide_eq_true_eq, Bool.not_eq_true', decide_eq_false_iff_not]; omega), ?_⟩
        (repeat (first | apply aw_seq | apply aw_block | apply aw_skip | apply aw_label | apply aw_exit | ((first | refine aw_region (hideO fun QQ hQQ => ?_) | refine aw_draw mixed (hideD fun QQ hQQ => ?_)); simp (maxSteps := 400000) (disch := first | decide | omega) only [hc, go_sem, ↓reduceIte]; try (first | with_reducible refine unhide hQQ ?_ | refine ⟨by kernel_rfl, unhide hQQ ?_⟩); clear hQQ QQ) | with_reducible first | apply then_n | apply block_n | apply then_x | apply then_r | apply nog_n | apply nog_r | apply block_r | apply block_e (by decide) | apply block_x (by decide)))
        (refine callO_ok rfl rfl 86 true rfl (by simp (disch := first | decide | omega) only [hc, go_sem, ↓reduceIte]; try rfl) (fun _ => rfl) (v1) Try.func86 rfl (by decide) ?_); simp (maxSteps := 400000) (disch := first | decide | omega) only [hc, go_sem, ↓reduceIte]; (try (with_reducible refine unhide hQQ ?_; clear hQQ QQ; (repeat with_reducible first | apply then_n | apply block_n | apply then_x | apply then_r | apply nog_n | apply nog_r | apply block_r | apply block_e (by decide) | apply block_x (by decide))))
        ((refine callO_ok rfl rfl 76 true rfl (by simp (disch := first | decide | omega) only [hc, go_sem, ↓reduceIte]; try rfl) (fun _ => rfl) (hm) Try.func76 rfl (by decide) ?_); simp (maxSteps := 400000) (disch := first | decide | omega) only [hc, go_sem, ↓reduceIte]; try (with_reducible refine unhide hQQ ?_; clear hQQ QQ)); (repeat (first | apply aw_seq | apply aw_block | apply aw_skip | apply aw_label | apply aw_exit | ((first | refine aw_region (hideO fun QQ hQQ => ?_) | refine aw_draw mixed (hideD fun QQ hQQ => ?_)); simp (maxSteps := 400000) (disch := first | decide | omega) only [hc, go_sem, ↓reduceIte]; try (first | with_reducible refine unhide hQQ ?_ | refine ⟨by kernel_rfl, unhide hQQ ?_⟩); clear hQQ QQ) | with_reducible first | apply then_n | apply block_n | apply then_x | apply then_r | apply nog_n | apply nog_r | apply block_r | apply block_e (by decide) | apply block_x (by decide)))
        (refine ⟨⟨k + 1, by omega, hx⟩, ?_, weak_round (by simp only [hc, go_sem, ↓reduceIte]; first | done | rfl) (by first | rfl | (simp only [hc, go_sem, ↓reduceIte]))⟩; (simp only; omega))
    · have hke : k = tests.length := by omega
      subst hke
      have : (tests.all fun t => inB t.1 0 ((bales.length : Int) - 1)) = true := all_get.2 hkj
      rw [this] at h
      cases h
end
end Go.Proofs.Ytknikcpeacmpmaa
