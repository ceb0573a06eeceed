/- Kwc22: texts joined (WcE WcF). -/
import Derived.Test.YtgdhdikeicgndaaKwc8
import Derived.Test.YtgdhdikeicgndaaPvFc
import Derived.Test.YtgdhdikeicgndaaKcx5
set_option linter.all false
/- classer: a line is copied, walked. -/
namespace Go.Proofs.Ytgdhdikeicgndaa
open Go Go.RowKit Go.Sh Go.Pv Go.Cl
set_option maxHeartbeats 2000000
set_option maxRecDepth 20000
set_option pp.maxSteps 60000
attribute [local go_sem] rowsK_row3
section
variable {Z : Zn} {w0 : World} {cap : Nat → Prop} {nt : Nat} {rd : Option Nat} {pan : List PanicEntry → St → Prop} {df : Option Nat} {dk : List Nat} {rg : Bool} {fr : List (Nat × AV)} {hp : List (Nat × Obj')} {nx : Nat}
variable {bales : List (Int × Int × Int)} {may drift mist : Int}
theorem c_copied (hl : bales.length ≤ 40) : CallF ⟨Try.prog, Z, w0, cap, nt, rd, pan, df, dk, rg⟩ 37 [.agg [.p (.sl (bales.map row3)), .p (iP may), .p (iP drift), .p (iP mist)]] ⟨fr, hp, nx⟩ fun st' av =>
    st' = ⟨fr, (nx, .arr 44 3 (bales.map row3) false) :: hp, nx + 1⟩ ∧ av = .agg [.own nx bales.length, .p (iP may), .p (iP drift), .p (iP mist)] := by
  have hll : (bales.map row3).length = bales.length := List.length_map _
  have hb : bales.length * 24 ≤ 140737488355328 := by omega
  have := callF_new (K := ⟨Try.prog, Z, w0, cap, nt, rd, pan, df, dk, rg⟩) (fid := 37) (avs := [.agg [.p (.sl (bales.map row3)), .p (iP may), .p (iP drift), .p (iP mist)]]) (st := ⟨fr, hp, nx⟩) (nt := 9) (rs := [.cell 2 24]) [.agg [.sl (bales.map row3), iP may, iP drift, iP mist]] 44 3 (bales.map row3) [iP may, iP drift, iP mist] rfl Try.func37 rfl rfl rfl (by simp) ?_ ?_ (fun Z w0 => ?_)
  · rw [hll] at this
    exact this
  · intro i row j c hi hj
    rw [List.getElem?_map] at hi
    obtain ⟨x, _, rfl⟩ := Option.map_eq_some_iff.1 hi
    rcases j with _ | _ | _ | j
    · simp [row3] at hj; exact ⟨_, hj.symm⟩
    · simp [row3] at hj; exact ⟨_, hj.symm⟩
    · simp [row3] at hj; exact ⟨_, hj.symm⟩
    · simp [row3] at hj
  · intro p hp
    simp only [List.mem_cons, List.mem_nil_iff, or_false] at hp
    rcases hp with rfl | rfl | rfl
    · exact ⟨_, rfl⟩
    · exact ⟨_, rfl⟩
    · exact ⟨_, rfl⟩
  simp only [initFr, avR, List.map_cons, List.map_nil, hll]
  (repeat (first | apply aw_seq | apply aw_block | apply aw_skip | apply aw_label | apply aw_exit | ((first | refine aw_region (hideO fun QQ hQQ => ?_) | refine aw_draw mixed (hideD fun QQ hQQ => ?_)); simp (maxSteps := 400000) (disch := first | decide | omega) only [hll, hb, go_sem, ↓reduceIte]; try (first | with_reducible refine unhide hQQ ?_ | refine ⟨by kernel_rfl, unhide hQQ ?_⟩); clear hQQ QQ) | with_reducible first | apply then_n | apply block_n | apply then_x | apply then_r | apply nog_n | apply nog_r | apply block_r | apply block_e (by decide) | apply block_x (by decide)))
  refine aw_ret ⟨.inr rfl, 2, _, by simp (disch := first | decide | omega) only [go_sem, ↓reduceIte]; try rfl, by simp (disch := first | decide | omega) only [go_sem, ↓reduceIte]; try rfl⟩
end
end Go.Proofs.Ytgdhdikeicgndaa
/- classer: the document's sets: power, Has, Size. -/
namespace Go.Proofs.Ytgdhdikeicgndaa
open Go Go.RowKit Go.Sh Go.Pv Go.Cl
set_option maxHeartbeats 4000000
set_option maxRecDepth 8000
theorem bin_rem_two (T : TypeId) (x y : Operand) (s : Nat) : binA Try.prog .rem T x y (.int .i64 (s : Int)) (.int .i64 2) = some (.int .i64 ((s % 2 : Nat) : Int)) := by
  rw [bin_rem _ _ _ _ _ _ (by decide), Int.tmod_eq_emod_of_nonneg (by omega)]
  rfl
theorem bin_quo_nat (T : TypeId) (x y : Operand) {s d : Nat} (h : s < 2 ^ 62) (hd : 0 < d) : binA Try.prog .quo T x y (.int .i64 (s : Int)) (.int .i64 (d : Int)) = some (.int .i64 ((s / d : Nat) : Int)) := by
  have := Nat.div_le_self s d
  rw [bin_quo _ _ _ _ _ _ (by omega), Int.tdiv_eq_ediv_of_nonneg (by omega), ← Int.natCast_ediv, wrap_nat (by omega)]
theorem bin_quo_two (T : TypeId) (x y : Operand) {s : Nat} (h : s < 2 ^ 62) : binA Try.prog .quo T x y (.int .i64 (s : Int)) (.int .i64 2) = some (.int .i64 ((s / 2 : Nat) : Int)) := bin_quo_nat T x y (d := 2) h (by decide)
theorem ok_power (n : Nat) (hn : n ≤ 40) : FunOK Try.prog 88 [.one (iP n)] (.one (.one (iP ((2 ^ n : Nat) : Int)))) := by
  refine fun_ok (nt := 13) (rs := [.tmp 2]) Try.func88 rfl rfl rfl (by simp) fun Z w0 => ?_; simp only [initFr, avR, List.map_cons, List.map_nil]
  refine tw ?_; try with_reducible intro QQ hQQ
  refine aw_weak (weak_keep [0, 3, 4] (by simp only [go_sem, ↓reduceIte]; rfl)) ?_
  refine aw_loop_ov (ι := { i : Nat // i ≤ n }) (fun i => [(3, .one (.p (iP ((2 ^ i.1 : Nat) : Int)))), (4, iA i.1)]) (fun _ => []) (fun i => n - i.1) ⟨0, by omega⟩ (by first | rfl | (simp only [go_sem, ↓reduceIte]; first | done | rfl | (simp; try rfl))) ?_
  rintro ⟨i, hi⟩
  simp (disch := decide) only [ov, ovL, AL.get_nil, AL.get_eq, AL.get_ne, Option.getD_some, Option.getD_none]
  have hp : 2 ^ (i + 1) = 2 * 2 ^ i := by rw [Nat.pow_succ]; omega
  have hb : 2 ^ i ≤ 2 ^ 40 := Nat.pow_le_pow_right (by decide) (by omega)
  generalize hq : 2 ^ i = q at *
  by_cases hil : i < n
  · refine tw ?_; try with_reducible intro QQ hQQ
    refine ti ?_; try clear hQQ QQ
    refine tw ?_; try with_reducible intro QQ hQQ
    refine ⟨⟨i + 1, by omega⟩, ?_, weak_round ?_ (by first | rfl | (simp only [go_sem, ↓reduceIte]))⟩
    rotate_left
    · simp only [hp]
      (simp only [go_sem, ↓reduceIte]; try rfl)
      try (push_cast; rfl)
    · simp only; omega
  · have : i = n := by omega
    subst this
    rw [hq]
    refine tw ?_; try with_reducible intro QQ hQQ
    refine ti ?_; try clear hQQ QQ
    refine tw ?_; try with_reducible intro QQ hQQ
    refine aw_ret ?_; refine ⟨.inr rfl, ?_⟩; simp only [resA, res1, go_sem, ↓reduceIte]
theorem popc_half_all : (List.range 64).all (fun x => Nat.beq (popc x) (x % 2 + popc (x / 2))) = true := by decide +kernel
theorem popc_half {x : Nat} (h : x < 64) : popc x = x % 2 + popc (x / 2) := Nat.eq_of_beq_eq_true (List.all_eq_true.1 popc_half_all x (List.mem_range.2 h))
theorem popc_zero : popc 0 = 0 := by decide +kernel
theorem ok_Size (s : Nat) (hs : s < 64) : FunOK Try.prog 39 [.one (iP s)] (.one (.one (iP (popc s : Nat)))) := by
  refine fun_ok (nt := 13) (rs := [.tmp 2]) Try.func39 rfl rfl rfl (by simp) fun Z w0 => ?_; simp only [initFr, avR, List.map_cons, List.map_nil]
  refine tw ?_; try with_reducible intro QQ hQQ
  refine aw_weak (weak_keep [0, 3] (by simp only [go_sem, ↓reduceIte]; rfl)) ?_
  refine aw_loop_ov (ι := { p : Nat × Nat // p.1 < 64 ∧ p.2 + popc p.1 = popc s ∧ p.2 ≤ 6 }) (fun p => [(0, iA p.1.1), (3, iA p.1.2)]) (fun _ => []) (fun p => p.1.1) ⟨(s, 0), hs, by simp, by dsimp only; omega⟩ (by first | rfl | (simp only [go_sem, ↓reduceIte]; first | done | rfl | (simp; try rfl))) ?_
  rintro ⟨⟨x, k⟩, hx, he, hk⟩
  simp (disch := decide) only [ov, ovL, AL.get_nil, AL.get_eq, AL.get_ne, Option.getD_some, Option.getD_none]
  dsimp only at hx he hk
  by_cases h0 : 0 < x
  · have hh := popc_half hx
    have h6 := popc6 hs
    have hq := fun T a b => bin_quo_two (s := x) T a b (by omega)
    have hr := fun T a b => bin_rem_two T a b x
    have hm : x % 2 < 2 := Nat.mod_lt _ (by decide)
    have hle : x / 2 < x := Nat.div_lt_self h0 (by decide)
    generalize x / 2 = y at *
    generalize x % 2 = m at *
    (repeat (first | apply aw_seq | apply aw_block | apply aw_skip | apply aw_label | apply aw_exit | ((first | refine aw_region (hideO fun QQ hQQ => ?_) | refine aw_draw mixed (hideD fun QQ hQQ => ?_)); simp (maxSteps := 400000) (disch := first | decide | omega) only [hq, hr, go_sem, ↓reduceIte]; try (first | with_reducible refine unhide hQQ ?_ | refine ⟨by kernel_rfl, unhide hQQ ?_⟩); clear hQQ QQ) | with_reducible first | apply then_n | apply block_n | apply then_x | apply then_r | apply nog_n | apply nog_r | apply block_r | apply block_e (by decide) | apply block_x (by decide)))
    refine aw_cond2 (by simp (disch := first | decide | omega) only [hq, hr, go_sem, ↓reduceIte]; rfl) ?_; first | refine .inl ⟨by first | rfl | exact decide_eq_true (by omega) | exact decide_eq_true (by assumption) | (simp (disch := first | decide | omega) only [if_pos_d, if_neg_d, decide_eq_true_eq, Bool.not_eq_true', decide_eq_false_iff_not]; omega), ?_⟩ | refine .inr ⟨by first | rfl | exact decide_eq_false (by omega) | exact decide_eq_false (by assumption) | (simp (disch := first | decide | omega) only [if_pos_d, if_neg_d, decide_eq_true_eq, Bool.not_eq_true', decide_eq_false_iff_not]; omega), ?_⟩
    (repeat (first | apply aw_seq | apply aw_block | apply aw_skip | apply aw_label | apply aw_exit | ((first | refine aw_region (hideO fun QQ hQQ => ?_) | refine aw_draw mixed (hideD fun QQ hQQ => ?_)); simp (maxSteps := 400000) (disch := first | decide | omega) only [hq, hr, go_sem, ↓reduceIte]; try (first | with_reducible refine unhide hQQ ?_ | refine ⟨by kernel_rfl, unhide hQQ ?_⟩); clear hQQ QQ) | with_reducible first | apply then_n | apply block_n | apply then_x | apply then_r | apply nog_n | apply nog_r | apply block_r | apply block_e (by decide) | apply block_x (by decide)))
    refine ⟨⟨(y, k + m), by dsimp only; omega, by dsimp only; omega, by dsimp only; omega⟩, ?_, weak_round ?_ (by first | rfl | (simp only [hq, hr, go_sem, ↓reduceIte]))⟩
    rotate_left
    · (simp only [hq, hr, go_sem, ↓reduceIte]; try rfl)
    · simp only; omega
  · have : x = 0 := by omega
    subst this
    rw [popc_zero] at he
    rw [← he, Nat.add_zero]
    refine tw ?_; try with_reducible intro QQ hQQ
    refine ti ?_; try clear hQQ QQ
    refine tw ?_; try with_reducible intro QQ hQQ
    refine aw_ret ?_; refine ⟨.inr rfl, ?_⟩; simp only [resA, res1, go_sem, ↓reduceIte]
end Go.Proofs.Ytgdhdikeicgndaa
