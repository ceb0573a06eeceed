/- THE LAW TallyTrue: what is drawn, and what is counted. -/
import Derived.Test.YtejbglbiefpagaaTyF
import Derived.Test.YtejbglbiefpagaaTxF
import Derived.Test.YtejbglbiefpagaaTyC
import Derived.Test.YtejbglbiefpagaaKd
set_option linter.all false
namespace Go.Proofs.Ytejbglbiefpagaa
open Go Go.RowKit Go.Sh Go.Pv
set_option maxHeartbeats 8000000
set_option maxRecDepth 8000
/-- A row of a number of 16 bits. -/
def rowH (n : Int) : List PV := [.v (.int .u16 n)]
attribute [local go_sem] rowH conv121 bin_rem
theorem c_draw {Z : Zn} {w0 : World} {cap : Nat → Prop} {nt : Nat} {rd : Option Nat} {pan : List PanicEntry → St → Prop} {df : Option Nat} {dk : List Nat} {rg : Bool} {fr : List (Nat × AV)} {hp : List (Nat × Obj')} {nx : Nat} {A B a : Nat} {by_ : List Int}
    (ha : a ≤ 100) (hby : ∀ x ∈ by_, 0 ≤ x ∧ x ≤ 65535) (lo hi : Int) (hl : -1000 ≤ lo) (hlh : lo ≤ hi) (hh : hi ≤ 1000)
    (hA : AL.get hp A = some (.box [.p (iP a)])) (hB : AL.get hp B = some (.box [.p (.sl (by_.map rowH))])) (hAB : A ≠ B) :
    CallF ⟨Try.prog, Z, w0, cap, nt, rd, pan, df, dk, rg⟩ 95 [.agg [.p (iP lo), .p (iP hi)], .one (.box A 0), .one (.box B 0)] ⟨fr, hp, nx⟩ fun st' av => ∃ r, lo ≤ r ∧ r ≤ hi ∧ st' = ⟨fr, (A, .box [.p (iP ((a + 1 : Nat) : Int))]) :: hp, nx⟩ ∧ av = .one (.p (iP r)) := by
  (refine callF_to (nt := 33) (rs := [.tmp 4]) Try.func95 rfl rfl rfl (by simp) fun hcl tm Ds => ?_); simp only [initV]
  dsimp only [Kx.calleeT]
  have hlt := hcl.lt
  dsimp only at hlt
  have lA := hlt A _ hA
  have lB := hlt B _ hB
  have ea : (a : Int) + 1 = ((a + 1 : Nat) : Int) := by omega
  have fin : ∀ {hpZ : List (Nat × Obj')} (r : Int), lo ≤ r → r ≤ hi → AL.get hpZ A = some (.box [.p (iP ((a + 1 : Nat) : Int))]) → (∀ id o, id ≠ A → id < nx → AL.get hp id = some o → AL.get hpZ id = some o) → ∃ T : St, T.fr = fr ∧ Closed T ∧ (∀ id o, AL.get T.hp id = some o → AL.get hpZ id = some o) ∧ (∀ i, i ∈ refsV (.one (.p (iP r)) : AV) → ∃ o, AL.get T.hp i = some o) ∧ ∃ r', lo ≤ r' ∧ r' ≤ hi ∧ T = ⟨fr, (A, .box [.p (iP ((a + 1 : Nat) : Int))]) :: hp, nx⟩ ∧ (.one (.p (iP r)) : AV) = .one (.p (iP r')) := by
    intro hpZ r h1 h2 h3 h4
    refine ⟨⟨fr, (A, .box [.p (iP ((a + 1 : Nat) : Int))]) :: hp, nx⟩, rfl, ?_, fun id o ho => ?_, fun i hi => by simp [refsV, refsC] at hi, r, h1, h2, rfl, rfl⟩
    · exact hcl.set hA (fun _ _ h => by cases h) (fun i hi => by simp [refsO, refsC] at hi)
    · have ho : AL.get ((A, Obj'.box [.p (iP ((a + 1 : Nat) : Int))]) :: hp) id = some o := ho
      by_cases e : id = A
      · subst e
        rw [AL.get_eq] at ho
        cases ho
        exact h3
      · rw [AL.get_ne _ _ e] at ho
        exact h4 id o e (hlt id o ho) ho
  by_cases hb0 : by_.length = 0
  · (repeat (first | apply aw_seq | apply aw_block | apply aw_skip | apply aw_label | apply aw_exit | ((first | refine aw_region (hideO fun QQ hQQ => ?_) | refine aw_draw mixed (hideD fun QQ hQQ => ?_)); simp (maxSteps := 400000) (disch := first | decide | omega) only [hA, hB, ea, go_sem, ↓reduceIte]; try (first | with_reducible refine unhide hQQ ?_ | refine ⟨by kernel_rfl, unhide hQQ ?_⟩); clear hQQ QQ) | with_reducible first | apply then_n | apply block_n | apply then_x | apply then_r | apply nog_n | apply nog_r | apply block_r | apply block_e (by decide) | apply block_x (by decide)))
    refine aw_cond2 (by simp (disch := first | decide | omega) only [hA, hB, ea, go_sem, ↓reduceIte]; rfl) ?_; first | refine .inl ⟨by first | rfl | exact decide_eq_true (by omega) | exact decide_eq_true (by assumption) | (simp (disch := first | decide | omega) only [if_pos_d, if_neg_d, decide_eq_true_eq, Bool.not_eq_true', decide_eq_false_iff_not]; omega), ?_⟩ | refine .inr ⟨by first | rfl | exact decide_eq_false (by omega) | exact decide_eq_false (by assumption) | (simp (disch := first | decide | omega) only [if_pos_d, if_neg_d, decide_eq_true_eq, Bool.not_eq_true', decide_eq_false_iff_not]; omega), ?_⟩
    (repeat (first | apply aw_seq | apply aw_block | apply aw_skip | apply aw_label | apply aw_exit | ((first | refine aw_region (hideO fun QQ hQQ => ?_) | refine aw_draw mixed (hideD fun QQ hQQ => ?_)); simp (maxSteps := 400000) (disch := first | decide | omega) only [hA, hB, ea, go_sem, ↓reduceIte]; try (first | with_reducible refine unhide hQQ ?_ | refine ⟨by kernel_rfl, unhide hQQ ?_⟩); clear hQQ QQ) | with_reducible first | apply then_n | apply block_n | apply then_x | apply then_r | apply nog_n | apply nog_r | apply block_r | apply block_e (by decide) | apply block_x (by decide)))
    exact aw_ret ⟨.inr rfl, _, by simp (disch := first | decide | omega) only [hA, hB, ea, go_sem, ↓reduceIte]; try rfl, by simp (disch := first | decide | omega) only [hA, hB, ea, go_sem, ↓reduceIte]; try rfl, fin lo (by omega) (by omega) (by simp (disch := first | decide | omega) only [hA, hB, ea, go_sem, ↓reduceIte]; try rfl) (fun id o h1 h2 h3 => by simp (disch := first | decide | omega) only [hA, hB, ea, go_sem, ↓reduceIte]; exact h3)⟩
  · obtain ⟨j, hj⟩ : ∃ j, (a + 1) % by_.length = j := ⟨_, rfl⟩
    have hjl : j < by_.length := by rw [← hj]; exact Nat.mod_lt _ (by omega)
    have htm : ((a + 1 : Nat) : Int).tmod (by_.length : Int) = (j : Int) := by rw [Int.tmod_eq_emod_of_nonneg (by omega), ← hj]; rfl
    have hx := hby _ (mem_of_getD (d := 0) hjl)
    generalize hg : by_.getD j 0 = x at hx
    have hm : 0 ≤ (x + 37 * ((a + 1 : Nat) : Int)).tmod (hi - lo + 1) ∧ (x + 37 * ((a + 1 : Nat) : Int)).tmod (hi - lo + 1) < hi - lo + 1 := ⟨Int.tmod_nonneg _ (by omega), Int.tmod_lt_of_pos _ (by omega)⟩
    (repeat (first | apply aw_seq | apply aw_block | apply aw_skip | apply aw_label | apply aw_exit | ((first | refine aw_region (hideO fun QQ hQQ => ?_) | refine aw_draw mixed (hideD fun QQ hQQ => ?_)); simp (maxSteps := 400000) (disch := first | decide | omega) only [hA, hB, ea, htm, hg, go_sem, ↓reduceIte]; try (first | with_reducible refine unhide hQQ ?_ | refine ⟨by kernel_rfl, unhide hQQ ?_⟩); clear hQQ QQ) | with_reducible first | apply then_n | apply block_n | apply then_x | apply then_r | apply nog_n | apply nog_r | apply block_r | apply block_e (by decide) | apply block_x (by decide)))
    refine aw_cond2 (by simp (disch := first | decide | omega) only [hA, hB, ea, htm, hg, go_sem, ↓reduceIte]; rfl) ?_; first | refine .inl ⟨by first | rfl | exact decide_eq_true (by omega) | exact decide_eq_true (by assumption) | (simp (disch := first | decide | omega) only [if_pos_d, if_neg_d, decide_eq_true_eq, Bool.not_eq_true', decide_eq_false_iff_not]; omega), ?_⟩ | refine .inr ⟨by first | rfl | exact decide_eq_false (by omega) | exact decide_eq_false (by assumption) | (simp (disch := first | decide | omega) only [if_pos_d, if_neg_d, decide_eq_true_eq, Bool.not_eq_true', decide_eq_false_iff_not]; omega), ?_⟩
    (repeat (first | apply aw_seq | apply aw_block | apply aw_skip | apply aw_label | apply aw_exit | ((first | refine aw_region (hideO fun QQ hQQ => ?_) | refine aw_draw mixed (hideD fun QQ hQQ => ?_)); simp (maxSteps := 400000) (disch := first | decide | omega) only [hA, hB, ea, htm, hg, go_sem, ↓reduceIte]; try (first | with_reducible refine unhide hQQ ?_ | refine ⟨by kernel_rfl, unhide hQQ ?_⟩); clear hQQ QQ) | with_reducible first | apply then_n | apply block_n | apply then_x | apply then_r | apply nog_n | apply nog_r | apply block_r | apply block_e (by decide) | apply block_x (by decide)))
    exact aw_ret ⟨.inr rfl, _, by simp (disch := first | decide | omega) only [hA, hB, ea, htm, hg, go_sem, ↓reduceIte]; try rfl, by simp (disch := first | decide | omega) only [hA, hB, ea, htm, hg, go_sem, ↓reduceIte]; try rfl, fin _ (by omega) (by omega) (by simp (disch := first | decide | omega) only [hA, hB, ea, htm, hg, go_sem, ↓reduceIte]; try rfl) (fun id o h1 h2 h3 => by simp (disch := first | decide | omega) only [hA, hB, ea, htm, hg, go_sem, ↓reduceIte]; exact h3)⟩
/-- What a call truly counts. -/
def cntL (X P : List Int) (c : Int × Int × Int × Int) : Int := if c.1 = 0 then X.getD c.2.1.toNat 0 else if c.1 = 1 then P.getD c.2.1.toNat 0 else sumT (fun i => X.getD i 0) X.length
theorem ok_counted {N : Nat} {X P : List Int} (hX : X.length = N) (hP : P.length = N) (h5 : N ≤ 5) (hb : ∀ i, 0 ≤ X.getD i 0 ∧ X.getD i 0 ≤ 100) (c : Int × Int × Int × Int) (hc : isCallB N c = true) :
    FunOK Try.prog 39 [.agg (row4 c), .one (.sl (X.map row1)), .one (.sl (P.map row1))] (.one (.one (iP (cntL X P c)))) := by
  have hcc := call_of hc
  obtain ⟨k, at_, lo, hi⟩ := c
  simp only [row4]
  dsimp only at hcc
  refine fun_ok (nt := 36) (rs := [.tmp 6]) Try.func39 rfl rfl rfl (by simp) fun Z w0 => ?_; simp only [initFr, avR, List.map_cons, List.map_nil]
  rcases hcc.1 with h2 | ⟨h2, h3⟩
  · subst h2
    refine tw ?_; try with_reducible intro QQ hQQ
    refine ti ?_; try clear hQQ QQ
    refine tw ?_; try with_reducible intro QQ hQQ
    refine ti ?_; try clear hQQ QQ
    refine tw ?_; try with_reducible intro QQ hQQ
    refine aw_weak (weak_keep [6, 25, 26, 27] (by simp only [go_sem, ↓reduceIte]; rfl)) ?_
    refine aw_loop_ov (ι := { i : Nat // i ≤ N }) (fun i => [(27, iA i.1), (6, iA (sumT (fun i => X.getD i 0) i.1))]) (fun _ => []) (fun i => N - i.1) ⟨0, by omega⟩ (by first | rfl | (simp only [go_sem, ↓reduceIte]; first | done | rfl | (simp; try rfl))) ?_
    rintro ⟨i, hi⟩
    simp (disch := decide) only [ov, ovL, AL.get_nil, AL.get_eq, AL.get_ne, Option.getD_some, Option.getD_none]
    have w1 := sum_bd (n := i) (most := 100) (x := fun i => X.getD i 0) fun k _ => hb k
    by_cases hil : i < N
    · have hxi : i < X.length := by omega
      have bi := hb i
      have e1 : sumT (fun i => X.getD i 0) (i + 1) = sumT (fun i => X.getD i 0) i + X.getD i 0 := rfl
      refine tw ?_; try with_reducible intro QQ hQQ
      refine ti ?_; try clear hQQ QQ
      refine tw ?_; try with_reducible intro QQ hQQ
      refine ⟨⟨i + 1, by omega⟩, ?_, weak_round ?_ (by first | rfl | (simp only [go_sem, ↓reduceIte]))⟩
      rotate_left
      · simp only [e1]
        (simp only [go_sem, ↓reduceIte]; try rfl)
      · simp only; omega
    · have hiN : i = N := by omega
      subst hiN
      refine tw ?_; try with_reducible intro QQ hQQ
      refine ti ?_; try clear hQQ QQ
      refine tw ?_; try with_reducible intro QQ hQQ
      refine aw_ret ?_; refine ⟨.inr rfl, ?_⟩; simp only [resA, res1, go_sem, ↓reduceIte]
      unfold cntL
      rw [if_neg (show ¬ (2 : Int) = 0 by decide), if_neg (show ¬ (2 : Int) = 1 by decide), hX]
  · obtain ⟨m, rfl⟩ : ∃ m : Nat, at_ = m := ⟨at_.toNat, by omega⟩
    have hmX : m < X.length := by omega
    have hmP : m < P.length := by omega
    rcases h2 with h2 | h2
    · subst h2
      refine tw ?_; try with_reducible intro QQ hQQ
      refine ti ?_; try clear hQQ QQ
      refine tw ?_; try with_reducible intro QQ hQQ
      refine aw_ret ?_; refine ⟨.inr rfl, ?_⟩; simp only [resA, res1, go_sem, ↓reduceIte]
      unfold cntL
      rw [if_pos rfl]; rfl
    · subst h2
      refine tw ?_; try with_reducible intro QQ hQQ
      refine ti ?_; try clear hQQ QQ
      refine tw ?_; try with_reducible intro QQ hQQ
      refine ti ?_; try clear hQQ QQ
      refine tw ?_; try with_reducible intro QQ hQQ
      refine aw_ret ?_; refine ⟨.inr rfl, ?_⟩; simp only [resA, res1, go_sem, ↓reduceIte]
      unfold cntL
      rw [if_neg (show ¬ (1 : Int) = 0 by decide), if_pos rfl]; rfl
end Go.Proofs.Ytejbglbiefpagaa
