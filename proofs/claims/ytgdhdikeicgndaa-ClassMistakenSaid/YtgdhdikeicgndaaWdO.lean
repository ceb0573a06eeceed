/- classer: what is drawn for a truth, and the truth that is drawn: walked. -/
import Derived.Test.YtgdhdikeicgndaaWdA
import Derived.Test.YtgdhdikeicgndaaPvAp
import Derived.Test.YtgdhdikeicgndaaKpv1
set_option linter.all false
namespace Go.Proofs.Ytgdhdikeicgndaa
open Go Go.RowKit Go.Sh Go.Pv Go.Cl
set_option maxHeartbeats 8000000
set_option maxRecDepth 20000
set_option pp.maxSteps 60000
theorem conv127 (a : Int) : convA Try.prog 127 3 (.int .u16 a) = some (.int .i64 (IntKind.i64.wrap a)) := conv_int (d := .int .u16) (by kernel_rfl) (by kernel_rfl) .u16 a
/-- A row of a number of 16 bits. -/
def rowH (n : Int) : List PV := [.v (.int .u16 n)]
attribute [local go_sem] rowH conv127 bin_rem
theorem c_draw94 {Z : Zn} {w0 : World} {cap : Nat → Prop} {nt : Nat} {rd : Option Nat} {pan : List PanicEntry → St → Prop} {df : Option Nat} {dk : List Nat} {rg : Bool} {fr : List (Nat × AV)} {hp : List (Nat × Obj')} {nx : Nat} {A B a : Nat} {by_ : List Int}
    (ha : a ≤ 100) (hby : ∀ x ∈ by_, 0 ≤ x ∧ x ≤ 65535) (lo hi : Int) (hl : -1000 ≤ lo) (hlh : lo ≤ hi) (hh : hi ≤ 1000)
    (hA : AL.get hp A = some (.box [.p (iP a)])) (hB : AL.get hp B = some (.box [.p (.sl (by_.map rowH))])) (hAB : A ≠ B) :
    CallF ⟨Try.prog, Z, w0, cap, nt, rd, pan, df, dk, rg⟩ 94 [.one (.p (iP lo)), .one (.p (iP hi)), .one (.box A 0), .one (.box B 0)] ⟨fr, hp, nx⟩ fun st' av => ∃ r, lo ≤ r ∧ r ≤ hi ∧ st' = ⟨fr, (A, .box [.p (iP ((a + 1 : Nat) : Int))]) :: hp, nx⟩ ∧ av = .one (.p (iP r)) := by
  (refine callF_to (nt := 31) (rs := [.tmp 6]) Try.func94 rfl rfl rfl (by simp) fun hcl tm Ds => ?_); simp only [initV]
  dsimp only [Kx.calleeT]
  have hlt := hcl.lt
  dsimp only at hlt
  have lA := hlt A _ hA
  have lB := hlt B _ hB
  have ea : (a : Int) + 1 = ((a + 1 : Nat) : Int) := by omega
  have fin : ∀ {hpZ : List (Nat × Obj')} (r : Int), lo ≤ r → r ≤ hi → AL.get hpZ A = some (.box [.p (iP ((a + 1 : Nat) : Int))]) → (∀ id o, id ≠ A → id < nx → AL.get hp id = some o → AL.get hpZ id = some o) → ∃ T : St, T.fr = fr ∧ Closed T ∧ (∀ id o, AL.get T.hp id = some o → AL.get hpZ id = some o) ∧ (∀ i, i ∈ refsV (.one (.p (iP r)) : AV) → ∃ o, AL.get T.hp i = some o) ∧ ∃ r', lo ≤ r' ∧ r' ≤ hi ∧ T = ⟨fr, (A, .box [.p (iP ((a + 1 : Nat) : Int))]) :: hp, nx⟩ ∧ (.one (.p (iP r)) : AV) = .one (.p (iP r')) := by
    intro hpZ r h1 h2 h3 h4
    refine ⟨⟨fr, (A, .box [.p (iP ((a + 1 : Nat) : Int))]) :: hp, nx⟩, rfl, ?_, fun id o ho => ?_, fun i hi => by simp [refsV, refsC] at hi, r, h1, h2, rfl, rfl⟩
    · exact hcl.set hA (fun _ _ h => by cases h) (fun i hi => by simp [refsO, refsC] at hi)
    · have ho : AL.get ((A, Obj'.box [.p (iP ((a + 1 : Nat) : Int))]) :: hp) id = some o := ho
      by_cases e : id = A
      · subst e
        rw [AL.get_eq] at ho
        cases ho
        exact h3
      · rw [AL.get_ne _ _ e] at ho
        exact h4 id o e (hlt id o ho) ho
  by_cases hb0 : by_.length = 0
  · (repeat (first | apply aw_seq | apply aw_block | apply aw_skip | apply aw_label | apply aw_exit | ((first | refine aw_region (hideO fun QQ hQQ => ?_) | refine aw_draw mixed (hideD fun QQ hQQ => ?_)); simp (maxSteps := 400000) (disch := first | decide | omega) only [hA, hB, ea, go_sem, ↓reduceIte]; try (first | with_reducible refine unhide hQQ ?_ | refine ⟨by kernel_rfl, unhide hQQ ?_⟩); clear hQQ QQ) | with_reducible first | apply then_n | apply block_n | apply then_x | apply then_r | apply nog_n | apply nog_r | apply block_r | apply block_e (by decide) | apply block_x (by decide)))
    refine aw_cond2 (by simp (disch := first | decide | omega) only [hA, hB, ea, go_sem, ↓reduceIte]; rfl) ?_; first | refine .inl ⟨by first | rfl | exact decide_eq_true (by omega) | exact decide_eq_true (by assumption) | (simp (disch := first | decide | omega) only [if_pos_d, if_neg_d, decide_eq_true_eq, Bool.not_eq_true', decide_eq_false_iff_not]; omega), ?_⟩ | refine .inr ⟨by first | rfl | exact decide_eq_false (by omega) | exact decide_eq_false (by assumption) | (simp (disch := first | decide | omega) only [if_pos_d, if_neg_d, decide_eq_true_eq, Bool.not_eq_true', decide_eq_false_iff_not]; omega), ?_⟩
    (repeat (first | apply aw_seq | apply aw_block | apply aw_skip | apply aw_label | apply aw_exit | ((first | refine aw_region (hideO fun QQ hQQ => ?_) | refine aw_draw mixed (hideD fun QQ hQQ => ?_)); simp (maxSteps := 400000) (disch := first | decide | omega) only [hA, hB, ea, go_sem, ↓reduceIte]; try (first | with_reducible refine unhide hQQ ?_ | refine ⟨by kernel_rfl, unhide hQQ ?_⟩); clear hQQ QQ) | with_reducible first | apply then_n | apply block_n | apply then_x | apply then_r | apply nog_n | apply nog_r | apply block_r | apply block_e (by decide) | apply block_x (by decide)))
    exact aw_ret ⟨.inr rfl, _, by simp (disch := first | decide | omega) only [hA, hB, ea, go_sem, ↓reduceIte]; try rfl, by simp (disch := first | decide | omega) only [hA, hB, ea, go_sem, ↓reduceIte]; try rfl, fin lo (by omega) (by omega) (by simp (disch := first | decide | omega) only [hA, hB, ea, go_sem, ↓reduceIte]; try rfl) (fun id o h1 h2 h3 => by simp (disch := first | decide | omega) only [hA, hB, ea, go_sem, ↓reduceIte]; exact h3)⟩
  · obtain ⟨j, hj⟩ : ∃ j, (a + 1) % by_.length = j := ⟨_, rfl⟩
    have hjl : j < by_.length := by rw [← hj]; exact Nat.mod_lt _ (by omega)
    have htm : ((a + 1 : Nat) : Int).tmod (by_.length : Int) = (j : Int) := by rw [Int.tmod_eq_emod_of_nonneg (by omega), ← hj]; rfl
    have hx := hby _ (mem_of_getD (d := 0) hjl)
    generalize hg : by_.getD j 0 = x at hx
    have hm : 0 ≤ (x + 53 * ((a + 1 : Nat) : Int)).tmod (hi - lo + 1) ∧ (x + 53 * ((a + 1 : Nat) : Int)).tmod (hi - lo + 1) < hi - lo + 1 := ⟨Int.tmod_nonneg _ (by omega), Int.tmod_lt_of_pos _ (by omega)⟩
    (repeat (first | apply aw_seq | apply aw_block | apply aw_skip | apply aw_label | apply aw_exit | ((first | refine aw_region (hideO fun QQ hQQ => ?_) | refine aw_draw mixed (hideD fun QQ hQQ => ?_)); simp (maxSteps := 400000) (disch := first | decide | omega) only [hA, hB, ea, htm, hg, go_sem, ↓reduceIte]; try (first | with_reducible refine unhide hQQ ?_ | refine ⟨by kernel_rfl, unhide hQQ ?_⟩); clear hQQ QQ) | with_reducible first | apply then_n | apply block_n | apply then_x | apply then_r | apply nog_n | apply nog_r | apply block_r | apply block_e (by decide) | apply block_x (by decide)))
    refine aw_cond2 (by simp (disch := first | decide | omega) only [hA, hB, ea, htm, hg, go_sem, ↓reduceIte]; rfl) ?_; first | refine .inl ⟨by first | rfl | exact decide_eq_true (by omega) | exact decide_eq_true (by assumption) | (simp (disch := first | decide | omega) only [if_pos_d, if_neg_d, decide_eq_true_eq, Bool.not_eq_true', decide_eq_false_iff_not]; omega), ?_⟩ | refine .inr ⟨by first | rfl | exact decide_eq_false (by omega) | exact decide_eq_false (by assumption) | (simp (disch := first | decide | omega) only [if_pos_d, if_neg_d, decide_eq_true_eq, Bool.not_eq_true', decide_eq_false_iff_not]; omega), ?_⟩
    (repeat (first | apply aw_seq | apply aw_block | apply aw_skip | apply aw_label | apply aw_exit | ((first | refine aw_region (hideO fun QQ hQQ => ?_) | refine aw_draw mixed (hideD fun QQ hQQ => ?_)); simp (maxSteps := 400000) (disch := first | decide | omega) only [hA, hB, ea, htm, hg, go_sem, ↓reduceIte]; try (first | with_reducible refine unhide hQQ ?_ | refine ⟨by kernel_rfl, unhide hQQ ?_⟩); clear hQQ QQ) | with_reducible first | apply then_n | apply block_n | apply then_x | apply then_r | apply nog_n | apply nog_r | apply block_r | apply block_e (by decide) | apply block_x (by decide)))
    exact aw_ret ⟨.inr rfl, _, by simp (disch := first | decide | omega) only [hA, hB, ea, htm, hg, go_sem, ↓reduceIte]; try rfl, by simp (disch := first | decide | omega) only [hA, hB, ea, htm, hg, go_sem, ↓reduceIte]; try rfl, fin _ (by omega) (by omega) (by simp (disch := first | decide | omega) only [hA, hB, ea, htm, hg, go_sem, ↓reduceIte]; try rfl) (fun id o h1 h2 h3 => by simp (disch := first | decide | omega) only [hA, hB, ea, htm, hg, go_sem, ↓reduceIte]; exact h3)⟩
end Go.Proofs.Ytgdhdikeicgndaa
