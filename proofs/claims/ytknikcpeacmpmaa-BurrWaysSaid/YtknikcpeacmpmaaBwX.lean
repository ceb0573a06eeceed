/- burr, the law BurrWays: what its callback turns. -/
import Derived.Test.YtknikcpeacmpmaaBwI
import Derived.Test.YtknikcpeacmpmaaKk
import Derived.Test.YtknikcpeacmpmaaBwY
import Derived.Test.YtknikcpeacmpmaaBxI
set_option linter.all false
namespace Go.Proofs.Ytknikcpeacmpmaa
open Go Go.RowKit Go.Sh Go.Pv
set_option maxHeartbeats 8000000
set_option maxRecDepth 8000
set_option pp.maxSteps 60000
/-- The box of what is in all, and in some. -/
def asC (q : Nat × Option Nat) : List AC := [.p (iP (iO q.2)), .p (iP q.1)]
section
variable {N L U T : Nat} {bales : List (Int × Int)} {tests : List (Int × Bool)}
theorem c_ways40 {Z : Zn} {w0 : World} {cap : Nat → Prop} {nt : Nat} {rd : Option Nat} {pan : List PanicEntry → St → Prop} {df : Option Nat} {dk : List Nat} {rg : Bool} {fr : List (Nat × AV)} {hp : List (Nat × Obj')} {nx a b c d e : Nat} {m h cnt tidy : Nat} {q1 q2 : Nat × Option Nat}
    (hm : m < 64) (hh : h < 64) (hT : T < 64) (hc : cnt < 4096) (ht : tidy ≤ cnt) (l1 : q1.1 < 64) (l2 : ltO q1.2) (l3 : q2.1 < 64) (l4 : ltO q2.2)
    (ha : AL.get hp a = some (.box [.p (iP cnt)])) (hb : AL.get hp b = some (.box (asC q1))) (hcB : AL.get hp c = some (.box (asC q2))) (hd : AL.get hp d = some (.box (buC N L U T bales tests))) (he : AL.get hp e = some (.box [.p (iP tidy)]))
    (hne : a ≠ b ∧ a ≠ c ∧ a ≠ d ∧ a ≠ e ∧ b ≠ c ∧ b ≠ d ∧ b ≠ e ∧ c ≠ d ∧ c ≠ e ∧ d ≠ e) :
    CallF ⟨Try.prog, Z, w0, cap, nt, rd, pan, df, dk, rg⟩ 40 [.one (.p (iP m)), .one (.p (iP h)), .one (.box a 0), .one (.box b 0), .one (.box c 0), .one (.box d 0), .one (.box e 0)] ⟨fr, hp, nx⟩ fun st' av => st' = ⟨fr, [(a, .box [.p (iP ((cnt + 1 : Nat) : Int))]), (b, .box (asC (seeS q1 m))), (c, .box (asC (seeS q2 h))), (e, .box [.p (iP ((if h &&& T = 0 then tidy + 1 else tidy : Nat) : Int))])] ++ hp, nx⟩ ∧ av = .tup [] := by
  obtain ⟨n1, n2, n3, n4, n5, n6, n7, n8, n9, n10⟩ := hne
  have ha1 : ∀ (T : TypeId) (x y : Operand), binA Try.prog .and T x y (.int .i64 (iO q1.2)) (.int .i64 (m : Int)) = some (.int .i64 ((andO q1.2 m : Nat) : Int)) := fun T x y => and_iO l2 hm
  have ha2 : ∀ (T : TypeId) (x y : Operand), binA Try.prog .and T x y (.int .i64 (iO q2.2)) (.int .i64 (h : Int)) = some (.int .i64 ((andO q2.2 h : Nat) : Int)) := fun T x y => and_iO l4 hh
  have ho1 : ∀ (T : TypeId) (x y : Operand), binA Try.prog .or T x y (.int .i64 (q1.1 : Int)) (.int .i64 (m : Int)) = some (.int .i64 ((q1.1 ||| m : Nat) : Int)) := fun T x y => bin_or_nat T x y (by omega) (by omega)
  have ho2 : ∀ (T : TypeId) (x y : Operand), binA Try.prog .or T x y (.int .i64 (q2.1 : Int)) (.int .i64 (h : Int)) = some (.int .i64 ((q2.1 ||| h : Nat) : Int)) := fun T x y => bin_or_nat T x y (by omega) (by omega)
  have haT : ∀ (T' : TypeId) (x y : Operand), binA Try.prog .and T' x y (.int .i64 (h : Int)) (.int .i64 (T : Int)) = some (.int .i64 ((h &&& T : Nat) : Int)) := fun T' x y => bin_and_nat T' x y (by omega) (by omega)
  (refine callF_to (nt := 38) (rs := []) Try.func40 rfl rfl rfl (by simp) fun hcl tm Ds => ?_); simp only [initV]
  have hlt := hcl.lt
  dsimp only [Kx.calleeT] at hlt ⊢
  have la := hlt a _ ha
  have lb := hlt b _ hb
  have lc := hlt c _ hcB
  have ld := hlt d _ hd
  have le := hlt e _ he
  unfold asC at hb hcB
  unfold buC at hd
  (repeat (first | apply aw_seq | apply aw_block | apply aw_skip | apply aw_label | apply aw_exit | ((first | refine aw_region (hideO fun QQ hQQ => ?_) | refine aw_draw mixed (hideD fun QQ hQQ => ?_)); simp (maxSteps := 400000) (disch := first | decide | omega) only [ha, hb, hcB, hd, he, ha1, ha2, ho1, ho2, haT, go_sem, ↓reduceIte]; try (first | with_reducible refine unhide hQQ ?_ | refine ⟨by kernel_rfl, unhide hQQ ?_⟩); clear hQQ QQ) | with_reducible first | apply then_n | apply block_n | apply then_x | apply then_r | apply nog_n | apply nog_r | apply block_r | apply block_e (by decide) | apply block_x (by decide)))
  by_cases h0 : h &&& T = 0
  · rw [if_pos h0]
    refine aw_cond2 (by simp (disch := first | decide | omega) only [ha, hb, hcB, hd, he, ha1, ha2, ho1, ho2, haT, go_sem, ↓reduceIte]; rfl) ?_; first | refine .inl ⟨by first | rfl | exact decide_eq_true (by omega) | exact decide_eq_true (by assumption) | (simp (disch := first | decide | omega) only [if_pos_d, if_neg_d, decide_eq_true_eq, Bool.not_eq_true', decide_eq_false_iff_not]; omega), ?_⟩ | refine .inr ⟨by first | rfl | exact decide_eq_false (by omega) | exact decide_eq_false (by assumption) | (simp (disch := first | decide | omega) only [if_pos_d, if_neg_d, decide_eq_true_eq, Bool.not_eq_true', decide_eq_false_iff_not]; omega), ?_⟩
    (repeat (first | apply aw_seq | apply aw_block | apply aw_skip | apply aw_label | apply aw_exit | ((first | refine aw_region (hideO fun QQ hQQ => ?_) | refine aw_draw mixed (hideD fun QQ hQQ => ?_)); simp (maxSteps := 400000) (disch := first | decide | omega) only [ha, hb, hcB, hd, he, ha1, ha2, ho1, ho2, haT, go_sem, ↓reduceIte]; try (first | with_reducible refine unhide hQQ ?_ | refine ⟨by kernel_rfl, unhide hQQ ?_⟩); clear hQQ QQ) | with_reducible first | apply then_n | apply block_n | apply then_x | apply then_r | apply nog_n | apply nog_r | apply block_r | apply block_e (by decide) | apply block_x (by decide)))
    refine ⟨.inl rfl, left_app [(a, .box [.p (iP ((cnt + 1 : Nat) : Int))]), (b, .box (asC (seeS q1 m))), (c, .box (asC (seeS q2 h))), (e, .box [.p (iP ((tidy + 1 : Nat) : Int))])] hcl ?_ ?_ ?_ ?_ ⟨rfl, rfl⟩⟩
    · intro id o ho
      rcases get_cons_cases ho with ⟨rfl, rfl⟩ | ho
      · exact ⟨⟨_, ha⟩, rfl, fun _ _ h => by cases h⟩
      rcases get_cons_cases ho with ⟨rfl, rfl⟩ | ho
      · exact ⟨⟨_, hb⟩, rfl, fun _ _ h => by cases h⟩
      rcases get_cons_cases ho with ⟨rfl, rfl⟩ | ho
      · exact ⟨⟨_, hcB⟩, rfl, fun _ _ h => by cases h⟩
      rcases get_cons_cases ho with ⟨rfl, rfl⟩ | ho
      · exact ⟨⟨_, he⟩, rfl, fun _ _ h => by cases h⟩
      · cases ho
    · simp (disch := first | decide | omega) only [go_sem, ↓reduceIte]; try rfl
    · intro id o ho
      rcases get_cons_cases ho with ⟨rfl, rfl⟩ | ho
      · simp (disch := first | decide | omega) only [go_sem, ↓reduceIte]; try rfl
      rcases get_cons_cases ho with ⟨rfl, rfl⟩ | ho
      · simp (disch := first | decide | omega) only [go_sem, ↓reduceIte]; try rfl
      rcases get_cons_cases ho with ⟨rfl, rfl⟩ | ho
      · simp (disch := first | decide | omega) only [go_sem, ↓reduceIte]; try rfl
      rcases get_cons_cases ho with ⟨rfl, rfl⟩ | ho
      · simp (disch := first | decide | omega) only [go_sem, ↓reduceIte]; first | done | rfl | exact he
      · cases ho
    · intro id o hid hno ho
      have e1 : id ≠ a := by rintro rfl; rw [AL.get_eq] at hno; cases hno
      rw [AL.get_ne _ _ e1] at hno
      have e2 : id ≠ b := by rintro rfl; rw [AL.get_eq] at hno; cases hno
      rw [AL.get_ne _ _ e2] at hno
      have e3 : id ≠ c := by rintro rfl; rw [AL.get_eq] at hno; cases hno
      rw [AL.get_ne _ _ e3] at hno
      have e4 : id ≠ e := by rintro rfl; rw [AL.get_eq] at hno; cases hno
      simp (disch := first | decide | omega) only [go_sem, ↓reduceIte]
      exact ho
  · rw [if_neg h0]
    refine ti ?_; try clear hQQ QQ
    refine tw ?_; try with_reducible intro QQ hQQ
    refine ⟨.inl rfl, left_app [(a, .box [.p (iP ((cnt + 1 : Nat) : Int))]), (b, .box (asC (seeS q1 m))), (c, .box (asC (seeS q2 h))), (e, .box [.p (iP ((tidy : Nat) : Int))])] hcl ?_ ?_ ?_ ?_ ⟨rfl, rfl⟩⟩
    · intro id o ho
      rcases get_cons_cases ho with ⟨rfl, rfl⟩ | ho
      · exact ⟨⟨_, ha⟩, rfl, fun _ _ h => by cases h⟩
      rcases get_cons_cases ho with ⟨rfl, rfl⟩ | ho
      · exact ⟨⟨_, hb⟩, rfl, fun _ _ h => by cases h⟩
      rcases get_cons_cases ho with ⟨rfl, rfl⟩ | ho
      · exact ⟨⟨_, hcB⟩, rfl, fun _ _ h => by cases h⟩
      rcases get_cons_cases ho with ⟨rfl, rfl⟩ | ho
      · exact ⟨⟨_, he⟩, rfl, fun _ _ h => by cases h⟩
      · cases ho
    · simp (disch := first | decide | omega) only [go_sem, ↓reduceIte]; try rfl
    · intro id o ho
      rcases get_cons_cases ho with ⟨rfl, rfl⟩ | ho
      · simp (disch := first | decide | omega) only [go_sem, ↓reduceIte]; try rfl
      rcases get_cons_cases ho with ⟨rfl, rfl⟩ | ho
      · simp (disch := first | decide | omega) only [go_sem, ↓reduceIte]; try rfl
      rcases get_cons_cases ho with ⟨rfl, rfl⟩ | ho
      · simp (disch := first | decide | omega) only [go_sem, ↓reduceIte]; try rfl
      rcases get_cons_cases ho with ⟨rfl, rfl⟩ | ho
      · simp (disch := first | decide | omega) only [go_sem, ↓reduceIte]; first | done | rfl | exact he
      · cases ho
    · intro id o hid hno ho
      have e1 : id ≠ a := by rintro rfl; rw [AL.get_eq] at hno; cases hno
      rw [AL.get_ne _ _ e1] at hno
      have e2 : id ≠ b := by rintro rfl; rw [AL.get_eq] at hno; cases hno
      rw [AL.get_ne _ _ e2] at hno
      have e3 : id ≠ c := by rintro rfl; rw [AL.get_eq] at hno; cases hno
      rw [AL.get_ne _ _ e3] at hno
      have e4 : id ≠ e := by rintro rfl; rw [AL.get_eq] at hno; cases hno
      simp (disch := first | decide | omega) only [go_sem, ↓reduceIte]
      exact ho
end
end Go.Proofs.Ytknikcpeacmpmaa
