/- tally, the document: a tally is valid; the law's small functions. -/
import Derived.Test.YtejbglbiefpagaaTyB
import Derived.Test.YtejbglbiefpagaaTyA
set_option linter.all false
namespace Go.Proofs.Ytejbglbiefpagaa
open Go Go.RowKit Go.Sh Go.Pv
set_option maxHeartbeats 4000000
set_option maxRecDepth 8000
attribute [local go_sem] row4 get_some4
section
variable (n most : Int) (strays : List (Int × Int)) (calls : List (Int × Int × Int × Int))
def longB : Bool := decide (40 < max strays.length calls.length)
theorem ok_long : FunOK Try.prog 35 [tyR n most strays calls] (.one (.one (.v (.bool (longB strays calls))))) := by
  refine fun_ok (nt := 11) (rs := [.tmp 2]) Try.func35 rfl rfl rfl (by simp) fun Z w0 => ?_; simp only [initFr, avR, List.map_cons, List.map_nil]
  simp only [tyR, List.map_cons, List.map_nil]
  refine tw ?_; try with_reducible intro QQ hQQ
  refine aw_ret ?_; refine ⟨.inr rfl, ?_⟩; simp only [resA, res1, go_sem, ↓reduceIte]
  unfold longB
  by_cases h : strays.length ≤ calls.length
  · rw [Nat.max_eq_right h]
    simp; omega
  · rw [Nat.max_eq_left (by omega)]
    simp; omega
theorem ok_inside (d lo hi : Int) : FunOK Try.prog 40 [.one (iP d), .agg [iP lo, iP hi]] (.one (.one (.v (.bool (inB d lo hi))))) := by
  refine fun_ok (nt := 15) (rs := [.tmp 4]) Try.func40 rfl rfl rfl (by simp) fun Z w0 => ?_; simp only [initFr, avR, List.map_cons, List.map_nil]
  by_cases h : lo ≤ d
  · refine tw ?_; try with_reducible intro QQ hQQ
    refine aw_ret ?_; refine ⟨.inr rfl, ?_⟩; simp only [resA, res1, go_sem, ↓reduceIte]
    simp [inB, h]
  · refine tw ?_; try with_reducible intro QQ hQQ
    refine aw_ret ?_; refine ⟨.inr rfl, ?_⟩; simp only [resA, res1, go_sem, ↓reduceIte]
    simp [inB, h]
theorem ok_Tally36 : FunOK Try.prog 36 [tyR n most strays calls] (.one (.one (.v (.bool (validB n most strays calls))))) := by
  refine fun_ok (nt := 59) (rs := [.tmp 2]) Try.func36 rfl rfl rfl (by simp) fun Z w0 => ?_; simp only [initFr, avR, List.map_cons, List.map_nil]
  simp only [tyR, List.map_cons, List.map_nil]
  have w1 := ok_in73 n 1 5
  have w2 := ok_in73 most 0 60
  refine tw ?_; try with_reducible intro QQ hQQ
  cases b1 : inB n 1 5
  · rw [b1] at w1
    ((refine cO 73 rfl rfl rfl (w1) Try.func73 rfl ?_); refine tu ?_; try clear hQQ QQ); refine tw ?_; try with_reducible intro QQ hQQ
    refine ti ?_; try clear hQQ QQ
    refine tw ?_; try with_reducible intro QQ hQQ
    refine aw_ret ?_; refine ⟨.inr rfl, ?_⟩; simp only [resA, res1, go_sem, ↓reduceIte]
    simp [validB, b1]
  have hn1 : 1 ≤ n ∧ n ≤ 5 := by simpa [inB] using b1
  rw [b1] at w1
  cases b2 : inB most 0 60
  · rw [b2] at w2
    (refine cO 73 rfl rfl rfl (w1) Try.func73 rfl ?_); refine ts ?_; try clear hQQ QQ
    ((refine cO 73 rfl rfl rfl (w2) Try.func73 rfl ?_); refine tu ?_; try clear hQQ QQ); refine tw ?_; try with_reducible intro QQ hQQ
    refine ti ?_; try clear hQQ QQ
    refine tw ?_; try with_reducible intro QQ hQQ
    refine aw_ret ?_; refine ⟨.inr rfl, ?_⟩; simp only [resA, res1, go_sem, ↓reduceIte]
    simp [validB, b1, b2]
  rw [b2] at w2
  by_cases b3 : (strays.length : Int) = n - 1
  rotate_left
  · (refine cO 73 rfl rfl rfl (w1) Try.func73 rfl ?_); refine ts ?_; try clear hQQ QQ
    ((refine cO 73 rfl rfl rfl (w2) Try.func73 rfl ?_); refine tu ?_; try clear hQQ QQ); refine tw ?_; try with_reducible intro QQ hQQ
    refine ti ?_; try clear hQQ QQ
    refine tw ?_; try with_reducible intro QQ hQQ
    refine aw_ret ?_; refine ⟨.inr rfl, ?_⟩; simp only [resA, res1, go_sem, ↓reduceIte]
    simp [validB, b1, b2, b3]
  by_cases b4 : (calls.length : Int) ≤ 8
  rotate_left
  · (refine cO 73 rfl rfl rfl (w1) Try.func73 rfl ?_); refine ts ?_; try clear hQQ QQ
    ((refine cO 73 rfl rfl rfl (w2) Try.func73 rfl ?_); refine tu ?_; try clear hQQ QQ); refine tw ?_; try with_reducible intro QQ hQQ
    refine ti ?_; try clear hQQ QQ
    refine tw ?_; try with_reducible intro QQ hQQ
    refine aw_ret ?_; refine ⟨.inr rfl, ?_⟩; simp only [resA, res1, go_sem, ↓reduceIte]
    simp [validB, b1, b2, b3, b4]
  (refine cO 73 rfl rfl rfl (w1) Try.func73 rfl ?_); refine ts ?_; try clear hQQ QQ
  ((refine cO 73 rfl rfl rfl (w2) Try.func73 rfl ?_); refine tu ?_; try clear hQQ QQ); refine tw ?_; try with_reducible intro QQ hQQ
  refine ti ?_; try clear hQQ QQ
  refine tw ?_; try with_reducible intro QQ hQQ
  refine aw_weak (weak_keep [1, 3] (by simp only [go_sem, ↓reduceIte]; rfl)) ?_
  refine aw_loop_ov (ι := { i : Nat // i ≤ strays.length ∧ ∀ k, k < i → spanB (strays.getD k (0, 0)).1 (strays.getD k (0, 0)).2 (-3) 3 = true }) (fun i => [(3, iA i.1)]) (fun _ => []) (fun i => strays.length - i.1) ⟨0, by omega, fun k hk => by omega⟩ (by first | rfl | (simp only [go_sem, ↓reduceIte]; first | done | rfl | (simp; try rfl))) ?_
  rintro ⟨i, hi, hv⟩
  simp (disch := decide) only [ov, ovL, AL.get_nil, AL.get_eq, AL.get_ne, Option.getD_some, Option.getD_none]
  by_cases hil : i < strays.length
  · have hsp := ok_span94 (strays.getD i (0, 0)).1 (strays.getD i (0, 0)).2 (-3) 3
    cases bs : spanB (strays.getD i (0, 0)).1 (strays.getD i (0, 0)).2 (-3) 3
    · rw [bs] at hsp
      refine tw ?_; try with_reducible intro QQ hQQ
      refine ti ?_; try clear hQQ QQ
      refine tw ?_; try with_reducible intro QQ hQQ
      ((refine cO 94 rfl rfl rfl (hsp) Try.func94 rfl ?_); refine tu ?_; try clear hQQ QQ); refine tw ?_; try with_reducible intro QQ hQQ
      refine ti ?_; try clear hQQ QQ
      refine tw ?_; try with_reducible intro QQ hQQ
      refine aw_ret ?_; refine ⟨.inr rfl, ?_⟩; simp only [resA, res1, go_sem, ↓reduceIte]
      have : (strays.all fun s => spanB s.1 s.2 (-3) 3) = false := all_getD_f hil bs
      simp [validB, this]
    · rw [bs] at hsp
      refine tw ?_; try with_reducible intro QQ hQQ
      refine ti ?_; try clear hQQ QQ
      refine tw ?_; try with_reducible intro QQ hQQ
      ((refine cO 94 rfl rfl rfl (hsp) Try.func94 rfl ?_); refine tu ?_; try clear hQQ QQ); refine tw ?_; try with_reducible intro QQ hQQ
      refine ti ?_; try clear hQQ QQ
      refine tw ?_; try with_reducible intro QQ hQQ
      (refine ⟨⟨i + 1, by omega, fun k hk => by
        rcases Nat.lt_succ_iff_lt_or_eq.1 hk with h | rfl
        · exact hv k h
        · exact bs⟩, ?_, weak_round (by simp only [go_sem, ↓reduceIte]; first | done | rfl) (by first | rfl | (simp only [go_sem, ↓reduceIte]))⟩; (simp only; omega))
  · have hiN : i = strays.length := by omega
    subst hiN
    refine tw ?_; try with_reducible intro QQ hQQ
    refine ti ?_; try clear hQQ QQ
    refine tw ?_; try with_reducible intro QQ hQQ
    have hvs : (strays.all fun s => spanB s.1 s.2 (-3) 3) = true := all_getD.2 hv
    refine aw_weak (weak_keep [1, 4] (by simp only [go_sem, ↓reduceIte]; rfl)) ?_
    refine aw_loop_ov (ι := { i : Nat // i ≤ calls.length ∧ ∀ k, k < i → isCallB n (calls.getD k (0, 0, 0, 0)) = true }) (fun i => [(4, iA i.1)]) (fun _ => []) (fun i => calls.length - i.1) ⟨0, by omega, fun k hk => by omega⟩ (by first | rfl | (simp only [go_sem, ↓reduceIte]; first | done | rfl | (simp; try rfl))) ?_
    rintro ⟨j, hj, hw⟩
    simp (disch := decide) only [ov, ovL, AL.get_nil, AL.get_eq, AL.get_ne, Option.getD_some, Option.getD_none]
    by_cases hjl : j < calls.length
    · have hic := ok_Call72 n most strays calls (calls.getD j (0, 0, 0, 0)) (by omega)
      simp only [tyR, row4, List.map_cons, List.map_nil] at hic
      cases bc : isCallB n (calls.getD j (0, 0, 0, 0))
      · rw [bc] at hic
        refine tw ?_; try with_reducible intro QQ hQQ
        refine ti ?_; try clear hQQ QQ
        refine tw ?_; try with_reducible intro QQ hQQ
        (refine cD 72 rfl rfl rfl (hic) Try.func72 rfl ?_); refine td ?_; try clear hQQ QQ
        refine tw ?_; try with_reducible intro QQ hQQ
        refine ti ?_; try clear hQQ QQ
        refine tw ?_; try with_reducible intro QQ hQQ
        refine aw_ret ?_; refine ⟨.inr rfl, ?_⟩; simp only [resA, res1, go_sem, ↓reduceIte]
        have : (calls.all fun c => isCallB n c) = false := all_getD_f hjl bc
        simp [validB, this]
      · rw [bc] at hic
        refine tw ?_; try with_reducible intro QQ hQQ
        refine ti ?_; try clear hQQ QQ
        refine tw ?_; try with_reducible intro QQ hQQ
        (refine cD 72 rfl rfl rfl (hic) Try.func72 rfl ?_); refine td ?_; try clear hQQ QQ
        refine tw ?_; try with_reducible intro QQ hQQ
        refine ti ?_; try clear hQQ QQ
        refine tw ?_; try with_reducible intro QQ hQQ
        (refine ⟨⟨j + 1, by omega, fun k hk => by
          rcases Nat.lt_succ_iff_lt_or_eq.1 hk with h | rfl
          · exact hw k h
          · exact bc⟩, ?_, weak_round (by simp only [go_sem, ↓reduceIte]; first | done | rfl) (by first | rfl | (simp only [go_sem, ↓reduceIte]))⟩; (simp only; omega))
    · have hjN : j = calls.length := by omega
      subst hjN
      refine tw ?_; try with_reducible intro QQ hQQ
      refine ti ?_; try clear hQQ QQ
      refine tw ?_; try with_reducible intro QQ hQQ
      refine aw_ret ?_; refine ⟨.inr rfl, ?_⟩; simp only [resA, res1, go_sem, ↓reduceIte]
      have hvc : (calls.all fun c => isCallB n c) = true := all_getD.2 hw
      simp [validB, b1, b2, b3, b4, hvs, hvc]
end
theorem sh_bits (x k : Nat) : (x >>> k) % 2 = (x.testBit k).toNat := by
  rw [Nat.testBit_eq_decide_div_mod_eq, Nat.shiftRight_eq_div_pow]
  have : x / 2 ^ k % 2 < 2 := Nat.mod_lt _ (by decide)
  by_cases h : x / 2 ^ k % 2 = 1
  · rw [h]; rfl
  · rw [decide_eq_false h]; simp; omega
end Go.Proofs.Ytejbglbiefpagaa
