/- burr: what the document tells, walked. -/
import Derived.Test.YtknikcpeacmpmaaBwM
import Derived.Test.YtknikcpeacmpmaaBxG
set_option linter.all false
namespace Go.Proofs.Ytknikcpeacmpmaa
open Go Go.RowKit Go.Sh Go.Pv
set_option maxHeartbeats 8000000
set_option maxRecDepth 8000
set_option pp.maxSteps 60000
section
variable {n lo hi top : Int} {bales : List (Int × Int)} {tests : List (Int × Bool)}
theorem ok_Every (ht : tests.length ≤ 6) : FunOK Try.prog 81 [buR n lo hi top bales tests] (.one (.one (iP ((2 ^ tests.length - 1 : Nat) : Int)))) := by
  have hp := ok_power tests.length (by omega)
  have hp0 := Nat.two_pow_pos tests.length
  have ecast : ((2 ^ tests.length : Nat) : Int) - 1 = ((2 ^ tests.length - 1 : Nat) : Int) := by omega
  have h64 := pow64 ht
  generalize 2 ^ tests.length = X at *
  simp only [buR]
  refine fun_ok (nt := 8) (rs := [.tmp 2]) Try.func81 rfl rfl rfl (by simp) fun Z w0 => ?_; simp only [initFr, avR, List.map_cons, List.map_nil]
  (repeat (first | apply aw_seq | apply aw_block | apply aw_skip | apply aw_label | apply aw_exit | ((first | refine aw_region (hideO fun QQ hQQ => ?_) | refine aw_draw mixed (hideD fun QQ hQQ => ?_)); simp (maxSteps := 400000) (disch := first | decide | omega) only [ecast, go_sem, ↓reduceIte]; try (first | with_reducible refine unhide hQQ ?_ | refine ⟨by kernel_rfl, unhide hQQ ?_⟩); clear hQQ QQ) | with_reducible first | apply then_n | apply block_n | apply then_x | apply then_r | apply nog_n | apply nog_r | apply block_r | apply block_e (by decide) | apply block_x (by decide)))
  ((refine callO_ok rfl rfl 72 true rfl (by simp (disch := first | decide | omega) only [ecast, go_sem, ↓reduceIte]; try rfl) (fun _ => rfl) (hp) Try.func72 rfl (by decide) ?_); simp (maxSteps := 400000) (disch := first | decide | omega) only [ecast, go_sem, ↓reduceIte]; try (with_reducible refine unhide hQQ ?_; clear hQQ QQ)); (repeat (first | apply aw_seq | apply aw_block | apply aw_skip | apply aw_label | apply aw_exit | ((first | refine aw_region (hideO fun QQ hQQ => ?_) | refine aw_draw mixed (hideD fun QQ hQQ => ?_)); simp (maxSteps := 400000) (disch := first | decide | omega) only [ecast, go_sem, ↓reduceIte]; try (first | with_reducible refine unhide hQQ ?_ | refine ⟨by kernel_rfl, unhide hQQ ?_⟩); clear hQQ QQ) | with_reducible first | apply then_n | apply block_n | apply then_x | apply then_r | apply nog_n | apply nog_r | apply block_r | apply block_e (by decide) | apply block_x (by decide)))
  refine aw_ret ?_; refine ⟨.inr rfl, ?_⟩; simp only [resA, res1, go_sem, ↓reduceIte]
theorem ok_Truths {N L U T : Nat} (hB : BOK N L U T bales tests) : FunOK Try.prog 66 [buR N L U T bales tests] (.one (.one (.sl ((TR N L U bales tests).map rowT)))) := by
  have hE := ok_Every (n := N) (lo := L) (hi := U) (top := T) (bales := bales) hB.t6
  have hp0 := Nat.two_pow_pos tests.length
  have h64 := pow64 hB.t6
  have ht := ok_truths hB (2 ^ tests.length - 1) (by omega)
  rw [sel_all] at ht
  generalize 2 ^ tests.length - 1 = X at *
  simp only [buR] at hE ht ⊢
  refine fun_ok (nt := 7) (rs := [.tmp 2]) Try.func66 rfl rfl rfl (by simp) fun Z w0 => ?_; simp only [initFr, avR, List.map_cons, List.map_nil]
  refine tw ?_; try with_reducible intro QQ hQQ
  (refine cD 81 rfl rfl rfl (hE) Try.func81 rfl ?_); refine td ?_; try clear hQQ QQ
  ((refine cG 82 rfl rfl rfl (ht) Try.func82 rfl ?_); refine tv ?_; try clear hQQ QQ); refine tw ?_; try with_reducible intro QQ hQQ
  refine aw_ret ?_; refine ⟨.inr rfl, ?_⟩; simp only [resA, res1, go_sem, ↓reduceIte]
/-- The truths that are told, or why not. -/
def toldL (n lo hi top : Int) (bales : List (Int × Int)) (tests : List (Int × Bool)) : List (Nat × Nat) := if burrB n lo hi top bales tests = true then TR n.toNat lo.toNat hi.toNat bales tests else []
theorem TR_len (N L U : Nat) (hN : N ≤ 5) (hb6 : bales.length ≤ 6) : (TR N L U bales tests).length ≤ 2048 := by
  rw [← TRp_end]
  have := TRp_len (L := L) (U := U) (us := tests) (2 ^ N) 0 hb6
  have := pow32 hN
  omega
theorem ok_toldR : FunOK Try.prog 53 [buR n lo hi top bales tests] (.tup [.one (.sl ((toldL n lo hi top bales tests).map rowT)), .one (iP (whyT n lo hi top bales tests))]) := by
  have hBu := ok_Burr (n := n) (lo := lo) (hi := hi) (top := top) (bales := bales) (tests := tests)
  cases hv : burrB n lo hi top bales tests
  · have e1 : toldL n lo hi top bales tests = [] := by simp [toldL, hv]
    have e2 : whyT n lo hi top bales tests = 1 := by simp [whyT, hv]
    rw [e1, e2]
    rw [hv] at hBu
    simp only [buR] at hBu ⊢
    refine fun_ok (nt := 14) (rs := [.tmp 2, .tmp 3]) Try.func53 rfl rfl rfl (by simp) fun Z w0 => ?_; simp only [initFr, avR, List.map_cons, List.map_nil]
    refine tw ?_; try with_reducible intro QQ hQQ
    ((refine cO 35 rfl rfl rfl (hBu) Try.func35 rfl ?_); refine tu ?_; try clear hQQ QQ); refine tw ?_; try with_reducible intro QQ hQQ
    refine ti ?_; try clear hQQ QQ
    refine tw ?_; try with_reducible intro QQ hQQ
    refine aw_ret ?_; refine ⟨.inr rfl, ?_⟩; simp only [resA, res1, go_sem, ↓reduceIte]
    try rfl
  · rw [hv] at hBu
    obtain ⟨N, L, U, T, rfl, rfl, rfl, rfl, hB⟩ := bok_of hv
    have hT := ok_Truths hB
    have e1 : toldL N L U T bales tests = TR N L U bales tests := by unfold toldL; rw [hv, if_pos rfl]; rfl
    have e2 : whyT N L U T bales tests = if (TR N L U bales tests).length = 0 then 10 else 0 := by
      unfold whyT
      rw [hv, if_pos rfl, ← count_TR hB.b6 hB.te6]
      rfl
    rw [e1, e2]
    have hln := TR_len (bales := bales) (tests := tests) N L U hB.n5 hB.b6
    simp only [buR] at hBu hT ⊢
    generalize TR N L U bales tests = l at *
    by_cases h0 : l.length = 0
    · have : l = [] := List.length_eq_zero_iff.1 h0
      subst this
      rw [show (if ([] : List (Nat × Nat)).length = 0 then (10 : Int) else 0) = 10 from rfl]
      refine fun_ok (nt := 14) (rs := [.tmp 2, .tmp 3]) Try.func53 rfl rfl rfl (by simp) fun Z w0 => ?_; simp only [initFr, avR, List.map_cons, List.map_nil]
      refine tw ?_; try with_reducible intro QQ hQQ
      ((refine cO 35 rfl rfl rfl (hBu) Try.func35 rfl ?_); refine tu ?_; try clear hQQ QQ); refine tw ?_; try with_reducible intro QQ hQQ
      refine ti ?_; try clear hQQ QQ
      refine tw ?_; try with_reducible intro QQ hQQ
      ((refine cB 66 rfl rfl rfl (hT) Try.func66 rfl ?_); refine tu ?_; try clear hQQ QQ); refine tw ?_; try with_reducible intro QQ hQQ
      refine ti ?_; try clear hQQ QQ
      refine tw ?_; try with_reducible intro QQ hQQ
      refine aw_ret ?_; refine ⟨.inr rfl, ?_⟩; simp only [resA, res1, go_sem, ↓reduceIte]
      try rfl
    · rw [if_neg h0]
      refine fun_ok (nt := 14) (rs := [.tmp 2, .tmp 3]) Try.func53 rfl rfl rfl (by simp) fun Z w0 => ?_; simp only [initFr, avR, List.map_cons, List.map_nil]
      refine tw ?_; try with_reducible intro QQ hQQ
      ((refine cO 35 rfl rfl rfl (hBu) Try.func35 rfl ?_); refine tu ?_; try clear hQQ QQ); refine tw ?_; try with_reducible intro QQ hQQ
      refine ti ?_; try clear hQQ QQ
      refine tw ?_; try with_reducible intro QQ hQQ
      ((refine cB 66 rfl rfl rfl (hT) Try.func66 rfl ?_); refine tu ?_; try clear hQQ QQ); refine tw ?_; try with_reducible intro QQ hQQ
      refine ti ?_; try clear hQQ QQ
      refine tw ?_; try with_reducible intro QQ hQQ
      refine aw_ret ?_; refine ⟨.inr rfl, ?_⟩; simp only [resA, res1, go_sem, ↓reduceIte]
/-- The truths' mobs, and bales, one after the other. -/
theorem get_someT {l : List (Nat × Nat)} {k : Nat} (h : k < l.length) : l[k]? = some (l.getD k (0, 0)) := by simp [List.getD, h]
theorem why_nil (h : whyT n lo hi top bales tests = 0) : toldL n lo hi top bales tests ≠ [] ∧ burrB n lo hi top bales tests = true ∧ toldL n lo hi top bales tests = TR n.toNat lo.toNat hi.toNat bales tests := by
  unfold whyT at h
  split at h
  · rename_i hv
    obtain ⟨N, L, U, T, rfl, rfl, rfl, rfl, hB⟩ := bok_of hv
    split at h
    · cases h
    · rename_i hc
      have e : toldL N L U T bales tests = TR N L U bales tests := by unfold toldL; rw [hv, if_pos rfl]; rfl
      refine ⟨fun h0 => hc ?_, hv, e⟩
      rw [e] at h0
      show cntF L U bales tests (2 ^ N) = 0
      rw [count_TR hB.b6 hB.te6, h0]; rfl
  · cases h
end
end Go.Proofs.Ytknikcpeacmpmaa
