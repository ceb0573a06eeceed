/- burr: which tests clash, without the program. -/
import Derived.Test.YtknikcpeacmpmaaBxE
import Derived.Test.YtknikcpeacmpmaaBwB
set_option linter.all false
namespace Go.Proofs.Ytknikcpeacmpmaa
open Go Go.RowKit Go.Sh Go.Pv
theorem popc_del_all : (List.range 64).all (fun x => (List.range 6).all fun i => !x.testBit i || (Nat.blt (popc (diffN x (2 ^ i))) (popc x))) = true := by decide +kernel
theorem popc_del {x i : Nat} (hx : x < 64) (h : x.testBit i = true) : popc (diffN x (2 ^ i)) < popc x := by
  have hi : i < 6 := Nat.lt_of_not_le fun hi => by rw [bit_out (n := 6) hx hi] at h; cases h
  have h1 := List.all_eq_true.1 popc_del_all x (List.mem_range.2 hx)
  have h2 := List.all_eq_true.1 h1 i (List.mem_range.2 hi)
  rw [h, Bool.not_true, Bool.false_or, Nat.blt_eq] at h2
  exact h2
theorem popc_pow : ∀ k, k ≤ 5 → popc (2 ^ k - 1) = k := by
  intro k hk
  rcases (show k = 0 ∨ k = 1 ∨ k = 2 ∨ k = 3 ∨ k = 4 ∨ k = 5 by omega) with rfl | rfl | rfl | rfl | rfl | rfl <;> decide +kernel
section
variable {N L U T : Nat} {bales : List (Int × Int)} {tests : List (Int × Bool)}
theorem sel_full : ∀ k, k ≤ tests.length → selT tests (2 ^ tests.length - 1) k = tests.take k
  | 0, _ => rfl
  | k + 1, h => by
    unfold selT
    rw [sel_full k (by omega), Nat.testBit_two_pow_sub_one, decide_eq_true (by omega), if_pos rfl, List.take_succ, List.getElem?_eq_getElem (by omega), List.getD_eq_getElem?_getD, List.getElem?_eq_getElem (by omega)]
    rfl
theorem sel_all : selT tests (2 ^ tests.length - 1) tests.length = tests := by rw [sel_full _ (Nat.le_refl _), List.take_length]
theorem sel_none : ∀ k, selT tests 0 k = []
  | 0 => rfl
  | k + 1 => by unfold selT; rw [sel_none k, Nat.zero_testBit]; rfl
theorem cnt_zero (hb6 : bales.length ≤ 6) {ts : List (Int × Bool)} (ht : ∀ t ∈ ts, 0 ≤ t.1 ∧ t.1 < 6) : cntF L U bales ts (2 ^ N) = 0 ↔ ∀ m h, m < 2 ^ N → rtB L U bales ts m h = false := by
  rw [count_TR hb6 ht, List.length_eq_zero_iff, List.eq_nil_iff_forall_not_mem]
  constructor
  · intro h m x hm
    rw [← Bool.not_eq_true]
    intro hr
    exact h (m, x) (mem_TR.2 ⟨hm, rt_lt hr, hr⟩)
  · rintro h ⟨m, x⟩ hm
    obtain ⟨h1, _, h3⟩ := mem_TR.1 hm
    rw [h m x h1] at h3; cases h3
/-- With fewer tests no fewer truths. -/
theorem rt_less {ts us : List (Int × Bool)} (hs : ∀ t ∈ us, t ∈ ts) {m h : Nat} (hr : rtB L U bales ts m h = true) : rtB L U bales us m h = true := by
  rw [rtB_iff] at hr ⊢
  exact ⟨hr.1, hr.2.1, fun t ht => hr.2.2 t (hs t ht)⟩
theorem clash_full (hB : BOK N L U T bales tests) {x : Nat} (h : clashP N L U bales tests x = true) : clashP N L U bales tests (2 ^ tests.length - 1) = true := by
  unfold clashP at h ⊢
  rw [decide_eq_true_iff] at h ⊢
  rw [sel_all]
  have hsub := selT_sub (tests := tests) (x := x) (Nat.le_refl tests.length)
  rw [cnt_zero hB.b6 fun t ht => hB.te6 t (hsub t ht)] at h
  rw [cnt_zero hB.b6 hB.te6]
  intro m y hm
  rw [← Bool.not_eq_true]
  intro hr
  have := rt_less hsub hr
  rw [h m y hm] at this; cases this
/-- Without tests there is a truth. -/
theorem truth_some (hB : BOK N L U T bales tests) : 0 < cntF L U bales [] (2 ^ N) := by
  refine Nat.pos_of_ne_zero fun h => ?_
  rw [cnt_zero hB.b6 (by simp)] at h
  have hlh := hB.lh
  have hhn := hB.hn
  have hn5 := hB.n5
  have hp := popc_pow L (by omega)
  have hlt : 2 ^ L - 1 < 2 ^ N := by
    have := Nat.pow_le_pow_right (show 0 < 2 by decide) (show L ≤ N by omega)
    have := Nat.two_pow_pos L
    omega
  generalize 2 ^ L - 1 = m0 at *
  have hr : rtB L U bales [] m0 (hitF (sN bales) m0 bales.length) = true := by
    rw [rtB_iff]
    refine ⟨⟨by omega, by omega⟩, ⟨hitF_lt _ _ _, fun i hi => ?_⟩, by simp⟩
    rw [hitF_bit]
    refine ⟨fun h => by simp [hi, h], fun h => ?_⟩
    simp [hi] at h
    obtain ⟨j, h1, h2⟩ := and_ne_iff.1 h
    exact and_ne_iff.2 ⟨j, (sub_iff.1 (hB.ba i hi).2.2) j h1, h2⟩
  rw [h _ _ hlt] at hr
  cases hr
theorem clash_none (hB : BOK N L U T bales tests) : clashP N L U bales tests 0 = false := by
  unfold clashP
  rw [sel_none]
  exact decide_eq_false (Nat.pos_iff_ne_zero.1 (truth_some hB))
theorem clash_any (hB : BOK N L U T bales tests) : (setsL tests.length).any (clashP N L U bales tests) = clashP N L U bales tests (2 ^ tests.length - 1) := by
  have hp := Nat.two_pow_pos tests.length
  rw [Bool.eq_iff_iff, any_sets hB.t6]
  constructor
  · rintro ⟨x, _, h⟩; exact clash_full hB h
  · intro h; exact ⟨_, by omega, h⟩
/-- What is returned clashes, and nothing less does. -/
theorem clash_least (hB : BOK N L U T bales tests) (h : clashP N L U bales tests (2 ^ tests.length - 1) = true) : 0 < clashS N L U bales tests ∧ clashS N L U bales tests < 2 ^ tests.length ∧ clashP N L U bales tests (clashS N L U bales tests) = true ∧ (∀ i, (clashS N L U bales tests).testBit i = true → clashP N L U bales tests (diffN (clashS N L U bales tests) (2 ^ i)) = false) ∧
    ∀ y, y < 2 ^ tests.length → clashP N L U bales tests y = true → popc (clashS N L U bales tests) < popc y ∨ (popc (clashS N L U bales tests) = popc y ∧ clashS N L U bales tests ≤ y) := by
  obtain ⟨g1, g2, g3⟩ := first_least (p := clashP N L U bales tests) hB.t6 (by rw [clash_any hB]; exact h)
  have hp6 := pow64 hB.t6
  refine ⟨Nat.pos_of_ne_zero fun h0 => ?_, g1, g2, fun i hi => ?_, g3⟩
  · have : clashS N L U bales tests = firstF (clashP N L U bales tests) (setsL tests.length) := rfl
    rw [← this, h0, clash_none hB] at g2
    cases g2
  · rw [← Bool.not_eq_true]
    intro hd
    have hlt := popc_del (show clashS N L U bales tests < 64 by unfold clashS; omega) hi
    have hle := diffN_le (clashS N L U bales tests) (2 ^ i)
    have := g3 _ (Nat.lt_of_le_of_lt hle g1) hd
    have hS : clashS N L U bales tests = firstF (clashP N L U bales tests) (setsL tests.length) := rfl
    rw [← hS] at this
    omega
end
end Go.Proofs.Ytknikcpeacmpmaa
