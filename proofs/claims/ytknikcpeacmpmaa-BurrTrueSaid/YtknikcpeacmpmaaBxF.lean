/- burr: which tests clash, without the program. -/
import Derived.Test.YtknikcpeacmpmaaBxE
import Derived.Test.YtknikcpeacmpmaaBwB
set_option linter.all false
namespace Go.Proofs.Ytknikcpeacmpmaa
open Go Go.RowKit Go.Sh Go.Pv
theorem popc_del_all : (List.range 64).all (fun x => (List.range 6).all fun i => !x.testBit i || (Nat.blt (popc (diffN x (2 ^ i))) (popc x))) = true := by decide +kernel
theorem popc_del {x i : Nat} (hx : x < 64) (h : x.testBit i = true) : popc (diffN x (2 ^ i)) < popc x := by
  have hi : i < 6 := Nat.lt_of_not_le fun hi => by rw [bit_out (n := 6) hx hi] at h; cases h
  have h1 := List.all_eq_true.1 popc_del_all x (List.mem_range.2 hx)
  have h2 := List.all_eq_true.1 h1 i (List.mem_range.2 hi)
  rw [h, Bool.not_true, Bool.false_or, Nat.blt_eq] at h2
  exact h2
section
variable {N L U T : Nat} {bales : List (Int × Int)} {tests : List (Int × Bool)}
theorem sel_full : ∀ k, k ≤ tests.length → selT tests (2 ^ tests.length - 1) k = tests.take k
  | 0, _ => rfl
  | k + 1, h => by
    unfold selT
    rw [sel_full k (by omega), Nat.testBit_two_pow_sub_one, decide_eq_true (by omega), if_pos rfl, List.take_succ, List.getElem?_eq_getElem (by omega), List.getD_eq_getElem?_getD, List.getElem?_eq_getElem (by omega)]
    rfl
theorem sel_all : selT tests (2 ^ tests.length - 1) tests.length = tests := by rw [sel_full _ (Nat.le_refl _), List.take_length]
theorem cnt_zero (hb6 : bales.length ≤ 6) {ts : List (Int × Bool)} (ht : ∀ t ∈ ts, 0 ≤ t.1 ∧ t.1 < 6) : cntF L U bales ts (2 ^ N) = 0 ↔ ∀ m h, m < 2 ^ N → rtB L U bales ts m h = false := by
  rw [count_TR hb6 ht, List.length_eq_zero_iff, List.eq_nil_iff_forall_not_mem]
  constructor
  · intro h m x hm
    rw [← Bool.not_eq_true]
    intro hr
    exact h (m, x) (mem_TR.2 ⟨hm, rt_lt hr, hr⟩)
  · rintro h ⟨m, x⟩ hm
    obtain ⟨h1, _, h3⟩ := mem_TR.1 hm
    rw [h m x h1] at h3; cases h3
/-- With fewer tests no fewer truths. -/
theorem rt_less {ts us : List (Int × Bool)} (hs : ∀ t ∈ us, t ∈ ts) {m h : Nat} (hr : rtB L U bales ts m h = true) : rtB L U bales us m h = true := by
  rw [rtB_iff] at hr ⊢
  exact ⟨hr.1, hr.2.1, fun t ht => hr.2.2 t (hs t ht)⟩
theorem clash_full (hB : BOK N L U T bales tests) {x : Nat} (h : clashP N L U bales tests x = true) : clashP N L U bales tests (2 ^ tests.length - 1) = true := by
  unfold clashP at h ⊢
  rw [decide_eq_true_iff] at h ⊢
  rw [sel_all]
  have hsub := selT_sub (tests := tests) (x := x) (Nat.le_refl tests.length)
  rw [cnt_zero hB.b6 fun t ht => hB.te6 t (hsub t ht)] at h
  rw [cnt_zero hB.b6 hB.te6]
  intro m y hm
  rw [← Bool.not_eq_true]
  intro hr
  have := rt_less hsub hr
  rw [h m y hm] at this; cases this
theorem clash_any (hB : BOK N L U T bales tests) : (setsL tests.length).any (clashP N L U bales tests) = clashP N L U bales tests (2 ^ tests.length - 1) := by
  have hp := Nat.two_pow_pos tests.length
  rw [Bool.eq_iff_iff, any_sets hB.t6]
  constructor
  · rintro ⟨x, _, h⟩; exact clash_full hB h
  · intro h; exact ⟨_, by omega, h⟩
end
end Go.Proofs.Ytknikcpeacmpmaa
