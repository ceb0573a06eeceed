/- burr: what is in all truths, and in some, one after the other; what a beginning of the truths is. -/
import Derived.Test.YtknikcpeacmpmaaBxG
import Derived.Test.YtknikcpeacmpmaaBwA
set_option linter.all false
namespace Go.Proofs.Ytknikcpeacmpmaa
open Go Go.RowKit Go.Sh Go.Pv
theorem see_same {A B : List Nat} (hA : A ≠ []) (hB : B ≠ []) (h1 : ∀ j, (∃ x ∈ A, x.testBit j = true) ↔ ∃ x ∈ B, x.testBit j = true) (h2 : ∀ j, (∀ x ∈ A, x.testBit j = true) ↔ ∀ x ∈ B, x.testBit j = true) : seeL A = seeL B := by
  obtain ⟨a, ha⟩ := see_some hA
  obtain ⟨b, hb⟩ := see_some hB
  refine Prod.ext (Nat.eq_of_testBit_eq fun j => Bool.eq_iff_iff.2 ?_) ?_
  · rw [see_bit1, see_bit1]; exact h1 j
  · rw [ha, hb]
    congr 1
    exact Nat.eq_of_testBit_eq fun j => Bool.eq_iff_iff.2 (by rw [see_bit2 ha, see_bit2 hb]; exact h2 j)
section
variable {N L U T : Nat} {bales : List (Int × Int)} {tests : List (Int × Bool)}
theorem mob_see (hne : TR N L U bales tests ≠ []) : seeL (mobL L U bales tests (2 ^ N)) = seeL ((TR N L U bales tests).map (·.1)) := by
  refine see_same (fun h => hne (TR_nil.2 h)) (by simpa using hne) (fun j => ?_) (fun j => ?_)
  · rw [← see_bit1, mobs_some]; simp
  · obtain ⟨a, ha⟩ := see_some (L := mobL L U bales tests (2 ^ N)) (fun h => hne (TR_nil.2 h))
    rw [← see_bit2 ha, mobs_all ha]; simp
theorem bal_see (hne : TR N L U bales tests ≠ []) : seeL (balL L U bales tests (2 ^ N)) = seeL ((TR N L U bales tests).map (·.2)) := by
  refine see_same (fun h => hne (balL_nil.1 h)) (by simpa using hne) (fun j => ?_) (fun j => ?_)
  · rw [← see_bit1, bales_some]
    exact ⟨fun ⟨x, hx, h⟩ => ⟨_, List.mem_map.2 ⟨x, hx, rfl⟩, h⟩, fun ⟨y, hy, h⟩ => by obtain ⟨x, hx, rfl⟩ := List.mem_map.1 hy; exact ⟨x, hx, h⟩⟩
  · obtain ⟨a, ha⟩ := see_some (L := balL L U bales tests (2 ^ N)) (fun h => hne (balL_nil.1 h))
    rw [← see_bit2 ha, bales_all ha]
    exact ⟨fun h y hy => by obtain ⟨x, hx, rfl⟩ := List.mem_map.1 hy; exact h x hx, fun h x hx => h _ (List.mem_map.2 ⟨x, hx, rfl⟩)⟩
theorem mem_TR_lt (hB : BOK N L U T bales tests) {x : Nat × Nat} (hx : x ∈ TR N L U bales tests) : x.1 < 32 ∧ x.2 < 64 := by
  obtain ⟨h1, h2, _⟩ := mem_TR.1 hx
  have := pow32 hB.n5
  have := pow64 hB.b6
  omega
theorem TR_len (hB : BOK N L U T bales tests) : (TR N L U bales tests).length ≤ 2048 := by
  rw [← count_TR hB.b6 hB.te6]
  exact cntF_2048 hB.n5 hB.b6 hB.te6
theorem pre_lt (hB : BOK N L U T bales tests) {P : List (Nat × Nat)} {m h : Nat} (hp : P ++ [(m, h)] <+: TR N L U bales tests) : m < 64 ∧ h < 64 ∧ P.length < 4096 ∧ ∀ x ∈ P, x.1 < 64 ∧ x.2 < 64 := by
  have h0 := mem_TR_lt hB (hp.subset (a := (m, h)) (by simp))
  have h1 := hp.length_le
  have h2 := TR_len hB
  simp only [List.length_append, List.length_cons, List.length_nil] at h1
  refine ⟨by omega, by omega, by omega, fun x hx => ?_⟩
  have := mem_TR_lt hB (hp.subset (a := x) (by simp [hx]))
  omega
end
/-- How many truths leave the top line clean. -/
def tidyP (T : Nat) (P : List (Nat × Nat)) : Nat := P.countP fun x => decide (x.2 &&& T = 0)
end Go.Proofs.Ytknikcpeacmpmaa
