/- burr: one test more; which bale is best opened next, without the program. -/
import Derived.Test.YtknikcpeacmpmaaKm
import Derived.Test.YtknikcpeacmpmaaBwA
set_option linter.all false
namespace Go.Proofs.Ytknikcpeacmpmaa
open Go Go.RowKit Go.Sh Go.Pv
section
variable {N lo up : Nat} {bales : List (Int × Int)} {tests : List (Int × Bool)}
theorem rtB_append {ts us : List (Int × Bool)} {m h : Nat} : rtB lo up bales (ts ++ us) m h = (rtB lo up bales ts m h && us.all fun t => h.testBit t.1.toNat == t.2) := by
  rw [Bool.eq_iff_iff, Bool.and_eq_true, rtB_iff, rtB_iff, List.all_eq_true]
  simp only [List.mem_append, beq_iff_eq]
  constructor
  · rintro ⟨g1, g2, g3⟩; exact ⟨⟨g1, g2, fun t ht => g3 t (.inl ht)⟩, fun t ht => g3 t (.inr ht)⟩
  · rintro ⟨⟨g1, g2, g3⟩, g4⟩; exact ⟨g1, g2, fun t ht => ht.elim (g3 t) (g4 t)⟩
theorem TR_append {ts us : List (Int × Bool)} : TR N lo up bales (ts ++ us) = (TR N lo up bales ts).filter fun x => us.all fun t => x.2.testBit t.1.toNat == t.2 := by
  unfold TR
  rw [List.filter_flatMap]
  congr 1
  funext m
  unfold TRm
  rw [List.filter_map, List.filter_filter]
  congr 1
  apply List.filter_congr
  intro h _
  rw [rtB_append, Bool.and_comm]
  rfl
end
end Go.Proofs.Ytknikcpeacmpmaa
