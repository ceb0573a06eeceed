/- burr, the law: every truth is handed to a callback. -/
import Derived.Test.YtknikcpeacmpmaaBwU
import Derived.Test.YtknikcpeacmpmaaBwM
set_option linter.all false
namespace Go.Proofs.Ytknikcpeacmpmaa
open Go Go.RowKit Go.Sh Go.Pv
set_option maxHeartbeats 8000000
set_option maxRecDepth 8000
set_option pp.maxSteps 60000
/-- What a callback turns: objects of the caller, by the truths so far. -/
structure CbOK (ob : List (Nat × Nat) → List (Nat × Obj')) (ids : List Nat) (hp : List (Nat × Obj')) : Prop where
  idm : ∀ P id o, AL.get (ob P) id = some o → id ∈ ids
  cov : ∀ P id, id ∈ ids → ∃ o, AL.get (ob P) id = some o
  here : ∀ id, id ∈ ids → ∃ o, AL.get hp id = some o
  plain : ∀ P id o, AL.get (ob P) id = some o → refsO o = [] ∧ ∀ fr tm, o ≠ .kept fr tm
def HPof (ob : List (Nat × Nat) → List (Nat × Obj')) (ids : List Nat) (hp : List (Nat × Obj')) (nx : Nat) (P : List (Nat × Nat)) (hpX : List (Nat × Obj')) : Prop :=
  (∀ id o, AL.get (ob P) id = some o → AL.get hpX id = some o) ∧ ∀ id o, id < nx → id ∉ ids → AL.get hp id = some o → AL.get hpX id = some o
theorem AL_append {α : Type} : ∀ (l r : List (Nat × α)) (id : Nat), AL.get (l ++ r) id = match AL.get l id with | some o => some o | none => AL.get r id
  | [], r, id => rfl
  | (k, v) :: l, r, id => by
    by_cases e : id = k
    · subst e; rw [List.cons_append, AL.get_eq, AL.get_eq]
    · rw [List.cons_append, AL.get_ne _ _ e, AL.get_ne _ _ e]; exact AL_append l r id
/-- Is it right, by the first tests? -/
def rK (r0 : Bool) (tests : List (Int × Bool)) (h k : Nat) : Bool := r0 && (tests.take k).all fun t => h.testBit t.1.toNat == t.2
section
variable {N L U T : Nat} {bales : List (Int × Int)} {tests : List (Int × Bool)}
theorem rK_succ {r0 : Bool} {h k : Nat} (hk : k < tests.length) : rK r0 tests h (k + 1) = (rK r0 tests h k && (h.testBit (tests.getD k (0, false)).1.toNat == (tests.getD k (0, false)).2)) := by
  unfold rK
  rw [List.take_succ, List.getElem?_eq_getElem hk, List.all_append, show tests.getD k (0, false) = tests[k] by simp [List.getD, hk], Bool.and_assoc]
  simp
theorem rK_end (m h : Nat) (hp : L ≤ popc m ∧ popc m ≤ U) : rK (decide (diffN (hitF (sN bales) m bales.length) h = 0) && decide (diffN h (hitF (pN bales) m bales.length) = 0)) tests h tests.length = rtB L U bales tests m h := by
  have := rtB_append (lo := L) (up := U) (bales := bales) (ts := []) (us := tests) (m := m) (h := h)
  rw [List.nil_append] at this
  rw [this]
  unfold rK rtB heldF
  rw [List.take_length, decide_eq_true hp.1, decide_eq_true hp.2]
  rfl
theorem TRp_bad {m : Nat} (hp : ¬ (L ≤ popc m ∧ popc m ≤ U)) : TRp L U bales tests (m + 1) 0 = TRp L U bales tests m 0 := by
  rw [TRp_m]
  unfold TRp
  have : ∀ k, (List.range k).filter (rtB L U bales tests m) = [] := fun k => by
    rw [List.filter_eq_nil_iff]
    intro h _ hr
    exact hp (rtB_iff.1 hr).1
  rw [this, this]
theorem TRp_prefix {m h : Nat} (hm : m < 2 ^ N) (hh : h < 2 ^ bales.length) (hr : rtB L U bales tests m h = true) : TRp L U bales tests m h ++ [(m, h)] <+: TR N L U bales tests := by
  have e1 : TRp L U bales tests m h ++ [(m, h)] = TRp L U bales tests m (h + 1) := by rw [TRp_h, if_pos hr]
  rw [e1]
  have hA : ∀ j, h + 1 + j ≤ 2 ^ bales.length → TRp L U bales tests m (h + 1) <+: TRp L U bales tests m (h + 1 + j) := fun j => by
    induction j with
    | zero => intro _; exact List.prefix_refl _
    | succ j ih =>
      intro hj
      refine (ih (by omega)).trans ?_
      rw [show h + 1 + (j + 1) = (h + 1 + j) + 1 by omega, TRp_h]
      exact List.prefix_append _ _
  have h1 := hA (2 ^ bales.length - (h + 1)) (by omega)
  rw [show h + 1 + (2 ^ bales.length - (h + 1)) = 2 ^ bales.length by omega, ← TRp_m] at h1
  refine h1.trans ?_
  rw [← TRp_end]
  have hB : ∀ j, m + 1 + j ≤ 2 ^ N → TRp L U bales tests (m + 1) 0 <+: TRp L U bales tests (m + 1 + j) 0 := fun j => by
    induction j with
    | zero => intro _; exact List.prefix_refl _
    | succ j ih =>
      intro hj
      refine (ih (by omega)).trans ?_
      rw [show m + 1 + (j + 1) = (m + 1 + j) + 1 by omega, TRp_m]
      unfold TRp
      refine (List.prefix_append_right_inj _).2 ?_
      simp
  have h2 := hB (2 ^ N - (m + 1)) (by omega)
  rwa [show m + 1 + (2 ^ N - (m + 1)) = 2 ^ N by omega] at h2
end
end Go.Proofs.Ytknikcpeacmpmaa
