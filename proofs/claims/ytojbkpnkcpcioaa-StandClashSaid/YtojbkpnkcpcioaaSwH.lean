/- StandClash returns true. -/
import Derived.Test.YtojbkpnkcpcioaaSwG
set_option linter.all false
namespace Go.Proofs.Ytojbkpnkcpcioaa
open Go Go.RowKit Go.Sh Go.Sh.Stand Go.Pv
set_option maxHeartbeats 2000000
theorem least_spec : ∀ (l : List Nat) (m : Nat), (m :: l).Pairwise (· < ·) → least m l ∈ m :: l ∧ ∀ x ∈ m :: l, pop (least m l) < pop x ∨ (pop (least m l) = pop x ∧ least m l ≤ x)
  | [], m, _ => ⟨List.mem_cons_self, fun x hx => by simp at hx; subst hx; exact .inr ⟨rfl, Nat.le_refl _⟩⟩
  | y :: l, m, hp => by
    obtain ⟨h1, h2⟩ := List.pairwise_cons.1 hp
    obtain ⟨h3, h4⟩ := List.pairwise_cons.1 h2
    have hmy := h1 y List.mem_cons_self
    have e : least m (y :: l) = least (if pop y < pop m then y else m) l := rfl
    rw [e]
    by_cases hc : pop y < pop m
    · rw [if_pos hc]
      obtain ⟨i1, i2⟩ := least_spec l y h2
      refine ⟨List.mem_cons_of_mem _ i1, fun x hx => ?_⟩
      rcases List.mem_cons.1 hx with rfl | hx
      · have := i2 y List.mem_cons_self
        left; omega
      · exact i2 x hx
    · rw [if_neg hc]
      obtain ⟨i1, i2⟩ := least_spec l m (List.pairwise_cons.2 ⟨fun x hx => h1 x (List.mem_cons_of_mem _ hx), h4⟩)
      refine ⟨?_, fun x hx => ?_⟩
      · rcases List.mem_cons.1 i1 with h | h
        · rw [h]; exact List.mem_cons_self
        · exact List.mem_cons_of_mem _ (List.mem_cons_of_mem _ h)
      · rcases List.mem_cons.1 hx with rfl | hx
        · exact i2 _ List.mem_cons_self
        · rcases List.mem_cons.1 hx with rfl | hx
          · have := i2 m List.mem_cons_self
            omega
          · exact i2 x (List.mem_cons_of_mem _ hx)
theorem pop_diff : ∀ b, b < 16 → ∀ i, i < 4 → b.testBit i = true → pop (diffN b (2 ^ i)) < pop b := by decide
section
variable (m0 m1 m2 : Int × Int) (runs : List (Int × Int)) (sheep : List Int) (looks : List (Int × Int × Int))
theorem ok_clashL {w : Nat} (hw : w ≤ 255) : FunOK Try.prog 9 [stR m0 m1 m2 runs sheep looks, .one (.v (.int .u8 w))] (.one (.one (.v (.bool true)))) := by
  have hfine := ok_fine m0 m1 m2 runs sheep looks
  cases hf : fineB m0 m1 m2 runs sheep looks
  · rw [hf] at hfine
    exact ok_clash_not m0 m1 m2 runs sheep looks hfine
  rw [hf] at hfine
  unfold fineB at hf
  simp only [Bool.and_eq_true, Bool.not_eq_true'] at hf
  have hv := hf.2
  have hs := fit_of_valid (s := stM m0 m1 m2 runs sheep looks) rfl hv
  have hll : looks.length ≤ 4 := hs.looks
  have h1 := ok_clash m0 m1 m2 runs sheep looks
  have h2 := ok_takes m0 m1 m2 runs sheep looks 0
  have hmin := fun m (hm : m ∈ [m0, m1, m2]) => hs.minb m hm
  have hall : allSh (stM m0 m1 m2 runs sheep looks) ≠ [] := by
    have a0 := hmin m0 (by simp)
    have a1 := hmin m1 (by simp)
    have a2 := hmin m2 (by simp)
    exact List.ne_nil_of_mem ((mem_all m0 m1 m2 runs sheep looks (m0.1, m1.1, m2.1)).2 ⟨by simp only; omega, by simp only; omega, by simp only; omega⟩)
  have htr0 : truthsL (stM m0 m1 m2 runs sheep looks) 0 = allSh (stM m0 m1 m2 runs sheep looks) := by
    unfold truthsL
    refine List.filter_eq_self.2 fun t _ => ?_
    unfold rightB
    rw [List.all_eq_true]
    intro i _
    unfold lookOk
    simp
  obtain ⟨ev, hE⟩ : ∃ ev, everyB (stM m0 m1 m2 runs sheep looks) = ev := ⟨_, rfl⟩
  have hev : ev < 16 := by
    have : 2 ^ looks.length ≤ 2 ^ 4 := Nat.pow_le_pow_right (by decide) hll
    rw [← hE]
    show 2 ^ looks.length - 1 < 16
    omega
  by_cases hT : truthsL (stM m0 m1 m2 runs sheep looks) ev = []
  · rw [ans_none hv (by decide) (by unfold takesL; rw [hE, hT]; rfl)] at h2
    have hpw : (clashL (stM m0 m1 m2 runs sheep looks)).Pairwise (· < ·) := List.Pairwise.filter _ List.pairwise_lt_range
    have hmem : ∀ x, x ∈ clashL (stM m0 m1 m2 runs sheep looks) ↔ x ≤ ev ∧ truthsL (stM m0 m1 m2 runs sheep looks) x = [] := by
      intro x
      unfold clashL
      rw [List.mem_filter, List.mem_range, hE]
      simp
      omega
    have hme : ev ∈ clashL (stM m0 m1 m2 runs sheep looks) := (hmem ev).2 ⟨Nat.le_refl _, hT⟩
    have hA : ansC (stM m0 m1 m2 runs sheep looks) = (((least ((clashL (stM m0 m1 m2 runs sheep looks)).headD 0) (clashL (stM m0 m1 m2 runs sheep looks)).tail : Nat) : Int), 0) := by
      unfold ansC
      rw [if_neg (by simp [hv]), if_neg (by rw [hE]; simp [hT])]
    rw [hA] at h1
    cases hcl : clashL (stM m0 m1 m2 runs sheep looks) with
    | nil => rw [hcl] at hme; cases hme
    | cons h tl =>
      rw [hcl] at h1 hpw hmem
      obtain ⟨l1, l2⟩ := least_spec tl h hpw
      have l3 := (hmem _).1 l1
      have e : least ((h :: tl).headD 0) (h :: tl).tail = least h tl := rfl
      rw [e] at h1
      generalize least h tl = best at h1 l1 l2 l3
      refine ok_clash_some m0 m1 m2 runs sheep looks (best := best) (ev := ev) hw hv hE hfine h1 h2 ⟨?_, l3.1⟩ l3.2 (fun i hi hb hc => ?_) ?_
      · rcases Nat.eq_zero_or_pos best with h0 | h0
        · exfalso
          rw [h0, htr0] at l3
          exact hall l3.2
        · exact h0
      · have hd := pop_diff best (by omega) i (by omega) hb
        have hle := diffN_le best (2 ^ i)
        have := l2 _ ((hmem _).2 ⟨by omega, hc⟩)
        omega
      · by_cases ho : truthsL (stM m0 m1 m2 runs sheep looks) (w &&& ev) = []
        · rcases l2 _ ((hmem _).2 ⟨Nat.and_le_right, ho⟩) with h | h
          · exact .inr (.inl h)
          · exact .inr (.inr ⟨h.1.symm, h.2⟩)
        · exact .inl ho
  · rw [ans_some hv (by decide) (L := takesL (stM m0 m1 m2 runs sheep looks) 0) (by unfold takesL; rw [hE]; simpa using hT)] at h2
    have hA : ansC (stM m0 m1 m2 runs sheep looks) = (0, 4) := by unfold ansC; rw [if_neg (by simp [hv]), if_pos (by rw [hE]; exact hT)]
    rw [hA] at h1
    exact ok_clash_none m0 m1 m2 runs sheep looks hfine h1 h2
theorem ok_clashI {w : Int} (hw : 0 ≤ w ∧ w ≤ 255) : FunOK Try.prog 9 [stR m0 m1 m2 runs sheep looks, .one (.v (.int .u8 w))] (.one (.one (.v (.bool true)))) := by
  obtain ⟨n, rfl⟩ : ∃ n : Nat, w = n := ⟨w.toNat, by omega⟩
  exact ok_clashL m0 m1 m2 runs sheep looks (by omega)
end
end Go.Proofs.Ytojbkpnkcpcioaa
