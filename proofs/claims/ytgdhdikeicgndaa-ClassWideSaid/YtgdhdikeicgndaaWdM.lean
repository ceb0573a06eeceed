/- classer: what a line's functions answer, for the law Wide. -/
import Derived.Test.YtgdhdikeicgndaaWdC
set_option linter.all false
namespace Go.Proofs.Ytgdhdikeicgndaa
open Go Go.RowKit Go.Sh Go.Pv Go.Cl
section
variable {bs bs' : List (Nat × Nat × Nat)} {D M May D' M' k : Nat}
def canN (D M : Nat) (bs : List (Nat × Nat × Nat)) : Bool := decide (Go.Cl.mist D bs (2 ^ bs.length - 1) ≤ M)
def eN (D M : Nat) (bs : List (Nat × Nat × Nat)) : Int := if canN D M bs = true then 0 else 10
def wN1 (D M : Nat) (bs : List (Nat × Nat × Nat)) (k : Nat) : Int := if canN D M bs = true then (((wrongS D M bs k).1 : Nat) : Int) else 0
def wN2 (D M : Nat) (bs : List (Nat × Nat × Nat)) (k : Nat) : Int := if canN D M bs = true then (((wrongS D M bs k).2 : Nat) : Int) else 0
def aN1 (D M : Nat) (bs : List (Nat × Nat × Nat)) : Int := if canN D M bs = true then (allS D M bs).1 else 0
def aN2 (D M : Nat) (bs : List (Nat × Nat × Nat)) : Int := if canN D M bs = true then (allS D M bs).2 else 0
def lN (D M May : Nat) (bs : List (Nat × Nat × Nat)) : Int := if canN D M bs = true then ((lineS D M May bs : Nat) : Int) else 0
def mN (D : Nat) (bs : List (Nat × Nat × Nat)) : Nat := Go.Cl.mist D bs (2 ^ bs.length - 1)
theorem can_ex (h : LOK bs) (hM : M < FAR) : canN D M bs = true ↔ ∃ f, AllT D M bs f := by
  unfold canN; rw [decide_eq_true_eq]; exact mist_iff h hM
def lnA (bs : List (Nat × Nat × Nat)) (May D M : Nat) : RV := .agg [.sl (bs.map baleP), iP (May : Int), iP (D : Int), iP (M : Int)]
theorem ans4 (h : LOK bs) (hMay : May ≤ 30) (hD : D ≤ 30) (hM : M ≤ 6) (hk : k < bs.length) :
    FunOK Try.prog 14 [lnA bs May D M, .one (iP (k : Int))] (.tup [.agg [iP (wN1 D M bs k), iP (wN2 D M bs k)], .one (iP (eN D M bs))]) ∧ FunOK Try.prog 16 [lnA bs May D M] (.tup [.agg [iP (aN1 D M bs), iP (aN2 D M bs)], .one (iP (eN D M bs))]) ∧
    FunOK Try.prog 20 [lnA bs May D M] (.tup [.one (iP (lN D M May bs)), .one (iP (eN D M bs))]) ∧ FunOK Try.prog 24 [lnA bs May D M] (.tup [.one (iP ((mN D bs : Nat) : Int)), .one (iP 0)]) := by
  have hv := line_to h hMay hD hM
  have w := ok_Wrong (bales := bs.map castB) (may := May) (drift := D) (mist := M) (k : Int)
  have a := ok_All (bales := bs.map castB) (may := May) (drift := D) (mist := M)
  have l := ok_Line (bales := bs.map castB) (may := May) (drift := D) (mist := M)
  have m := ok_Mistaken (bales := bs.map castB) (may := May) (drift := D) (mist := M)
  rw [show inB (k : Int) 0 (((bs.map castB).length : Int) - 1) = true by rw [List.length_map]; simp [inB]; omega] at w
  have hw : whyL (bs.map castB) May D M true = eN D M bs := by
    unfold eN canN
    simp only [whyL, hv, if_true]
    rw [canB_cast]
  rw [hw] at w a l
  rw [hv, if_pos rfl] at m
  have e0 : (eN D M bs = 0) = (canN D M bs = true) := by
    unfold eN
    cases canN D M bs <;> simp
  simp only [ansR, ansN, nB_cast, Int.toNat_natCast, lineR_cast, List.length_map, e0, if_true] at w a l m
  exact ⟨w, a, l, m⟩
theorem eN_cases : eN D M bs = 0 ∨ eN D M bs = 10 := by unfold eN; split <;> simp
theorem lN_le : 0 ≤ lN D M May bs ∧ lN D M May bs ≤ 2 := by
  have := line_le (D := D) (M := M) (May := May) (bs := bs)
  unfold lN; split <;> omega
theorem rel_of (q : Fewer D M bs D' M' bs') (h : LOK bs) (h' : LOK bs') (hM : M < FAR) (hM' : M' < FAR) (hk : k < bs.length) (he : eN D' M' bs' = 0) :
    eN D M bs = 0 ∧ wN1 D M bs k ≤ wN1 D' M' bs' k ∧ wN2 D' M' bs' k ≤ wN2 D M bs k ∧ aN1 D M bs ≤ aN1 D' M' bs' ∧ aN2 D' M' bs' ≤ aN2 D M bs ∧ (¬ lN D M May bs = 1 → lN D' M' May bs' = lN D M May bs) := by
  have hc' : canN D' M' bs' = true := by
    unfold eN at he
    cases hc : canN D' M' bs'
    · rw [hc] at he; simp at he
    · rfl
  have he' := (can_ex h' hM').1 hc'
  have hc := (can_ex (D := D) h hM).2 (he'.imp fun f hf => q.sub f hf)
  have w := q.wrong h h' hM hM' hk he'
  have a := q.all h h' he'
  have l := fun hl => q.line (May := May) h h' hM hM' he' hl
  unfold eN wN1 wN2 aN1 aN2 lN
  simp only [hc, hc', if_true, true_and]
  exact ⟨by omega, by omega, a.1, a.2, fun hl => by rw [l (by omega)]⟩
theorem rev_of (h : LOK bs) (hM : M < FAR) (hk : k < bs.length) : eN D M bs.reverse = eN D M bs ∧ wN1 D M bs.reverse (bs.length - 1 - k) = wN1 D M bs k ∧ wN2 D M bs.reverse (bs.length - 1 - k) = wN2 D M bs k ∧ aN1 D M bs.reverse = aN1 D M bs ∧ aN2 D M bs.reverse = aN2 D M bs ∧ lN D M May bs.reverse = lN D M May bs ∧ mN D bs.reverse = mN D bs := by
  have hm : mN D bs.reverse = mN D bs := mist_rev h
  have hc : canN D M bs.reverse = canN D M bs := by
    unfold canN
    have hm' := hm
    unfold mN at hm'
    rw [hm']
  unfold eN wN1 wN2 aN1 aN2 lN
  rw [hc]
  refine ⟨rfl, ?_, ?_, ?_, ?_, ?_, hm⟩
  all_goals
    cases hcc : canN D M bs
    · simp only [Bool.false_eq_true, if_false]
    · have he := (can_ex h hM).1 hcc
      simp only [if_true]
      first | rw [wrong_rev h hM hk he] | rw [all_rev_eq h he] | rw [line_rev h hM he]
/-- A fleece more was looked at. -/
def oneL (bs : List (Nat × Nat × Nat)) (i e : Nat) : List (Nat × Nat × Nat) := if (bG bs i).2.1 < (bG bs i).1 then bs.set i ((bG bs i).1, (bG bs i).2.1 + 1, (bG bs i).2.2 + e) else bs
theorem oneL_len {i e : Nat} : (oneL bs i e).length = bs.length := by unfold oneL; split <;> simp
theorem oneL_ok (h : LOK bs) {i e : Nat} (hi : i < bs.length) (he : e ≤ 1) : LOK (oneL bs i e) := by
  have := h.ba i hi
  unfold oneL
  split
  · exact h.set hi ⟨by dsimp only; omega, by dsimp only; omega, by dsimp only; omega, by dsimp only; omega⟩
  · exact h
theorem oneL_fewer (h : LOK bs) {i e : Nat} (hi : i < bs.length) (he : e ≤ 1) : Fewer D M bs D M (oneL bs i e) := by
  refine fewer_b oneL_len fun j w hj hw => ?_
  unfold oneL
  split
  · rename_i hlt
    rw [bG_set hi]
    by_cases e1 : j = i
    · subst e1
      rw [if_pos rfl]
      have hb := h.ba j hj
      unfold ownF
      dsimp only
      split
      · exact Nat.le_refl _
      · rw [if_pos rfl, if_pos rfl]
        exact cost_more (F := (bG bs j).1) (K := (bG bs j).2.1) (W := (bG bs j).2.2) hlt (by omega) he (by omega)
    · rw [if_neg e1]; exact Nat.le_refl _
  · exact Nat.le_refl _
/-- Bales in the opposite order, as far as they were put. -/
def rvL (bs : List (Nat × Nat × Nat)) (k : Nat) : List (Nat × Nat × Nat) := bs.reverse.take k ++ bs.drop k
theorem rvL_zero : rvL bs 0 = bs := rfl
theorem rvL_all : rvL bs bs.length = bs.reverse := by unfold rvL; rw [List.drop_length, List.append_nil, List.take_of_length_le (by simp)]
theorem rvL_len (hk : k ≤ bs.length) : (rvL bs k).length = bs.length := by unfold rvL; simp; omega
theorem rvL_set (hk : k < bs.length) : (rvL bs k).set k (bG bs (bs.length - 1 - k)) = rvL bs (k + 1) := by
  unfold rvL
  have hl : (bs.reverse.take k).length = k := by simp; omega
  rw [List.set_append_right _ _ (by omega), hl, Nat.sub_self, List.take_add_one, List.getElem?_eq_getElem (by simp; exact hk), List.append_assoc]
  congr 1
  rw [List.drop_eq_getElem_cons hk, List.set_cons_zero]
  have : bG bs (bs.length - 1 - k) = bs.reverse[k]'(by simp; exact hk) := by
    unfold bG
    rw [List.getElem_reverse, List.getD_eq_getElem?_getD, List.getElem?_eq_getElem (by omega)]
    rfl
  rw [this]
  rfl
/-- The three lines that are changed. -/
theorem wide_three (h : LOK bs) (hD : D ≤ 30) (hM : M ≤ 6) {i e : Nat} (hi : i < bs.length) (he : e ≤ 1) (May : Nat) : ∃ (B : Nat → List (Nat × Nat × Nat)) (Dv Mv : Nat → Nat),
    (∀ v, v < 3 → ([[.sl (bs.map baleP), iP (May : Int), iP (D : Int), iP ((M - 1 : Nat) : Int)], [.sl (bs.map baleP), iP (May : Int), iP ((D - 1 : Nat) : Int), iP (M : Int)], [.sl ((oneL bs i e).map baleP), iP (May : Int), iP (D : Int), iP (M : Int)]] : List (List PV))[v]? = some [.sl ((B v).map baleP), iP (May : Int), iP ((Dv v : Nat) : Int), iP ((Mv v : Nat) : Int)]) ∧
    ∀ v, v < 3 → LOK (B v) ∧ Dv v ≤ 30 ∧ Mv v ≤ 6 ∧ (B v).length = bs.length ∧ Fewer D M bs (Dv v) (Mv v) (B v) ∧ mN D bs ≤ mN (Dv v) (B v) := by
  refine ⟨fun v => if v = 2 then oneL bs i e else bs, fun v => if v = 1 then D - 1 else D, fun v => if v = 0 then M - 1 else M, fun v hv => ?_, fun v hv => ?_⟩
  · rcases v with _ | _ | _ | v
    · rfl
    · rfl
    · rfl
    · omega
  · rcases v with _ | _ | _ | v
    · exact ⟨h, hD, (by show M - 1 ≤ 6; omega), rfl, fewer_m (by show M - 1 ≤ M; omega), Nat.le_refl _⟩
    · exact ⟨h, (by show D - 1 ≤ 30; omega), hM, rfl, fewer_d (by show D - 1 ≤ D; omega), mist_fewer h h fun m _ f hf => (fewer_d (M := m) (show D - 1 ≤ D by omega)).sub f hf⟩
    · exact ⟨oneL_ok h hi he, hD, hM, oneL_len, oneL_fewer h hi he, mist_fewer h (oneL_ok h hi he) fun m _ f hf => (oneL_fewer (M := m) h hi he).sub f hf⟩
    · omega
end
end Go.Proofs.Ytgdhdikeicgndaa
