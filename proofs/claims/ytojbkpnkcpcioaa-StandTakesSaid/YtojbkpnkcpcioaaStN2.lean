/- Facts for the walks of the exported functions. -/
import Derived.Test.YtojbkpnkcpcioaaStN
set_option linter.all false
namespace Go.Proofs.Ytojbkpnkcpcioaa
open Go.RowKit Go.Sh Go.Sh.Stand Go.Shelf

theorem fit_of_valid {s : Stand} (h3 : s.mins.length = 3) (h : validB s = true) : Fit s := by
  unfold validB lensB at h
  simp only [Bool.and_eq_true, List.all_eq_true] at h
  obtain ⟨h1, ⟨⟨h2, h4⟩, h5⟩, h6, h7, h8⟩ := h
  have hr : ∀ (l : List (Int × Int)) (bl : Int), 0 ≤ bl → runsB l bl = true → ∀ p ∈ l, 0 ≤ p.1 ∧ p.1 < p.2 ∧ p.2 ≤ 600 := by
    intro l
    induction l with
    | nil => intro bl _ _ p hp; cases hp
    | cons q r ih =>
      obtain ⟨st, be⟩ := q
      intro bl hbl h p hp
      simp only [runsB, inR, Bool.and_eq_true, decide_eq_true_eq] at h
      rcases List.mem_cons.1 hp with rfl | hp
      · simp only; omega
      · exact ih be (by omega) h.2 p hp
  unfold inR at h2
  simp only [Bool.and_eq_true, decide_eq_true_eq] at h2 h4 h5
  refine ⟨h3, fun p hp => ?_, by omega, hr _ 0 (by omega) h6, by omega, fun k hk => ?_, by omega, fun l hl => ?_⟩
  · have := h1 p hp
    unfold minB at this
    simp only [Bool.and_eq_true, decide_eq_true_eq] at this
    omega
  · have := h7 k hk
    unfold inR at this
    simpa using this
  · have := h8 l hl
    unfold lookB inR at this
    simp only [Bool.and_eq_true, decide_eq_true_eq] at this
    omega


theorem dayFrom_range (runs : List (Int × Int)) (t : Shearer) (hr : ∀ p ∈ runs, 0 ≤ p.1 ∧ p.1 < p.2 ∧ p.2 ≤ 600) (ht : Tok t) : ∀ (ks : List Int) (run : Nat) (done : Int), 0 ≤ done → ∀ x ∈ dayFrom runs t ks run done, 0 ≤ x.1 ∧ x.1 ≤ 1000
  | [], _, _, _, x, hx => by simp [dayFrom] at hx
  | k :: ks, run, done, hd, x, hx => by
    unfold dayFrom at hx
    have htk : 1 ≤ tk t k ∧ tk t k ≤ 40 := by
      unfold tk; split
      · exact ht.1
      · split
        · exact ht.2.1
        · exact ht.2.2
    split at hx
    · have := List.eq_of_mem_replicate hx
      subst this; simp
    · rename_i i at_ hb
      obtain ⟨p, h1, h2, h3, h4⟩ := begins_of_drop hb
      have hp := hr p (List.mem_of_getElem? h2)
      have hg := gmax_ge done p.1
      rcases List.mem_cons.1 hx with rfl | hx
      · simp only; omega
      · exact dayFrom_range runs t hr ht ks i _ (by omega) x hx
theorem day_range {s : Stand} (hs : Fit s) {t : Shearer} (ht : t ∈ allSh s) : ∀ x ∈ day s t, 0 ≤ x.1 ∧ x.1 ≤ 1000 := dayFrom_range s.runs t hs.runb (tok_all hs t ht) s.sheep 0 0 (by omega)
theorem day_len (s : Stand) (t : Shearer) : (day s t).length = s.sheep.length := dayFrom_length ..
end Go.Proofs.Ytojbkpnkcpcioaa
