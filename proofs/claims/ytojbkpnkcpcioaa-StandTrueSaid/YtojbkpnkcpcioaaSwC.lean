/- StandTrue: plain facts; it returns true. -/
import Derived.Test.YtojbkpnkcpcioaaSwB
import Derived.Test.YtojbkpnkcpcioaaRfP
import Derived.Test.YtojbkpnkcpcioaaSvP
set_option linter.all false
namespace Go.Proofs.Ytojbkpnkcpcioaa
open Go Go.RowKit Go.Sh Go.Sh.Stand Go.Pv
set_option maxHeartbeats 2000000
/-- Begun within a run's minutes just if begun in the run. -/
theorem beg_run {runs : List (Int × Int)} (hs : Sorted runs) (hb : ∀ p ∈ runs, p.1 < p.2 ∧ p.2 ≤ 600) (t : Shearer) {r : Nat} {p : Int × Int} (hp : runs[r]? = some p) :
    ∀ (ks : List Int) (run : Nat) (d : Int), ∀ x ∈ (begFrom runs t ks run d).zip (dayFrom runs t ks run d), (p.1 ≤ x.1 ∧ x.1 < p.2) ↔ x.2.2 = (r : Int)
  | [], _, _, x, hx => by simp [begFrom, dayFrom] at hx
  | k :: ks, run, d, x, hx => by
    have hpb := hb p (List.mem_of_getElem? hp)
    cases hbg : begins (runs.drop run) run d with
    | none =>
      have e1 : begFrom runs t (k :: ks) run d = List.replicate (ks.length + 1) 1000 := by rw [begFrom, hbg]
      have e2 : dayFrom runs t (k :: ks) run d = List.replicate (ks.length + 1) (1000, -1) := by rw [dayFrom, hbg]
      rw [e1, e2, List.zip_replicate'] at hx
      have := List.eq_of_mem_replicate hx
      subst this
      simp only
      omega
    | some ia =>
      obtain ⟨i, a⟩ := ia
      have e1 : begFrom runs t (k :: ks) run d = a :: begFrom runs t ks i (a + tk t k) := by rw [begFrom, hbg]
      have e2 : dayFrom runs t (k :: ks) run d = (a + tk t k, (i : Int)) :: dayFrom runs t ks i (a + tk t k) := by rw [dayFrom, hbg]
      rw [e1, e2, List.zip_cons_cons] at hx
      rcases List.mem_cons.1 hx with rfl | hx
      · obtain ⟨q, h1, h2, h3, h4⟩ := begins_of_drop hbg
        have hg := gmax_ge d q.1
        simp only
        constructor
        · intro hin
          by_cases hir : i = r
          · rw [hir]
          · exfalso
            rcases Nat.lt_or_gt_of_ne hir with hlt | hgt
            · have := sorted_get runs hs r i q p hlt h2 hp
              omega
            · have := sorted_get runs hs i r p q hgt hp h2
              omega
        · intro he
          have : i = r := by omega
          subst this
          rw [hp] at h2
          cases h2
          omega
      · exact beg_run hs hb t hp ks i _ x hx
theorem zip_map_snd {α β γ : Type} (f : β → γ) (l : List α) (m : List β) : l.zip (m.map f) = (l.zip m).map fun x => (x.1, f x.2) := by
  rw [List.zip_map_right]; rfl
theorem cntIn_begun {runs : List (Int × Int)} (hs : Sorted runs) (hb : ∀ p ∈ runs, p.1 < p.2 ∧ p.2 ≤ 600) (t : Shearer) {r : Nat} {p : Int × Int} (hp : runs[r]? = some p) (ks : List Int) :
    cntIn ((begFrom runs t ks 0 0).zip (doneFrom runs t ks 0 0)) p.1 p.2 = begunIn (dayFrom runs t ks 0 0) r ∧ lastIn ((begFrom runs t ks 0 0).zip (doneFrom runs t ks 0 0)) p.1 p.2 = lastOf (dayFrom runs t ks 0 0) r := by
  have hk := beg_run hs hb t hp ks 0 0
  have hlen : (begFrom runs t ks 0 0).length = (dayFrom runs t ks 0 0).length := by rw [begFrom_length, dayFrom_length]
  unfold doneFrom
  rw [zip_map_snd]
  have key : ∀ (l : List Int) (m : List (Int × Int)), l.length = m.length → (∀ x ∈ l.zip m, (p.1 ≤ x.1 ∧ x.1 < p.2) ↔ x.2.2 = (r : Int)) →
      cntIn ((l.zip m).map fun x => (x.1, x.2.1)) p.1 p.2 = begunIn m r ∧ ∀ a, ((l.zip m).map fun x => (x.1, x.2.1)).foldl (fun a x => if p.1 ≤ x.1 ∧ x.1 < p.2 then x.2 else a) a = m.foldl (fun a x => if x.2 = (r : Int) then x.1 else a) a := by
    intro l
    induction l with
    | nil =>
      intro m hl _
      have : m = [] := List.eq_nil_of_length_eq_zero (by simpa using hl.symm)
      subst this
      exact ⟨rfl, fun _ => rfl⟩
    | cons x l ih =>
      intro m hl h
      cases m with
      | nil => simp at hl
      | cons y m =>
        rw [List.zip_cons_cons] at h ⊢
        obtain ⟨i1, i2⟩ := ih m (by simpa using hl) fun z hz => h z (List.mem_cons_of_mem _ hz)
        have hxy := h (x, y) List.mem_cons_self
        simp only at hxy
        constructor
        · unfold cntIn begunIn at i1 ⊢
          rw [List.map_cons, List.filter_cons, List.filter_cons]
          simp only
          by_cases hc : y.2 = (r : Int)
          · have hd := hxy.2 hc
            simp only [decide_eq_true hd.1, decide_eq_true hd.2, hc, decide_true, Bool.and_self, if_true, List.length_cons]
            omega
          · have hd : (decide (p.1 ≤ x) && decide (x < p.2)) = false := by
              have : ¬ (p.1 ≤ x ∧ x < p.2) := fun h => hc (hxy.1 h)
              simp only [Bool.and_eq_false_iff, decide_eq_false_iff_not]; omega
            simp only [hd, hc, decide_false, Bool.false_eq_true, if_false]
            exact i1
        · intro a
          rw [List.map_cons, List.foldl_cons, List.foldl_cons]
          simp only
          by_cases hc : y.2 = (r : Int)
          · rw [if_pos (hxy.2 hc), if_pos hc]; exact i2 _
          · rw [if_neg (fun h => hc (hxy.1 h)), if_neg hc]; exact i2 _
  obtain ⟨k1, k2⟩ := key _ _ hlen hk
  exact ⟨k1, k2 0⟩
end Go.Proofs.Ytojbkpnkcpcioaa
