/- Plain laws: the law's own day, run by run. -/
import Derived.Test.YtojbkpnkcpcioaaStM5
set_option linter.all false
namespace Go.Sh.Stand
/-- When each sheep is begun; 1000: not at all. -/
def begFrom (runs : List (Int × Int)) (t : Shearer) : List Int → Nat → Int → List Int
  | [], _, _ => []
  | k :: ks, run, done =>
    match begins (runs.drop run) run done with
    | none => List.replicate (ks.length + 1) 1000
    | some (i, at_) => at_ :: begFrom runs t ks i (at_ + tk t k)
def doneFrom (runs : List (Int × Int)) (t : Shearer) (ks : List Int) (run : Nat) (done : Int) : List Int := (dayFrom runs t ks run done).map (·.1)
theorem drop_run {runs : List (Int × Int)} {r : Nat} {p : Int × Int} (h : runs[r]? = some p) : runs.drop r = p :: runs.drop (r + 1) := by
  obtain ⟨hl, rfl⟩ := List.getElem?_eq_some_iff.1 h
  exact List.drop_eq_getElem_cons hl
theorem begins_here {runs : List (Int × Int)} {r : Nat} {p : Int × Int} {d : Int} (h : runs[r]? = some p) (hd : gmax d p.1 < p.2) : begins (runs.drop r) r d = some (r, gmax d p.1) := by
  rw [drop_run h]; obtain ⟨st, be⟩ := p; rw [begins, if_pos hd]
theorem begins_next {runs : List (Int × Int)} {r : Nat} {p : Int × Int} {d : Int} (h : runs[r]? = some p) (hd : ¬ gmax d p.1 < p.2) : begins (runs.drop r) r d = begins (runs.drop (r + 1)) (r + 1) d := by
  rw [drop_run h]; obtain ⟨st, be⟩ := p; rw [begins, if_neg hd]
theorem doneFrom_here {runs : List (Int × Int)} {t : Shearer} {k : Int} {ks : List Int} {r : Nat} {p : Int × Int} {d : Int} (h : runs[r]? = some p) (hd : gmax d p.1 < p.2) :
    doneFrom runs t (k :: ks) r d = (gmax d p.1 + tk t k) :: doneFrom runs t ks r (gmax d p.1 + tk t k) := by
  unfold doneFrom; rw [dayFrom, begins_here h hd]; rfl
theorem begFrom_here {runs : List (Int × Int)} {t : Shearer} {k : Int} {ks : List Int} {r : Nat} {p : Int × Int} {d : Int} (h : runs[r]? = some p) (hd : gmax d p.1 < p.2) :
    begFrom runs t (k :: ks) r d = gmax d p.1 :: begFrom runs t ks r (gmax d p.1 + tk t k) := by
  rw [begFrom, begins_here h hd]
theorem doneFrom_next {runs : List (Int × Int)} {t : Shearer} {ks : List Int} {r : Nat} {p : Int × Int} {d : Int} (h : runs[r]? = some p) (hd : ¬ gmax d p.1 < p.2) : doneFrom runs t ks r d = doneFrom runs t ks (r + 1) d := by
  unfold doneFrom
  cases ks with
  | nil => rfl
  | cons k ks => rw [dayFrom, dayFrom, begins_next h hd]
theorem begFrom_next {runs : List (Int × Int)} {t : Shearer} {ks : List Int} {r : Nat} {p : Int × Int} {d : Int} (h : runs[r]? = some p) (hd : ¬ gmax d p.1 < p.2) : begFrom runs t ks r d = begFrom runs t ks (r + 1) d := by
  cases ks with
  | nil => rfl
  | cons k ks => rw [begFrom, begFrom, begins_next h hd]
theorem doneFrom_end {runs : List (Int × Int)} {t : Shearer} {ks : List Int} {r : Nat} {d : Int} (h : runs.length ≤ r) : doneFrom runs t ks r d = List.replicate ks.length 1000 := by
  unfold doneFrom
  cases ks with
  | nil => rfl
  | cons k ks =>
    rw [dayFrom, List.drop_eq_nil_of_le h, begins]
    simp
theorem begFrom_end {runs : List (Int × Int)} {t : Shearer} {ks : List Int} {r : Nat} {d : Int} (h : runs.length ≤ r) : begFrom runs t ks r d = List.replicate ks.length 1000 := by
  cases ks with
  | nil => rfl
  | cons k ks =>
    rw [begFrom, List.drop_eq_nil_of_le h, begins]
    simp
theorem begFrom_length (runs : List (Int × Int)) (t : Shearer) : ∀ (ks : List Int) (run : Nat) (d : Int), (begFrom runs t ks run d).length = ks.length
  | [], _, _ => rfl
  | k :: ks, run, d => by
    unfold begFrom
    split
    · simp
    · simp [begFrom_length runs t ks]
end Go.Sh.Stand
