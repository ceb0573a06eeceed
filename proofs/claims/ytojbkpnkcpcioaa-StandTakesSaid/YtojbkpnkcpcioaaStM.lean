set_option linter.all false
/- The plain model of a stand: what the program computes, with no program in sight. -/
namespace Go.Sh.Stand

structure Stand where
  mins : List (Int × Int)
  runs : List (Int × Int)
  sheep : List Int
  looks : List (Int × Int × Int)

abbrev Shearer := Int × Int × Int
/-- How long a kind takes. -/
def tk (t : Shearer) (k : Int) : Int := if k = 0 then t.1 else if k = 1 then t.2.1 else t.2.2

def gmax (a b : Int) : Int := if a < b then b else a

/-- In which run, and when. -/
def begins : List (Int × Int) → Nat → Int → Option (Nat × Int)
  | [], _, _ => none
  | (st, be) :: r, i, done => if gmax done st < be then some (i, gmax done st) else begins r (i + 1) done

def dayFrom (runs : List (Int × Int)) (t : Shearer) : List Int → Nat → Int → List (Int × Int)
  | [], _, _ => []
  | k :: ks, run, done =>
    match begins (runs.drop run) run done with
    | none => List.replicate (ks.length + 1) (1000, -1)
    | some (i, at_) => (at_ + tk t k, (i : Int)) :: dayFrom runs t ks i (at_ + tk t k)

def day (s : Stand) (t : Shearer) : List (Int × Int) := dayFrom s.runs t s.sheep 0 0

def countAt (l : List (Int × Int)) (minute : Int) : Int := (l.filter fun x => decide (x.1 ≤ minute)).length
def begunIn (l : List (Int × Int)) (run : Int) : Int := (l.filter fun x => decide (x.2 = run)).length
def lastOf (l : List (Int × Int)) (run : Int) : Int := l.foldl (fun a x => if x.2 = run then x.1 else a) 0
def overOf (l : List (Int × Int)) (run : Int) (bell : Int) : Int := if begunIn l run = 0 then 0 else gmax 0 (lastOf l run - bell)
def lateOf (s : Stand) (l : List (Int × Int)) (run : Nat) : Bool := l.any fun x => decide (0 ≤ x.2) && (decide (x.2 < (run : Int)) && decide ((s.runs.getD run (0, 0)).1 < x.1))

theorem countAt_snoc (l : List (Int × Int)) (x : Int × Int) (m : Int) : countAt (l ++ [x]) m = countAt l m + if x.1 ≤ m then 1 else 0 := by
  unfold countAt; rw [List.filter_append]; by_cases h : x.1 ≤ m <;> simp [List.filter_cons, h]
theorem begunIn_snoc (l : List (Int × Int)) (x : Int × Int) (m : Int) : begunIn (l ++ [x]) m = begunIn l m + if x.2 = m then 1 else 0 := by
  unfold begunIn; rw [List.filter_append]; by_cases h : x.2 = m <;> simp [List.filter_cons, h]
theorem countAt_le (l : List (Int × Int)) (m : Int) : 0 ≤ countAt l m ∧ countAt l m ≤ l.length := by
  unfold countAt; have := List.length_filter_le (fun x : Int × Int => decide (x.1 ≤ m)) l; omega
theorem begunIn_le (l : List (Int × Int)) (m : Int) : 0 ≤ begunIn l m ∧ begunIn l m ≤ l.length := by
  unfold begunIn; have := List.length_filter_le (fun x : Int × Int => decide (x.2 = m)) l; omega
theorem lastOf_snoc (l : List (Int × Int)) (x : Int × Int) (m : Int) : lastOf (l ++ [x]) m = if x.2 = m then x.1 else lastOf l m := by
  unfold lastOf; rw [List.foldl_append]; rfl
theorem lastOf_range (l : List (Int × Int)) (m : Int) (h : ∀ x ∈ l, 0 ≤ x.1 ∧ x.1 ≤ 1000) : 0 ≤ lastOf l m ∧ lastOf l m ≤ 1000 := by
  have key : ∀ (l : List (Int × Int)) (a : Int), (∀ x ∈ l, 0 ≤ x.1 ∧ x.1 ≤ 1000) → 0 ≤ a ∧ a ≤ 1000 → 0 ≤ l.foldl (fun a x => if x.2 = m then x.1 else a) a ∧ l.foldl (fun a x => if x.2 = m then x.1 else a) a ≤ 1000 := by
    intro l
    induction l with
    | nil => intro a _ h; exact h
    | cons x r ih =>
      intro a hx ha
      refine ih _ (fun y hy => hx y (List.mem_cons_of_mem _ hy)) ?_
      show 0 ≤ (if x.2 = m then x.1 else a) ∧ (if x.2 = m then x.1 else a) ≤ 1000
      split
      · exact hx x (List.mem_cons_self ..)
      · exact ha
  exact key l 0 h ⟨by omega, by omega⟩
theorem take_snoc {α : Type} (l : List α) (d : α) {k : Nat} (h : k < l.length) : l.take (k + 1) = l.take k ++ [l.getD k d] := by
  rw [List.take_succ_eq_append_getElem h]; simp [List.getD, h]

def gmin (a b : Int) : Int := if b < a then b else a
def jn (s x : Int × Int) : Int × Int := (gmin s.1 x.1, gmax s.2 x.2)
/-- The least span that has all of several. -/
def joinedL (l : List (Int × Int)) : Int × Int := l.foldl jn (l.headD (0, 0))
end Go.Sh.Stand
