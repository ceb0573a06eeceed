/- Arrays of numbers, and of spans, in the logic: cells by a function. Seat-independent. -/
import Derived.Test.YtgdhdikeicgndaaKpv3
set_option linter.all false
namespace Go.Pv
open Go Go.RowKit Go.Sh
/-- An array of numbers: as data, as cells, as a value. -/
def arrP (n : Nat) (c : Nat → Int) : List PV := (List.range n).map fun i => iP (c i)
def arrA (n : Nat) (c : Nat → Int) : List AC := (List.range n).map fun i => .p (iP (c i))
def arrV (n : Nat) (c : Nat → Int) : Array Value := ((List.range n).map fun i => Value.int .i64 (c i)).toArray
theorem arrP_len (n : Nat) (c : Nat → Int) : (arrP n c).length = n := by unfold arrP; simp
theorem arrA_len (n : Nat) (c : Nat → Int) : (arrA n c).length = n := by unfold arrA; simp
theorem arrA_map (n : Nat) (c : Nat → Int) : (arrP n c).map AC.p = arrA n c := by unfold arrP arrA; rw [List.map_map]; rfl
theorem arrA_cellPV (n : Nat) (c : Nat → Int) : (arrA n c).map cellPV = arrP n c := by unfold arrP arrA; rw [List.map_map]; rfl
theorem arrA_get {n : Nat} {c : Nat → Int} {i : Nat} (h : i < n) : (arrA n c)[i]? = some (.p (iP (c i))) := by unfold arrA; simp [h]
theorem arrP_get {n : Nat} {c : Nat → Int} {i : Nat} (h : i < n) : (arrP n c)[i]? = some (iP (c i)) := by unfold arrP; simp [h]
theorem arrA_drop {n : Nat} {c : Nat → Int} {i : Nat} (h : i < n) : ((arrA n c).drop i)[0]? = some (.p (iP (c i))) := by rw [List.getElem?_drop, Nat.add_zero, arrA_get h]
theorem arrA_drop0 (n : Nat) (c : Nat → Int) : (arrA n c).drop 0 = arrA n c := rfl
theorem arrA_take (n : Nat) (c : Nat → Int) : (arrA n c).take n = arrA n c := List.take_of_length_le (by rw [arrA_len]; exact Nat.le_refl _)
theorem mapO_all {α β : Type} {f : α → Option β} {g : α → β} : ∀ l : List α, (∀ x ∈ l, f x = some (g x)) → l.mapM f = some (l.map g)
  | [], _ => rfl
  | a :: l, h => by
    rw [List.mapM_cons, h a (List.mem_cons_self ..), mapO_all l fun x hx => h x (List.mem_cons_of_mem _ hx)]
    rfl
theorem arrA_plain (n : Nat) (c : Nat → Int) : (arrA n c).mapM plainC = some ((List.range n).map fun i => Value.int .i64 (c i)) := by
  have := mapO_all (f := plainC) (g := fun x => (plainC x).getD default) (arrA n c) (by
    intro x hx
    unfold arrA at hx
    obtain ⟨i, _, rfl⟩ := List.mem_map.1 hx
    rfl)
  rw [this]
  unfold arrA
  rw [List.map_map]
  rfl
theorem arrA_plainOf (n : Nat) (c : Nat → Int) : plainOf (.agg (arrA n c)) = some (.agg (arrV n c)) := by
  show ((arrA n c).mapM plainC).map (fun l => Value.agg l.toArray) = _
  rw [arrA_plain]; rfl
theorem arrA_pv (n : Nat) (c : Nat → Int) (any : Bool) (h : Nat → Option Obj') : (arrA n c).mapM (pvA any h) = some (arrP n c) := by
  have := mapO_all (f := pvA any h) (g := cellPV) (arrA n c) (by
    intro x hx
    unfold arrA at hx
    obtain ⟨i, _, rfl⟩ := List.mem_map.1 hx
    rfl)
  rw [this, arrA_cellPV]
theorem arrA_toPV (n : Nat) (c : Nat → Int) (h : Nat → Option Obj') : (arrA n c).mapM (toPV h) = some (arrP n c) := by
  have := mapO_all (f := toPV h) (g := cellPV) (arrA n c) (by
    intro x hx
    unfold arrA at hx
    obtain ⟨i, _, rfl⟩ := List.mem_map.1 hx
    rfl)
  rw [this, arrA_cellPV]
theorem arrA_refs (n : Nat) (c : Nat → Int) : (arrA n c).flatMap refsC = [] := by
  rw [List.flatMap_eq_nil_iff]
  intro x hx
  unfold arrA at hx
  obtain ⟨i, _, rfl⟩ := List.mem_map.1 hx
  rfl
/-- One number is turned. -/
def updF (c : Nat → Int) (i : Nat) (v : Int) : Nat → Int := fun j => if j = i then v else c j
theorem arrA_spl {n : Nat} {c : Nat → Int} {i : Nat} (h : i < n) (v : Int) : spl (arrA n c) i [.p (iP v)] = arrA n (updF c i v) := by
  apply List.ext_getElem?
  intro j
  rw [spl_get (by rw [arrA_len]; simp; omega)]
  simp only [List.length_cons, List.length_nil]
  by_cases e : j = i
  · subst e
    rw [if_pos (by omega), Nat.sub_self, arrA_get h]
    unfold updF; rw [if_pos rfl]; rfl
  · rw [if_neg (by omega)]
    by_cases hj : j < n
    · rw [arrA_get hj, arrA_get hj]; unfold updF; rw [if_neg e]
    · rw [List.getElem?_eq_none (by rw [arrA_len]; omega), List.getElem?_eq_none (by rw [arrA_len]; omega)]
theorem arrA_spl_all (n : Nat) (c d : Nat → Int) : spl (arrA n c) 0 (arrA n d) = arrA n d := by
  unfold spl
  rw [List.take_zero, List.nil_append, Nat.zero_add, arrA_len, List.drop_of_length_le (by rw [arrA_len]; exact Nat.le_refl _), List.append_nil]
theorem arrA_put {n : Nat} {c : Nat → Int} {i : Nat} (h : i < n) (v : Int) : List.take i (arrA n c) ++ [.p (iP v)] ++ List.drop (i + 1) (arrA n c) = arrA n (updF c i v) := arrA_spl h v
theorem arrA_dropn (n : Nat) (c : Nat → Int) : List.drop n (arrA n c) = [] := List.drop_of_length_le (by rw [arrA_len]; exact Nat.le_refl _)
theorem arrA_congr {n : Nat} {c d : Nat → Int} (h : ∀ i, i < n → c i = d i) : arrA n c = arrA n d := List.map_congr_left fun i hi => by rw [h i (List.mem_range.1 hi)]
theorem arrP_congr {n : Nat} {c d : Nat → Int} (h : ∀ i, i < n → c i = d i) : arrP n c = arrP n d := List.map_congr_left fun i hi => by rw [h i (List.mem_range.1 hi)]
/-- The elements of an array, as rows of one. -/
theorem arr_rows {n : Nat} {c : Nat → Int} (i : Nat) (r : List PV) (j : Nat) (x : PV) (h1 : ((arrP n c).map fun v => [v])[i]? = some r) (h2 : r[j]? = some x) : (arrP n c)[0 + i * 1 + j]? = some x := by
  rw [List.getElem?_map] at h1
  obtain ⟨v, hv, rfl⟩ := Option.map_eq_some_iff.1 h1
  rcases j with _ | j
  · simp at h2; subst h2
    rw [show 0 + i * 1 + 0 = i by omega]; exact hv
  · simp at h2
theorem arr_rowsK (n : Nat) (c : Nat → Int) : rowsK 1 ((arrP n c).map fun v => [v]) := by
  intro i r h
  rw [List.getElem?_map] at h
  obtain ⟨v, hv, rfl⟩ := Option.map_eq_some_iff.1 h
  rfl
/-- A table of spans: rows of so many. -/
def totF (w : Nat) (t : Nat → Nat → Int × Int) (k : Nat) : Int := if k % 2 = 0 then (t (k / (2 * w)) (k % (2 * w) / 2)).1 else (t (k / (2 * w)) (k % (2 * w) / 2)).2
def totA (n w : Nat) (t : Nat → Nat → Int × Int) : List AC := arrA (n * (2 * w)) (totF w t)
theorem totF_lo {w : Nat} {t : Nat → Nat → Int × Int} {a m : Nat} (h : m < w) : totF w t (a * (2 * w) + m * 2) = (t a m).1 := by
  have e1 : (a * (2 * w) + m * 2) / (2 * w) = a := by
    rw [Nat.mul_comm a, Nat.mul_add_div (by omega), Nat.div_eq_of_lt (by omega)]; omega
  have e2 : (a * (2 * w) + m * 2) % (2 * w) = m * 2 := by
    rw [Nat.mul_comm a, Nat.mul_add_mod, Nat.mod_eq_of_lt (by omega)]
  have e3 : (a * (2 * w) + m * 2) % 2 = 0 := by
    rw [show a * (2 * w) + m * 2 = 2 * (a * w + m) by rw [Nat.mul_add, Nat.mul_left_comm]; omega]
    exact Nat.mul_mod_right 2 _
  unfold totF
  rw [if_pos e3, e1, e2, Nat.mul_div_cancel _ (by omega)]
theorem totF_hi {w : Nat} {t : Nat → Nat → Int × Int} {a m : Nat} (h : m < w) : totF w t (a * (2 * w) + m * 2 + 1) = (t a m).2 := by
  have e1 : (a * (2 * w) + m * 2 + 1) / (2 * w) = a := by
    rw [Nat.mul_comm a, Nat.add_assoc, Nat.mul_add_div (by omega), Nat.div_eq_of_lt (by omega)]; omega
  have e2 : (a * (2 * w) + m * 2 + 1) % (2 * w) = m * 2 + 1 := by
    rw [Nat.mul_comm a, Nat.add_assoc, Nat.mul_add_mod, Nat.mod_eq_of_lt (by omega)]
  have e3 : (a * (2 * w) + m * 2 + 1) % 2 = 1 := by
    rw [show a * (2 * w) + m * 2 + 1 = 2 * (a * w + m) + 1 by rw [Nat.mul_add, Nat.mul_left_comm]; omega]
    omega
  unfold totF
  rw [if_neg (by omega), e1, e2, show (m * 2 + 1) / 2 = m by omega]
def updT (t : Nat → Nat → Int × Int) (a m : Nat) (s : Int × Int) : Nat → Nat → Int × Int := fun b k => if b = a ∧ k = m then s else t b k
theorem totIx {n w a m : Nat} (ha : a < n) (hm : m < w) : a * (2 * w) + m * 2 + 1 < n * (2 * w) := by
  have : (a + 1) * (2 * w) ≤ n * (2 * w) := Nat.mul_le_mul_right _ ha
  rw [Nat.add_mul] at this
  omega
theorem totA_get {n w : Nat} {t : Nat → Nat → Int × Int} {a m : Nat} (ha : a < n) (hm : m < w) : ((totA n w t).drop (a * (2 * w) + m * 2)).take 2 = [.p (iP (t a m).1), .p (iP (t a m).2)] := by
  have hl := totIx (n := n) (w := w) ha hm
  unfold totA
  apply List.ext_getElem?
  intro j
  rw [List.getElem?_take]
  rcases j with _ | _ | j
  · rw [if_pos (by omega), List.getElem?_drop, arrA_get (by omega), Nat.add_zero, totF_lo hm]; rfl
  · rw [if_pos (by omega), List.getElem?_drop, arrA_get (by omega), show a * (2 * w) + m * 2 + (0 + 1) = a * (2 * w) + m * 2 + 1 by omega, totF_hi hm]; rfl
  · rw [if_neg (by omega)]; rfl
theorem totF_upd {w : Nat} {t : Nat → Nat → Int × Int} {a m : Nat} (hm : m < w) (s : Int × Int) (k : Nat) : totF w (updT t a m s) k = if k = a * (2 * w) + m * 2 then s.1 else if k = a * (2 * w) + m * 2 + 1 then s.2 else totF w t k := by
  by_cases e1 : k = a * (2 * w) + m * 2
  · rw [if_pos e1, e1, totF_lo hm]; unfold updT; rw [if_pos ⟨rfl, rfl⟩]
  · rw [if_neg e1]
    by_cases e2 : k = a * (2 * w) + m * 2 + 1
    · rw [if_pos e2, e2, totF_hi hm]; unfold updT; rw [if_pos ⟨rfl, rfl⟩]
    · rw [if_neg e2]
      have hk := Nat.div_add_mod k (2 * w)
      have hne : ¬ (k / (2 * w) = a ∧ k % (2 * w) / 2 = m) := by
        rintro ⟨rfl, h2⟩
        rw [Nat.mul_comm] at hk
        omega
      unfold totF updT
      rw [if_neg hne]
theorem totA_spl {n w : Nat} {t : Nat → Nat → Int × Int} {a m : Nat} (ha : a < n) (hm : m < w) (lo hi : Int) : spl (totA n w t) (a * (2 * w) + m * 2) [.p (iP lo), .p (iP hi)] = totA n w (updT t a m (lo, hi)) := by
  have hl := totIx (n := n) (w := w) ha hm
  unfold totA
  apply List.ext_getElem?
  intro j
  rw [spl_get (by rw [arrA_len]; simp only [List.length_cons, List.length_nil]; omega)]
  simp only [List.length_cons, List.length_nil]
  by_cases hj : j < n * (2 * w)
  · rw [arrA_get hj, arrA_get hj, totF_upd hm]
    by_cases e1 : j = a * (2 * w) + m * 2
    · rw [if_pos (by omega), if_pos e1, e1, Nat.sub_self]; rfl
    · by_cases e2 : j = a * (2 * w) + m * 2 + 1
      · rw [if_pos (by omega), if_neg e1, if_pos e2, e2, show a * (2 * w) + m * 2 + 1 - (a * (2 * w) + m * 2) = 1 by omega]; rfl
      · rw [if_neg (by omega), if_neg e1, if_neg e2]
  · rw [if_neg (by omega), List.getElem?_eq_none (by rw [arrA_len]; omega), List.getElem?_eq_none (by rw [arrA_len]; omega)]
theorem totA_congr {n w : Nat} {t u : Nat → Nat → Int × Int} (h : ∀ a m, a < n → m < w → t a m = u a m) (hw : 0 < w) : totA n w t = totA n w u := arrA_congr fun k hk => by
  have h1 : k / (2 * w) < n := Nat.div_lt_of_lt_mul (by rw [Nat.mul_comm]; exact hk)
  have h2 : k % (2 * w) / 2 < w := by have := Nat.mod_lt k (show 0 < 2 * w by omega); omega
  unfold totF
  rw [h _ _ h1 h2]
end Go.Pv
