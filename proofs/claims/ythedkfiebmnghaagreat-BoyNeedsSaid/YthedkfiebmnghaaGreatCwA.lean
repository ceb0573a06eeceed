/- Texts of the proof, joined. -/
import Derived.Test.YthedkfiebmnghaaGreatKpv6
set_option linter.all false
namespace Go.Pv
open Go Go.RowKit Go.Sh
def arrP (n : Nat) (c : Nat → Int) : List PV := (List.range n).map fun i => iP (c i)
def arrA (n : Nat) (c : Nat → Int) : List AC := (List.range n).map fun i => .p (iP (c i))
theorem arrP_len (n : Nat) (c : Nat → Int) : (arrP n c).length = n := by unfold arrP; simp
theorem arrA_len (n : Nat) (c : Nat → Int) : (arrA n c).length = n := by unfold arrA; simp
theorem arrA_map (n : Nat) (c : Nat → Int) : (arrP n c).map AC.p = arrA n c := by unfold arrP arrA; rw [List.map_map]; rfl
theorem arrA_cellPV (n : Nat) (c : Nat → Int) : (arrA n c).map cellPV = arrP n c := by unfold arrP arrA; rw [List.map_map]; rfl
theorem arrA_get {n : Nat} {c : Nat → Int} {i : Nat} (h : i < n) : (arrA n c)[i]? = some (.p (iP (c i))) := by unfold arrA; simp [h]
theorem arrA_drop {n : Nat} {c : Nat → Int} {i : Nat} (h : i < n) : ((arrA n c).drop i)[0]? = some (.p (iP (c i))) := by rw [List.getElem?_drop, Nat.add_zero, arrA_get h]
theorem arrA_drop0 (n : Nat) (c : Nat → Int) : (arrA n c).drop 0 = arrA n c := rfl
theorem arrA_take (n : Nat) (c : Nat → Int) : (arrA n c).take n = arrA n c := List.take_of_length_le (by rw [arrA_len]; exact Nat.le_refl _)
theorem mapO_all {α β : Type} {f : α → Option β} {g : α → β} : ∀ l : List α, (∀ x ∈ l, f x = some (g x)) → l.mapM f = some (l.map g)
 | [], _ => rfl
 | a :: l, h => by
  rw [List.mapM_cons, h a (List.mem_cons_self ..), mapO_all l fun x hx => h x (List.mem_cons_of_mem _ hx)]
  rfl
theorem arrA_pv (n : Nat) (c : Nat → Int) (any : Bool) (h : Nat → Option Obj') : (arrA n c).mapM (pvA any h) = some (arrP n c) := by
 have := mapO_all (f := pvA any h) (g := cellPV) (arrA n c) (by
  intro x hx
  unfold arrA at hx
  obtain ⟨i, _, rfl⟩ := List.mem_map.1 hx
  rfl)
 rw [this, arrA_cellPV]
theorem arrA_toPV (n : Nat) (c : Nat → Int) (h : Nat → Option Obj') : (arrA n c).mapM (toPV h) = some (arrP n c) := by
 have := mapO_all (f := toPV h) (g := cellPV) (arrA n c) (by
  intro x hx
  unfold arrA at hx
  obtain ⟨i, _, rfl⟩ := List.mem_map.1 hx
  rfl)
 rw [this, arrA_cellPV]
theorem arrA_refs (n : Nat) (c : Nat → Int) : (arrA n c).flatMap refsC = [] := by
 rw [List.flatMap_eq_nil_iff]
 intro x hx
 unfold arrA at hx
 obtain ⟨i, _, rfl⟩ := List.mem_map.1 hx
 rfl
def updF (c : Nat → Int) (i : Nat) (v : Int) : Nat → Int := fun j => if j = i then v else c j
theorem arrA_spl {n : Nat} {c : Nat → Int} {i : Nat} (h : i < n) (v : Int) : spl (arrA n c) i [.p (iP v)] = arrA n (updF c i v) := by
 apply List.ext_getElem?
 intro j
 rw [spl_get (by rw [arrA_len]; simp; omega)]
 simp only [List.length_cons, List.length_nil]
 by_cases e : j = i
 ·subst e
  rw [if_pos (by omega), Nat.sub_self, arrA_get h]
  unfold updF; rw [if_pos rfl]; rfl
 ·rw [if_neg (by omega)]
  by_cases hj : j < n
  ·rw [arrA_get hj, arrA_get hj]; unfold updF; rw [if_neg e]
  ·rw [List.getElem?_eq_none (by rw [arrA_len]; omega), List.getElem?_eq_none (by rw [arrA_len]; omega)]
theorem arrA_put {n : Nat} {c : Nat → Int} {i : Nat} (h : i < n) (v : Int) : List.take i (arrA n c) ++ [.p (iP v)] ++ List.drop (i + 1) (arrA n c) = arrA n (updF c i v) := arrA_spl h v
theorem arrA_dropn (n : Nat) (c : Nat → Int) : List.drop n (arrA n c) = [] := List.drop_of_length_le (by rw [arrA_len]; exact Nat.le_refl _)
theorem arrA_congr {n : Nat} {c d : Nat → Int} (h : ∀ i, i < n → c i = d i) : arrA n c = arrA n d := List.map_congr_left fun i hi => by rw [h i (List.mem_range.1 hi)]
theorem arrP_congr {n : Nat} {c d : Nat → Int} (h : ∀ i, i < n → c i = d i) : arrP n c = arrP n d := List.map_congr_left fun i hi => by rw [h i (List.mem_range.1 hi)]
end Go.Pv
