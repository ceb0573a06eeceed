/- Texts of the proof, joined. -/
import Derived.Test.YthedkfiebmnghaaGreatKdx16
set_option linter.all false
namespace Go.By
def leftL (n : Nat → Nat) : Nat → List Nat
 | 0 => []
 | S + 1 => leftL n S ++ List.replicate (n S) S
theorem left_count (n : Nat → Nat) : ∀ (S t : Nat), (leftL n S).count t = if t < S then n t else 0
 | 0, t => by simp [leftL]
 | S + 1, t => by
  unfold leftL
  rw [List.count_append, left_count n S t, List.count_replicate]
  by_cases h : t < S
  ·have e1 : (S == t) = false := by rw [beq_eq_false_iff_ne]; omega
   have e2 : t < S + 1 := by omega
   rw [e1, if_pos h, if_pos e2]; simp
  ·rw [if_neg h]
   by_cases e : t = S
   ·subst e; simp
   ·have e1 : (S == t) = false := by rw [beq_eq_false_iff_ne]; omega
    have e2 : ¬ t < S + 1 := by omega
    rw [e1, if_neg e2]; simp
theorem left_mem {n : Nat → Nat} : ∀ {S t : Nat}, t ∈ leftL n S → t < S
 | S + 1, t, h => by
  unfold leftL at h
  rcases List.mem_append.1 h with h | h
  ·have := left_mem h; omega
  ·have := (List.mem_replicate.1 h).2; omega
theorem left_plan (n : Nat → Nat) (S : Nat) : IsPlan S n (leftL n S) := ⟨fun s hs => left_mem hs, fun s hs => by rw [left_count, if_pos hs]⟩
def madeL (pick : Nat → Nat → Nat) : Nat → Nat → List Nat → List Nat
 | 0, _, _ => []
 | k + 1, i, l => l.getD (pick i l.length) 0 :: madeL pick k (i + 1) (l.eraseIdx (pick i l.length))
theorem made_perm {pick : Nat → Nat → Nat} (hp : ∀ i m, 0 < m → pick i m < m) : ∀ (k i : Nat) (l : List Nat), l.length = k → l.Perm (madeL pick k i l)
 | 0, _, l, h => by
  have : l = [] := List.eq_nil_of_length_eq_zero h
  subst this
  exact List.Perm.nil
 | k + 1, i, l, h => by
  have hlt := hp i l.length (by omega)
  have h1 : l.Perm (l[pick i l.length] :: l.eraseIdx (pick i l.length)) := by
   rw [List.eraseIdx_eq_take_drop_succ]
   have e : l = l.take (pick i l.length) ++ l[pick i l.length] :: l.drop (pick i l.length + 1) := by
    rw [List.getElem_cons_drop, List.take_append_drop]
   exact (congrArg (List.Perm l) e).mp (List.Perm.refl l) |>.trans List.perm_middle
  unfold madeL
  have e : l.getD (pick i l.length) 0 = l[pick i l.length] := by simp [List.getD, hlt]
  rw [e]
  exact h1.trans (List.Perm.cons _ (made_perm hp k (i + 1) _ (by rw [List.length_eraseIdx_of_lt hlt]; omega)))
theorem made_plan {pick : Nat → Nat → Nat} (hp : ∀ i m, 0 < m → pick i m < m) (n : Nat → Nat) (S : Nat) : IsPlan S n (madeL pick (leftL n S).length 0 (leftL n S)) :=
 plan_of_perm (left_plan n S) (made_perm hp _ 0 _ rfl)
section
variable (D : Nat → List Int) (n : Nat → Nat)
def pickS (c : Nat → Nat) : Nat → Option Nat
 | 0 => none
 | i + 1 => match pickS c i with
  | none => if c i < n i then some i else none
  | some m => if c i < n i ∧ (D i).getD (c i) 0 < (D m).getD (c m) 0 then some i else some m
def soonL (S : Nat) : Nat → (Nat → Nat) → List Nat
 | 0, _ => []
 | k + 1, c => match pickS D n c S with
  | none => []
  | some s => s :: soonL S k (bump c s)
end
section
variable {D : Nat → List Int} {n : Nat → Nat}
theorem pickS_none {c : Nat → Nat} : ∀ {S : Nat}, pickS D n c S = none → ∀ s, s < S → n s ≤ c s
 | S + 1, h, s, hs => by
  unfold pickS at h
  cases e : pickS D n c S with
  | none =>
   rw [e] at h
   dsimp only at h
   by_cases hc : c S < n S
   ·rw [if_pos hc] at h; cases h
   ·by_cases es : s = S
    ·subst es; omega
    ·exact pickS_none e s (by omega)
  | some m =>
   rw [e] at h
   dsimp only at h
   split at h <;> cases h
theorem pickS_some {c : Nat → Nat} : ∀ {S m : Nat}, pickS D n c S = some m → m < S ∧ c m < n m ∧ ∀ s, s < S → c s < n s → (D m).getD (c m) 0 ≤ (D s).getD (c s) 0
 | S + 1, m, h => by
  unfold pickS at h
  cases e : pickS D n c S with
  | none =>
   rw [e] at h
   dsimp only at h
   by_cases hc : c S < n S
   ·rw [if_pos hc] at h
    cases h
    refine ⟨by omega, hc, fun s hs h1 => ?_⟩
    by_cases es : s = S
    ·subst es; exact Int.le_refl _
    ·have := pickS_none e s (by omega); omega
   ·rw [if_neg hc] at h; cases h
  | some k =>
   rw [e] at h
   dsimp only at h
   obtain ⟨g1, g2, g3⟩ := pickS_some e
   by_cases hc : c S < n S ∧ (D S).getD (c S) 0 < (D k).getD (c k) 0
   ·rw [if_pos hc] at h
    cases h
    refine ⟨by omega, hc.1, fun s hs h1 => ?_⟩
    by_cases es : s = S
    ·subst es; exact Int.le_refl _
    ·have := g3 s (by omega) h1
     have := hc.2
     omega
   ·rw [if_neg hc] at h
    cases h
    refine ⟨by omega, g2, fun s hs h1 => ?_⟩
    by_cases es : s = S
    ·subst es
     have : ¬ (D s).getD (c s) 0 < (D m).getD (c m) 0 := fun h => hc ⟨h1, h⟩
     omega
    ·exact g3 s (by omega) h1
end
end Go.By
namespace Go.By
def dueT (D : Nat → List Int) (x : Nat × Nat) : Int := (D x.1).getD x.2 0
def tripLt (D : Nat → List Int) (x y : Nat × Nat) : Prop := dueT D x < dueT D y ∨ dueT D x = dueT D y ∧ (x.1 < y.1 ∨ x.1 = y.1 ∧ x.2 < y.2)
theorem tripLt_irrefl (D : Nat → List Int) (x : Nat × Nat) : ¬ tripLt D x x := by unfold tripLt; omega
section
variable {D : Nat → List Int} {n : Nat → Nat} {S : Nat}
theorem trips_ok (hs : ∀ s, s < S → (D s).Pairwise (· ≤ ·)) (hn : ∀ s, s < S → n s ≤ (D s).length) : ∀ (L : List (Nat × Nat)) (c : Nat → Nat), L.Pairwise (tripLt D) → (∀ s k, (s, k) ∈ L ↔ s < S ∧ c s ≤ k ∧ k < n s) →
  dseq D c (L.map Prod.fst) = L.map (dueT D) ∧ (∀ s, s < S → (L.map Prod.fst).count s = n s - c s)
 | [], c, _, hm => ⟨rfl, fun s hs => by
   have := mt (hm s (c s)).2 (by simp)
   simp
   omega⟩
 | (s, k) :: L, c, hp, hm => by
  have hp' := List.pairwise_cons.1 hp
  obtain ⟨h1, h2, h3⟩ := (hm s k).1 (List.mem_cons_self ..)
  have hk : k = c s := by
   rcases Nat.lt_or_ge (c s) k with h | h
   ·exfalso
    have hmem := (hm s (c s)).2 ⟨h1, Nat.le_refl _, by omega⟩
    rcases List.mem_cons.1 hmem with e | hmem
    ·injection e with _ e; omega
    ·have hl := hp'.1 _ hmem
     have hd := sorted_get (hs s h1) (Nat.le_of_lt h) (by have := hn s h1; omega)
     unfold tripLt dueT at hl
     dsimp only at hl
     omega
   ·omega
  subst hk
  have hnot : ∀ x ∈ L, x ≠ (s, c s) := fun x hx e => by
   have := hp'.1 x hx
   rw [e] at this
   exact tripLt_irrefl D _ this
  have hm2 : ∀ t j, (t, j) ∈ L ↔ t < S ∧ bump c s t ≤ j ∧ j < n t := fun t j => by
   have hb : bump c s t = if t = s then c t + 1 else c t := rfl
   rw [hb]
   constructor
   ·intro h
    obtain ⟨g1, g2, g3⟩ := (hm t j).1 (List.mem_cons_of_mem _ h)
    refine ⟨g1, ?_, g3⟩
    by_cases e : t = s
    ·subst e
     rw [if_pos rfl]
     have : j ≠ c t := fun e => hnot _ h (by rw [e])
     omega
    ·rw [if_neg e]; exact g2
   ·rintro ⟨g1, g2, g3⟩
    have hle : c t ≤ j := by split at g2 <;> omega
    rcases List.mem_cons.1 ((hm t j).2 ⟨g1, hle, g3⟩) with e | h
    ·injection e with e1 e2
     subst e1
     rw [if_pos rfl] at g2
     omega
    ·exact h
  obtain ⟨i1, i2⟩ := trips_ok hs hn L (bump c s) hp'.2 hm2
  refine ⟨?_, fun t ht => ?_⟩
  ·show (D s).getD (c s) 0 :: dseq D (bump c s) (L.map Prod.fst) = dueT D (s, c s) :: L.map (dueT D)
   rw [i1]; rfl
  ·have h4 := i2 t ht
   have hb : bump c s t = if t = s then c t + 1 else c t := rfl
   rw [hb] at h4
   rw [List.map_cons, List.count_cons, h4]
   by_cases e : t = s
   ·subst e
    simp only [if_pos, beq_self_eq_true]
    omega
   ·have : (s == t) = false := by rw [beq_eq_false_iff_ne]; exact fun h => e h.symm
    show (n t - if t = s then c t + 1 else c t) + (if (s == t) = true then 1 else 0) = _
    rw [this, if_neg e]; simp
theorem trips_plan (hs : ∀ s, s < S → (D s).Pairwise (· ≤ ·)) (hn : ∀ s, s < S → n s ≤ (D s).length) {L : List (Nat × Nat)} (hp : L.Pairwise (tripLt D)) (hm : ∀ s k, (s, k) ∈ L ↔ s < S ∧ k < n s) : IsPlan S n (L.map Prod.fst) ∧ (dseq D (fun _ => 0) (L.map Prod.fst)).Pairwise (· ≤ ·) := by
 obtain ⟨h1, h2⟩ := trips_ok hs hn L (fun _ => 0) hp (fun s k => by rw [hm s k]; simp)
 refine ⟨⟨fun s h => ?_, fun s h => by rw [h2 s h]; rfl⟩, ?_⟩
 ·obtain ⟨x, hx, rfl⟩ := List.mem_map.1 h
  exact ((hm x.1 x.2).1 hx).1
 ·rw [h1, List.pairwise_map]
  exact hp.imp fun {a b} h => by
   unfold tripLt at h
   omega
end
def broughtF (load : Nat) (T : Int) (i : Nat) (m : Int) : Nat → List Nat → Nat
 | _, [] => 0
 | o, s :: p => (if s = i ∧ ((o + 1 : Nat) : Int) * T ≤ m then load else 0) + broughtF load T i m (o + 1) p
theorem brought_split {load : Nat} {T m : Int} {i : Nat} : ∀ (p q : List Nat) (o : Nat), broughtF load T i m o (p ++ q) = broughtF load T i m o p + broughtF load T i m (o + p.length) q
 | [], q, o => by simp [broughtF]
 | s :: p, q, o => by
  show _ + broughtF load T i m (o + 1) (p ++ q) = _ + broughtF load T i m (o + 1) p + _
  rw [brought_split p q (o + 1), List.length_cons, show o + 1 + p.length = o + (p.length + 1) by omega]
  omega
theorem brought_le {load : Nat} {T m : Int} {i : Nat} : ∀ (p : List Nat) (o : Nat), broughtF load T i m o p ≤ p.count i * load
 | [], _ => by simp [broughtF]
 | s :: p, o => by
  have := brought_le (load := load) (T := T) (m := m) (i := i) p (o + 1)
  unfold broughtF
  rw [List.count_cons]
  by_cases e : s = i
  ·subst e
   simp only [true_and, beq_self_eq_true, if_pos]
   rw [Nat.add_mul]
   split <;> omega
  ·rw [if_neg (by omega)]
   have : (s == i) = false := by rw [beq_eq_false_iff_ne]; exact e
   rw [this]; simp; omega
end Go.By
namespace Go.By
end Go.By
namespace Go.By
theorem true_ok {R : Nat → Int × Int} {nR : Nat} (hR : ∀ i, i + 1 < nR → (R i).2 ≤ (R (i + 1)).1) (hw : ∀ i, i < nR → (R i).1 < (R i).2) {tk tq : Nat → Int} (hq : ∀ k, tq k ≤ tk k) (hq0 : ∀ k, 0 ≤ tq k)
  {D : Nat → List Int} {T b : Int} {S load first i : Nat} {n : Nat → Nat} {p ks : List Nat} (hl : 1 ≤ load) (hb : 0 ≤ b) (hi : i < S) (hp : IsPlan S n p)
  (hn : n i = tripN (goL R nR tq ks 0 0).length first load) (hD : D i = dueL (goL R nR tq ks 0 0) first load) (h : SoonE D T b p) :
  simB R nR b (fun k => (thereL first load T i p)[k]?) tk ks 0 0 0 = true :=
 sim_ok hR hw hq ks 0 0 0 0 0 (Nat.zero_le _) (Nat.le_refl _) (Int.le_refl _) fun j a ha => by
  obtain ⟨x, h1, h2⟩ := there_ok hl hb (goL_sorted hq0 ks 0 0) (fun a ha => goL_ge hq0 ks 0 0 a ha) hi hp hn hD h j a ha
  exact ⟨x, by rw [Nat.zero_add]; exact h1, h2⟩
section
variable {D : Nat → List Int} {n : Nat → Nat} {S : Nat} {T : Int}
theorem soon_same {p q : List Nat} (hT : 0 ≤ T) (hp : IsPlan S n p) (hq : IsPlan S n q) (hs : (dseq D (fun _ => 0) p).Pairwise (· ≤ ·)) (hs' : (dseq D (fun _ => 0) q).Pairwise (· ≤ ·)) : overS D T p = overS D T q :=
 Int.le_antisymm (soon_least hT (plan_perm hp hq) hs) (soon_least hT (plan_perm hq hp) hs')
theorem waits_least {p q : List Nat} (hT : 0 ≤ T) (hp : IsPlan S n p) (hq : IsPlan S n q) (hs : (dseq D (fun _ => 0) p).Pairwise (· ≤ ·)) : waitsS D T p ≤ waitsS D T q := waits_mono (soon_least hT (plan_perm hp hq) hs)
def leastF (T : Int) : Int → Nat → List Int → Int
 | m, _, [] => m
 | m, o, d :: l => leastF T (min m (d - ((o + 1 : Nat) : Int) * T)) (o + 1) l
end
end Go.By
