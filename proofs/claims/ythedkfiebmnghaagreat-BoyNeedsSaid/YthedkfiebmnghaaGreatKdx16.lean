/- Texts of the proof, joined. -/
import Derived.Test.YthedkfiebmnghaaGreatKpv6
set_option linter.all false
namespace Go.By
theorem edd {a b : List Int} (hp : a.Perm b) (hs : a.Pairwise (· ≤ ·)) {i : Nat} (hi : i < a.length) : ∃ j, i ≤ j ∧ ∃ hj : j < b.length, b[j] ≤ a[i] := by
 apply Classical.byContradiction
 intro hn
 have h1 : ∀ x ∈ b.drop i, ¬ x ≤ a[i] := by
  intro x hx hle
  obtain ⟨k, hk, e⟩ := List.mem_iff_getElem.1 hx
  rw [List.getElem_drop] at e
  rw [List.length_drop] at hk
  exact hn ⟨i + k, by omega, by omega, by rw [e]; exact hle⟩
 have h2 : b.countP (fun x => decide (x ≤ a[i])) ≤ i := by
  have e : b = b.take i ++ b.drop i := (List.take_append_drop i b).symm
  rw [e, List.countP_append]
  have z : (b.drop i).countP (fun x => decide (x ≤ a[i])) = 0 := List.countP_eq_zero.2 fun x hx => by
   rw [decide_eq_true_eq]; exact h1 x hx
  have l1 : (b.take i).countP (fun x => decide (x ≤ a[i])) ≤ (b.take i).length := List.countP_le_length
  rw [List.length_take] at l1
  omega
 have h3 : i + 1 ≤ a.countP (fun x => decide (x ≤ a[i])) := by
  have e : a = a.take (i + 1) ++ a.drop (i + 1) := (List.take_append_drop (i + 1) a).symm
  have hall : (a.take (i + 1)).countP (fun x => decide (x ≤ a[i])) = (a.take (i + 1)).length := List.countP_eq_length.2 fun x hx => by
   rw [decide_eq_true_eq]
   obtain ⟨k, hk, ek⟩ := List.mem_iff_getElem.1 hx
   rw [List.length_take] at hk
   rw [List.getElem_take] at ek
   rw [← ek]
   rcases Nat.lt_or_ge k i with h | h
   ·exact List.pairwise_iff_getElem.1 hs k i (by omega) hi h
   ·have : k = i := by omega
    subst this
    exact Int.le_refl _
  have l1 : (a.take (i + 1)).length = i + 1 := by rw [List.length_take]; omega
  have l2 : a.countP (fun x => decide (x ≤ a[i])) = (a.take (i + 1)).countP (fun x => decide (x ≤ a[i])) + (a.drop (i + 1)).countP (fun x => decide (x ≤ a[i])) := by
   rw [← List.countP_append, List.take_append_drop]
  omega
 rw [hp.countP_eq] at h3
 omega
def latesI (T : Int) : Nat → List Int → List Int
 | _, [] => []
 | o, d :: l => (((o + 1 : Nat) : Int) * T - d) :: latesI T (o + 1) l
theorem latesI_len (T : Int) : ∀ (l : List Int) (o : Nat), (latesI T o l).length = l.length
 | [], _ => rfl
 | d :: l, o => by simp [latesI, latesI_len T l]
theorem latesI_get (T : Int) : ∀ (l : List Int) (o i : Nat) (hi : i < l.length), (latesI T o l)[i]? = some (((o + i + 1 : Nat) : Int) * T - l[i])
 | d :: l, o, 0, _ => rfl
 | d :: l, o, i + 1, hi => by
  show (latesI T (o + 1) l)[i]? = _
  rw [latesI_get T l (o + 1) i (by simpa using hi), show o + 1 + i + 1 = o + (i + 1) + 1 by omega]
  rfl
theorem latesI_append (T : Int) : ∀ (l r : List Int) (o : Nat), latesI T o (l ++ r) = latesI T o l ++ latesI T (o + l.length) r
 | [], r, o => rfl
 | d :: l, r, o => by
  show _ :: latesI T (o + 1) (l ++ r) = _
  rw [latesI_append T l r, List.length_cons, show o + 1 + l.length = o + (l.length + 1) by omega]
  rfl
def maxL (m : Int) : List Int → Int
 | [] => m
 | x :: l => maxL (max m x) l
theorem maxL_le {b : Int} : ∀ (l : List Int) (m : Int), maxL m l ≤ b ↔ m ≤ b ∧ ∀ x ∈ l, x ≤ b
 | [], m => ⟨fun h => ⟨h, fun x hx => by cases hx⟩, fun h => h.1⟩
 | a :: l, m => by
  show maxL (max m a) l ≤ b ↔ _
  rw [maxL_le l]
  constructor
  ·rintro ⟨h1, h2⟩
   refine ⟨by omega, fun x hx => ?_⟩
   rcases List.mem_cons.1 hx with rfl | hx
   ·omega
   ·exact h2 x hx
  ·rintro ⟨h1, h2⟩
   have := h2 a (List.mem_cons_self ..)
   exact ⟨by omega, fun x hx => h2 x (List.mem_cons_of_mem _ hx)⟩
theorem maxL_snoc (m x : Int) (l : List Int) : maxL m (l ++ [x]) = max (maxL m l) x := by
 induction l generalizing m with
 | nil => rfl
 | cons a l ih => exact ih (max m a)
theorem edd_le {T b : Int} {k : Nat} {a c : List Int} (hT : 0 ≤ T) (hp : a.Perm c) (hs : a.Pairwise (· ≤ ·)) (h : ∀ x ∈ latesI T k c, x ≤ b) : ∀ x ∈ latesI T k a, x ≤ b := by
 intro x hx
 obtain ⟨i, e⟩ := List.mem_iff_getElem?.1 hx
 have hi := (List.getElem?_eq_some_iff.1 e).1
 rw [latesI_len] at hi
 rw [latesI_get T a k i hi] at e
 cases e
 obtain ⟨j, hij, hj, hle⟩ := edd hp hs hi
 have := h _ (List.mem_of_getElem? (latesI_get T c k j hj))
 have h2 : ((k + i + 1 : Nat) : Int) * T ≤ ((k + j + 1 : Nat) : Int) * T := Int.mul_le_mul_of_nonneg_right (by omega) hT
 omega
end Go.By
namespace Go.By
def bump (c : Nat → Nat) (s : Nat) : Nat → Nat := fun t => if t = s then c t + 1 else c t
def dseq (D : Nat → List Int) (c : Nat → Nat) : List Nat → List Int
 | [] => []
 | s :: p => (D s).getD (c s) 0 :: dseq D (bump c s) p
theorem dseq_len (D : Nat → List Int) : ∀ (p : List Nat) (c : Nat → Nat), (dseq D c p).length = p.length
 | [], _ => rfl
 | s :: p, c => by simp [dseq, dseq_len D p]
def after (c : Nat → Nat) : List Nat → Nat → Nat
 | [] => c
 | s :: p => after (bump c s) p
theorem after_count : ∀ (p : List Nat) (c : Nat → Nat) (t : Nat), after c p t = c t + p.count t
 | [], c, t => by simp [after]
 | s :: p, c, t => by
  show after (bump c s) p t = _
  rw [after_count p, List.count_cons]
  unfold bump
  by_cases e : t = s
  ·subst e; rw [if_pos rfl]; simp; omega
  ·rw [if_neg e]
   have : (s == t) = false := by rw [beq_eq_false_iff_ne]; exact fun h => e h.symm
   rw [this]; simp
theorem after_append (c : Nat → Nat) : ∀ (p q : List Nat), after c (p ++ q) = after (after c p) q
 | [], q => rfl
 | s :: p, q => after_append (bump c s) p q
theorem dseq_append (D : Nat → List Int) : ∀ (p q : List Nat) (c : Nat → Nat), dseq D c (p ++ q) = dseq D c p ++ dseq D (after c p) q
 | [], q, c => rfl
 | s :: p, q, c => by
  show _ :: dseq D (bump c s) (p ++ q) = _
  rw [dseq_append D p q]
  rfl
theorem dseq_perm (D : Nat → List Int) {p q : List Nat} (h : p.Perm q) : ∀ c, (dseq D c p).Perm (dseq D c q) := by
 induction h with
 | nil => intro c; exact List.Perm.refl _
 | cons s _ ih => intro c; exact (ih _).cons _
 | swap s t l =>
  intro c
  by_cases e : s = t
  ·subst e; exact List.Perm.refl _
  ·have e1 : bump (bump c t) s = bump (bump c s) t := by
    funext x
    unfold bump
    by_cases g1 : x = s
    ·have g2 : x ≠ t := fun h => e (g1.symm.trans h)
     rw [if_pos g1, if_neg g2, if_neg g2, if_pos g1]
    ·rw [if_neg g1]
     by_cases g2 : x = t
     ·rw [if_pos g2, if_pos g2, if_neg g1]
     ·rw [if_neg g2, if_neg g2, if_neg g1]
   have c1 : bump c t s = c s := if_neg e
   have c2 : bump c s t = c t := if_neg fun h => e h.symm
   show (_ :: _ :: dseq D (bump (bump c t) s) l).Perm (_ :: _ :: dseq D (bump (bump c s) t) l)
   rw [e1, c1, c2]
   exact List.Perm.swap _ _ _
 | trans _ _ ih1 ih2 => intro c; exact (ih1 c).trans (ih2 c)
theorem dseq_erase (D : Nat → List Int) {s : Nat} : ∀ (p : List Nat) (c : Nat → Nat), s ∈ p → ∃ l r, dseq D c p = l ++ (D s).getD (c s) 0 :: r ∧ dseq D (bump c s) (p.erase s) = l ++ r
 | t :: p, c, hs => by
  by_cases e : t = s
  ·subst e
   rw [List.erase_cons_head]
   exact ⟨[], _, rfl, rfl⟩
  ·rw [List.erase_cons_tail (by simpa using e)]
   have hs' : s ∈ p := by
    rcases List.mem_cons.1 hs with h | h
    ·exact absurd h.symm e
    ·exact h
   obtain ⟨l, r, h1, h2⟩ := dseq_erase D p (bump c t) hs'
   have e1 : bump (bump c t) s = bump (bump c s) t := by
    funext x
    unfold bump
    by_cases g1 : x = s
    ·have g2 : x ≠ t := fun h => e (h.symm.trans g1)
     have g3 : s ≠ t := fun h => e h.symm
     rw [if_pos g1, if_neg g2, if_neg g2, if_pos g1]
    ·rw [if_neg g1]
     by_cases g2 : x = t
     ·rw [if_pos g2, if_pos g2, if_neg g1]
     ·rw [if_neg g2, if_neg g2, if_neg g1]
   have c1 : bump c t s = c s := if_neg fun h => e h.symm
   have c2 : bump c s t = c t := if_neg e
   refine ⟨(D t).getD (c t) 0 :: l, r, ?_, ?_⟩
   ·show _ :: dseq D (bump c t) p = _
    rw [h1, c1]; rfl
   ·show (D t).getD (bump c s t) 0 :: dseq D (bump (bump c s) t) (p.erase s) = _
    rw [← e1, h2, c2]; rfl
theorem pairwise_out {l r : List Int} {x : Int} (h : (l ++ x :: r).Pairwise (· ≤ ·)) : (l ++ r).Pairwise (· ≤ ·) := by
 rw [List.pairwise_append] at h ⊢
 obtain ⟨h1, h2, h3⟩ := h
 rw [List.pairwise_cons] at h2
 exact ⟨h1, h2.2, fun a ha b hb => h3 a ha b (List.mem_cons_of_mem _ hb)⟩
section
variable (D : Nat → List Int) (T : Int)
def SoonE (b : Int) (p : List Nat) : Prop := ∀ x ∈ latesI T 0 (dseq D (fun _ => 0) p), x ≤ b
instance (b : Int) (p : List Nat) : Decidable (SoonE D T b p) := by unfold SoonE; exact inferInstance
def pickF (b : Int) (p rest : List Nat) : Nat → Nat → Option Nat
 | 0, _ => none
 | f + 1, s => if s ∈ rest ∧ SoonE D T b (p ++ s :: rest.erase s) then some s else pickF b p rest f (s + 1)
def firstF (b : Int) (S : Nat) : Nat → List Nat → List Nat → List Nat
 | 0, p, _ => p
 | k + 1, p, rest => match pickF D T b p rest S 0 with
  | some s => firstF b S k (p ++ [s]) (rest.erase s)
  | none => firstF b S k p rest
end
def lexLe : List Nat → List Nat → Prop
 | [], _ => True
 | _ :: _, [] => False
 | x :: p, y :: q => x < y ∨ (x = y ∧ lexLe p q)
section
variable {D : Nat → List Int} {T : Int}
theorem pick_some {b : Int} {p rest : List Nat} : ∀ f s, (∃ t, s ≤ t ∧ t < s + f ∧ t ∈ rest ∧ SoonE D T b (p ++ t :: rest.erase t)) → ∃ t, pickF D T b p rest f s = some t ∧ s ≤ t ∧ t ∈ rest ∧ SoonE D T b (p ++ t :: rest.erase t) ∧ ∀ u, s ≤ u → u < t → u ∈ rest → ¬ SoonE D T b (p ++ u :: rest.erase u)
 | 0, s, ⟨t, h1, h2, _⟩ => by omega
 | f + 1, s, ⟨t, h1, h2, h3, h4⟩ => by
  unfold pickF
  by_cases hc : s ∈ rest ∧ SoonE D T b (p ++ s :: rest.erase s)
  ·rw [if_pos hc]
   exact ⟨s, rfl, Nat.le_refl _, hc.1, hc.2, fun u hu hu2 => by omega⟩
  ·rw [if_neg hc]
   have hne : t ≠ s := fun e => hc ⟨e ▸ h3, e ▸ h4⟩
   obtain ⟨u, g1, g2, g3, g4, g5⟩ := pick_some f (s + 1) ⟨t, by omega, by omega, h3, h4⟩
   refine ⟨u, g1, by omega, g3, g4, fun v hv hv2 hv3 => ?_⟩
   by_cases e : v = s
   ·subst e; exact fun h => hc ⟨hv3, h⟩
   ·exact g5 v (by omega) hv2 hv3
theorem first_best {b : Int} {S : Nat} (hT : 0 ≤ T) : ∀ (k : Nat) (p rest : List Nat), rest.length = k → (∀ s ∈ rest, s < S) → (dseq D (after (fun _ => 0) p) rest).Pairwise (· ≤ ·) → SoonE D T b (p ++ rest) →
  ∃ q, firstF D T b S k p rest = p ++ q ∧ q.Perm rest ∧ SoonE D T b (p ++ q) ∧ ∀ r, r.Perm rest → SoonE D T b (p ++ r) → lexLe q r
 | 0, p, rest, hk, _, _, hb => by
  have e := List.eq_nil_of_length_eq_zero hk
  subst e
  exact ⟨[], by rw [List.append_nil]; rfl, List.Perm.refl _, hb, fun r _ _ => trivial⟩
 | k + 1, p, rest, hk, hS, hs, hb => by
  have hbehind : ∀ s, s ∈ rest → (dseq D (after (fun _ => 0) (p ++ [s])) (rest.erase s)).Pairwise (· ≤ ·) := fun s hs' => by
   rw [after_append]
   obtain ⟨l, r, h1, h2⟩ := dseq_erase D rest (after (fun _ => 0) p) hs'
   rw [h1] at hs
   show (dseq D (bump (after (fun _ => 0) p) s) (rest.erase s)).Pairwise _
   rw [h2]
   exact pairwise_out hs
  have hany : ∀ s r, s ∈ rest → r.Perm (rest.erase s) → SoonE D T b (p ++ s :: r) → SoonE D T b (p ++ s :: rest.erase s) := fun s r hs' hr hsn => by
   have e1 : ∀ u : List Nat, p ++ s :: u = (p ++ [s]) ++ u := fun u => by simp
   unfold SoonE at hsn ⊢
   rw [e1] at hsn ⊢
   rw [dseq_append, latesI_append] at hsn ⊢
   intro x hx
   rcases List.mem_append.1 hx with hx | hx
   ·exact hsn x (List.mem_append.2 (.inl hx))
   ·exact edd_le hT (dseq_perm D hr.symm _) (hbehind s hs') (fun y hy => hsn y (List.mem_append.2 (.inr hy))) x hx
  obtain ⟨t0, l0, e0⟩ : ∃ t0 l0, rest = t0 :: l0 := by
   cases rest with
   | nil => simp at hk
   | cons t l => exact ⟨t, l, rfl⟩
  have hex : ∃ t, 0 ≤ t ∧ t < 0 + S ∧ t ∈ rest ∧ SoonE D T b (p ++ t :: rest.erase t) := ⟨t0, Nat.zero_le _, by have := hS t0 (by rw [e0]; simp); omega, by rw [e0]; simp, by rw [e0, List.erase_cons_head, ← e0]; exact hb⟩
  obtain ⟨s, g1, _, g3, g4, g5⟩ := pick_some S 0 hex
  have hl : (rest.erase s).length = k := by rw [List.length_erase_of_mem g3]; omega
  have hsn : SoonE D T b ((p ++ [s]) ++ rest.erase s) := by rw [List.append_assoc]; exact g4
  obtain ⟨q, q1, q2, q3, q4⟩ := first_best hT k (p ++ [s]) (rest.erase s) hl (fun x hx => hS x (List.mem_of_mem_erase hx)) (hbehind s g3) hsn
  refine ⟨s :: q, ?_, ?_, ?_, fun r hr hrs => ?_⟩
  ·unfold firstF
   rw [g1]
   dsimp only
   rw [q1, List.append_assoc]; rfl
  ·exact (q2.cons s).trans (List.perm_cons_erase g3).symm
  ·rw [List.append_assoc] at q3; exact q3
  ·cases r with
   | nil =>
    have := hr.length_eq
    rw [e0] at this
    simp at this
   | cons u r =>
    show s < u ∨ (s = u ∧ lexLe q r)
    have hu : u ∈ rest := hr.subset (List.mem_cons_self ..)
    have hr' : r.Perm (rest.erase u) := (List.cons_perm_iff_perm_erase.1 hr).2
    rcases Nat.lt_trichotomy u s with h | h | h
    ·exact absurd (hany u r hu hr' hrs) (g5 u (Nat.zero_le _) h hu)
    ·subst h
     refine .inr ⟨rfl, q4 r hr' ?_⟩
     rw [List.append_assoc]; exact hrs
    ·exact .inl h
end
end Go.By
namespace Go.By
def overS (D : Nat → List Int) (T : Int) (p : List Nat) : Int := maxL (-1000) (latesI T 0 (dseq D (fun _ => 0) p))
def waitsS (D : Nat → List Int) (T : Int) (p : List Nat) : Int := max 0 (overS D T p)
theorem over_le {D : Nat → List Int} {T b : Int} {p : List Nat} (hb : -1000 ≤ b) : overS D T p ≤ b ↔ SoonE D T b p := by
 unfold overS SoonE
 rw [maxL_le]
 exact ⟨fun h => h.2, fun h => ⟨hb, h⟩⟩
theorem over_ge (D : Nat → List Int) (T : Int) (p : List Nat) : -1000 ≤ overS D T p := by
 have := (maxL_le (b := overS D T p) (latesI T 0 (dseq D (fun _ => 0) p)) (-1000)).1 (Int.le_refl _)
 exact this.1
theorem waits_le {D : Nat → List Int} {T b : Int} {p : List Nat} (hb : 0 ≤ b) : waitsS D T p ≤ b ↔ SoonE D T b p := by
 rw [← over_le (by omega)]
 unfold waitsS; omega
theorem soon_least {D : Nat → List Int} {T : Int} {p q : List Nat} (hT : 0 ≤ T) (hp : p.Perm q) (hs : (dseq D (fun _ => 0) p).Pairwise (· ≤ ·)) : overS D T p ≤ overS D T q := by
 have hq := (over_le (D := D) (T := T) (p := q) (over_ge D T q)).1 (Int.le_refl _)
 exact (over_le (over_ge D T q)).2 (edd_le hT (dseq_perm D hp _) hs hq)
theorem waits_mono {D : Nat → List Int} {T : Int} {p q : List Nat} (h : overS D T p ≤ overS D T q) : waitsS D T p ≤ waitsS D T q := by unfold waitsS; omega
theorem lexLe_refl : ∀ p, lexLe p p
 | [] => trivial
 | _ :: p => .inr ⟨rfl, lexLe_refl p⟩
theorem lexLe_anti : ∀ {p q : List Nat}, p.length = q.length → lexLe p q → lexLe q p → p = q
 | [], [], _, _, _ => rfl
 | x :: p, y :: q, hl, h1, h2 => by
  rcases h1 with h1 | ⟨e1, h1⟩
  ·rcases h2 with h2 | ⟨e2, _⟩ <;> omega
  ·rcases h2 with h2 | ⟨_, h2⟩
   ·omega
   ·rw [e1, lexLe_anti (by simpa using hl) h1 h2]
def less (l : Nat → Nat) (s : Nat) : Nat → Nat := fun t => if t = s then l t - 1 else l t
def plansL (S : Nat) : Nat → (Nat → Nat) → List (List Nat)
 | 0, _ => [[]]
 | k + 1, l => (List.range S).flatMap fun s => if 0 < l s then (plansL S k (less l s)).map (s :: ·) else []
def IsPlan (S : Nat) (l : Nat → Nat) (p : List Nat) : Prop := (∀ s ∈ p, s < S) ∧ ∀ s, s < S → p.count s = l s
def totN (l : Nat → Nat) : Nat → Nat
 | 0 => 0
 | s + 1 => totN l s + l s
theorem totN_less {l : Nat → Nat} {s : Nat} (h : 0 < l s) : ∀ S, s < S → totN (less l s) S + 1 = totN l S
 | S + 1, hs => by
  unfold totN
  by_cases e : s = S
  ·subst e
   have : totN (less l s) s = totN l s := by
    have : ∀ k, k ≤ s → totN (less l s) k = totN l k := fun k => by
     induction k with
     | zero => intro _; rfl
     | succ k ih =>
      intro hk
      unfold totN
      rw [ih (by omega)]
      unfold less
      rw [if_neg (by omega)]
    exact this s (Nat.le_refl _)
   rw [this]
   unfold less
   rw [if_pos rfl]; omega
  ·have ih := totN_less h S (by omega)
   have : less l s S = l S := if_neg fun h => e h.symm
   rw [this]; omega
theorem totN_zero {l : Nat → Nat} : ∀ S, totN l S = 0 → ∀ s, s < S → l s = 0
 | S + 1, h, s, hs => by
  unfold totN at h
  by_cases e : s = S
  ·subst e; omega
  ·exact totN_zero S (by omega) s (by omega)
theorem mem_plans {S : Nat} : ∀ {k : Nat} {l : Nat → Nat} {p : List Nat}, totN l S = k → (p ∈ plansL S k l ↔ IsPlan S l p)
 | 0, l, p, hk => by
  show p ∈ [[]] ↔ _
  rw [List.mem_singleton]
  constructor
  ·rintro rfl
   exact ⟨fun s hs => (by cases hs), fun s hs => (by rw [totN_zero S hk s hs]; rfl)⟩
  ·rintro ⟨h1, h2⟩
   cases p with
   | nil => rfl
   | cons s p =>
    have hs := h1 s (List.mem_cons_self ..)
    have := h2 s hs
    rw [totN_zero S hk s hs, List.count_cons_self] at this
    omega
 | k + 1, l, p, hk => by
  show p ∈ (List.range S).flatMap _ ↔ _
  rw [List.mem_flatMap]
  constructor
  ·rintro ⟨s, hs, hp⟩
   have hs := List.mem_range.1 hs
   by_cases h0 : 0 < l s
   ·rw [if_pos h0, List.mem_map] at hp
    obtain ⟨q, hq, rfl⟩ := hp
    obtain ⟨q1, q2⟩ := (mem_plans (by have := totN_less h0 S hs; omega)).1 hq
    refine ⟨fun t ht => ?_, fun t ht => ?_⟩
    ·rcases List.mem_cons.1 ht with rfl | ht
     ·exact hs
     ·exact q1 t ht
    ·have := q2 t ht
     rw [List.count_cons]
     unfold less at this
     by_cases e : t = s
     ·subst e
      rw [if_pos rfl] at this
      simp; omega
     ·rw [if_neg e] at this
      have e2 : (s == t) = false := by rw [beq_eq_false_iff_ne]; exact fun h => e h.symm
      rw [e2]; simp; omega
   ·rw [if_neg h0] at hp; cases hp
  ·rintro ⟨h1, h2⟩
   cases p with
   | nil =>
    exfalso
    have : ∀ S', S' ≤ S → totN l S' = 0 := fun S' => by
     induction S' with
     | zero => intro _; rfl
     | succ n ih =>
      intro hn
      unfold totN
      have := h2 n (by omega)
      rw [List.count_nil] at this
      rw [ih (by omega)]; omega
    have := this S (Nat.le_refl _)
    omega
   | cons s q =>
    have hs := h1 s (List.mem_cons_self ..)
    have hc := h2 s hs
    rw [List.count_cons_self] at hc
    have h0 : 0 < l s := by omega
    refine ⟨s, List.mem_range.2 hs, ?_⟩
    rw [if_pos h0, List.mem_map]
    refine ⟨q, (mem_plans (by have := totN_less h0 S hs; omega)).2 ⟨fun t ht => h1 t (List.mem_cons_of_mem _ ht), fun t ht => ?_⟩, rfl⟩
    have := h2 t ht
    rw [List.count_cons] at this
    unfold less
    by_cases e : t = s
    ·subst e
     rw [if_pos rfl]
     simp at this; omega
    ·rw [if_neg e]
     have e2 : (s == t) = false := by rw [beq_eq_false_iff_ne]; exact fun h => e h.symm
     rw [e2] at this
     simpa using this
theorem plan_perm {S : Nat} {l : Nat → Nat} {p q : List Nat} (hp : IsPlan S l p) (hq : IsPlan S l q) : p.Perm q := List.perm_iff_count.2 fun s => by
 by_cases hs : s < S
 ·rw [hp.2 s hs, hq.2 s hs]
 ·rw [List.count_eq_zero.2 fun h => hs (hp.1 s h), List.count_eq_zero.2 fun h => hs (hq.1 s h)]
theorem plan_of_perm {S : Nat} {l : Nat → Nat} {p q : List Nat} (hp : IsPlan S l p) (h : p.Perm q) : IsPlan S l q := ⟨fun s hs => hp.1 s (h.symm.subset hs), fun s hs => by rw [← h.count_eq]; exact hp.2 s hs⟩
theorem plans_sorted {S : Nat} : ∀ (k : Nat) (l : Nat → Nat), (plansL S k l).Pairwise lexLe
 | 0, _ => by simp [plansL]
 | k + 1, l => by
  show ((List.range S).flatMap _).Pairwise lexLe
  rw [List.flatMap_def, List.pairwise_flatten]
  refine ⟨fun x hx => ?_, ?_⟩
  ·obtain ⟨s, _, rfl⟩ := List.mem_map.1 hx
   split
   ·rw [List.pairwise_map]
    exact (plans_sorted k _).imp fun h => .inr ⟨rfl, h⟩
   ·exact List.Pairwise.nil
  ·rw [List.pairwise_map]
   refine (List.pairwise_lt_range).imp fun {s t} hst p hp q hq => ?_
   split at hp
   ·split at hq
    ·obtain ⟨p', _, rfl⟩ := List.mem_map.1 hp
     obtain ⟨q', _, rfl⟩ := List.mem_map.1 hq
     exact .inl hst
    ·cases hq
   ·cases hp
def bestF (D : Nat → List Int) (T : Int) (L : List (List Nat)) : Nat → List Nat
 | 0 => L.getD 0 []
 | i + 1 => if waitsS D T (L.getD i []) < waitsS D T (bestF D T L i) then L.getD i [] else bestF D T L i
theorem bestF_spec {D : Nat → List Int} {T : Int} {L : List (List Nat)} (hL : L ≠ []) (hs : L.Pairwise lexLe) : ∀ k, k ≤ L.length → bestF D T L k ∈ L ∧ (∀ i, i < k → waitsS D T (bestF D T L k) ≤ waitsS D T (L.getD i [])) ∧ (∀ i, i < k → waitsS D T (L.getD i []) = waitsS D T (bestF D T L k) → lexLe (bestF D T L k) (L.getD i [])) ∧ (∃ j, j < max k 1 ∧ bestF D T L k = L.getD j [] ∧ ∀ i, i < j → waitsS D T (bestF D T L k) < waitsS D T (L.getD i []))
 | 0, _ => by
  obtain ⟨a, l, rfl⟩ : ∃ a l, L = a :: l := by
   cases L with
   | nil => exact absurd rfl hL
   | cons a l => exact ⟨a, l, rfl⟩
  exact ⟨by show a ∈ _; simp, fun i hi => by omega, fun i hi => by omega, 0, by omega, rfl, fun i hi => by omega⟩
 | k + 1, hk => by
  obtain ⟨h1, h2, h3, j, j1, j2, j3⟩ := bestF_spec (D := D) (T := T) hL hs k (by omega)
  have hm : L.getD k [] ∈ L := by simp [List.getD, show k < L.length by omega]
  rw [show bestF D T L (k + 1) = if waitsS D T (L.getD k []) < waitsS D T (bestF D T L k) then L.getD k [] else bestF D T L k from rfl]
  by_cases hc : waitsS D T (L.getD k []) < waitsS D T (bestF D T L k)
  ·rw [if_pos hc]
   refine ⟨hm, fun i hi => ?_, fun i hi e => ?_, k, by omega, rfl, fun i hi => ?_⟩
   ·by_cases e : i = k
    ·subst e; omega
    ·have := h2 i (by omega); omega
   ·by_cases e2 : i = k
    ·subst e2; exact lexLe_refl _
    ·have := h2 i (by omega); omega
   ·have := h2 i hi; omega
  ·rw [if_neg hc]
   refine ⟨h1, fun i hi => ?_, fun i hi e => ?_, j, by omega, j2, j3⟩
   ·by_cases e : i = k
    ·subst e; omega
    ·exact h2 i (by omega)
   ·by_cases e2 : i = k
    ·subst e2
     rw [j2]
     by_cases ej : j = i
     ·rw [ej]; exact lexLe_refl _
     ·have hji : j < i := by omega
      have hlen : i < L.length := by omega
      have := List.pairwise_iff_getElem.1 hs j i (by omega) hlen hji
      have ej1 : L.getD j [] = L[j]'(by omega) := by simp [List.getD, show j < L.length by omega]
      have ei1 : L.getD i [] = L[i] := by simp [List.getD, hlen]
      rw [ej1, ei1]; exact this
    ·exact h3 i (by omega) e
theorem best_first {D : Nat → List Int} {T : Int} {S : Nat} {l : Nat → Nat} {soon : List Nat} (hT : 0 ≤ T) (hp : IsPlan S l soon) (hs : (dseq D (fun _ => 0) soon).Pairwise (· ≤ ·)) :
  bestF D T (plansL S (totN l S) l) (plansL S (totN l S) l).length = firstF D T (waitsS D T soon) S soon.length [] soon := by
 have h0 : 0 ≤ waitsS D T soon := by unfold waitsS; omega
 obtain ⟨q, q1, q2, q3, q4⟩ := first_best (b := waitsS D T soon) (S := S) hT soon.length [] soon rfl hp.1 hs ((waits_le h0).1 (Int.le_refl _))
 rw [List.nil_append] at q1 q3
 have hq : IsPlan S l q := plan_of_perm hp q2.symm
 have hmem : q ∈ plansL S (totN l S) l := (mem_plans rfl).2 hq
 have hne : plansL S (totN l S) l ≠ [] := List.ne_nil_of_mem hmem
 obtain ⟨h1, h2, h3, _⟩ := bestF_spec (D := D) (T := T) hne (plans_sorted _ _) (plansL S (totN l S) l).length (Nat.le_refl _)
 have hb := (mem_plans rfl).1 h1
 have hidx : ∀ r ∈ plansL S (totN l S) l, ∃ i, i < (plansL S (totN l S) l).length ∧ (plansL S (totN l S) l).getD i [] = r := fun r hr => by
  obtain ⟨i, hi, e⟩ := List.mem_iff_getElem.1 hr
  exact ⟨i, hi, by rw [← e]; simp [List.getD, hi]⟩
 obtain ⟨i, hi, ei⟩ := hidx q hmem
 have a1 := h2 i hi
 rw [ei] at a1
 have wq : waitsS D T q ≤ waitsS D T soon := (waits_le h0).2 q3
 have ws : ∀ r, IsPlan S l r → waitsS D T soon ≤ waitsS D T r := fun r hr => waits_mono (soon_least hT (plan_perm hp hr) hs)
 have wb := ws _ hb
 have wq2 := ws q hq
 rw [q1]
 refine lexLe_anti ?_ ?_ ?_
 ·exact (plan_perm hb hq).length_eq
 ·have := h3 i hi
  rw [ei] at this
  exact this (by omega)
 ·exact q4 _ (plan_perm hb hp) (by rw [List.nil_append]; exact (waits_le h0).1 (by omega))
end Go.By
namespace Go.By
def lastN (p : Nat → Bool) (lo : Nat) : Nat → Option Nat
 | 0 => none
 | k + 1 => if p (lo + k) = true then some (lo + k) else lastN p lo k
theorem lastN_some {p : Nat → Bool} {lo n : Nat} : ∀ {k}, lastN p lo k = some n → lo ≤ n ∧ n < lo + k ∧ p n = true ∧ ∀ m, n < m → m < lo + k → p m = false
 | k + 1, h => by
  unfold lastN at h
  by_cases hp : p (lo + k) = true
  ·rw [if_pos hp] at h
   cases h
   exact ⟨by omega, by omega, hp, fun m h1 h2 => by omega⟩
  ·rw [if_neg hp] at h
   obtain ⟨h1, h2, h3, h4⟩ := lastN_some h
   refine ⟨h1, by omega, h3, fun m g1 g2 => ?_⟩
   by_cases e : m = lo + k
   ·subst e; simpa using hp
   ·exact h4 m g1 (by omega)
theorem lastN_none {p : Nat → Bool} {lo : Nat} : ∀ {k}, lastN p lo k = none → ∀ m, lo ≤ m → m < lo + k → p m = false
 | 0, _, m, h1, h2 => by omega
 | k + 1, h, m, h1, h2 => by
  unfold lastN at h
  by_cases hp : p (lo + k) = true
  ·rw [if_pos hp] at h; cases h
  ·rw [if_neg hp] at h
   by_cases e : m = lo + k
   ·subst e; simpa using hp
   ·exact lastN_none h m h1 (by omega)
theorem lastN_eq {p : Nat → Bool} {lo n : Nat} {k : Nat} (h1 : lo ≤ n) (h2 : n < lo + k) (h3 : p n = true) (h4 : ∀ m, n < m → m < lo + k → p m = false) : lastN p lo k = some n := by
 cases h : lastN p lo k with
 | none => rw [lastN_none h n h1 h2] at h3; cases h3
 | some m =>
  obtain ⟨g1, g2, g3, g4⟩ := lastN_some h
  rcases Nat.lt_trichotomy m n with e | e | e
  ·rw [g4 n e h2] at h3; cases h3
  ·rw [e]
  ·rw [h4 m e g2] at g3; cases g3
def slowS (D : Nat → List Int) (soon : List Nat) : Option Nat := lastN (fun n => decide (overS D (n : Int) soon ≤ 0)) 1 60
def overL (D : Nat → List Int) (T : Int) (b : Int) (p : List Nat) : Int := maxL (-1000) ((latesI T 0 (dseq D (fun _ => 0) p)).map (· + b))
def spareS (D : Nat → List Int) (T : Int) (soon : List Nat) : Option Nat := lastN (fun n => decide (overL D T (n : Int) soon ≤ 0)) 0 1001
theorem overL_le {D : Nat → List Int} {T b : Int} {p : List Nat} (hb : 0 ≤ b) (hb2 : b ≤ 1000) : overL D T b p ≤ 0 ↔ overS D T p ≤ -b := by
 rw [over_le (by omega)]
 unfold overL SoonE
 rw [maxL_le]
 constructor
 ·rintro ⟨_, h⟩ x hx
  have := h (x + b) (List.mem_map.2 ⟨x, hx, rfl⟩)
  omega
 ·intro h
  refine ⟨by omega, fun x hx => ?_⟩
  obtain ⟨y, hy, rfl⟩ := List.mem_map.1 hx
  have := h y hy
  omega
theorem spare_eq {D : Nat → List Int} {T : Int} {soon : List Nat} : spareS D T soon = if overS D T soon ≤ 0 then some (-(overS D T soon)).toNat else none := by
 have hge := over_ge D T soon
 by_cases h : overS D T soon ≤ 0
 ·rw [if_pos h]
  refine lastN_eq (by omega) (by omega) (decide_eq_true ((overL_le (by omega) (by omega)).2 (by omega))) fun m h1 h2 => decide_eq_false fun hm => ?_
  have := (overL_le (by omega) (by omega)).1 hm
  omega
 ·rw [if_neg h]
  cases hs : spareS D T soon with
  | none => rfl
  | some n =>
   obtain ⟨_, _, g3, _⟩ := lastN_some hs
   have := (overL_le (by omega) (by omega)).1 (of_decide_eq_true g3)
   omega
end Go.By
namespace Go.By
end Go.By
namespace Go.By
section
variable (R : Nat → Int × Int)
def begF : Nat → Nat → Int → Option (Nat × Int)
 | 0, _, _ => none
 | f + 1, i, d => if max d (R i).1 < (R i).2 then some (i, max d (R i).1) else begF f (i + 1) d
def goL (n : Nat) (tk : Nat → Int) : List Nat → Nat → Int → List Int
 | [], _, _ => []
 | k :: ks, r, d => match begF R (n - r) r d with
  | none => []
  | some (r', a) => a :: goL n tk ks r' (a + tk k)
def scanF (can : Int) (t : Option Int) : Nat → Nat → Int → Option (Option (Nat × Int))
 | 0, _, _ => some none
 | f + 1, r, d => if max d (R r).1 < (R r).2 then
   match t with
   | none => none
   | some t => if can < t - max d (R r).1 then none else if max (max d (R r).1) t < (R r).2 then some (some (r, max (max d (R r).1) t)) else scanF can (some t) f (r + 1) d
  else scanF can t f (r + 1) d
def simB (n : Nat) (can : Int) (th : Nat → Option Int) (tk : Nat → Int) : List Nat → Nat → Nat → Int → Bool
 | [], _, _, _ => true
 | k :: ks, i, r, d => match scanF R can (th i) (n - r) r d with
  | none => false
  | some none => true
  | some (some (r', a)) => simB n can th tk ks (i + 1) r' (a + tk k)
end
section
variable {R : Nat → Int × Int} {n : Nat}
theorem begF_le (hR : ∀ i, i + 1 < n → (R i).2 ≤ (R (i + 1)).1) (hw : ∀ i, i < n → (R i).1 < (R i).2) : ∀ (f i : Nat) (d e : Int) (r : Nat), n = i + f → i ≤ r → r < n → d ≤ e → max e (R r).1 < (R r).2 → ∃ r' a, begF R f i d = some (r', a) ∧ i ≤ r' ∧ r' ≤ r ∧ a ≤ max e (R r).1
 | 0, i, d, e, r, hn, h1, h2, _, _ => by omega
 | f + 1, i, d, e, r, hn, h1, h2, hd, hb => by
  unfold begF
  by_cases hc : max d (R i).1 < (R i).2
  ·rw [if_pos hc]
   refine ⟨i, _, rfl, Nat.le_refl _, h1, ?_⟩
   by_cases e1 : i = r
   ·subst e1; omega
   ·have : ∀ j, i < j → j ≤ r → (R i).2 ≤ (R j).1 := fun j => by
     induction j with
     | zero => intro h; omega
     | succ j ih =>
      intro g1 g2
      have := hR j (by omega)
      by_cases e2 : i = j
      ·subst e2; exact this
      ·have := ih (by omega) (by omega)
       have := hw j (by omega)
       omega
    have := this r (by omega) (Nat.le_refl _)
    omega
  ·rw [if_neg hc]
   have hne : i ≠ r := fun e1 => by subst e1; omega
   obtain ⟨r', a, g1, g2, g3, g4⟩ := begF_le hR hw f (i + 1) d e r (by omega) (by omega) h2 hd hb
   exact ⟨r', a, g1, by omega, g3, g4⟩
theorem scan_ok (hR : ∀ i, i + 1 < n → (R i).2 ≤ (R (i + 1)).1) (hw : ∀ i, i < n → (R i).1 < (R i).2) {can : Int} {t : Option Int} {rq : Nat} {dq : Int} (ht : ∀ r' a, begF R (n - rq) rq dq = some (r', a) → ∃ x, t = some x ∧ x ≤ a + can) :
  ∀ (f r : Nat) (d : Int), n = r + f → rq ≤ r → dq ≤ d → ∃ o, scanF R can t f r d = some o ∧ ∀ r1 a1, o = some (r1, a1) → r1 < n ∧ ∃ r' a, begF R (n - rq) rq dq = some (r', a) ∧ r' ≤ r1 ∧ a ≤ a1
 | 0, r, d, _, _, _ => ⟨none, rfl, fun _ _ h => by cases h⟩
 | f + 1, r, d, hn, hr, hd => by
  have ih := scan_ok hR hw ht f (r + 1) d (by omega) (by omega) hd
  unfold scanF
  by_cases hc : max d (R r).1 < (R r).2
  ·rw [if_pos hc]
   obtain ⟨r', a, g1, g2, g3, g4⟩ := begF_le hR hw (n - rq) rq dq d r (by omega) hr (by omega) hd hc
   obtain ⟨x, rfl, hx⟩ := ht r' a g1
   dsimp only
   rw [if_neg (by omega)]
   by_cases hb : max (max d (R r).1) x < (R r).2
   ·rw [if_pos hb]
    refine ⟨_, rfl, fun r1 a1 e => ?_⟩
    cases e
    exact ⟨by omega, r', a, g1, g3, by omega⟩
   ·rw [if_neg hb]; exact ih
  ·rw [if_neg hc]; exact ih
theorem sim_ok (hR : ∀ i, i + 1 < n → (R i).2 ≤ (R (i + 1)).1) (hw : ∀ i, i < n → (R i).1 < (R i).2) {can : Int} {th : Nat → Option Int} {tk tq : Nat → Int} (hq : ∀ k, tq k ≤ tk k) :
  ∀ (ks : List Nat) (i r rq : Nat) (d dq : Int), r ≤ n → rq ≤ r → dq ≤ d → (∀ j a, (goL R n tq ks rq dq)[j]? = some a → ∃ x, th (i + j) = some x ∧ x ≤ a + can) → simB R n can th tk ks i r d = true
 | [], _, _, _, _, _, _, _, _, _ => rfl
 | k :: ks, i, r, rq, d, dq, hr, hrq, hd, h => by
  have hgo : ∀ r' a, begF R (n - rq) rq dq = some (r', a) → goL R n tq (k :: ks) rq dq = a :: goL R n tq ks r' (a + tq k) := fun r' a e => by
   show (match begF R (n - rq) rq dq with | none => [] | some (r', a) => a :: goL R n tq ks r' (a + tq k)) = _
   rw [e]
  obtain ⟨o, h1, h2⟩ := scan_ok hR hw (can := can) (t := th i) (rq := rq) (dq := dq) (fun r' a e => h 0 a (by rw [hgo r' a e]; rfl)) (n - r) r d (by omega) hrq hd
  show (match scanF R can (th i) (n - r) r d with | none => false | some none => true | some (some (r', a)) => simB R n can th tk ks (i + 1) r' (a + tk k)) = true
  rw [h1]
  cases o with
  | none => rfl
  | some q =>
   obtain ⟨r1, a1⟩ := q
   obtain ⟨g0, r', a, g1, g2, g3⟩ := h2 r1 a1 rfl
   dsimp only
   refine sim_ok (can := can) (th := th) (tk := tk) (tq := tq) hR hw hq ks (i + 1) r1 r' (a1 + tk k) (a + tq k) (by omega) g2 (by have := hq k; omega) fun j b hb => ?_
   have := h (j + 1) b (by rw [hgo r' a g1]; exact hb)
   rwa [show i + (j + 1) = i + 1 + j by omega] at this
end
end Go.By
namespace Go.By
def tripN (n first load : Nat) : Nat := (n - first + (load - 1)) / load
theorem tripN_lt {n first load k : Nat} (hl : 1 ≤ load) : k < tripN n first load ↔ first + k * load < n := by
 unfold tripN
 rw [Nat.lt_div_iff_mul_lt (by omega)]
 omega
theorem tripN_up {n first load : Nat} (hl : 1 ≤ load) : n - first ≤ tripN n first load * load := by
 rcases Nat.lt_or_ge (first + tripN n first load * load) n with h | h
 ·exact absurd ((tripN_lt hl).2 h) (Nat.lt_irrefl _)
 ·omega
def dueL (l : List Int) (first load : Nat) : List Int := (List.range (tripN l.length first load)).map fun k => l.getD (first + k * load) 0
theorem dueL_len (l : List Int) (first load : Nat) : (dueL l first load).length = tripN l.length first load := by unfold dueL; simp
theorem dueL_get {l : List Int} {first load k : Nat} (hk : k < tripN l.length first load) : (dueL l first load).getD k 0 = l.getD (first + k * load) 0 := by
 unfold dueL
 simp [List.getD, hk]
theorem sorted_get {l : List Int} (h : l.Pairwise (· ≤ ·)) {i j : Nat} (hij : i ≤ j) (hj : j < l.length) : l.getD i 0 ≤ l.getD j 0 := by
 have e1 : l.getD i 0 = l[i]'(by omega) := by simp [List.getD, show i < l.length by omega]
 have e2 : l.getD j 0 = l[j] := by simp [List.getD, hj]
 rw [e1, e2]
 rcases Nat.lt_or_ge i j with h1 | h1
 ·exact List.pairwise_iff_getElem.1 h i j (by omega) hj h1
 ·have : i = j := by omega
  subst this
  exact Int.le_refl _
theorem dueL_sorted {l : List Int} (h : l.Pairwise (· ≤ ·)) {first load : Nat} (hl : 1 ≤ load) : (dueL l first load).Pairwise (· ≤ ·) := by
 unfold dueL
 rw [List.pairwise_map]
 refine (List.pairwise_lt_range (n := tripN l.length first load)).imp_of_mem fun {i j} hi hj hij => ?_
 have hj2 := (tripN_lt (n := l.length) (first := first) (k := j) hl).1 (List.mem_range.1 hj)
 have := Nat.mul_le_mul_right load (Nat.le_of_lt hij)
 exact sorted_get h (by omega) hj2
section
variable {R : Nat → Int × Int} {n : Nat}
theorem begF_ge : ∀ {f i : Nat} {d : Int} {r : Nat} {a : Int}, begF R f i d = some (r, a) → i ≤ r ∧ r < i + f ∧ a = max d (R r).1 ∧ a < (R r).2
 | f + 1, i, d, r, a, h => by
  unfold begF at h
  by_cases hc : max d (R i).1 < (R i).2
  ·rw [if_pos hc] at h
   cases h
   exact ⟨Nat.le_refl _, by omega, rfl, hc⟩
  ·rw [if_neg hc] at h
   obtain ⟨h1, h2, h3⟩ := begF_ge h
   exact ⟨by omega, by omega, h3⟩
theorem goL_ge {tk : Nat → Int} (ht : ∀ k, 0 ≤ tk k) : ∀ (ks : List Nat) (r : Nat) (d : Int), ∀ a ∈ goL R n tk ks r d, d ≤ a
 | [], _, _, a, ha => by cases ha
 | k :: ks, r, d, a, ha => by
  have ha : a ∈ (match begF R (n - r) r d with | none => [] | some (r', a) => a :: goL R n tk ks r' (a + tk k)) := ha
  cases hb : begF R (n - r) r d with
  | none => rw [hb] at ha; cases ha
  | some q =>
   obtain ⟨r', b⟩ := q
   rw [hb] at ha
   dsimp only at ha
   obtain ⟨_, _, h3, _⟩ := begF_ge hb
   rcases List.mem_cons.1 ha with rfl | ha
   ·omega
   ·have := goL_ge ht ks r' (b + tk k) a ha
    have := ht k
    omega
theorem goL_sorted {tk : Nat → Int} (ht : ∀ k, 0 ≤ tk k) : ∀ (ks : List Nat) (r : Nat) (d : Int), (goL R n tk ks r d).Pairwise (· ≤ ·)
 | [], _, _ => List.Pairwise.nil
 | k :: ks, r, d => by
  show (match begF R (n - r) r d with | none => [] | some (r', a) => a :: goL R n tk ks r' (a + tk k)).Pairwise _
  cases hb : begF R (n - r) r d with
  | none => exact List.Pairwise.nil
  | some q =>
   obtain ⟨r', b⟩ := q
   dsimp only
   refine List.Pairwise.cons (fun a ha => ?_) (goL_sorted ht ks r' _)
   have := goL_ge ht ks r' (b + tk k) a ha
   have := ht k
   omega
theorem goL_slow (hR : ∀ i, i + 1 < n → (R i).2 ≤ (R (i + 1)).1) (hw : ∀ i, i < n → (R i).1 < (R i).2) {tq ts : Nat → Int} (hq : ∀ k, tq k ≤ ts k) :
  ∀ (ks : List Nat) (rq rs : Nat) (dq ds : Int), rq ≤ rs → dq ≤ ds → ∀ (j : Nat) (b : Int), (goL R n ts ks rs ds)[j]? = some b → ∃ a : Int, (goL R n tq ks rq dq)[j]? = some a ∧ a ≤ b
 | [], _, _, _, _, _, _, j, b, h => by simp [goL] at h
 | k :: ks, rq, rs, dq, ds, hr, hd, j, b, h => by
  have h : (match begF R (n - rs) rs ds with | none => [] | some (r', a) => a :: goL R n ts ks r' (a + ts k))[j]? = some b := h
  cases hb : begF R (n - rs) rs ds with
  | none => rw [hb] at h; simp at h
  | some q =>
   obtain ⟨r1, a1⟩ := q
   rw [hb] at h
   dsimp only at h
   obtain ⟨g1, g2, g3, g4⟩ := begF_ge hb
   obtain ⟨r', a, e1, e2, e3, e4⟩ := begF_le hR hw (n - rq) rq dq ds r1 (by omega) (by omega) (by omega) hd (by omega)
   have hgo : goL R n tq (k :: ks) rq dq = a :: goL R n tq ks r' (a + tq k) := by
    show (match begF R (n - rq) rq dq with | none => [] | some (r', a) => a :: goL R n tq ks r' (a + tq k)) = _
    rw [e1]
   rw [hgo]
   cases j with
   | zero =>
    cases h
    exact ⟨a, rfl, by omega⟩
   | succ j =>
    refine goL_slow hR hw hq ks r' r1 (a + tq k) (a1 + ts k) e3 ?_ j b h
    have := hq k
    omega
end
end Go.By
namespace Go.By
def theR (load : Nat) (T : Int) (i : Nat) : Nat → List Nat → List Int
 | _, [] => []
 | o, s :: p => (if s = i then List.replicate load (((o + 1 : Nat) : Int) * T) else []) ++ theR load T i (o + 1) p
theorem theR_len (load : Nat) (T : Int) (i : Nat) : ∀ (p : List Nat) (o : Nat), (theR load T i o p).length = p.count i * load
 | [], _ => by simp [theR]
 | s :: p, o => by
  unfold theR
  rw [List.length_append, theR_len load T i p, List.count_cons]
  by_cases e : s = i
  ·subst e; simp; rw [Nat.add_mul]; omega
  ·have : (s == i) = false := by rw [beq_eq_false_iff_ne]; exact e
   rw [if_neg e, this]; simp
theorem theR_le {D : Nat → List Int} {T b : Int} {load i : Nat} (hl : 1 ≤ load) : ∀ (p : List Nat) (c : Nat → Nat) (o : Nat), (∀ y ∈ latesI T o (dseq D c p), y ≤ b) → ∀ (q : Nat) (x : Int), (theR load T i o p)[q]? = some x → x ≤ (D i).getD (c i + q / load) 0 + b
 | [], _, _, _, q, x, hx => by simp [theR] at hx
 | s :: p, c, o, h, q, x, hx => by
  have h1 : ((o + 1 : Nat) : Int) * T - (D s).getD (c s) 0 ≤ b := h _ (List.mem_cons_self ..)
  have h2 : ∀ y ∈ latesI T (o + 1) (dseq D (bump c s) p), y ≤ b := fun y hy => h y (List.mem_cons_of_mem _ hy)
  unfold theR at hx
  by_cases e : s = i
  ·subst e
   rw [if_pos rfl] at hx
   by_cases hq : q < load
   ·rw [List.getElem?_append_left (by simpa using hq), List.getElem?_replicate, if_pos hq] at hx
    cases hx
    rw [Nat.div_eq_of_lt hq]
    simp only [Nat.add_zero]
    omega
   ·rw [List.getElem?_append_right (by simp; omega), List.length_replicate] at hx
    have := theR_le hl p (bump c s) (o + 1) h2 (q - load) x hx
    have hb : bump c s s = c s + 1 := if_pos rfl
    rw [hb] at this
    have hd : q / load = (q - load) / load + 1 := by
     rw [← Nat.add_div_right _ (by omega), Nat.sub_add_cancel (by omega)]
    rw [hd, show c s + ((q - load) / load + 1) = c s + 1 + (q - load) / load by omega]
    exact this
  ·rw [if_neg e, List.nil_append] at hx
   have := theR_le hl p (bump c s) (o + 1) h2 q x hx
   have hb : bump c s i = c i := if_neg fun h => e h.symm
   rw [hb] at this
   exact this
def thereL (first load : Nat) (T : Int) (i : Nat) (p : List Nat) : List Int := List.replicate first 0 ++ theR load T i 0 p
theorem there_ok {D : Nat → List Int} {T b : Int} {S load first i : Nat} {l : List Int} {n : Nat → Nat} {p : List Nat} (hl : 1 ≤ load) (hb : 0 ≤ b) (hs : l.Pairwise (· ≤ ·)) (h0 : ∀ a ∈ l, 0 ≤ a) (hi : i < S) (hp : IsPlan S n p) (hn : n i = tripN l.length first load) (hD : D i = dueL l first load) (h : SoonE D T b p) :
  ∀ (k : Nat) (a : Int), l[k]? = some a → ∃ x : Int, (thereL first load T i p)[k]? = some x ∧ x ≤ a + b := by
 intro k a hk
 have hkl := (List.getElem?_eq_some_iff.1 hk).1
 have hka : l.getD k 0 = a := by rw [List.getD_eq_getElem?_getD, hk]; rfl
 unfold thereL
 by_cases hf : k < first
 ·refine ⟨0, by rw [List.getElem?_append_left (by simpa using hf), List.getElem?_replicate, if_pos hf], ?_⟩
  have := h0 a (List.mem_of_getElem? hk)
  omega
 ·rw [List.getElem?_append_right (by simp; omega), List.length_replicate]
  have hc := hp.2 i hi
  have hlt : k - first < (theR load T i 0 p).length := by
   rw [theR_len, hc, hn]
   have := tripN_up (n := l.length) (first := first) hl
   omega
  refine ⟨_, List.getElem?_eq_getElem hlt, ?_⟩
  have h1 := theR_le (D := D) (i := i) hl p (fun _ => 0) 0 h (k - first) _ (List.getElem?_eq_getElem hlt)
  rw [Nat.zero_add, hD] at h1
  have hdiv : first + (k - first) / load * load ≤ k := by
   have := Nat.div_mul_le_self (k - first) load
   omega
  have hq : (k - first) / load < tripN l.length first load := (tripN_lt hl).2 (by omega)
  rw [dueL_get hq] at h1
  have := sorted_get hs hdiv hkl
  omega
end Go.By
