/- Texts of the proof, joined. -/
import Derived.Test.YthedkfiebmnghaaGreatKyd36
set_option linter.all false
set_option maxHeartbeats 16000000
set_option maxRecDepth 20000
namespace Go.Sh.Stand
def Sorted : List (Int × Int) → Prop
 | [] => True
 | p :: r => (p.1 < p.2 ∧ ∀ q ∈ r, p.2 ≤ q.1) ∧ Sorted r
theorem runsB_ge : ∀ (l : List (Int × Int)) (b : Int), runsB l b = true → ∀ q ∈ l, b ≤ q.1
 | [], _, _, q, hq => by cases hq
 | (st, be) :: r, b, h, q, hq => by
  simp only [runsB, inR, Bool.and_eq_true, decide_eq_true_eq] at h
  rcases List.mem_cons.1 hq with rfl | hq
  ·exact h.1.1.1
  ·have := runsB_ge r be h.2 q hq
   omega
theorem runsB_sorted : ∀ (l : List (Int × Int)) (b : Int), runsB l b = true → Sorted l
 | [], _, _ => trivial
 | (st, be) :: r, b, h => by
  have h' := h
  simp only [runsB, inR, Bool.and_eq_true, decide_eq_true_eq] at h
  exact ⟨⟨by simp only; omega, runsB_ge r be h.2⟩, runsB_sorted r be h.2⟩
end Go.Sh.Stand
namespace Go.Proofs.YthedkfiebmnghaaGreat
open Go Go.RowKit Go.Sh Go.Sh.Stand Go.Pv
theorem tok_tk {t : Shearer} (ht : Tok t) (k : Int) : 1 ≤ tk t k ∧ tk t k ≤ 40 := by
 unfold tk
 split
 ·exact ht.1
 ·split
  ·exact ht.2.1
  ·exact ht.2.2
theorem drop_run {runs : List (Int × Int)} {r : Nat} {p : Int × Int} (h : runs[r]? = some p) : runs.drop r = p :: runs.drop (r + 1) := by
 obtain ⟨hl, rfl⟩ := List.getElem?_eq_some_iff.1 h
 exact List.drop_eq_getElem_cons hl
theorem begins_next {runs : List (Int × Int)} {r : Nat} {p : Int × Int} {d : Int} (h : runs[r]? = some p) (hd : ¬ gmax d p.1 < p.2) : begins (runs.drop r) r d = begins (runs.drop (r + 1)) (r + 1) d := by
 rw [drop_run h]; obtain ⟨st, be⟩ := p; rw [begins, if_neg hd]
def dayZ (runs : List (Int × Int)) (t : Shearer) : List Int → Int → List (Int × Int)
 | [], _ => []
 | k :: ks, d =>
  match begins runs 0 d with
  | none => List.replicate (ks.length + 1) (1000, -1)
  | some (i, at_) => (at_ + tk t k, (i : Int)) :: dayZ runs t ks (at_ + tk t k)
theorem sorted_get : ∀ (l : List (Int × Int)), Sorted l → ∀ (i j : Nat) (p q : Int × Int), j < i → l[j]? = some p → l[i]? = some q → p.2 ≤ q.1
 | [], _, i, j, p, q, _, h, _ => by simp at h
 | x :: l, hs, i, j, p, q, hji, hp, hq => by
  obtain ⟨i, rfl⟩ : ∃ i', i = i' + 1 := ⟨i - 1, by omega⟩
  rw [List.getElem?_cons_succ] at hq
  cases j with
  | zero => simp at hp; subst hp; exact hs.1.2 q (List.mem_of_getElem? hq)
  | succ j => exact sorted_get l hs.2 i j p q (by omega) (by simpa using hp) hq
theorem begins_skipZ {runs : List (Int × Int)} {d : Int} : ∀ (r : Nat), (∀ j p, j < r → runs[j]? = some p → p.2 ≤ d) → begins (runs.drop r) r d = begins runs 0 d
 | 0, _ => rfl
 | r + 1, h => by
  rw [← begins_skipZ r fun j p hj => h j p (by omega)]
  by_cases hr : r < runs.length
  ·have hp : runs[r]? = some runs[r] := by simp [hr]
   have := h r _ (by omega) hp
   have hg := gmax_ge d runs[r].1
   exact (begins_next hp (by omega)).symm
  ·rw [List.drop_eq_nil_of_le (by omega), List.drop_eq_nil_of_le (by omega)]; rfl
theorem dayZ_eq {runs : List (Int × Int)} (hs : Sorted runs) {t : Shearer} (ht : ∀ k, 1 ≤ tk t k) : ∀ (ks : List Int) (r : Nat) (d : Int), (∀ j p, j < r → runs[j]? = some p → p.2 ≤ d) → dayFrom runs t ks r d = dayZ runs t ks d
 | [], _, _, _ => rfl
 | k :: ks, r, d, h => by
  have hb := begins_skipZ r h
  unfold dayFrom dayZ
  rw [hb]
  cases hx : begins runs 0 d with
  | none => rfl
  | some ia =>
   obtain ⟨i, a⟩ := ia
   simp only
   rw [dayZ_eq hs ht ks i (a + tk t k)]
   intro j p hj hp
   rw [← hb] at hx
   obtain ⟨q, h1, h2, h3, h4⟩ := begins_of_drop hx
   have h5 := sorted_get runs hs i j p q hj hp h2
   have h6 := gmax_ge d q.1
   have := ht k
   omega
theorem day_dayZ {s : Stand} (hs : Sorted s.runs) {t : Shearer} (ht : ∀ k, 1 ≤ tk t k) : day s t = dayZ s.runs t s.sheep 0 := dayZ_eq hs ht s.sheep 0 0 fun j p hj => by omega
def runAt : List (Int × Int) → Nat → Int → Int
 | [], _, _ => -1
 | (st, be) :: r, i, m => if inB m st (be - 1) = true then i else runAt r (i + 1) m
theorem runAt_mem : ∀ (l : List (Int × Int)) (i : Nat) (m : Int), runAt l i m ≠ -1 → ∃ q ∈ l, q.1 ≤ m ∧ m < q.2
 | [], _, _, h => absurd rfl h
 | (st, be) :: r, i, m, h => by
  rw [runAt] at h
  split at h
  ·rename_i hin
   have := inB_spec hin
   exact ⟨(st, be), List.mem_cons_self, by simp only; omega⟩
  ·obtain ⟨q, hq, h2⟩ := runAt_mem r (i + 1) m h
   exact ⟨q, List.mem_cons_of_mem _ hq, h2⟩
theorem begins_run : ∀ (l : List (Int × Int)) (i : Nat) (m j : Int), Sorted l → runAt l i m = j → j ≠ -1 → ∃ n : Nat, j = n ∧ begins l i m = some (n, m)
 | [], _, _, _, _, h, hj => by rw [runAt] at h; omega
 | (st, be) :: r, i, m, j, hs, h, hj => by
  have h' := h
  rw [runAt] at h
  by_cases hin : inB m st (be - 1) = true
  ·rw [if_pos hin] at h
   have := inB_spec hin
   have hg : gmax m st = m := by unfold gmax; split <;> omega
   exact ⟨i, h.symm, by rw [begins, hg, if_pos (by omega)]⟩
  ·rw [if_neg hin] at h
   obtain ⟨q, hq, h1, h2⟩ := runAt_mem r (i + 1) m (by rw [h]; exact hj)
   have h3 := hs.1.2 q hq
   have hg := gmax_ge m st
   simp only at h3
   obtain ⟨n, h4, h5⟩ := begins_run r (i + 1) m j hs.2 h hj
   exact ⟨n, h4, by rw [begins, if_neg (by omega)]; exact h5⟩
theorem begins_idle : ∀ (l : List (Int × Int)) (i : Nat) (m : Int), runAt l i m = -1 → begins l i m = begins l i (m + 1)
 | [], _, _, _ => rfl
 | (st, be) :: r, i, m, h => by
  rw [runAt] at h
  by_cases hin : inB m st (be - 1) = true
  ·rw [if_pos hin] at h; omega
  ·rw [if_neg hin] at h
   have ih := begins_idle r (i + 1) m h
   have hn : m < st ∨ be ≤ m := by
    unfold inB at hin
    simp at hin
    omega
   rcases hn with hn | hn
   ·have e1 : gmax m st = st := by unfold gmax; split <;> omega
    have e2 : gmax (m + 1) st = st := by unfold gmax; split <;> omega
    rw [begins, begins, e1, e2, ih]
   ·have g1 := gmax_ge m st
    have g2 := gmax_ge (m + 1) st
    rw [begins, begins, if_neg (by omega), if_neg (by omega), ih]
theorem begins_late : ∀ (l : List (Int × Int)) (i : Nat) (m : Int), (∀ p ∈ l, p.2 ≤ m) → begins l i m = none
 | [], _, _, _ => rfl
 | (st, be) :: r, i, m, h => by
  have h1 := h (st, be) List.mem_cons_self
  have g1 := gmax_ge m st
  simp only at h1
  rw [begins, if_neg (by omega)]
  exact begins_late r (i + 1) m fun p hp => h p (List.mem_cons_of_mem _ hp)
theorem dayZ_idle {runs : List (Int × Int)} {t : Shearer} {ks : List Int} {m : Int} (h : runAt runs 0 m = -1) : dayZ runs t ks m = dayZ runs t ks (m + 1) := by
 cases ks with
 | nil => rfl
 | cons k ks => rw [dayZ, dayZ, begins_idle runs 0 m h]
theorem dayZ_step {runs : List (Int × Int)} (hs : Sorted runs) {t : Shearer} {k : Int} {ks : List Int} {m j : Int} (h : runAt runs 0 m = j) (hj : j ≠ -1) : dayZ runs t (k :: ks) m = (m + tk t k, j) :: dayZ runs t ks (m + tk t k) := by
 obtain ⟨n, rfl, h2⟩ := begins_run runs 0 m j hs h hj
 rw [dayZ, h2]
theorem dayZ_late {runs : List (Int × Int)} {t : Shearer} {ks : List Int} {m : Int} (h : ∀ p ∈ runs, p.2 ≤ m) : dayZ runs t ks m = List.replicate ks.length (1000, -1) := by
 cases ks with
 | nil => rfl
 | cons k ks => rw [dayZ, begins_late runs 0 m h]; rfl
theorem runAt_le : ∀ (l : List (Int × Int)) (i : Nat) (m : Int), -1 ≤ runAt l i m ∧ runAt l i m ≤ i + l.length
 | [], i, m => by rw [runAt]; simp
 | (st, be) :: r, i, m => by
  rw [runAt]
  have := runAt_le r (i + 1) m
  split
  ·simp; omega
  ·simp; omega
end Go.Proofs.YthedkfiebmnghaaGreat
namespace Go.Proofs.YthedkfiebmnghaaGreat
open Go Go.RowKit Go.Sh Go.Sh.Stand Go.Pv
section
variable (m0 m1 m2 : Int × Int) (runs : List (Int × Int)) (sheep : List Int) (looks : List (Int × Int × Int))
theorem ok_running (m : Int) (hrl : runs.length ≤ 4) (hr : ∀ p ∈ runs, 0 ≤ p.1 ∧ p.1 < p.2 ∧ p.2 ≤ 600) : FunOK Tryz.prog 119 [stR m0 m1 m2 runs sheep looks, .one (iP m)] (.one (.one (iP (runAt runs 0 m)))) := by
 refine fun_ok (nt := 29) (rs := [.tmp 4]) Tryz.func119 rfl rfl rfl (by simp) fun Z w0 => ?_; refine tI ?_
 simp only [stR]
 obtain ⟨ans, hans⟩ : ∃ x, runAt runs 0 m = x := ⟨_, rfl⟩
 rw [hans]
 refine tw ?_
 refine aw_weak (weak_keep [1, 2, 5] (by simp only [go_sem, ↓reduceIte]; rfl)) ?_
 refine aw_loop_ov (ι := { k : Nat // k ≤ runs.length ∧ runAt (runs.drop k) k m = ans }) (fun k => [(5, iA k.1)]) (fun _ => []) (fun k => runs.length - k.1) ⟨0, by omega, hans⟩ (by first | rfl | (simp only [go_sem, ↓reduceIte]; first | done | rfl | (simp; try rfl))) ?_
 clear hans
 rintro ⟨k, hk, hans⟩
 refine tO ?_
 by_cases hkr : k < runs.length
 ·have hd : runs.drop k = runs.getD k (0, 0) :: runs.drop (k + 1) := drop_getD hkr
  have hb := hr (runs.getD k (0, 0)) (by
   have : runs.getD k (0, 0) = runs[k] := by simp [List.getD, hkr]
   rw [this]; exact List.getElem_mem _)
  rw [hd] at hans
  clear hr hd
  refine tw ?_
  refine ti ?_
  refine tw fun QQ hQQ => ?_
  generalize runs.getD k (0, 0) = pr at hans hb ⊢
  obtain ⟨st, be⟩ := pr
  simp only at hb
  rw [runAt] at hans
  have hc := ok_in m st (be - 1)
  cases h5 : inB m st (be - 1)
  ·rw [h5] at hc hans
   simp only [Bool.false_eq_true, if_false] at hans
   (refine cD 80 rfl rfl rfl (hc) Tryz.func80 rfl ?_); refine td ?_; clear hQQ QQ
   refine ti ?_
   refine tw ?_
   (refine ⟨⟨k + 1, by omega, hans⟩, ?_, weak_round (by simp only [go_sem, ↓reduceIte]; first | done | rfl) (by first | rfl | (simp only [go_sem, ↓reduceIte]))⟩; (simp only; omega))
  ·rw [h5] at hc hans
   simp only [if_true] at hans
   subst hans
   (refine cD 80 rfl rfl rfl (hc) Tryz.func80 rfl ?_); refine td ?_; clear hQQ QQ
   refine ti ?_
   refine tw ?_
   exact qRN
 ·have : runs.drop k = [] := List.drop_eq_nil_of_le (by omega)
  rw [this, runAt] at hans
  subst hans
  refine tw ?_
  refine ti ?_
  refine tw ?_
  exact qRN
end
end Go.Proofs.YthedkfiebmnghaaGreat
namespace Go.Proofs.YthedkfiebmnghaaGreat
open Go Go.RowKit Go.Sh Go.Sh.Stand Go.Pv
attribute [local go_sem] rowsK_nil' rowsK_cons' Bool.true_or min_eq max_eq List.length_append List.map_append beq_t_d beq_f_d bne_t_d bne_f_d
def shO (l : List Int) : Obj' := .arr 3 1 (l.map row1) true
section
variable (m0 m1 m2 : Int × Int) (runs : List (Int × Int)) (sheep : List Int) (looks : List (Int × Int × Int))
theorem ok_goes (a b c : Int) (hr : ∀ p ∈ runs, 0 ≤ p.1 ∧ p.1 < p.2 ∧ p.2 ≤ 600) (hs : Sorted runs) (hrl : runs.length ≤ 4) (hsl : sheep.length ≤ 16) (hk : ∀ k ∈ sheep, 0 ≤ k ∧ k ≤ 2) (ht : Tok (a, b, c)) :
  FunOK Tryz.prog 89 [stR m0 m1 m2 runs sheep looks, .one (.sl ([a, b, c].map row1))] (.one (.agg [.sl (((dayZ runs (a, b, c) sheep 0).map (·.1)).map row1), .sl (((dayZ runs (a, b, c) sheep 0).map (·.2)).map row1)])) := by
 obtain ⟨tq, htq⟩ : ∃ tq, tq = [a, b, c] := ⟨_, rfl⟩
 rw [← htq]
 have htl : tq.length = 3 := by rw [htq]; rfl
 have htk : ∀ q, 0 ≤ q ∧ q ≤ 2 → tk (a, b, c) q = tq.getD q.toNat 0 := by
  intro q hq
  rcases (show q = 0 ∨ q = 1 ∨ q = 2 by omega) with rfl | rfl | rfl <;> rw [htq] <;> rfl
 have htb : ∀ q, 1 ≤ tk (a, b, c) q ∧ tk (a, b, c) q ≤ 40 := fun q => tok_tk ht q
 obtain ⟨D, hD⟩ : ∃ D, dayZ runs (a, b, c) sheep 0 = D := ⟨_, rfl⟩
 rw [hD]
 generalize (a, b, c) = t at hD htk htb
 clear htq ht
 refine fun_ok (nt := 74) (rs := [.cell 4 130]) Tryz.func89 rfl rfl rfl (by simp) fun Z w0 => ?_; refine tI ?_
 simp only [stR]
 refine tw ?_
 refine aw_weak (weak_ownB 2 0 3 1 (by (refine ts ?_); rfl) rfl) ?_
 simp only [AL.set, List.set]
 refine aw_weak (weak_ownB 2 1 3 1 (by (refine ts ?_); rfl) rfl) ?_
 simp only [AL.set, List.set]
 refine aw_weak (weak_keep [1, 2, 4, 5, 6, 7] (by simp only [go_sem, ↓reduceIte]; rfl)) ?_
 refine aw_loop_ov (ι := { p : Nat × Int × List (Int × Int) // p.1 ≤ 601 ∧ 0 ≤ p.2.1 ∧ p.2.1 ≤ 640 ∧ p.2.2.length ≤ sheep.length ∧ p.2.2 ++ dayZ runs t (sheep.drop p.2.2.length) (gmax p.2.1 p.1) = D }) (fun p => [(6, iA p.1.2.1), (7, iA p.1.1)]) (fun p => [(2, .box [.own 3 p.1.2.2.length, .own 4 p.1.2.2.length]), (3, shO (p.1.2.2.map (·.1))), (4, shO (p.1.2.2.map (·.2)))]) (fun p => 601 - p.1.1) ⟨(0, 0, []), by simp, by simp, by simp, by simp, hD⟩ (by first | rfl | (simp only [go_sem, ↓reduceIte]; first | done | rfl | (simp; try rfl))) ?_
 clear hD
 rintro ⟨⟨now, busy, l⟩, h1, h2, h3, h4, hD⟩
 simp only at h1 h2 h3 h4 hD
 refine tO ?_
 simp only [shO]
 by_cases hnow : now ≤ 600
 ·have hc := ok_running m0 m1 m2 runs sheep looks now hrl hr
  have hj := runAt_le runs 0 now
  obtain ⟨j, hjj⟩ : ∃ j, runAt runs 0 now = j := ⟨_, rfl⟩
  rw [hjj] at hc hj
  have idle : j = -1 ∨ (now : Int) < busy ∨ l.length = sheep.length → l ++ dayZ runs t (sheep.drop l.length) (gmax busy (now + 1 : Nat)) = D := by
   intro h
   rw [← hD]
   congr 1
   by_cases hb : (now : Int) < busy
   ·have e1 : gmax busy (now + 1 : Nat) = busy := by unfold gmax; split <;> omega
    have e2 : gmax busy now = busy := by unfold gmax; split <;> omega
    rw [e1, e2]
   ·have e1 : gmax busy (now + 1 : Nat) = (now : Int) + 1 := by unfold gmax; split <;> omega
    have e2 : gmax busy now = now := by unfold gmax; split <;> omega
    rw [e1, e2]
    rcases h with h | h | h
    ·exact (dayZ_idle (by rw [hjj, h])).symm
    ·omega
    ·rw [List.drop_eq_nil_of_le (by omega)]; rfl
  refine tw ?_
  refine ti ?_
  refine tw fun QQ hQQ => ?_
  ((refine cO 119 rfl rfl rfl (hc) Tryz.func119 rfl ?_); refine tu ?_; clear hQQ QQ); refine tw ?_
  by_cases c1 : 0 ≤ j
  ·by_cases c2 : busy ≤ now
   ·by_cases c3 : l.length < sheep.length
    ·have hq := hk (sheep.getD l.length 0) (by
      have : sheep.getD l.length 0 = sheep[l.length] := by simp [List.getD, c3]
      rw [this]; exact List.getElem_mem _)
     have hd : sheep.drop l.length = sheep.getD l.length 0 :: sheep.drop (l.length + 1) := drop_getD c3
     rw [hd] at hD
     have e2 : gmax busy now = now := by unfold gmax; split <;> omega
     rw [e2, dayZ_step hs hjj (by omega)] at hD
     have htq := htk _ hq
     have hbq := htb (sheep.getD l.length 0)
     rw [htq] at hD hbq
     clear idle hk htk htb hr hs hc htq hd e2 hjj
     have e3 : gmax ((now : Int) + tq.getD (sheep.getD l.length 0).toNat 0) ((now + 1 : Nat) : Int) = (now : Int) + tq.getD (sheep.getD l.length 0).toNat 0 := by unfold gmax; split <;> omega
     refine tw ?_
     refine ti ?_
     refine tw ?_
     generalize tq.getD (sheep.getD l.length 0).toNat 0 = x at hD hbq e3 ⊢
     refine ⟨⟨(now + 1, now + x, l ++ [(now + x, j)]), by simp only; omega, by simp only; omega, by simp only; omega, by simp; omega, by simp only [List.length_append, List.length_cons, List.length_nil, Nat.zero_add]; rw [e3, List.append_assoc]; exact hD⟩, ?_, weak_round ?_ (by first | rfl | (simp only [go_sem, ↓reduceIte]))⟩
     rotate_left
     ·simp only [go_sem, ↓reduceIte]
      try simp [shO, row1]
     ·simp only; omega
    ·clear hk htk htb hr hs hc hjj
     refine tw ?_
     refine ti ?_
     refine tw ?_
     (refine ⟨⟨(now + 1, busy, l), by simp only; omega, h2, h3, h4, idle (.inr (.inr (by omega)))⟩, ?_, weak_round (by simp only [go_sem, ↓reduceIte]; first | done | rfl) (by first | rfl | (simp only [go_sem, ↓reduceIte]))⟩; (simp only; omega))
   ·clear hk htk htb hr hs hc hjj
    refine tw ?_
    refine ti ?_
    refine tw ?_
    (refine ⟨⟨(now + 1, busy, l), by simp only; omega, h2, h3, h4, idle (.inr (.inl (by omega)))⟩, ?_, weak_round (by simp only [go_sem, ↓reduceIte]; first | done | rfl) (by first | rfl | (simp only [go_sem, ↓reduceIte]))⟩; (simp only; omega))
  ·clear hk htk htb hr hs hc hjj
   refine tw ?_
   refine ti ?_
   refine tw ?_
   (refine ⟨⟨(now + 1, busy, l), by simp only; omega, h2, h3, h4, idle (.inl (by omega))⟩, ?_, weak_round (by simp only [go_sem, ↓reduceIte]; first | done | rfl) (by first | rfl | (simp only [go_sem, ↓reduceIte]))⟩; (simp only; omega))
 ·have hlate : ∀ p ∈ runs, p.2 ≤ gmax busy now := fun p hp => by
   have := hr p hp
   have : (now : Int) ≤ gmax busy now := by unfold gmax; split <;> omega
   omega
  rw [dayZ_late hlate, List.length_drop] at hD
  clear hk htk htb hr hs hlate
  refine tw ?_
  refine ti ?_
  refine tw ?_
  refine aw_weak (weak_keep [2, 4, 5] (by simp only [go_sem, ↓reduceIte]; rfl)) ?_
  refine aw_loop_ov (ι := { l : List (Int × Int) // l.length ≤ sheep.length ∧ l ++ List.replicate (sheep.length - l.length) (1000, -1) = D }) (fun _ => []) (fun l => [(2, .box [.own 3 l.1.length, .own 4 l.1.length]), (3, shO (l.1.map (·.1))), (4, shO (l.1.map (·.2)))]) (fun l => sheep.length - l.1.length) ⟨l, h4, hD⟩ (by first | rfl | (simp only [go_sem, ↓reduceIte]; first | done | rfl | (simp; try rfl))) ?_
  clear hD h4
  rintro ⟨l, h4, hD⟩
  refine tO ?_
  simp only [shO]
  by_cases hq : l.length < sheep.length
  ·have e : l ++ [(1000, -1)] ++ List.replicate (sheep.length - (l.length + 1)) ((1000 : Int), (-1 : Int)) = l ++ List.replicate (sheep.length - l.length) (1000, -1) := by
    rw [show sheep.length - l.length = (sheep.length - (l.length + 1)) + 1 by omega, List.replicate_succ, List.append_assoc]; rfl
   refine tw ?_
   refine ti ?_
   refine tw ?_
   refine ⟨⟨l ++ [(1000, -1)], by simp; omega, by simp only [List.length_append, List.length_cons, List.length_nil, Nat.zero_add]; rw [e]; exact hD⟩, ?_, weak_round ?_ (by first | rfl | (simp only [go_sem, ↓reduceIte]))⟩
   rotate_left
   ·simp only [go_sem, ↓reduceIte]
    try simp [shO, row1]
   ·first | (simp; done) | (simp; omega)
  ·have e0 : sheep.length - l.length = 0 := by omega
   rw [e0] at hD
   simp only [List.replicate_zero, List.append_nil] at hD
   subst hD
   refine tw ?_
   refine ti ?_
   refine tw ?_
   refine tRN ?_
   simp [List.take_of_length_le]
end
end Go.Proofs.YthedkfiebmnghaaGreat
namespace Go.Proofs.YthedkfiebmnghaaGreat
open Go Go.RowKit Go.Sh Go.Sh.Stand Go.Pv Go.By
section
variable {s : SD}
theorem quick_tok (h : s.ok = true) : Tok s.quick := by
 have hm := (ok_fit h).minb
 have h0 := hm s.m0 (by simp [SD.st])
 have h1 := hm s.m1 (by simp [SD.st])
 have h2 := hm s.m2 (by simp [SD.st])
 unfold Tok SD.quick
 dsimp only
 omega
theorem runs_sorted (h : s.ok = true) : Sorted s.runs := by
 have hv := (ok_valid h).1
 unfold validB at hv
 simp only [Bool.and_eq_true] at hv
 exact runsB_sorted s.runs 0 (by simp_all [SD.st])
def dayQ (s : SD) : List (Int × Int) := dayZ s.runs s.quick s.sheep 0
theorem dayQ_eq (h : s.ok = true) : dayQ s = day s.st s.quick := (day_dayZ (s := s.st) (runs_sorted h) (fun k => (tok_tk (quick_tok h) k).1)).symm
theorem dayQ_at (h : s.ok = true) {k : Nat} (hk : k < s.sheep.length) : (k < s.needL.length → ((dayQ s).getD k (0, 0)).1 = s.needL.getD k 0 + tk s.quick (s.sheep.getD k 0) ∧ 0 ≤ ((dayQ s).getD k (0, 0)).2) ∧ (¬ k < s.needL.length → (dayQ s).getD k (0, 0) = (1000, -1)) := by
 rw [dayQ_eq h]
 exact day_at (runs := s.runs) (t := s.quick) s.sheep 0 0 k (Nat.zero_le _) (fun x hx => (kinds_ok h x hx).1) hk
theorem dayZ_len {runs : List (Int × Int)} {t : Shearer} : ∀ (ks : List Int) (d : Int), (dayZ runs t ks d).length = ks.length
 | [], _ => rfl
 | k :: ks, d => by
  unfold dayZ
  cases begins runs 0 d with
  | none => simp
  | some x => simp [dayZ_len ks]
theorem ok_goesQ (h : s.ok = true) : FunOK Tryz.prog 89 [.agg s.row, .one (.sl [[iP s.m0.1], [iP s.m1.1], [iP s.m2.1]])] (.one (.agg [.sl (((dayQ s).map (·.1)).map row1), .sl (((dayQ s).map (·.2)).map row1)])) :=
 ok_goes s.m0 s.m1 s.m2 s.runs s.sheep s.looks s.m0.1 s.m1.1 s.m2.1 (ok_fit h).runb (runs_sorted h) (ok_fit h).runs.2 (sheep_16 h) (kinds_ok h) (quick_tok h)
theorem tk_at (h : s.ok = true) {x : Int} (hx : 0 ≤ x ∧ x ≤ 2) : ([[iP s.m0.1], [iP s.m1.1], [iP s.m2.1]] : List (List PV))[x.toNat]? = some [iP (tk s.quick x)] := by
 rcases (show x = 0 ∨ x = 1 ∨ x = 2 by omega) with rfl | rfl | rfl <;> rfl
end
section
variable {y : YD}
theorem ok_NeedsD (h : YOK y) {i : Nat} (hi : i < y.S) : FunOK Tryz.prog 49 [.agg [.sl (y.ss.map SD.row), .sl (y.F.map rowN), iP (y.T : Int), iP (y.L : Int)], .one (iP (i : Int))] (.one (.one (.sl ((y.need i).map row1)))) := by
 have hok := h.ok i hi
 have hg := ok_goesQ hok
 have hss := sd_mem hi
 have hl2 : y.ss.length = y.S := rfl
 have hs16 := sheep_16 hok
 have hdl : (dayQ (y.sd i)).length = (y.sd i).sheep.length := dayZ_len _ _
 have hat := fun k (hk : k < (y.sd i).sheep.length) => dayQ_at hok hk
 have htk := fun x hx => tk_at hok (x := x) hx
 have hkd := kinds_ok hok
 have hq := quick_tok hok
 have hnl : (y.need i).length ≤ (y.sd i).sheep.length := Go.By.need_len
 have hnr := fun x (hx : x ∈ y.need i) => And.intro (need_ge hok x hx) (need_lt hok x hx)
 unfold YD.need at hnl hnr ⊢
 have hrw : SD.row (y.sd i) = [iP (y.sd i).m0.1, iP (y.sd i).m0.2, iP (y.sd i).m1.1, iP (y.sd i).m1.2, iP (y.sd i).m2.1, iP (y.sd i).m2.2, .sl ((y.sd i).runs.map row2), .sl ((y.sd i).sheep.map row1), .sl ((y.sd i).looks.map row3)] := rfl
 rw [hrw] at hg
 generalize y.sd i = s at *
 have hsl : (s.sheep.map row1).length = s.sheep.length := List.length_map _
 have htb : ∀ x, 1 ≤ tk s.quick x ∧ tk s.quick x ≤ 40 := fun x => tok_tk hq x
 generalize s.quick = t at *
 generalize dayQ s = D at *
 have hdl1 : ((D.map (·.1)).map row1).length = s.sheep.length := by rw [List.length_map, List.length_map]; exact hdl
 have hdl2 : ((D.map (·.2)).map row1).length = s.sheep.length := by rw [List.length_map, List.length_map]; exact hdl
 refine fun_ok (nt := 62) (rs := [.tmp 4]) Tryz.func49 rfl rfl rfl (by simp) fun Z w0 => ?_; refine tI ?_
 try clear hF
 have hF := And.intro hss (And.intro hl2 (hrw))
 refine twF fun QQ hQQ => ?_
 ((refine cBF 89 rfl rfl rfl (hg) Tryz.func89 rfl ?_); refine tuF ?_; clear hQQ QQ); refine twF ?_
 refine aw_weak (weak_own 8 3 1 (by simp (disch := first | decide | omega) only [hF, go_sem, ↓reduceIte])) ?_
 dsimp only [AL.set, Nat.reduceEqDiff, ↓reduceIte]
 generalize s.needL = L at *
 refine aw_weak (weak_restrict [5, 6, 7, 8, 9] [4, 3, 2, 1] 5 (by simp only [go_sem, ↓reduceIte]; rfl)) ?_
 refine aw_loop_ov (ι := { k : Nat // k ≤ s.sheep.length }) (fun k => [(8, .one (.own 4 (L.take k.1).length)), (9, iA k.1)]) (fun k => [(4, .arr 3 1 ((L.take k.1).map row1) true)]) (fun k => s.sheep.length - k.1) ⟨0, Nat.zero_le _⟩ (by first | rfl | (simp only [go_sem, ↓reduceIte]; first | done | rfl | (simp; try rfl))) ?_
 rintro ⟨k, hk⟩
 refine tO ?_
 have hll : ((L.take k).map row1).length = (L.take k).length := List.length_map _
 by_cases hks : k < s.sheep.length
 ·obtain ⟨a1, a2⟩ := hat k hks
  have hgD : D[k]? = some (D.getD k (0, 0)) := getD_some (by rw [hdl]; exact hks)
  have hgs : s.sheep[k]? = some (s.sheep.getD k 0) := get_some1' hks
  have hx := hkd _ (mem_of_getD (d := 0) hks)
  have htx := htk _ hx
  have htr := htb (s.sheep.getD k 0)
  have hxl : s.sheep.getD k 0 < 3 := by omega
  have hr1 : ∀ z, row1 z = [iP z] := fun _ => rfl
  by_cases hkL : k < L.length
  ·obtain ⟨b1, b2⟩ := a1 hkL
   have hnv := hnr _ (mem_of_getD (d := 0) hkL)
   have htake : L.take (k + 1) = L.take k ++ [L.getD k 0] := by rw [List.take_succ, getD_some (d := 0) hkL]; rfl
   have hlen : (L.take (k + 1)).length = (L.take k).length + 1 := by rw [htake]; simp
   have hrow : (L.take (k + 1)).map row1 = (L.take k).map row1 ++ [[iP (L.getD k 0)]] := by rw [htake]; simp [row1]
   have hlb : ((L.take k).length + 1) * 8 ≤ 140737488355328 := by rw [List.length_take]; omega
   clear a1 a2 hat htake hkd htk htb hnr
   generalize s.sheep.getD k 0 = x at *
   generalize L.getD k 0 = nv at *
   generalize tk t x = tv at *
   generalize hdp : D.getD k (0, 0) = dp at *
   obtain ⟨d1, d2⟩ := dp
   dsimp only at b1 b2
   have hv : d1 - tv = nv := by omega
   try clear hF
   have hF := And.intro hgD (And.intro hgs (And.intro htx (And.intro hr1 (And.intro hsl (And.intro hdl1 (And.intro hdl2 (And.intro hll (And.intro hlb (hv)))))))))
   refine twF ?_
   refine tiF ?_
   refine twF ?_
   refine tiF ?_
   refine twF ?_
   refine ⟨⟨k + 1, by omega⟩, ?_, weak_round ?_ (by first | rfl | (simp only [hF, go_sem, ↓reduceIte]))⟩
   rotate_left
   ·simp only [hlen, hrow]
    (simp only [hF, go_sem, ↓reduceIte]; try rfl)
   ·simp only; omega
  ·have b := a2 hkL
   have htake : L.take (k + 1) = L.take k := by rw [List.take_of_length_le (by omega), List.take_of_length_le (by omega)]
   rw [b] at hgD
   clear a1 a2 hat hkd htk htb hnr
   try clear hF
   have hF := And.intro hgD (And.intro hgs (And.intro hr1 (And.intro hsl (And.intro hdl1 (And.intro hdl2 (hll))))))
   refine twF ?_
   refine tiF ?_
   refine twF ?_
   refine tiF ?_
   refine twF ?_
   refine ⟨⟨k + 1, by omega⟩, ?_, weak_round ?_ (by first | rfl | (simp only [hF, go_sem, ↓reduceIte]))⟩
   rotate_left
   ·simp only [htake]
    (simp only [hF, go_sem, ↓reduceIte]; try rfl)
   ·simp only; omega
 ·have hke : k = s.sheep.length := by omega
  have htL : L.take k = L := List.take_of_length_le (by omega)
  rw [htL] at hll ⊢
  have hta : List.take L.length (L.map row1) = L.map row1 := List.take_of_length_le (by rw [hll]; exact Nat.le_refl _)
  try clear hF
  have hF := And.intro hsl (hll)
  refine twF ?_
  refine tiF ?_
  refine twF ?_
  refine tRN ?_
  rw [hta]
end
end Go.Proofs.YthedkfiebmnghaaGreat
namespace Go.Proofs.YthedkfiebmnghaaGreat
open Go Go.RowKit Go.Sh Go.Pv Go.By
section
variable {y : YD}
theorem ok_DueD (h : YOK y) {i : Nat} (hi : i < y.S) : FunOK Tryz.prog 52 [.agg [.sl (y.ss.map SD.row), .sl (y.F.map rowN), iP (y.T : Int), iP (y.L : Int)], .one (iP (i : Int))] (.one (.one (.sl ((y.D i).map row1)))) := by
 have hN := ok_NeedsD h hi
 have hgF : y.F[i]? = some (y.f i) := getD_some (by rw [h.fl]; exact hi)
 have hFl : y.F.length = y.S := h.fl
 have hrow : ∀ x, rowN x = [iP (x : Int)] := fun _ => rfl
 have hl1 := h.l1
 have hl5 := h.l5
 have hf := h.f16 i hi
 have hn16 := n_16 h hi
 have hnd := need_16 h hi
 have hlt := fun k => tripN_lt (n := (y.need i).length) (first := y.f i) (load := y.L) (k := k) hl1
 have hDl : (y.D i).length = y.n i := D_len i
 have hDg : ∀ k, k < y.n i → (y.D i).getD k 0 = (y.need i).getD (y.f i + k * y.L) 0 := fun k hk => D_at hk
 change ∀ k, k < y.n i ↔ _ at hlt
 generalize y.D i = D at *
 generalize y.n i = n at *
 generalize y.need i = l at *
 generalize y.f i = f at *
 generalize hLL : y.L = L at *
 have hll : (l.map row1).length = l.length := List.length_map _
 refine fun_ok (nt := 32) (rs := [.tmp 4]) Tryz.func52 rfl rfl rfl (by simp) fun Z w0 => ?_; refine tI ?_
 refine tw fun QQ hQQ => ?_
 (refine cB 49 rfl rfl rfl (hN) Tryz.func49 rfl ?_); refine ts ?_; clear hQQ QQ
 try clear hF
 have hF := And.intro hgF (And.intro hFl (hrow))
 refine twF ?_
 refine aw_weak (weak_own 6 3 1 (by simp (disch := first | decide | omega) only [hF, go_sem, ↓reduceIte])) ?_
 dsimp only [AL.set, Nat.reduceEqDiff, ↓reduceIte]
 refine twF ?_
 have hf0 : (f : Int) = ((f + 0 * L : Nat) : Int) := by simp
 rw [hf0]
 refine aw_weak (weak_restrict [2, 5, 6, 7] [1, 0] 2 (by simp only [go_sem, ↓reduceIte]; rfl)) ?_
 refine aw_loop_ov (ι := { k : Nat // k ≤ n }) (fun k => [(6, .one (.own 1 k.1)), (7, iA ((f + k.1 * L : Nat) : Int))]) (fun k => [(1, .arr 3 1 ((D.take k.1).map row1) true)]) (fun k => n - k.1) ⟨0, Nat.zero_le _⟩ (by first | rfl | (simp only [go_sem, ↓reduceIte]; first | done | rfl | (simp; try rfl))) ?_
 rintro ⟨k, hk⟩
 refine tO ?_
 have hkl : ((D.take k).map row1).length = k := by rw [List.length_map, List.length_take]; omega
 have hkL : k * L ≤ 16 * 5 := Nat.mul_le_mul (by omega) hl5
 by_cases hkn : k < n
 ·have hfk := (hlt k).1 hkn
  have hg : l[f + k * L]? = some (l.getD (f + k * L) 0) := get_some1' hfk
  have hd := hDg k hkn
  have hrow2 : (D.take (k + 1)).map row1 = (D.take k).map row1 ++ [[iP (l.getD (f + k * L) 0)]] := by
   rw [← hd, List.take_succ, getD_some (d := 0) (show k < D.length by omega)]; simp [row1]
  have hnx : ((f + (k + 1) * L : Nat) : Int) = ((f + k * L : Nat) : Int) + (L : Int) := by rw [Nat.succ_mul]; push_cast; omega
  have hr1 : ∀ z, row1 z = [iP z] := fun _ => rfl
  have hlb : (k + 1) * 8 ≤ 140737488355328 := by omega
  clear hlt hDg hd
  generalize hfkL : f + k * L = fk at *
  generalize l.getD fk 0 = x at *
  try clear hF
  have hF := And.intro hg (And.intro hll (And.intro hkl (And.intro hr1 (hlb))))
  refine twF ?_
  refine tiF ?_
  refine twF ?_
  refine ⟨⟨k + 1, by omega⟩, ?_, weak_round ?_ (by first | rfl | (simp only [hF, go_sem, ↓reduceIte]))⟩
  rotate_left
  ·simp only [hrow2, hnx]
   (simp only [hF, go_sem, ↓reduceIte]; try rfl)
  ·simp only; omega
 ·have hke : k = n := by omega
  have hfk : ¬ f + k * L < l.length := fun hh => hkn ((hlt k).2 hh)
  have htL : D.take k = D := List.take_of_length_le (by omega)
  rw [htL] at hkl ⊢
  have hta : List.take k (D.map row1) = D.map row1 := List.take_of_length_le (by rw [hkl]; exact Nat.le_refl _)
  generalize hfkL : f + k * L = fk at *
  try clear hF
  have hF := And.intro hll (hkl)
  refine twF ?_
  refine tiF ?_
  refine twF ?_
  refine tRN ?_
  rw [hta]
end
end Go.Proofs.YthedkfiebmnghaaGreat
