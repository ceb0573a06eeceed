/- Texts of the proof, joined. -/
import Derived.Test.YthedkfiebmnghaaGreatYcJ
set_option linter.all false
set_option maxHeartbeats 16000000
set_option maxRecDepth 20000
namespace Go.Proofs.YthedkfiebmnghaaGreat
open Go Go.RowKit Go.Sh Go.Sh.Stand Go.Pv Go.By
theorem ok_in (a b c : Int) : FunOK Tryz.prog 80 [.one (iP a), .one (iP b), .one (iP c)] (.one (.one (.v (.bool (inB a b c))))) := by
 refine fun_ok (nt := 15) (rs := [.tmp 6]) Tryz.func80 rfl rfl rfl (by simp) fun Z w0 => ?_; refine tI ?_
 by_cases h : b ≤ a
 ·refine tw ?_
  refine tRN ?_
  simp [inB, h]
 ·refine tw ?_
  refine tRN ?_
  simp [inB, h]
theorem ok_in12 (a b c : Int) : FunOK Tryz.prog 63 [.one (iP a), .one (iP b), .one (iP c)] (.one (.one (.v (.bool (inB a b c))))) := by
 refine fun_ok (nt := 15) (rs := [.tmp 6]) Tryz.func63 rfl rfl rfl (by simp) fun Z w0 => ?_; refine tI ?_
 by_cases h : b ≤ a
 ·refine tw ?_
  refine tRN ?_
  simp [inB, h]
 ·refine tw ?_
  refine tRN ?_
  simp [inB, h]
theorem ok_spanV (lo hi b c : Int) : FunOK Tryz.prog 79 [.agg [iP lo, iP hi], .one (iP b), .one (iP c)] (.one (.one (.v (.bool (spanB lo hi b c))))) := by
 refine fun_ok (nt := 24) (rs := [.tmp 6]) Tryz.func79 rfl rfl rfl (by simp) fun Z w0 => ?_; refine tI ?_
 by_cases h : b ≤ lo
 ·by_cases h2 : lo ≤ hi
  ·refine tw ?_
   refine tRN ?_
   simp [spanB, h, h2]
  ·refine tw ?_
   refine tRN ?_
   simp [spanB, h, h2]
 ·refine tw ?_
  refine tRN ?_
  simp [spanB, h]
theorem ok_kindR (a : Int) : FunOK Tryz.prog 81 [.one (iP a)] (.one (.one (.v (.bool (inB a 0 2))))) := by
 have hc := ok_in a 0 2
 refine fun_ok (nt := 5) (rs := [.tmp 2]) Tryz.func81 rfl rfl rfl (by simp) fun Z w0 => ?_; refine tI ?_
 refine tw fun QQ hQQ => ?_
 ((refine cO 80 rfl rfl rfl (hc) Tryz.func80 rfl ?_); refine tu ?_; clear hQQ QQ); refine tw ?_
 exact qRN
section
variable (m0 m1 m2 : Int × Int) (runs : List (Int × Int)) (sheep : List Int) (looks : List (Int × Int × Int))
def stO (m0 m1 m2 : Int × Int) (runs : List (Int × Int)) (sheep : List Int) (looks : List (Int × Int × Int)) : List AC := [.p (iP m0.1), .p (iP m0.2), .p (iP m1.1), .p (iP m1.2), .p (iP m2.1), .p (iP m2.2), .p (.sl (runs.map row2)), .p (.sl (sheep.map row1)), .p (.sl (looks.map row3))]
theorem minB_eq (m : Int × Int) : minB m = (spanB m.1 m.2 1 40 && decide (m.2 - m.1 ≤ 4)) := rfl
theorem drop_getD {α : Type} {l : List α} {k : Nat} {d : α} (h : k < l.length) : l.drop k = l.getD k d :: l.drop (k + 1) := by
 rw [List.drop_eq_getElem_cons h]; simp [List.getD, h]
theorem spanB_spec {a b c d : Int} (h : spanB a b c d = true) : c ≤ a ∧ a ≤ b ∧ b ≤ d := by unfold spanB at h; simpa [and_assoc] using h
theorem inB_spec {a b c : Int} (h : inB a b c = true) : b ≤ a ∧ a ≤ c := by unfold inB at h; simpa using h
theorem ok_standR (hr : runs.length ≤ 40) (hs : sheep.length ≤ 40) (hl : looks.length ≤ 40) : FunOK Tryz.prog 36 [stR m0 m1 m2 runs sheep looks] (.one (.one (.v (.bool (validB (stM m0 m1 m2 runs sheep looks)))))) := by
 refine fun_ok (nt := 113) (rs := [.tmp 2]) Tryz.func36 rfl rfl rfl (by simp) fun Z w0 => ?_
 obtain ⟨v, hv⟩ : ∃ v, validB (stM m0 m1 m2 runs sheep looks) = v := ⟨_, rfl⟩
 rw [hv]
 have hv2 : v = ([m0, m1, m2].all minB && (lensB (stM m0 m1 m2 runs sheep looks) && (runsB runs 0 && (sheep.all (fun k => inB k 0 2) && looks.all lookB)))) := hv.symm
 have hno : ∀ m ∈ [m0, m1, m2], minB m = false → v = false := by
  intro m hm h
  have : [m0, m1, m2].all minB = false := List.all_eq_false.2 ⟨m, hm, by simp [h]⟩
  rw [hv2, this]; rfl
 simp only [initFr, avR, stR, List.map_cons, List.map_nil]
 refine tw ?_
 refine aw_weak (weak_restrict [1, 3] [0] 1 (by simp only [go_sem, ↓reduceIte]; rfl)) ?_
 refine aw_loop (ι := { k : Nat // k ≤ 3 ∧ ∀ i, i < k → minB ([m0, m1, m2].getD i (0, 0)) = true }) (fun k => ⟨[(1, .one (.box 0 0)), (3, iA k.1)], [(0, .box (stO m0 m1 m2 runs sheep looks))], 1⟩) (fun k => 3 - k.1) ?_ ⟨0, by decide, by omega⟩
 rintro ⟨k, hk, hmin⟩
 simp only [stO]
 refine tw ?_
 by_cases hk3 : k = 3
 ·subst hk3
  have hA : [m0, m1, m2].all minB = true := by
   have h0 := hmin 0 (by omega)
   have h1 := hmin 1 (by omega)
   have h2 := hmin 2 (by omega)
   simp at h0 h1 h2
   simp [h0, h1, h2]
  rw [hA, Bool.true_and] at hv2
  clear hmin hno hv
  refine ti ?_
  refine tw fun QQ hQQ => ?_
  have hc := ok_in runs.length 1 4
  have hv3 : lensB (stM m0 m1 m2 runs sheep looks) = (inB runs.length 1 4 && decide ((sheep.length : Int) ≤ 16) && decide ((looks.length : Int) ≤ 4)) := rfl
  rw [hv3] at hv2
  clear hv3
  cases h1 : inB runs.length 1 4
  ·rw [h1] at hc hv2
   (refine cO 80 rfl rfl rfl (hc) Tryz.func80 rfl ?_); refine ts ?_; clear hQQ QQ
   refine ti ?_
   refine tw ?_
   refine tRN ?_
   rw [hv2]; rfl
  ·rw [h1] at hc hv2
   by_cases h2 : 16 < (sheep.length : Int)
   ·(refine cO 80 rfl rfl rfl (hc) Tryz.func80 rfl ?_); refine ts ?_; clear hQQ QQ
    refine ti ?_
    refine tw ?_
    refine tRN ?_
    rw [hv2]; simp; omega
   by_cases h3 : 4 < (looks.length : Int)
   ·(refine cO 80 rfl rfl rfl (hc) Tryz.func80 rfl ?_); refine ts ?_; clear hQQ QQ
    refine ti ?_
    refine tw ?_
    refine tRN ?_
    rw [hv2]; simp; omega
   (refine cO 80 rfl rfl rfl (hc) Tryz.func80 rfl ?_); refine ts ?_; clear hQQ QQ
   refine ti ?_
   refine tw ?_
   replace hv2 : v = (runsB runs 0 && (sheep.all (fun k => inB k 0 2) && looks.all lookB)) := by
    rw [hv2]; simp [show (sheep.length : Int) ≤ 16 by omega, show (looks.length : Int) ≤ 4 by omega]
   have hd2 : ∀ k, k < runs.length → runs.drop k = runs.getD k (0, 0) :: runs.drop (k + 1) := fun k h => drop_getD h
   refine aw_weak (weak_restrict [1, 5, 6] [0] 1 (by simp only [go_sem, ↓reduceIte]; rfl)) ?_
   refine aw_loop (ι := { p : Nat × Int // p.1 ≤ runs.length ∧ 0 ≤ p.2 ∧ p.2 ≤ 600 ∧ v = (runsB (runs.drop p.1) p.2 && (sheep.all (fun k => inB k 0 2) && looks.all lookB)) }) (fun p => ⟨[(1, .one (.box 0 0)), (5, iA p.1.2), (6, iA p.1.1)], [(0, .box (stO m0 m1 m2 runs sheep looks))], 1⟩) (fun p => runs.length - p.1.1) ?_ ⟨(0, 0), by simp, by simp, by simp, hv2⟩
   clear hv2 hc
   rintro ⟨⟨k, bell⟩, hk2, hb0, hb1, hv4⟩
   simp only at hk2 hb0 hb1 hv4
   simp only [stO]
   by_cases hkr : k < runs.length
   ·refine tw ?_
    refine ti ?_
    refine tw fun QQ hQQ => ?_
    generalize hp : runs.getD k (0, 0) = pr
    obtain ⟨st, be⟩ := pr
    have hd := hd2 k hkr
    rw [hp] at hd
    rw [hd] at hv4
    have hv5 : v = ((inB st bell 600 && inB be (st + 1) 600) && runsB (runs.drop (k + 1)) be && (sheep.all (fun k => inB k 0 2) && looks.all lookB)) := hv4
    clear hv4
    have hc := ok_in st bell 600
    cases h5 : inB st bell 600
    ·rw [h5] at hc hv5
     (refine cO 80 rfl rfl rfl (hc) Tryz.func80 rfl ?_); refine ts ?_; clear hQQ QQ
     refine ti ?_
     refine tw ?_
     refine tRN ?_
     rw [hv5]; rfl
    rw [h5] at hc hv5
    (refine cO 80 rfl rfl rfl (hc) Tryz.func80 rfl ?_); refine ts ?_
    have hc2 := ok_in be (st + 1) 600
    have hb2 := inB_spec h5
    cases h6 : inB be (st + 1) 600
    ·rw [h6] at hc2 hv5
     (refine cO 80 rfl rfl rfl (hc2) Tryz.func80 rfl ?_); refine ts ?_; clear hQQ QQ
     refine ti ?_
     refine tw ?_
     refine tRN ?_
     rw [hv5]; rfl
    rw [h6] at hc2 hv5
    (refine cO 80 rfl rfl rfl (hc2) Tryz.func80 rfl ?_); refine ts ?_; clear hQQ QQ
    refine ti ?_
    refine tw ?_
    have hb3 := inB_spec h6
    refine ⟨⟨(k + 1, be), by omega, by simp only; omega, by simp only; omega, hv5⟩, ?_, weak_restrict [1, 5, 6] [0] 1 ?_⟩
    rotate_left
    ·simp only [go_sem, ↓reduceIte]; try rfl
    ·simp only; omega
   ·have hnil : runs.drop k = [] := List.drop_eq_nil_of_le (by omega)
    rw [hnil] at hv4
    replace hv4 : v = (sheep.all (fun k => inB k 0 2) && looks.all lookB) := hv4
    clear hnil hd2
    refine tw ?_
    refine ti ?_
    refine tw ?_
    clear hk2 hb0 hb1 hkr
    refine aw_weak (weak_restrict [1, 8] [0] 1 (by simp only [go_sem, ↓reduceIte]; rfl)) ?_
    refine aw_loop (ι := { p : Nat // p ≤ sheep.length ∧ v = ((sheep.drop p).all (fun k => inB k 0 2) && looks.all lookB) }) (fun p => ⟨[(1, .one (.box 0 0)), (8, iA p.1)], [(0, .box (stO m0 m1 m2 runs sheep looks))], 1⟩) (fun p => sheep.length - p.1) ?_ ⟨0, by simp, hv4⟩
    clear hv4
    rintro ⟨k, hk2, hv4⟩
    simp only [stO]
    by_cases hkr : k < sheep.length
    ·refine tw ?_
     refine ti ?_
     refine tw fun QQ hQQ => ?_
     generalize hp : sheep.getD k 0 = pr
     have hd : sheep.drop k = pr :: sheep.drop (k + 1) := hp ▸ drop_getD hkr
     rw [hd, List.all_cons] at hv4
     have hc := ok_kindR pr
     cases h5 : inB pr 0 2
     ·rw [h5] at hc hv4
      (refine cO 81 rfl rfl rfl (hc) Tryz.func81 rfl ?_); refine ts ?_; clear hQQ QQ
      refine ti ?_
      refine tw ?_
      refine tRN ?_
      rw [hv4]; rfl
     rw [h5, Bool.true_and] at hv4
     rw [h5] at hc
     (refine cO 81 rfl rfl rfl (hc) Tryz.func81 rfl ?_); refine ts ?_; clear hQQ QQ
     refine ti ?_
     refine tw ?_
     refine ⟨⟨k + 1, by omega, hv4⟩, ?_, weak_restrict [1, 8] [0] 1 ?_⟩
     rotate_left
     ·simp only [go_sem, ↓reduceIte]; try rfl
     ·simp only; omega
    ·have hnil : sheep.drop k = [] := List.drop_eq_nil_of_le (by omega)
     rw [hnil] at hv4
     replace hv4 : v = looks.all lookB := hv4
     clear hnil
     refine tw ?_
     refine ti ?_
     refine tw ?_
     clear hk2 hkr
     refine aw_weak (weak_restrict [1, 9] [0] 1 (by simp only [go_sem, ↓reduceIte]; rfl)) ?_
     refine aw_loop (ι := { p : Nat // p ≤ looks.length ∧ v = (looks.drop p).all lookB }) (fun p => ⟨[(1, .one (.box 0 0)), (9, iA p.1)], [(0, .box (stO m0 m1 m2 runs sheep looks))], 1⟩) (fun p => looks.length - p.1) ?_ ⟨0, by simp, hv4⟩
     clear hv4
     rintro ⟨k, hk2, hv4⟩
     simp only [stO]
     by_cases hkr : k < looks.length
     ·refine tw ?_
      refine ti ?_
      refine tw fun QQ hQQ => ?_
      generalize hp : looks.getD k (0, 0, 0) = pr
      obtain ⟨t, lo, hi⟩ := pr
      have hd : looks.drop k = (t, lo, hi) :: looks.drop (k + 1) := hp ▸ drop_getD hkr
      rw [hd, List.all_cons] at hv4
      have hv5 : v = ((inB t 0 600 && spanB lo hi 0 16) && (looks.drop (k + 1)).all lookB) := hv4
      clear hv4
      have hc := ok_in t 0 600
      cases h5 : inB t 0 600
      ·rw [h5] at hc hv5
       (refine cO 80 rfl rfl rfl (hc) Tryz.func80 rfl ?_); refine ts ?_; clear hQQ QQ
       refine ti ?_
       refine tw ?_
       refine tRN ?_
       rw [hv5]; rfl
      rw [h5] at hc hv5
      (refine cO 80 rfl rfl rfl (hc) Tryz.func80 rfl ?_); refine ts ?_
      simp only [hp]
      have hc2 := ok_spanV lo hi 0 16
      cases h6 : spanB lo hi 0 16
      ·rw [h6] at hc2 hv5
       (refine cO 79 rfl rfl rfl (hc2) Tryz.func79 rfl ?_); refine ts ?_; clear hQQ QQ
       refine ti ?_
       refine tw ?_
       refine tRN ?_
       rw [hv5]; rfl
      rw [h6] at hc2 hv5
      (refine cO 79 rfl rfl rfl (hc2) Tryz.func79 rfl ?_); refine ts ?_; clear hQQ QQ
      refine ti ?_
      refine tw ?_
      refine ⟨⟨k + 1, by omega, hv5⟩, ?_, weak_restrict [1, 9] [0] 1 ?_⟩
      rotate_left
      ·simp only [go_sem, ↓reduceIte]; try rfl
      ·simp only; omega
     ·have hnil : looks.drop k = [] := List.drop_eq_nil_of_le (by omega)
      rw [hnil] at hv4
      replace hv4 : v = true := hv4
      refine tw ?_
      refine ti ?_
      refine tw ?_
      refine tRN ?_
      rw [hv4]
 ·have hq : ∃ m : Int × Int, m ∈ [m0, m1, m2] ∧ [m0, m1, m2].getD k (0, 0) = m ∧ ((k = 0 ∧ m = m0) ∨ (k = 1 ∧ m = m1) ∨ (k = 2 ∧ m = m2)) := by
   rcases (show k = 0 ∨ k = 1 ∨ k = 2 by omega) with rfl | rfl | rfl
   ·exact ⟨m0, by simp, rfl, .inl ⟨rfl, rfl⟩⟩
   ·exact ⟨m1, by simp, rfl, .inr (.inl ⟨rfl, rfl⟩)⟩
   ·exact ⟨m2, by simp, rfl, .inr (.inr ⟨rfl, rfl⟩)⟩
  obtain ⟨m, hmem, hget, hm⟩ := hq
  have hc := ok_spanV m.1 m.2 1 40
  have hn := hno m hmem
  rw [minB_eq] at hn
  have hnext : minB m = true → ∀ i, i < k + 1 → minB ([m0, m1, m2].getD i (0, 0)) = true := by
   intro h i hi
   by_cases hik : i = k
   ·rw [hik, hget]; exact h
   ·exact hmin i (by omega)
  rw [minB_eq] at hnext
  clear hmin hv hv2 hno hget hmem
  rcases hm with ⟨rfl, rfl⟩ | ⟨rfl, rfl⟩ | ⟨rfl, rfl⟩
  all_goals
   refine ti ?_
   refine tw fun QQ hQQ => ?_
   cases h1 : spanB m.1 m.2 1 40
   ·rw [h1] at hc hn
    (refine cO 79 rfl rfl rfl (hc) Tryz.func79 rfl ?_); refine ts ?_; clear hQQ QQ
    refine ti ?_
    refine tw ?_
    refine tRN ?_
    rw [hn rfl]
   ·rw [h1] at hc hn hnext
    have hsp := spanB_spec h1
    (refine cO 79 rfl rfl rfl (hc) Tryz.func79 rfl ?_); refine ts ?_; clear hQQ QQ
    by_cases h4 : m.2 - m.1 ≤ 4
    ·refine ti ?_
     refine tw ?_
     refine ⟨⟨_, ?_, hnext (by simp [h4])⟩, ?_, weak_restrict [1, 3] [0] 1 ?_⟩
     rotate_left 2
     ·simp only [go_sem, ↓reduceIte]; try rfl
     ·omega
     ·simp only; omega
    ·refine ti ?_
     refine tw ?_
     refine tRN ?_
     rw [hn (by simp [h4])]
end
def bigS (s : SD) : Bool := decide (40 < s.runs.length ∨ 40 < s.sheep.length ∨ 40 < s.looks.length)
def farB (ss : List SD) (first : List Int) (n : Nat) : Bool := ss.any bigS || (decide (40 < ss.length ∨ 40 < first.length) || decide (100 < n))
theorem fun_len {P : Program} {f : FuncId} {rows : List (List PV)} {cs : List PV} {rest : List RV} {res : RR} (h : rows.length ≤ 9223372036854775807 → FunOK P f (.agg (.sl rows :: cs) :: rest) res) : FunOK P f (.agg (.sl rows :: cs) :: rest) res := by
 intro Z w us hus
 refine h ?_ Z w us hus
 obtain ⟨x, h1, h2⟩ := hus.2 0 _ rfl
 obtain ⟨vs, rfl, h3, h4⟩ := h2
 obtain ⟨v, h5, h6⟩ := h4 0 _ rfl
 cases h6 with
 | sl _ k ao cap b off us hm => exact hm.2
theorem fun_len2 {P : Program} {f : FuncId} {rows : List (List PV)} {c : PV} {cs : List PV} {rest : List RV} {res : RR} (h : rows.length ≤ 9223372036854775807 → FunOK P f (.agg (c :: .sl rows :: cs) :: rest) res) : FunOK P f (.agg (c :: .sl rows :: cs) :: rest) res := by
 intro Z w us hus
 refine h ?_ Z w us hus
 obtain ⟨x, h1, h2⟩ := hus.2 0 _ rfl
 obtain ⟨vs, rfl, h3, h4⟩ := h2
 obtain ⟨v, h5, h6⟩ := h4 1 _ rfl
 cases h6 with
 | sl _ k ao cap b off us hm => exact hm.2
section
variable {ss : List SD} {first : List Int} {trip load : Int}
theorem ok_far (pl : List (List PV)) (hl : ss.length ≤ 9223372036854775807) (hl2 : first.length ≤ 9223372036854775807) (hl3 : pl.length ≤ 9223372036854775807) : FunOK Tryz.prog 12 [boyR ss first trip load, .one (.sl pl)] (.one (.one (.v (.bool (farB ss first pl.length))))) := by
 have hsl : (ss.map SD.row).length = ss.length := List.length_map _
 have hfl : (first.map row1).length = first.length := List.length_map _
 have hyes : ∀ i, i < ss.length → bigS (ss.getD i dSD) = true → farB ss first pl.length = true := fun i hi hb => by
  unfold farB
  rw [List.any_eq_true.2 ⟨_, mem_of_getD hi, hb⟩]; rfl
 have hno : (∀ i, i < ss.length → bigS (ss.getD i dSD) = false) → farB ss first pl.length = (decide (40 < ss.length ∨ 40 < first.length) || decide (100 < pl.length)) := fun h => by
  have : ss.any bigS = false := by
   rw [List.any_eq_false]
   intro x hx
   obtain ⟨i, hi, rfl⟩ := List.getElem_of_mem hx
   have := h i hi
   rw [show ss.getD i dSD = ss[i] by simp [List.getD, hi]] at this
   simp [this]
  unfold farB
  rw [this, Bool.false_or]
 obtain ⟨v, hv⟩ : ∃ v, farB ss first pl.length = v := ⟨_, rfl⟩
 rw [hv] at hyes hno ⊢
 clear hv
 unfold boyR
 refine fun_ok (nt := 39) (rs := [.tmp 4]) Tryz.func12 rfl rfl rfl (by simp) fun Z w0 => ?_; refine tI ?_
 try clear hF
 have hF := And.intro hsl (hfl)
 refine twF ?_
 refine aw_weak (weak_keep [1, 2, 8, 9, 10] (by simp only [go_sem, ↓reduceIte]; rfl)) ?_
 refine aw_loop_ov (ι := { i : Nat // i ≤ ss.length ∧ ∀ k, k < i → bigS (ss.getD k dSD) = false }) (fun i => [(10, iA i.1)]) (fun _ => []) (fun i => ss.length - i.1) ⟨0, by omega, fun k hk => by omega⟩ (by first | rfl | (simp only [go_sem, ↓reduceIte]; first | done | rfl | (simp; try rfl))) ?_
 rintro ⟨i, hi, hb⟩
 refine tO ?_
 by_cases hil : i < ss.length
 ·have hg := get_someSD hil
  have hnx : bigS (ss.getD i dSD) = false → ∀ k, k < i + 1 → bigS (ss.getD k dSD) = false := fun h k hk => by
   by_cases e : k = i
   ·rw [e]; exact h
   ·exact hb k (by omega)
  have hy := hyes i hil
  clear hyes hno hb
  generalize ss.getD i dSD = s at *
  have hrl : (s.runs.map row2).length = s.runs.length := List.length_map _
  have hpl : (s.sheep.map row1).length = s.sheep.length := List.length_map _
  have hkl : (s.looks.map row3).length = s.looks.length := List.length_map _
  have hrw : SD.row s = [iP s.m0.1, iP s.m0.2, iP s.m1.1, iP s.m1.2, iP s.m2.1, iP s.m2.2, .sl (s.runs.map row2), .sl (s.sheep.map row1), .sl (s.looks.map row3)] := rfl
  by_cases hbig : 40 < s.runs.length ∨ 40 < s.sheep.length ∨ 40 < s.looks.length
  ·have hv := hy (decide_eq_true hbig)
   subst hv
   try clear hF
   have hF := And.intro hg (And.intro hsl (And.intro hrl (And.intro hpl (And.intro hkl (hrw)))))
   refine twF ?_
   refine tiF ?_
   refine twF ?_
   refine tiF ?_
   refine twF ?_
   exact qRN
  ·have hv := hnx (decide_eq_false hbig)
   try clear hF
   have hF := And.intro hg (And.intro hsl (And.intro hrl (And.intro hpl (And.intro hkl (hrw)))))
   refine twF ?_
   refine tiF ?_
   refine twF ?_
   refine tiF ?_
   refine twF ?_
   refine ⟨⟨i + 1, by omega, hv⟩, ?_, weak_round ?_ (by first | rfl | (simp only [hF, go_sem, ↓reduceIte]))⟩
   rotate_left
   ·(simp only [hF, go_sem, ↓reduceIte]; try rfl)
   ·simp only; omega
 ·have hie : i = ss.length := by omega
  subst hie
  have hv := hno hb
  subst hv
  clear hyes hno hb
  by_cases h1 : 40 < ss.length ∨ 40 < first.length
  ·rw [decide_eq_true h1, Bool.true_or]
   try clear hF
   have hF := And.intro hsl (hfl)
   refine twF ?_
   refine tiF ?_
   refine twF ?_
   exact qRN
  ·rw [decide_eq_false h1, Bool.false_or]
   by_cases h2 : 100 < pl.length
   ·rw [decide_eq_true h2]
    try clear hF
    have hF := And.intro hsl (hfl)
    refine twF ?_
    refine tiF ?_
    refine twF ?_
    exact qRN
   ·rw [decide_eq_false h2]
    try clear hF
    have hF := And.intro hsl (hfl)
    refine twF ?_
    refine tiF ?_
    refine twF ?_
    exact qRN
theorem ok_BoyR (hs : ∀ s ∈ ss, bigS s = false) : FunOK Tryz.prog 32 [boyR ss first trip load] (.one (.one (.v (.bool (boyB ss first trip load))))) := by
 have hsl : (ss.map SD.row).length = ss.length := List.length_map _
 have hfl : (first.map row1).length = first.length := List.length_map _
 have w1 := ok_in12 (ss.length : Int) 1 3
 have w2 := ok_in12 trip 1 60
 have w3 := ok_in12 load 1 5
 unfold boyR
 cases b1 : inB (ss.length : Int) 1 3
 ·have hv : boyB ss first trip load = false := by simp [boyB, b1]
  rw [hv]
  rw [b1] at w1
  refine fun_ok (nt := 63) (rs := [.tmp 2]) Tryz.func32 rfl rfl rfl (by simp) fun Z w0 => ?_; refine tI ?_
  try clear hF
  have hF := And.intro hsl (hfl)
  refine twF fun QQ hQQ => ?_
  ((refine cOF 63 rfl rfl rfl (w1) Tryz.func63 rfl ?_); refine tuF ?_; clear hQQ QQ); refine twF ?_
  refine tiF ?_
  refine twF ?_
  exact qRN
 rw [b1] at w1
 by_cases b2 : first.length = ss.length
 rotate_left
 ·have hv : boyB ss first trip load = false := by simp [boyB, b1, b2]
  rw [hv]
  have e2 : ((first.length : Int) == (ss.length : Int)) = false := by simp; omega
  refine fun_ok (nt := 63) (rs := [.tmp 2]) Tryz.func32 rfl rfl rfl (by simp) fun Z w0 => ?_; refine tI ?_
  try clear hF
  have hF := And.intro hsl (And.intro hfl (e2))
  refine twF fun QQ hQQ => ?_
  ((refine cOF 63 rfl rfl rfl (w1) Tryz.func63 rfl ?_); refine tuF ?_; clear hQQ QQ); refine twF ?_
  refine tiF ?_
  refine twF ?_
  exact qRN
 have e2 : ((first.length : Int) == (ss.length : Int)) = true := by simp; omega
 cases b3 : inB trip 1 60
 ·have hv : boyB ss first trip load = false := by simp [boyB, b3]
  rw [hv]
  rw [b3] at w2
  refine fun_ok (nt := 63) (rs := [.tmp 2]) Tryz.func32 rfl rfl rfl (by simp) fun Z w0 => ?_; refine tI ?_
  try clear hF
  have hF := And.intro hsl (And.intro hfl (e2))
  refine twF fun QQ hQQ => ?_
  ((refine cOF 63 rfl rfl rfl (w1) Tryz.func63 rfl ?_); refine tuF ?_); refine twF ?_
  ((refine cOF 63 rfl rfl rfl (w2) Tryz.func63 rfl ?_); refine tuF ?_; clear hQQ QQ); refine twF ?_
  refine tiF ?_
  refine twF ?_
  exact qRN
 rw [b3] at w2
 cases b4 : inB load 1 5
 ·have hv : boyB ss first trip load = false := by simp [boyB, b4]
  rw [hv]
  rw [b4] at w3
  refine fun_ok (nt := 63) (rs := [.tmp 2]) Tryz.func32 rfl rfl rfl (by simp) fun Z w0 => ?_; refine tI ?_
  try clear hF
  have hF := And.intro hsl (And.intro hfl (e2))
  refine twF fun QQ hQQ => ?_
  ((refine cOF 63 rfl rfl rfl (w1) Tryz.func63 rfl ?_); refine tuF ?_); refine twF ?_
  ((refine cOF 63 rfl rfl rfl (w2) Tryz.func63 rfl ?_); refine tuF ?_); refine twF ?_
  ((refine cOF 63 rfl rfl rfl (w3) Tryz.func63 rfl ?_); refine tuF ?_; clear hQQ QQ); refine twF ?_
  refine tiF ?_
  refine twF ?_
  exact qRN
 rw [b4] at w3
 have hs3 : ss.length ≤ 3 := by simp [inB] at b1; omega
 obtain ⟨v, hv⟩ : ∃ v, boyB ss first trip load = v := ⟨_, rfl⟩
 have hA : v = (List.range ss.length).all fun i => (ss.getD i dSD).ok && inB (first.getD i 0) 0 16 := by
  rw [← hv]; unfold boyB; rw [b1, b3, b4, decide_eq_true b2]; rfl
 rw [hv]
 clear hv b1 b3 b4
 have hbad : ∀ i, i < ss.length → ((ss.getD i dSD).ok && inB (first.getD i 0) 0 16) = false → v = false := fun i hi h => by
  rw [hA, List.all_eq_false]
  exact ⟨i, List.mem_range.2 hi, by rw [h]; simp⟩
 have hgood : (∀ i, i < ss.length → ((ss.getD i dSD).ok && inB (first.getD i 0) 0 16) = true) → v = true := fun h => by
  rw [hA, List.all_eq_true]
  exact fun i hi => h i (List.mem_range.1 hi)
 clear hA
 refine fun_ok (nt := 63) (rs := [.tmp 2]) Tryz.func32 rfl rfl rfl (by simp) fun Z w0 => ?_; refine tI ?_
 try clear hF
 have hF := And.intro hsl (And.intro hfl (e2))
 refine twF fun QQ hQQ => ?_
 ((refine cOF 63 rfl rfl rfl (w1) Tryz.func63 rfl ?_); refine tuF ?_); refine twF ?_
 ((refine cOF 63 rfl rfl rfl (w2) Tryz.func63 rfl ?_); refine tuF ?_); refine twF ?_
 ((refine cOF 63 rfl rfl rfl (w3) Tryz.func63 rfl ?_); refine tuF ?_; clear hQQ QQ); refine twF ?_
 refine tiF ?_
 refine twF ?_
 refine aw_weak (weak_keep [1, 3] (by simp only [go_sem, ↓reduceIte]; rfl)) ?_
 refine aw_loop_ov (ι := { i : Nat // i ≤ ss.length ∧ ∀ k, k < i → ((ss.getD k dSD).ok && inB (first.getD k 0) 0 16) = true }) (fun i => [(3, iA i.1)]) (fun _ => []) (fun i => ss.length - i.1) ⟨0, by omega, fun k hk => by omega⟩ (by first | rfl | (simp only [go_sem, ↓reduceIte]; first | done | rfl | (simp; try rfl))) ?_
 rintro ⟨i, hi, hb⟩
 refine tO ?_
 by_cases hil : i < ss.length
 ·have hg := get_someSD hil
  have hgf : first[i]? = some (first.getD i 0) := get_some1' (by omega)
  have hbd := hbad i hil
  have hnb := hs _ (mem_of_getD (d := dSD) hil)
  have hnx : ((ss.getD i dSD).ok && inB (first.getD i 0) 0 16) = true → ∀ k, k < i + 1 → ((ss.getD k dSD).ok && inB (first.getD k 0) 0 16) = true := fun h k hk => by
   by_cases e : k = i
   ·rw [e]; exact h
   ·exact hb k (by omega)
  clear hbad hgood hb hs
  generalize ss.getD i dSD = s at *
  generalize first.getD i 0 = f at *
  have wf := ok_in12 f 0 16
  have hbg : ¬ (40 < s.runs.length ∨ 40 < s.sheep.length ∨ 40 < s.looks.length) := of_decide_eq_false hnb
  have hst := ok_standR s.m0 s.m1 s.m2 s.runs s.sheep s.looks (by omega) (by omega) (by omega)
  change FunOK Tryz.prog 36 [.agg (SD.row s)] (.one (.one (.v (.bool (validB s.st))))) at hst
  have hkl : (s.looks.map row3).length = s.looks.length := List.length_map _
  have hrw : SD.row s = [iP s.m0.1, iP s.m0.2, iP s.m1.1, iP s.m1.2, iP s.m2.1, iP s.m2.2, .sl (s.runs.map row2), .sl (s.sheep.map row1), .sl (s.looks.map row3)] := rfl
  have hr1 : row1 f = [iP f] := rfl
  cases c1 : validB s.st
  ·have := hbd (by unfold SD.ok; rw [c1]; rfl)
   subst this
   rw [c1] at hst
   rw [hrw] at hst
   try clear hF
   have hF := And.intro hg (And.intro hgf (And.intro hsl (And.intro hfl (And.intro hkl (And.intro hrw (hr1))))))
   refine twF ?_
   refine tiF ?_
   refine twF fun QQ hQQ => ?_
   ((refine cOF 36 rfl rfl rfl (hst) Tryz.func36 rfl ?_); refine tuF ?_; clear hQQ QQ); refine twF ?_
   refine tiF ?_
   refine twF ?_
   exact qRN
  rw [c1] at hst
  by_cases c2 : s.looks = []
  rotate_left
  ·have := hbd (by unfold SD.ok; rw [decide_eq_false c2, Bool.and_false]; rfl)
   subst this
   have hpos : 0 < s.looks.length := List.length_pos_iff.2 c2
   rw [hrw] at hst
   try clear hF
   have hF := And.intro hg (And.intro hgf (And.intro hsl (And.intro hfl (And.intro hkl (And.intro hrw (hr1))))))
   refine twF ?_
   refine tiF ?_
   refine twF fun QQ hQQ => ?_
   ((refine cOF 36 rfl rfl rfl (hst) Tryz.func36 rfl ?_); refine tuF ?_; clear hQQ QQ); refine twF ?_
   refine tiF ?_
   refine twF ?_
   exact qRN
  have hok : s.ok = true := by unfold SD.ok; rw [c1, decide_eq_true c2]; rfl
  have hl0 : s.looks.length = 0 := by rw [c2]; rfl
  cases c3 : inB f 0 16
  ·have := hbd (by rw [hok, c3]; rfl)
   subst this
   rw [c3] at wf
   rw [hrw] at hst
   try clear hF
   have hF := And.intro hg (And.intro hgf (And.intro hsl (And.intro hfl (And.intro hkl (And.intro hrw (And.intro hr1 (hl0)))))))
   refine twF ?_
   refine tiF ?_
   refine twF fun QQ hQQ => ?_
   ((refine cOF 36 rfl rfl rfl (hst) Tryz.func36 rfl ?_); refine tuF ?_); refine twF ?_
   ((refine cOF 63 rfl rfl rfl (wf) Tryz.func63 rfl ?_); refine tuF ?_; clear hQQ QQ); refine twF ?_
   refine tiF ?_
   refine twF ?_
   exact qRN
  have hn := hnx (by rw [hok, c3]; rfl)
  rw [c3] at wf
  rw [hrw] at hst
  try clear hF
  have hF := And.intro hg (And.intro hgf (And.intro hsl (And.intro hfl (And.intro hkl (And.intro hrw (And.intro hr1 (hl0)))))))
  refine twF ?_
  refine tiF ?_
  refine twF fun QQ hQQ => ?_
  ((refine cOF 36 rfl rfl rfl (hst) Tryz.func36 rfl ?_); refine tuF ?_); refine twF ?_
  ((refine cOF 63 rfl rfl rfl (wf) Tryz.func63 rfl ?_); refine tuF ?_; clear hQQ QQ); refine twF ?_
  refine tiF ?_
  refine twF ?_
  refine ⟨⟨i + 1, by omega, hn⟩, ?_, weak_round ?_ (by first | rfl | (simp only [hF, go_sem, ↓reduceIte]))⟩
  rotate_left
  ·(simp only [hF, go_sem, ↓reduceIte]; try rfl)
  ·simp only; omega
 ·have hie : i = ss.length := by omega
  subst hie
  have := hgood hb
  subst this
  try clear hF
  have hF := And.intro hsl (hfl)
  refine twF ?_
  refine tiF ?_
  refine twF ?_
  exact qRN
end
end Go.Proofs.YthedkfiebmnghaaGreat
namespace Go.Proofs.YthedkfiebmnghaaGreat
open Go Go.RowKit Go.Sh Go.Pv Go.By
section
variable {ss : List SD} {first : List Int} {trip load : Int}
def fineB (ss : List SD) (first : List Int) (trip load : Int) : Bool := !farB ss first 0 && boyB ss first trip load
theorem ok_fine : FunOK Tryz.prog 30 [boyR ss first trip load] (.one (.one (.v (.bool (fineB ss first trip load))))) := by
 refine fun_len fun hl => fun_len2 fun hl2 => ?_
 rw [List.length_map] at hl hl2
 have h1 := ok_far (ss := ss) (first := first) (trip := trip) (load := load) [] hl hl2 (by simp)
 rw [List.length_nil] at h1
 have h2 := ok_BoyR (ss := ss) (first := first) (trip := trip) (load := load)
 unfold fineB
 cases e1 : farB ss first 0
 ·have hs : ∀ s ∈ ss, bigS s = false := by
   unfold farB at e1
   rw [Bool.or_eq_false_iff] at e1
   exact fun s hs => by simpa using List.any_eq_false.1 e1.1 s hs
  have h2 := h2 hs
  rw [e1] at h1
  clear e1 hs hl hl2
  rw [Bool.not_false, Bool.true_and]
  generalize boyB ss first trip load = v at *
  unfold boyR at h1 h2
  refine fun_ok (nt := 10) (rs := [.tmp 2]) Tryz.func30 rfl rfl rfl (by simp) fun Z w0 => ?_; refine tI ?_
  refine tw fun QQ hQQ => ?_
  ((refine cO 12 rfl rfl rfl (h1) Tryz.func12 rfl ?_); refine tu ?_); refine tw ?_
  ((refine cO 32 rfl rfl rfl (h2) Tryz.func32 rfl ?_); refine tu ?_; clear hQQ QQ); refine tw ?_
  exact qRN
 ·rw [e1] at h1
  clear e1 h2 hl hl2
  rw [Bool.not_true, Bool.false_and]
  unfold boyR at h1
  refine fun_ok (nt := 10) (rs := [.tmp 2]) Tryz.func30 rfl rfl rfl (by simp) fun Z w0 => ?_; refine tI ?_
  refine tw fun QQ hQQ => ?_
  ((refine cO 12 rfl rfl rfl (h1) Tryz.func12 rfl ?_); refine tu ?_; clear hQQ QQ); refine tw ?_
  exact qRN
end
theorem ok_Ints (a b : List Int) (ha : a.length ≤ 100000) : FunOK Tryz.prog 29 [.one (.sl (a.map row1)), .one (.sl (b.map row1))] (.one (.one (.v (.bool (decide (a = b)))))) := by
 have hal : (a.map row1).length = a.length := List.length_map _
 have hbl : (b.map row1).length = b.length := List.length_map _
 by_cases h1 : a.length = b.length
 rotate_left
 ·have hv : decide (a = b) = false := decide_eq_false fun h => h1 (by rw [h])
  have e1 : ((a.length : Int) == (b.length : Int)) = false := by simp; omega
  rw [hv]
  refine fun_ok (nt := 26) (rs := [.tmp 4]) Tryz.func29 rfl rfl rfl (by simp) fun Z w0 => ?_; refine tI ?_
  try clear hF
  have hF := And.intro hal (And.intro hbl (e1))
  refine twF ?_
  refine tiF ?_
  refine twF ?_
  exact qRN
 have e1 : ((a.length : Int) == (b.length : Int)) = true := by simp; omega
 obtain ⟨v, hv⟩ : ∃ v, decide (a = b) = v := ⟨_, rfl⟩
 have hbad : ∀ i, i < a.length → a.getD i 0 ≠ b.getD i 0 → v = false := fun i hi h => by rw [← hv]; exact decide_eq_false fun e => h (by rw [e])
 have hgood : (∀ i, i < a.length → a.getD i 0 = b.getD i 0) → v = true := fun h => by
  rw [← hv]
  refine decide_eq_true (List.ext_getElem h1 fun i h2 h3 => ?_)
  have := h i h2
  simpa [List.getD, h2, h3] using this
 rw [hv]
 clear hv
 refine fun_ok (nt := 26) (rs := [.tmp 4]) Tryz.func29 rfl rfl rfl (by simp) fun Z w0 => ?_; refine tI ?_
 try clear hF
 have hF := And.intro hal (And.intro hbl (e1))
 refine twF ?_
 refine tiF ?_
 refine twF ?_
 refine aw_weak (weak_keep [0, 1, 5] (by simp only [go_sem, ↓reduceIte]; rfl)) ?_
 refine aw_loop_ov (ι := { i : Nat // i ≤ a.length ∧ ∀ k, k < i → a.getD k 0 = b.getD k 0 }) (fun i => [(5, iA i.1)]) (fun _ => []) (fun i => a.length - i.1) ⟨0, by omega, fun k hk => by omega⟩ (by first | rfl | (simp only [go_sem, ↓reduceIte]; first | done | rfl | (simp; try rfl))) ?_
 rintro ⟨i, hi, hb⟩
 refine tO ?_
 by_cases hil : i < a.length
 ·have hga : a[i]? = some (a.getD i 0) := get_some1' hil
  have hgb : b[i]? = some (b.getD i 0) := get_some1' (by omega)
  have hbd := hbad i hil
  have hnx : a.getD i 0 = b.getD i 0 → ∀ k, k < i + 1 → a.getD k 0 = b.getD k 0 := fun h k hk => by
   by_cases e : k = i
   ·rw [e]; exact h
   ·exact hb k (by omega)
  have hilb : i < b.length := by omega
  clear hbad hgood hb
  generalize a.getD i 0 = x at *
  generalize b.getD i 0 = z at *
  have hrx : row1 x = [iP x] := rfl
  have hrz : row1 z = [iP z] := rfl
  by_cases hx : x = z
  ·have hn := hnx hx
   have ex : (x == z) = true := by rw [hx]; simp
   try clear hF
   have hF := And.intro hal (And.intro hbl (And.intro hga (And.intro hgb (And.intro hrx (And.intro hrz (ex))))))
   refine twF ?_
   refine tiF ?_
   refine twF ?_
   refine tiF ?_
   refine twF ?_
   refine ⟨⟨i + 1, by omega, hn⟩, ?_, weak_round ?_ (by first | rfl | (simp only [hF, go_sem, ↓reduceIte]))⟩
   rotate_left
   ·(simp only [hF, go_sem, ↓reduceIte]; try rfl)
   ·simp only; omega
  ·have := hbd hx
   subst this
   have ex : (x == z) = false := by simpa using hx
   try clear hF
   have hF := And.intro hal (And.intro hbl (And.intro hga (And.intro hgb (And.intro hrx (And.intro hrz (ex))))))
   refine twF ?_
   refine tiF ?_
   refine twF ?_
   refine tiF ?_
   refine twF ?_
   exact qRN
 ·have hie : i = a.length := by omega
  have := hgood (by subst hie; exact hb)
  subst this
  clear hbad hgood hb
  try clear hF
  have hF := And.intro hal (hbl)
  refine twF ?_
  refine tiF ?_
  refine twF ?_
  exact qRN
theorem ok_span34 (a b : Int) : FunOK Tryz.prog 34 [.one (iP a), .one (iP b)] (.one (.agg [iP a, iP b])) := by
 refine fun_ok (nt := 8) (rs := [.cell 4 45]) Tryz.func34 rfl rfl rfl (by simp) fun Z w0 => ?_; refine tI ?_
 refine tw ?_
 exact qRN
def exS : List SD := [⟨(3, 4), (5, 5), (8, 10), [(0, 12), (15, 25)], [0, 1, 0, 2, 0, 0], []⟩, ⟨(4, 5), (4, 5), (4, 5), [(0, 20)], [0, 0, 0, 0, 0], []⟩]
theorem ok_sample (t : Int) : FunOK Tryz.prog 40 [.one (iP t)] (.one (boyR exS [2, 1] t 2)) := by
 have h1 := ok_span34 3 4
 have h2 := ok_span34 5 5
 have h3 := ok_span34 8 10
 have h4 := ok_span34 4 5
 simp only [exS, boyR, SD.row, List.map_cons, List.map_nil, row1, row2, row3]
 refine fun_ok (nt := 28) (rs := [.cell 2 25]) Tryz.func40 rfl rfl rfl (by simp) fun Z w0 => ?_; refine tI ?_
 refine tw fun QQ hQQ => ?_
 ((refine cO 34 rfl rfl rfl (h1) Tryz.func34 rfl ?_); refine tu ?_); refine tw ?_
 ((refine cO 34 rfl rfl rfl (h2) Tryz.func34 rfl ?_); refine tu ?_); refine tw ?_
 ((refine cO 34 rfl rfl rfl (h3) Tryz.func34 rfl ?_); refine tu ?_; clear hQQ QQ); refine tw fun QQ hQQ => ?_
 ((refine cO 34 rfl rfl rfl (h4) Tryz.func34 rfl ?_); refine tu ?_); refine tw ?_
 ((refine cO 34 rfl rfl rfl (h4) Tryz.func34 rfl ?_); refine tu ?_); refine tw ?_
 ((refine cO 34 rfl rfl rfl (h4) Tryz.func34 rfl ?_); refine tu ?_; clear hQQ QQ); refine tw ?_
 exact qRN
end Go.Proofs.YthedkfiebmnghaaGreat
