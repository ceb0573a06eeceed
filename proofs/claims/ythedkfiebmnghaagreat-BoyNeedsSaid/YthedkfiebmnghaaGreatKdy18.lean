/- Texts of the proof, joined. -/
import Derived.Test.YthedkfiebmnghaaGreatKst15
import Derived.Test.YthedkfiebmnghaaGreatKdx17
set_option linter.all false
namespace Go.By
open Go.Sh.Stand
def runF (runs : List (Int × Int)) : Nat → Int × Int := fun i => runs.getD i (0, 0)
def tkN (t : Shearer) : Nat → Int := fun k => tk t (k : Int)
def ksN (ks : List Int) : List Nat := ks.map Int.toNat
theorem gmax_max (a b : Int) : gmax a b = max a b := by unfold gmax; split <;> omega
theorem begins_begF (runs : List (Int × Int)) : ∀ (f i : Nat) (d : Int), runs.length = i + f → begins (runs.drop i) i d = begF (runF runs) f i d
 | 0, i, d, h => by rw [List.drop_eq_nil_of_le (by omega)]; rfl
 | f + 1, i, d, h => by
  have hi : i < runs.length := by omega
  rw [List.drop_eq_getElem_cons hi]
  have e : runF runs i = runs[i] := by unfold runF; simp [List.getD, hi]
  obtain ⟨⟨st, be⟩, hp⟩ : ∃ q, runs[i] = q := ⟨_, rfl⟩
  rw [hp] at e ⊢
  unfold begins begF
  rw [e, gmax_max, begins_begF runs f (i + 1) d (by omega)]
theorem begins_go (runs : List (Int × Int)) {i : Nat} (d : Int) (h : i ≤ runs.length) : begins (runs.drop i) i d = begF (runF runs) (runs.length - i) i d := begins_begF runs _ i d (by omega)
def begL (runs : List (Int × Int)) (t : Shearer) (ks : List Int) (r : Nat) (d : Int) : List Int := goL (runF runs) runs.length (tkN t) (ksN ks) r d
theorem begL_cons {runs : List (Int × Int)} {t : Shearer} {k : Int} {ks : List Int} {r : Nat} {d : Int} (hr : r ≤ runs.length) (hk : 0 ≤ k) :
  begL runs t (k :: ks) r d = match begins (runs.drop r) r d with | none => [] | some (r', a) => a :: begL runs t ks r' (a + tk t k) := by
 rw [begins_go runs d hr]
 show (match begF (runF runs) (runs.length - r) r d with | none => [] | some (r', a) => a :: goL (runF runs) runs.length (tkN t) (ksN ks) r' (a + tkN t k.toNat)) = _
 have e : tkN t k.toNat = tk t k := by unfold tkN; rw [Int.toNat_of_nonneg hk]
 rw [e]
 rfl
theorem begL_len {runs : List (Int × Int)} {t : Shearer} : ∀ (ks : List Int) (r : Nat) (d : Int), (begL runs t ks r d).length ≤ ks.length
 | [], _, _ => Nat.le_refl _
 | k :: ks, r, d => by
  show (match begF (runF runs) (runs.length - r) r d with | none => [] | some (r', a) => a :: goL (runF runs) runs.length (tkN t) (ksN ks) r' (a + tkN t k.toNat)).length ≤ _
  cases begF (runF runs) (runs.length - r) r d with
  | none => simp
  | some q => obtain ⟨r', a⟩ := q; have := begL_len (runs := runs) (t := t) ks r' (a + tkN t k.toNat); unfold begL at this; simp; exact this
theorem day_at {runs : List (Int × Int)} {t : Shearer} : ∀ (ks : List Int) (r : Nat) (d : Int) (i : Nat), r ≤ runs.length → (∀ k ∈ ks, 0 ≤ k) → i < ks.length →
  (i < (begL runs t ks r d).length → ((dayFrom runs t ks r d).getD i (0, 0)).1 = (begL runs t ks r d).getD i 0 + tk t (ks.getD i 0) ∧ 0 ≤ ((dayFrom runs t ks r d).getD i (0, 0)).2) ∧
  (¬ i < (begL runs t ks r d).length → (dayFrom runs t ks r d).getD i (0, 0) = (1000, -1))
 | [], _, _, _, _, _, h => by simp at h
 | k :: ks, r, d, i, hr, hk, hi => by
  have hk0 := hk k List.mem_cons_self
  rw [begL_cons hr hk0]
  unfold dayFrom
  cases hb : begins (runs.drop r) r d with
  | none =>
   dsimp only
   refine ⟨fun h => by simp at h, fun _ => ?_⟩
   rw [List.getD_eq_getElem?_getD, List.getElem?_replicate, if_pos (by simpa using hi)]; rfl
  | some q =>
   obtain ⟨r', a⟩ := q
   dsimp only
   obtain ⟨p, h1, h2, h3, h4⟩ := begins_of_drop hb
   have hr' : r' ≤ runs.length := Nat.le_of_lt (List.getElem?_eq_some_iff.1 h2).1
   cases i with
   | zero => exact ⟨fun _ => ⟨rfl, by show (0 : Int) ≤ (r' : Int); omega⟩, fun h => by simp at h⟩
   | succ i =>
    have ih := day_at (runs := runs) (t := t) ks r' (a + tk t k) i hr' (fun x hx => hk x (List.mem_cons_of_mem _ hx)) (by simpa using hi)
    refine ⟨fun h => ?_, fun h => ?_⟩
    ·have := ih.1 (by simpa using h)
     simpa using this
    ·have := ih.2 (by simpa using h)
     simpa using this
theorem begL_lt {runs : List (Int × Int)} {t : Shearer} {B : Int} (hb : ∀ p ∈ runs, p.2 ≤ B) : ∀ (ks : List Int) (r : Nat) (d : Int), ∀ a ∈ begL runs t ks r d, a < B
 | [], _, _, a, ha => by cases ha
 | k :: ks, r, d, a, ha => by
  have ha : a ∈ (match begF (runF runs) (runs.length - r) r d with | none => [] | some (r', a) => a :: goL (runF runs) runs.length (tkN t) (ksN ks) r' (a + tkN t k.toNat)) := ha
  cases hq : begF (runF runs) (runs.length - r) r d with
  | none => rw [hq] at ha; cases ha
  | some q =>
   obtain ⟨r', b⟩ := q
   rw [hq] at ha
   dsimp only at ha
   obtain ⟨g1, g2, g3, g4⟩ := begF_ge hq
   rcases List.mem_cons.1 ha with rfl | ha
   ·have hr' : r' < runs.length := by omega
    have := hb _ (List.getElem_mem hr')
    have e : runF runs r' = runs[r'] := by unfold runF; simp [List.getD, hr']
    rw [e] at g4
    omega
   ·exact begL_lt hb ks r' _ a ha
end Go.By
namespace Go.By
open Go.Sh.Stand Go.Proofs.YthedkfiebmnghaaGreat
theorem runsB_next : ∀ (l : List (Int × Int)) (b : Int), runsB l b = true → ∀ i, i + 1 < l.length → (l.getD i (0, 0)).2 ≤ (l.getD (i + 1) (0, 0)).1
 | [], _, _, i, hi => by simp at hi
 | [_], _, _, i, hi => by simp at hi
 | (st, be) :: (st2, be2) :: r, b, h, i, hi => by
  have h0 := h
  simp only [runsB, inR, Bool.and_eq_true, decide_eq_true_eq] at h
  cases i with
  | zero => show be ≤ st2; omega
  | succ i =>
   have h' : runsB ((st2, be2) :: r) be = true := by
    simp only [runsB, inR, Bool.and_eq_true, decide_eq_true_eq]
    exact h.2
   have := runsB_next ((st2, be2) :: r) be h' i (by simpa using hi)
   simpa using this
structure SD where
 m0 : Int × Int
 m1 : Int × Int
 m2 : Int × Int
 runs : List (Int × Int)
 sheep : List Int
 looks : List (Int × Int × Int)
namespace SD
def st (s : SD) : Stand := ⟨[s.m0, s.m1, s.m2], s.runs, s.sheep, s.looks⟩
def quick (s : SD) : Shearer := (s.m0.1, s.m1.1, s.m2.1)
def needL (s : SD) : List Int := begL s.runs s.quick s.sheep 0 0
def ok (s : SD) : Bool := validB s.st && decide (s.looks = [])
end SD
theorem mem_setT (s : Stand) (t : Shearer) : t ∈ allSh s ↔ ((s.mins.getD 0 (0, 0)).1 ≤ t.1 ∧ t.1 ≤ (s.mins.getD 0 (0, 0)).2) ∧ ((s.mins.getD 1 (0, 0)).1 ≤ t.2.1 ∧ t.2.1 ≤ (s.mins.getD 1 (0, 0)).2) ∧ ((s.mins.getD 2 (0, 0)).1 ≤ t.2.2 ∧ t.2.2 ≤ (s.mins.getD 2 (0, 0)).2) := by
 obtain ⟨a, b, c⟩ := t
 simp only [allSh, subs, List.mem_flatMap, List.mem_range, List.mem_singleton, setT, setK, Nat.zero_add, Nat.reduceAdd]
 generalize s.mins.getD 0 (0, 0) = q0
 generalize s.mins.getD 1 (0, 0) = q1
 generalize s.mins.getD 2 (0, 0) = q2
 constructor
 ·rintro ⟨i, hi, j, hj, l, hl, h⟩
  simp at h
  obtain ⟨rfl, rfl, rfl⟩ := h
  omega
 ·rintro ⟨h0, h1, h2⟩
  refine ⟨(a - q0.1).toNat, by omega, (b - q1.1).toNat, by omega, (c - q2.1).toNat, by omega, ?_⟩
  simp
  omega
variable {s : SD}
theorem mem_sh (t : Shearer) : t ∈ allSh s.st ↔ (s.m0.1 ≤ t.1 ∧ t.1 ≤ s.m0.2) ∧ (s.m1.1 ≤ t.2.1 ∧ t.2.1 ≤ s.m1.2) ∧ (s.m2.1 ≤ t.2.2 ∧ t.2.2 ≤ s.m2.2) := mem_setT s.st t
theorem ok_valid (h : s.ok = true) : validB s.st = true ∧ s.looks = [] := by
 unfold SD.ok at h
 simp only [Bool.and_eq_true, decide_eq_true_eq] at h
 exact h
theorem ok_fit (h : s.ok = true) : Fit s.st := fit_of_valid rfl (ok_valid h).1
theorem quick_mem (h : s.ok = true) : s.quick ∈ allSh s.st := by
 have hm := (ok_fit h).minb
 have h0 := hm s.m0 (by simp [SD.st])
 have h1 := hm s.m1 (by simp [SD.st])
 have h2 := hm s.m2 (by simp [SD.st])
 rw [mem_sh]
 unfold SD.quick
 dsimp only
 omega
theorem truths_all (h : s.ok = true) (set : Nat) : truthsL s.st set = allSh s.st := by
 unfold truthsL
 rw [List.filter_eq_self]
 intro t _
 unfold rightB
 have : s.st.looks = [] := (ok_valid h).2
 rw [this]
 rfl
theorem tk_rng (h : s.ok = true) {t : Shearer} (ht : t ∈ allSh s.st) (k : Int) : 1 ≤ tk t k ∧ tk t k ≤ 40 ∧ tk s.quick k ≤ tk t k := by
 have hm := (ok_fit h).minb
 have h0 := hm s.m0 (by simp [SD.st])
 have h1 := hm s.m1 (by simp [SD.st])
 have h2 := hm s.m2 (by simp [SD.st])
 have := (mem_sh t).1 ht
 unfold tk SD.quick
 dsimp only
 split
 ·omega
 ·split <;> omega
theorem runs_next (h : s.ok = true) : ∀ i, i + 1 < s.runs.length → (runF s.runs i).2 ≤ (runF s.runs (i + 1)).1 := by
 have hv := (ok_valid h).1
 unfold validB at hv
 simp only [Bool.and_eq_true] at hv
 exact runsB_next _ 0 hv.2.2.1
theorem runs_wide (h : s.ok = true) : ∀ i, i < s.runs.length → (runF s.runs i).1 < (runF s.runs i).2 := fun i hi => by
 have e : runF s.runs i = s.runs[i] := by unfold runF; simp [List.getD, hi]
 rw [e]
 exact ((ok_fit h).runb _ (List.getElem_mem hi)).2.1
theorem runs_600 (h : s.ok = true) : ∀ p ∈ s.runs, p.2 ≤ 600 := fun p hp => ((ok_fit h).runb p hp).2.2
theorem kinds_ok (h : s.ok = true) : ∀ k ∈ s.sheep, 0 ≤ k ∧ k ≤ 2 := (ok_fit h).kinds
theorem sheep_16 (h : s.ok = true) : s.sheep.length ≤ 16 := (ok_fit h).sheep
theorem need_len : s.needL.length ≤ s.sheep.length := begL_len _ _ _
theorem need_lt (h : s.ok = true) : ∀ a ∈ s.needL, a < 600 := begL_lt (runs_600 h) _ _ _
theorem need_ge (h : s.ok = true) : ∀ a ∈ s.needL, 0 ≤ a := fun a ha => goL_ge (fun k => by have := (tk_rng h (quick_mem h) (k : Int)).1; unfold tkN; omega) _ _ _ a ha
theorem need_sorted (h : s.ok = true) : s.needL.Pairwise (· ≤ ·) := goL_sorted (fun k => by have := (tk_rng h (quick_mem h) (k : Int)).1; unfold tkN; omega) _ _ _
theorem mem_getD {l : List Int} {i : Nat} (h : i < l.length) : l.getD i 0 ∈ l := by rw [List.getD_eq_getElem?_getD, List.getElem?_eq_getElem h]; exact List.getElem_mem h
def SD.doneQ (s : SD) (k : Nat) : Int := if k < s.needL.length then s.needL.getD k 0 + tk s.quick (s.sheep.getD k 0) else 1000
theorem day_quick (h : s.ok = true) {k : Nat} (hk : k < s.sheep.length) : ((day s.st s.quick).getD k (0, 0)).1 = s.doneQ k := by
 obtain ⟨h1, h2⟩ := day_at (runs := s.runs) (t := s.quick) s.sheep 0 0 k (Nat.zero_le _) (fun x hx => (kinds_ok h x hx).1) hk
 unfold SD.doneQ
 by_cases hc : k < s.needL.length
 ·rw [if_pos hc]; exact (h1 hc).1
 ·rw [if_neg hc]
  show ((dayFrom s.runs s.quick s.sheep 0 0).getD k (0, 0)).1 = _
  rw [h2 hc]
theorem day_least (h : s.ok = true) {t : Shearer} (ht : t ∈ allSh s.st) {k : Nat} (hk : k < s.sheep.length) : s.doneQ k ≤ ((day s.st t).getD k (0, 0)).1 := by
 obtain ⟨h1, h2⟩ := day_at (runs := s.runs) (t := t) s.sheep 0 0 k (Nat.zero_le _) (fun x hx => (kinds_ok h x hx).1) hk
 have hq := tk_rng h (quick_mem h) (s.sheep.getD k 0)
 have ht' := tk_rng h ht (s.sheep.getD k 0)
 show _ ≤ ((dayFrom s.runs t s.sheep 0 0).getD k (0, 0)).1
 by_cases hc : k < (begL s.runs t s.sheep 0 0).length
 ·rw [(h1 hc).1]
  have hg : (begL s.runs t s.sheep 0 0)[k]? = some ((begL s.runs t s.sheep 0 0).getD k 0) := by simp [List.getD, hc]
  obtain ⟨a, ha, hle⟩ := goL_slow (R := runF s.runs) (n := s.runs.length) (runs_next h) (runs_wide h) (tq := tkN s.quick) (ts := tkN t) (fun k => (tk_rng h ht (k : Int)).2.2) (ksN s.sheep) 0 0 0 0 (Nat.le_refl _) (Int.le_refl _) k _ hg
  have ha : s.needL[k]? = some a := ha
  have hlt : k < s.needL.length := (List.getElem?_eq_some_iff.1 ha).1
  unfold SD.doneQ
  rw [if_pos hlt]
  have e : s.needL.getD k 0 = a := by rw [List.getD_eq_getElem?_getD, ha]; rfl
  rw [e]
  omega
 ·rw [h2 hc]
  unfold SD.doneQ
  split
  ·rename_i hlt
   have := need_lt h _ (mem_getD hlt)
   dsimp only
   omega
  ·exact Int.le_refl _
theorem done_quick (h : s.ok = true) {k : Nat} (hk : k < s.sheep.length) : ∃ hi, ansE s.st (inB (k : Int) 0 ((s.sheep.length : Int) - 1)) (doneL s.st (k : Int)) = ((s.doneQ k, hi), 0) := by
 have hb : inB (k : Int) 0 ((s.sheep.length : Int) - 1) = true := by simp [inB]; omega
 have hne : doneL s.st (k : Int) ≠ [] := by
  unfold doneL
  rw [truths_all h]
  intro he
  have := List.map_eq_nil_iff.1 he
  have hm := quick_mem h
  rw [this] at hm
  cases hm
 rw [hb, ans_told (ok_valid h).1 rfl hne]
 obtain ⟨h1, h2, h3⟩ := hull_spec hne
 have hmem : ∀ a, a ∈ doneL s.st (k : Int) ↔ ∃ t, t ∈ allSh s.st ∧ ((day s.st t).getD k (0, 0)).1 = a := fun a => by
  unfold doneL
  rw [truths_all h, List.mem_map]
  exact Iff.rfl
 have e : (hull (doneL s.st (k : Int))).1 = s.doneQ k := by
  obtain ⟨t, ht, e⟩ := (hmem _).1 h1
  have l1 := day_least h ht hk
  have l2 := (h3 _ ((hmem _).2 ⟨s.quick, quick_mem h, rfl⟩)).1
  rw [day_quick h hk] at l2
  omega
 refine ⟨(hull (doneL s.st (k : Int))).2, ?_⟩
 rw [← e]
 rfl
theorem clash_ok : (decide ((ansC s.st).2 = 4) && decide (s.looks.length = 0)) = s.ok := by
 cases hl : s.looks with
 | cons x r => simp [SD.ok, hl]
 | nil =>
  cases hv : validB s.st
  ·simp [SD.ok, hv, ansC]
  ·have hok : s.ok = true := by simp [SD.ok, hv, hl]
   have hne : truthsL s.st (everyB s.st) ≠ [] := by
    rw [truths_all hok]
    intro he
    have hm := quick_mem hok
    rw [he] at hm
    cases hm
   rw [hok]
   simp [ansC, hv, hne]
end Go.By
namespace Go.By
open Go Go.ChangeMaps
def tkV (x : Nat × Nat) : Value := .agg #[.int .i64 (x.1 : Int), .int .i64 (x.2 : Int)]
theorem tkV_inj {x y : Nat × Nat} (h : tkV x = tkV y) : x = y := by
 obtain ⟨a, b⟩ := x
 obtain ⟨c, d⟩ := y
 simp only [tkV, Value.agg.injEq, Array.mk.injEq, List.cons.injEq, Value.int.injEq, and_true, true_and] at h
 have h1 : a = c := by omega
 have h2 : b = d := by omega
 rw [h1, h2]
def entE (D : Nat → List Int) (i : Nat) (x : Nat × Nat) : MapEntry := { key := tkV x, val := .int .i64 (dueT D x), born := i }
def toE (D : Nat → List Int) (L : List (Nat × Nat)) : Array MapEntry := (L.mapIdx fun i x => entE D i x).toArray
variable {D : Nat → List Int} {L : List (Nat × Nat)}
theorem toE_push (x : Nat × Nat) : (toE D L).push { key := tkV x, val := .int .i64 (dueT D x), born := L.length } = toE D (L ++ [x]) := by
 unfold toE
 simp [List.mapIdx_append, entE]
theorem mem_toE {e : MapEntry} : e ∈ (toE D L).toList ↔ ∃ i x, L[i]? = some x ∧ e = entE D i x := by
 unfold toE
 rw [List.mem_iff_getElem?]
 simp only [List.getElem?_mapIdx, Option.map_eq_some_iff]
 constructor
 ·rintro ⟨i, x, h1, h2⟩; exact ⟨i, x, h1, h2.symm⟩
 ·rintro ⟨i, x, h1, h2⟩; exact ⟨i, x, h1, h2.symm⟩
theorem toE_has {x : Nat × Nat} (h : x ∈ L) : (∃ e ∈ (toE D L).toList, e.key = tkV x) ∧ ∀ e ∈ (toE D L).toList, e.key = tkV x → e.val = .int .i64 (dueT D x) := by
 obtain ⟨i, hi⟩ := List.mem_iff_getElem?.1 h
 refine ⟨⟨_, mem_toE.2 ⟨i, x, hi, rfl⟩, rfl⟩, fun e he hk => ?_⟩
 obtain ⟨j, y, _, rfl⟩ := mem_toE.1 he
 rw [show y = x from tkV_inj hk]
 rfl
theorem toE_not {x : Nat × Nat} (h : x ∉ L) : ∀ e ∈ (toE D L).toList, e.key ≠ tkV x := fun e he hk => by
 obtain ⟨j, y, hy, rfl⟩ := mem_toE.1 he
 rw [show y = x from tkV_inj hk] at hy
 exact h (List.mem_of_getElem? hy)
theorem toE_born : ∀ e ∈ (toE D L).toList, e.born < L.length := fun e he => by
 obtain ⟨j, y, hy, rfl⟩ := mem_toE.1 he
 exact (List.getElem?_eq_some_iff.1 hy).1
theorem toE_borns : ((toE D L).toList.map (·.born)).Nodup := by
 have : (toE D L).toList.map (·.born) = List.range L.length := by
  apply List.ext_getElem?
  intro i
  unfold toE
  by_cases h : i < L.length
  ·simp [h, entE]
  ·simp [h]
 rw [this]
 exact List.nodup_range
structure Seen (L : List (Nat × Nat)) (seen : Array Nat) (done : List (Nat × Nat)) : Prop where
 nd : done.Nodup
 sub : ∀ x ∈ done, x ∈ L
 at_ : ∀ i x, L[i]? = some x → (seen.contains i = true ↔ x ∈ done)
theorem Seen.start : Seen L #[] [] := ⟨List.nodup_nil, (fun x h => by cases h), (fun i x _ => by simp)⟩
theorem Seen.step (hL : L.Nodup) {seen : Array Nat} {done : List (Nat × Nat)} (h : Seen L seen done) {e : MapEntry} (he : e ∈ (leftOf (toE D L) seen).toList) : ∃ i x, L[i]? = some x ∧ e = entE D i x ∧ x ∈ L ∧ x ∉ done ∧ Seen L (seen.push e.born) (done ++ [x]) := by
 obtain ⟨h1, h2⟩ := mem_left he
 obtain ⟨i, x, hi, rfl⟩ := mem_toE.1 h1
 have hx : x ∉ done := fun hd => by
  have := (h.at_ i x hi).2 hd
  rw [show (entE D i x).born = i from rfl] at h2
  rw [h2] at this
  cases this
 refine ⟨i, x, hi, rfl, List.mem_of_getElem? hi, hx, ?_, ?_, ?_⟩
 ·exact List.nodup_append.2 ⟨h.nd, by simp, fun a ha b hb => by simp at hb; subst hb; rintro rfl; exact hx ha⟩
 ·intro y hy
  rcases List.mem_append.1 hy with hy | hy
  ·exact h.sub y hy
  ·rw [List.mem_singleton.1 hy]; exact List.mem_of_getElem? hi
 ·intro j y hj
  have hij : j = i ↔ y = x := by
   constructor
   ·rintro rfl; rw [hi] at hj; exact (Option.some.inj hj).symm
   ·rintro rfl
    obtain ⟨h3, h4⟩ := List.getElem?_eq_some_iff.1 hi
    obtain ⟨h5, h6⟩ := List.getElem?_eq_some_iff.1 hj
    exact (List.getElem_inj hL).1 (h6.trans h4.symm)
  rw [show (entE D i x).born = i from rfl, contains_push, Bool.or_eq_true, h.at_ j y hj, List.mem_append, List.mem_singleton, beq_iff_eq]
  constructor
  ·rintro (h | h)
   ·exact .inl h
   ·exact .inr (hij.1 (by first | exact h | exact h.symm))
  ·rintro (h | h)
   ·exact .inl h
   ·exact .inr (by first | exact hij.2 h | exact (hij.2 h).symm)
theorem Seen.all (hL : L.Nodup) {seen : Array Nat} {done : List (Nat × Nat)} (h : Seen L seen done) (h0 : (leftOf (toE D L) seen).size = 0) : done.Perm L := by
 refine (List.perm_ext_iff_of_nodup h.nd hL).2 fun x => ⟨h.sub x, fun hx => ?_⟩
 obtain ⟨i, hi⟩ := List.mem_iff_getElem?.1 hx
 have := all_seen (toE D L) seen h0 _ (mem_toE.2 ⟨i, x, hi, rfl⟩)
 exact (h.at_ i x hi).1 this
end Go.By
