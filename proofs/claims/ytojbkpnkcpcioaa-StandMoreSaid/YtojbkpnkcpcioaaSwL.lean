/- The law StandMore holds of all that is given. -/
import Derived.Test.YtojbkpnkcpcioaaSwK
import Derived.Test.YtojbkpnkcpcioaaSwJ
import Derived.Test.YtojbkpnkcpcioaaKf
set_option linter.all false
namespace Go.Proofs.Ytojbkpnkcpcioaa
open Go Go.RowKit Go.Sh Go.Sh.Stand Go.Pv
set_option maxHeartbeats 1000000
theorem mem_revT (looks : List (Int × Int × Int)) (x : Int × Int × Int) : ∀ i, x ∈ revT looks i ↔ ∃ j, j < i ∧ x = looks.getD (looks.length - 1 - j) (0, 0, 0)
  | 0 => by simp [revT]
  | i + 1 => by
    rw [revT, List.mem_append, mem_revT looks x i]
    constructor
    · rintro (⟨j, hj, rfl⟩ | h)
      · exact ⟨j, by omega, rfl⟩
      · exact ⟨i, by omega, by simpa using h⟩
    · rintro ⟨j, hj, rfl⟩
      by_cases h : j < i
      · exact .inl ⟨j, h, rfl⟩
      · have : j = i := by omega
        subst this; exact .inr (by simp)
theorem mem_revT_all (looks : List (Int × Int × Int)) (x : Int × Int × Int) : x ∈ revT looks looks.length ↔ x ∈ looks := by
  rw [mem_revT]
  constructor
  · rintro ⟨j, hj, rfl⟩
    have : looks.length - 1 - j < looks.length := by omega
    simp [List.getD, this]
  · intro hx
    obtain ⟨k, hk, rfl⟩ := List.getElem_of_mem hx
    refine ⟨looks.length - 1 - k, by omega, ?_⟩
    have : looks.length - 1 - (looks.length - 1 - k) = k := by omega
    rw [this]; simp [List.getD, hk]
theorem kinds58 : kindsOf Try.prog 8 58 = some [ckI, ckI, ckI] := by kernel_rfl
theorem look_open {H : Type} {enc : TypeId × Value → H} {W : World} {sp : Nat → Bool} {cs : Array Value} {d : DataW H} {p : List MemPlace} (h : DataW.Trod enc Try.prog W 0 sp true 58 (.agg cs) d p) :
    ∃ a b c, RelR (fun _ _ => True) W (.agg [iP a, iP b, iP c]) (.agg cs) := by
  obtain ⟨ps, hl, hr, ht⟩ := cells_agg kinds58 h
  obtain ⟨x0, e0, t0⟩ := ht 0 _ rfl
  obtain ⟨x1, e1, t1⟩ := ht 1 _ rfl
  obtain ⟨x2, e2, t2⟩ := ht 2 _ rfl
  obtain ⟨a0, rfl, _⟩ := tyI t0
  obtain ⟨a1, rfl, _⟩ := tyI t1
  obtain ⟨a2, rfl, _⟩ := tyI t2
  refine ⟨a0, a1, a2, ?_⟩
  have : ps = [iP a0, iP a1, iP a2] := by
    apply List.ext_getElem?
    intro j
    rcases j with _ | _ | _ | j
    · exact e0
    · exact e1
    · exact e2
    · rw [List.getElem?_eq_none (by rw [hl]; simp), List.getElem?_eq_none (by simp)]
  rw [this] at hr
  exact hr
section
variable (m0 m1 m2 : Int × Int) (runs : List (Int × Int)) (sheep : List Int) (looks : List (Int × Int × Int))
theorem truths_revT : truthsL (stM m0 m1 m2 runs sheep (revT looks looks.length)) (everyB (stM m0 m1 m2 runs sheep (revT looks looks.length))) = truthsL (stM m0 m1 m2 runs sheep looks) (everyB (stM m0 m1 m2 runs sheep looks)) := by
  unfold truthsL
  show List.filter _ (allSh (stM m0 m1 m2 runs sheep looks)) = _
  refine List.filter_congr fun t _ => ?_
  rw [right_all, right_all, Bool.eq_iff_iff, List.all_eq_true, List.all_eq_true]
  exact ⟨fun h x hx => h x ((mem_revT_all looks x).2 hx), fun h x hx => h x ((mem_revT_all looks x).1 hx)⟩
theorem nar_in (par : Bool) (m : Int × Int) (h : m.1 ≤ m.2) : m.1 ≤ (nar par m).1 ∧ (nar par m).2 ≤ m.2 := by
  unfold nar; cases par <;> simp <;> omega
theorem zM_in (kind k : Int) (par : Bool) (m : Int × Int) (h : m.1 ≤ m.2) : m.1 ≤ (zM kind par k m).1 ∧ (zM kind par k m).2 ≤ m.2 := by
  unfold zM; split
  · exact nar_in par m h
  · exact ⟨Int.le_refl _, Int.le_refl _⟩
theorem valid_bareS {sheep' : List Int} (h : validB (stM m0 m1 m2 runs sheep looks) = true) (hs : sheep'.length ≤ 16) (hk : ∀ k ∈ sheep', 0 ≤ k ∧ k ≤ 2) : validB (stM m0 m1 m2 runs sheep' []) = true := by
  unfold validB lensB stM at h ⊢
  simp only [Bool.and_eq_true, decide_eq_true_eq, List.all_eq_true] at h ⊢
  refine ⟨h.1, ⟨⟨h.2.1.1.1, by omega⟩, by simp⟩, h.2.2.1, fun k hk' => ?_, fun x hx => by cases hx⟩
  have := hk k hk'
  unfold inR; simp; omega
theorem truths_bareS (sheep' : List Int) : truthsL (stM m0 m1 m2 runs sheep' []) (everyB (stM m0 m1 m2 runs sheep' [])) = allSh (stM m0 m1 m2 runs sheep []) := by
  unfold truthsL
  show List.filter _ (allSh (stM m0 m1 m2 runs sheep [])) = _
  refine List.filter_eq_self.2 fun t _ => rfl
theorem ok_moreL {w v at_ : Int} {ex : Int × Int × Int} (hw : 0 ≤ w ∧ w ≤ 255) (hvv : 0 ≤ v ∧ v ≤ 255) (hat : 0 ≤ at_ ∧ at_ ≤ 65535) :
    FunOK Try.prog 10 [stR m0 m1 m2 runs sheep looks, .agg [iP ex.1, iP ex.2.1, iP ex.2.2], .one (.v (.int .u8 w)), .one (.v (.int .u8 v)), .one (.v (.int .u16 at_))] (.one (.one (.v (.bool true)))) := by
  have hfine := ok_fine m0 m1 m2 runs sheep looks
  cases hf : fineB m0 m1 m2 runs sheep looks
  · rw [hf] at hfine
    exact ok_more_not m0 m1 m2 runs sheep looks hfine
  rw [hf] at hfine
  unfold fineB at hf
  simp only [Bool.and_eq_true, Bool.not_eq_true'] at hf
  have hv := hf.2
  have hs := fit_of_valid (s := stM m0 m1 m2 runs sheep looks) rfl hv
  have hll : looks.length ≤ 4 := hs.looks
  have hsl : sheep.length ≤ 16 := hs.sheep
  have hrl : 1 ≤ runs.length ∧ runs.length ≤ 4 := hs.runs
  have hshk : ∀ k ∈ sheep, 0 ≤ k ∧ k ≤ 2 := hs.kinds
  have hlook : ∀ x ∈ looks, 0 ≤ x.2.1 ∧ x.2.1 ≤ x.2.2 ∧ x.2.2 ≤ 16 := fun x hx => (hs.lookb x hx).2
  have hmin := fun m (hm : m ∈ [m0, m1, m2]) => hs.minb m hm
  have a0 := hmin m0 (by simp)
  have a1 := hmin m1 (by simp)
  have a2 := hmin m2 (by simp)
  clear hmin
  have hmt : 0 ≤ at_.tmod 1000 ∧ at_.tmod 1000 ≤ 999 := by rw [Int.tmod_eq_emod_of_nonneg hat.1]; omega
  have hkt : 0 ≤ w.tmod 3 ∧ w.tmod 3 ≤ 2 := by rw [Int.tmod_eq_emod_of_nonneg hw.1]; omega
  have hmB : inB (at_.tmod 1000) 0 999 = true := by unfold inB; simp; omega
  have hkB : inB (w.tmod 3) 0 2 = true := by unfold inB; simp; omega
  -- a look that is narrower
  have hidx : ∃ (yl : List (Int × Int × Int)) (idx : Nat), (looks.length = 0 → yl = looks) ∧ (0 < looks.length → w.tmod (looks.length : Int) = (idx : Int) ∧ idx < looks.length ∧ 0 ≤ (looks.getD idx (0, 0, 0)).2.1 ∧ (looks.getD idx (0, 0, 0)).2.1 ≤ 16 ∧ yl = looks.set idx ((looks.getD idx (0, 0, 0)).1, min (looks.getD idx (0, 0, 0)).2.2 ((looks.getD idx (0, 0, 0)).2.1 + 1), (looks.getD idx (0, 0, 0)).2.2)) ∧ yl.length = looks.length ∧
      ∀ (f : Int → Int), (∀ x ∈ yl, x.2.1 ≤ f x.1 ∧ f x.1 ≤ x.2.2) → ∀ x ∈ looks, x.2.1 ≤ f x.1 ∧ f x.1 ≤ x.2.2 := by
    by_cases h0 : looks.length = 0
    · exact ⟨looks, 0, fun _ => rfl, fun h => by omega, rfl, fun f h => h⟩
    · have hp : 0 < (looks.length : Int) := by omega
      have hq : 0 ≤ w.tmod (looks.length : Int) ∧ w.tmod (looks.length : Int) < looks.length := by
        rw [Int.tmod_eq_emod_of_nonneg hw.1]
        exact ⟨Int.emod_nonneg _ (by omega), Int.emod_lt_of_pos _ hp⟩
      obtain ⟨idx, hidx⟩ : ∃ n : Nat, w.tmod (looks.length : Int) = n := ⟨(w.tmod (looks.length : Int)).toNat, by omega⟩
      have hil : idx < looks.length := by omega
      have hmem : looks.getD idx (0, 0, 0) ∈ looks := by simp [List.getD, hil]
      have hb := hlook _ hmem
      refine ⟨_, idx, fun h => absurd h h0, fun _ => ⟨hidx, hil, hb.1, by omega, rfl⟩, by simp, fun f h x hx => ?_⟩
      obtain ⟨j, hj, rfl⟩ := List.getElem_of_mem hx
      by_cases hij : idx = j
      · subst hij
        have e : looks.getD idx (0, 0, 0) = looks[idx] := by simp [List.getD, hil]
        rw [e] at h hb
        have := h _ (List.mem_iff_getElem?.2 ⟨idx, by rw [List.getElem?_set_self hil]⟩)
        simp only at this
        omega
      · refine h _ (List.mem_iff_getElem?.2 ⟨j, ?_⟩)
        rw [List.getElem?_set_ne hij]; simp [hj]
  obtain ⟨yl, idx, hy0, hy1, hyl, hyf⟩ := hidx
  have hcount := ok_count m0 m1 m2 runs sheep looks (at_.tmod 1000)
  have htakes := ok_takes m0 m1 m2 runs sheep looks (w.tmod 3)
  have hlate := ok_late m0 m1 m2 runs sheep looks ((runs.length : Int) - 1)
  rw [hmB] at hcount
  rw [hkB] at htakes
  have hee : (ansE (stM m0 m1 m2 runs sheep looks) true (takesL (stM m0 m1 m2 runs sheep looks) (w.tmod 3))).2 = (ansE (stM m0 m1 m2 runs sheep looks) true (countL (stM m0 m1 m2 runs sheep looks) (at_.tmod 1000))).2 := by
    by_cases hT : truthsL (stM m0 m1 m2 runs sheep looks) (everyB (stM m0 m1 m2 runs sheep looks)) = []
    · rw [ans_none hv rfl (by unfold takesL; rw [hT]; rfl), ans_none hv rfl (by unfold countL; rw [hT]; rfl)]
    · rw [ans_some hv rfl (by unfold takesL; simpa using hT), ans_some hv rfl (by unfold countL; simpa using hT)]
  have hge : 1 < runs.length → (ansN (stM m0 m1 m2 runs sheep looks) (inB ((runs.length : Int) - 1) 0 ((runs.length : Int) - 1) && decide (0 < (runs.length : Int) - 1)) (lateL (stM m0 m1 m2 runs sheep looks) ((runs.length : Int) - 1))).2 = (ansE (stM m0 m1 m2 runs sheep looks) true (countL (stM m0 m1 m2 runs sheep looks) (at_.tmod 1000))).2 := by
    intro hn
    have hb : (inB ((runs.length : Int) - 1) 0 ((runs.length : Int) - 1) && decide (0 < (runs.length : Int) - 1)) = true := by unfold inB; simp; omega
    rw [hb]
    by_cases hT : truthsL (stM m0 m1 m2 runs sheep looks) (everyB (stM m0 m1 m2 runs sheep looks)) = []
    · rw [ansN_code (ans_none hv rfl (by unfold lateL; rw [hT]; rfl)) (by decide), ans_none hv rfl (by unfold countL; rw [hT]; rfl)]
    · unfold ansN
      rw [ans_some hv rfl (by unfold lateL; simpa using hT), ans_some hv rfl (by unfold countL; simpa using hT)]
      rfl
  have htk' : FunOK Try.prog 17 [stR m0 m1 m2 runs sheep looks, .one (iP (w.tmod 3))] (.tup [.agg [iP (ansE (stM m0 m1 m2 runs sheep looks) true (takesL (stM m0 m1 m2 runs sheep looks) (w.tmod 3))).1.1, iP (ansE (stM m0 m1 m2 runs sheep looks) true (takesL (stM m0 m1 m2 runs sheep looks) (w.tmod 3))).1.2], .one (iP (ansE (stM m0 m1 m2 runs sheep looks) true (countL (stM m0 m1 m2 runs sheep looks) (at_.tmod 1000))).2)]) := by
    rw [← hee]; exact htakes
  refine ok_more_walk m0 m1 m2 runs sheep looks hw hvv hat rfl rfl ⟨a0.1, a0.2.1, a0.2.2.1, a1.1, a1.2.1, a1.2.2.1, a2.1, a2.2.1, a2.2.2.1⟩ hyl hy0 hy1 hkt hll hrl hsl hge
    (vok m0 m1 m2 runs sheep looks hv hmB hkB hrl hsl (by simp; omega) (fun _ t ht => ?_) (fun h => by omega))
    (vok m0 m1 m2 runs sheep looks hv hmB hkB hrl hsl (by omega) (fun _ t ht => ?_) (fun h => by omega))
    (vok m0 m1 m2 runs sheep looks hv hmB hkB hrl hsl (by omega) (fun _ t ht => ?_) (fun h => by omega))
    (vok m0 m1 m2 runs sheep looks hv hmB hkB hrl hsl (by rw [revT_len]; omega) (fun _ t ht => ?_) (fun _ => truths_revT m0 m1 m2 runs sheep looks))
    (fun hl i hi => ?_) hcount htk' hlate hfine
  · rw [mem_T] at ht ⊢
    exact ⟨ht.1, fun x hx => ht.2 x (List.mem_append_left _ hx)⟩
  · rw [mem_T] at ht ⊢
    exact ⟨ht.1, hyf _ ht.2⟩
  · rw [mem_T] at ht ⊢
    have b0 := zM_in (w.tmod 3) 0 (decide (v.tmod 2 = 0)) m0 a0.2.1
    have b1 := zM_in (w.tmod 3) 1 (decide (v.tmod 2 = 0)) m1 a1.2.1
    have b2 := zM_in (w.tmod 3) 2 (decide (v.tmod 2 = 0)) m2 a2.2.1
    exact ⟨by omega, ht.2⟩
  · rw [truths_revT] at ht; exact ht
  · have hv1 : validB (stM m0 m1 m2 runs sheep []) = true := valid_bareS m0 m1 m2 runs sheep looks hv hsl hshk
    have hv2 : validB (stM m0 m1 m2 runs (sheep ++ [w.tmod 3]) []) = true := valid_bareS m0 m1 m2 runs sheep looks hv (by simp; omega) (fun k hk => by
      rcases List.mem_append.1 hk with h | h
      · exact hshk k h
      · simp at h; rw [h]; exact hkt)
    have d1 := ok_done m0 m1 m2 runs sheep [] i
    have d2 := ok_done m0 m1 m2 runs (sheep ++ [w.tmod 3]) [] i
    have i1 : inB (i : Int) 0 ((sheep.length : Int) - 1) = true := by unfold inB; simp; omega
    have i2 : inB (i : Int) 0 (((sheep ++ [w.tmod 3]).length : Int) - 1) = true := by unfold inB; simp; omega
    rw [i1] at d1
    rw [i2] at d2
    have hne : allSh (stM m0 m1 m2 runs sheep []) ≠ [] :=
      List.ne_nil_of_mem ((mem_all m0 m1 m2 runs sheep [] (m0.1, m1.1, m2.1)).2 ⟨by simp only; omega, by simp only; omega, by simp only; omega⟩)
    have e1 : doneL (stM m0 m1 m2 runs sheep []) i = (allSh (stM m0 m1 m2 runs sheep [])).map fun t => ((dayFrom runs t sheep 0 0).getD i (0, 0)).1 := by
      unfold doneL
      rw [truths_bareS m0 m1 m2 runs sheep sheep]; rfl
    have e2 : doneL (stM m0 m1 m2 runs (sheep ++ [w.tmod 3]) []) i = (allSh (stM m0 m1 m2 runs sheep [])).map fun t => ((dayFrom runs t sheep 0 0).getD i (0, 0)).1 := by
      unfold doneL
      rw [truths_bareS m0 m1 m2 runs sheep (sheep ++ [w.tmod 3])]
      refine List.map_congr_left fun t _ => ?_
      show ((dayFrom runs t (sheep ++ [w.tmod 3]) 0 0).getD (i : Int).toNat (0, 0)).1 = _
      rw [Int.toNat_natCast, dayFrom_prefix runs t _ sheep 0 0 i hi]
    rw [e1, ans_some hv1 rfl (by simpa using hne)] at d1
    rw [e2, ans_some hv2 rfl (by simpa using hne)] at d2
    exact ⟨_, d1, d2⟩
end
end Go.Proofs.Ytojbkpnkcpcioaa
