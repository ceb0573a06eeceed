/- StandTrue returns true. -/
import Derived.Test.YtojbkpnkcpcioaaSwC
set_option linter.all false
namespace Go.Proofs.Ytojbkpnkcpcioaa
open Go Go.RowKit Go.Sh Go.Sh.Stand Go.Pv
set_option maxHeartbeats 2000000
theorem free_late {z : List (Int × Int)} {runs : List (Int × Int)} {L : Nat → Int} {st : Int} (h0 : 0 ≤ st) : ∀ r, (∀ i, i < r → lastIn z (runs.getD i (0, 0)).1 (runs.getD i (0, 0)).2 = L i) → (st < freeF z runs r ↔ ∃ i, i < r ∧ st < L i)
  | 0, _ => by simp [freeF]; omega
  | r + 1, h => by
    have ih := free_late (L := L) h0 r fun i hi => h i (by omega)
    have hr := h r (by omega)
    rw [freeF, hr]
    constructor
    · intro hlt
      by_cases hc : st < L r
      · exact ⟨r, by omega, hc⟩
      · obtain ⟨i, hi, h2⟩ := ih.1 (by omega)
        exact ⟨i, by omega, h2⟩
    · rintro ⟨i, hi, h2⟩
      by_cases hir : i = r
      · subst hir; omega
      · have := ih.2 ⟨i, by omega, h2⟩
        omega
section
variable (m0 m1 m2 : Int × Int) (runs : List (Int × Int)) (sheep : List Int) (looks : List (Int × Int × Int))
theorem ok_trueL {by_ : List Int} {at_ : Int} (hat : 0 ≤ at_ ∧ at_ ≤ 65535) (hby : ∀ x ∈ by_, 0 ≤ x ∧ x ≤ 65535) (hbl : by_.length ≤ 9223372036854775807) :
    FunOK Try.prog 5 [stR m0 m1 m2 runs sheep looks, .one (.sl (by_.map rowU)), .one (.v (.int .u16 at_))] (.one (.one (.v (.bool true)))) := by
  have hfine := ok_fine m0 m1 m2 runs sheep looks
  cases hf : fineB m0 m1 m2 runs sheep looks
  · rw [hf] at hfine
    exact ok_true_not m0 m1 m2 runs sheep looks hfine
  rw [hf] at hfine
  unfold fineB at hf
  simp only [Bool.and_eq_true, Bool.not_eq_true'] at hf
  have hv := hf.2
  have hs := fit_of_valid (s := stM m0 m1 m2 runs sheep looks) rfl hv
  have hv' := hv
  unfold validB at hv'
  simp only [Bool.and_eq_true] at hv'
  have hsort : Sorted runs := runsB_sorted runs 0 hv'.2.2.1
  have hrb : ∀ p ∈ runs, 0 ≤ p.1 ∧ p.1 < p.2 ∧ p.2 ≤ 600 := hs.runb
  have hsl : sheep.length ≤ 16 := hs.sheep
  have hmin : ∀ m ∈ [m0, m1, m2], 1 ≤ m.1 ∧ m.1 ≤ m.2 ∧ m.2 ≤ 40 := fun m hm => by have := hs.minb m hm; omega
  have b0 := hmin m0 (by simp)
  have b1 := hmin m1 (by simp)
  have b2 := hmin m2 (by simp)
  obtain ⟨a, ea⟩ : ∃ a, drawV by_ 1 m0.1 m0.2 = a := ⟨_, rfl⟩
  obtain ⟨b, eb⟩ : ∃ b, drawV by_ 2 m1.1 m1.2 = b := ⟨_, rfl⟩
  obtain ⟨c, ec⟩ : ∃ c, drawV by_ 3 m2.1 m2.2 = c := ⟨_, rfl⟩
  have ra := drawV_rng hby (n := 1) (by omega) b0.2.1
  have rb := drawV_rng hby (n := 2) (by omega) b1.2.1
  have rc := drawV_rng hby (n := 3) (by omega) b2.2.1
  rw [ea] at ra
  rw [eb] at rb
  rw [ec] at rc
  have htok : Tok (a, b, c) := ⟨by show 1 ≤ a ∧ a ≤ 40; omega, by show 1 ≤ b ∧ b ≤ 40; omega, by show 1 ≤ c ∧ c ≤ 40; omega⟩
  have hday : FunOK Try.prog 29 _ _ := ok_day m0 m1 m2 runs sheep looks a b c hrb hs.runs.2 hsl hs.kinds htok
  have hlk : ∀ x ∈ looks, (0 ≤ x.1 ∧ x.1 ≤ 600) ∧ 0 ≤ x.2.1 ∧ x.2.1 ≤ x.2.2 ∧ x.2.2 ≤ 16 := by
    intro x hx
    have h := List.all_eq_true.1 hv'.2.2.2.2 x hx
    unfold lookB inR at h
    simp only [Bool.and_eq_true, decide_eq_true_eq] at h
    omega
  have hdl := doneFrom_length runs sheep (a, b, c)
  have htr := ok_truly m0 m1 m2 runs sheep looks by_ hby hbl hmin hs.looks (fun x hx => (hlk x hx).2) ea eb ec (by rw [hdl]; exact hsl) hday
  obtain ⟨ds, hds⟩ : ∃ ds, doneFrom runs (a, b, c) sheep 0 0 = ds := ⟨_, rfl⟩
  obtain ⟨bs, hbs⟩ : ∃ bs, begFrom runs (a, b, c) sheep 0 0 = bs := ⟨_, rfl⟩
  have hbl2 : bs.length = ds.length := by rw [← hbs, begFrom_length, ← hds, hdl]
  rw [hds] at hday htr hdl
  rw [hbs] at hday
  obtain ⟨lk, hlkE⟩ : ∃ lk, looks.map (lookT ds) = lk := ⟨_, rfl⟩
  rw [hlkE] at htr
  obtain ⟨x, hx⟩ : ∃ x, stM m0 m1 m2 runs sheep lk = x := ⟨_, rfl⟩
  have hdx : day x (a, b, c) = dayFrom runs (a, b, c) sheep 0 0 := by rw [← hx]; rfl
  have hdsx : ds = (day x (a, b, c)).map (·.1) := by rw [hdx, ← hds]; rfl
  have hmany : ∀ m, countAt (day x (a, b, c)) m = manyB ds m := fun m => by rw [hdsx, many_count]
  have hmle : ∀ m, 0 ≤ manyB ds m ∧ manyB ds m ≤ 16 := fun m => by have := manyB_le ds m; omega
  have hL : ∀ y ∈ lk, (0 ≤ y.1 ∧ y.1 ≤ 600) ∧ 0 ≤ y.2.1 ∧ y.2.1 ≤ manyB ds y.1 ∧ manyB ds y.1 ≤ y.2.2 ∧ y.2.2 ≤ 16 := by
    intro y hy
    rw [← hlkE] at hy
    obtain ⟨q, hq, rfl⟩ := List.mem_map.1 hy
    have h1 := hlk q hq
    have h2 := hmle q.1
    have h3 : 0 ≤ (min 4 (q.2.2 - q.2.1)).tdiv 2 ∧ (min 4 (q.2.2 - q.2.1)).tdiv 2 ≤ min 4 (q.2.2 - q.2.1) := by
      rw [Int.tdiv_eq_ediv_of_nonneg (by omega)]; omega
    unfold lookT
    simp only
    omega
  have hvx : validB x = true := by
    rw [← hx]
    unfold validB lensB stM at hv ⊢
    simp only [Bool.and_eq_true] at hv ⊢
    refine ⟨hv.1, ⟨hv.2.1.1, ?_⟩, hv.2.2.1, hv.2.2.2.1, ?_⟩
    · rw [← hlkE, List.length_map]; exact hv.2.1.2
    · rw [List.all_eq_true]
      intro y hy
      have := hL y hy
      unfold lookB inR
      simp only [Bool.and_eq_true, decide_eq_true_eq]
      omega
  have hsx := fit_of_valid (s := x) (by rw [← hx]; rfl) hvx
  have hmem : (a, b, c) ∈ allSh x := by rw [← hx]; exact (mem_all m0 m1 m2 runs sheep lk (a, b, c)).2 ⟨ra, rb, rc⟩
  have hT : (a, b, c) ∈ truthsL x (everyB x) := by
    unfold truthsL
    refine List.mem_filter.2 ⟨hmem, ?_⟩
    unfold rightB
    rw [List.all_eq_true]
    intro i hi
    have hi' : i < lk.length := by rw [← hx] at hi; exact List.mem_range.1 hi
    have hy := hL (lk.getD i (0, 0, 0)) (by
      have : lk.getD i (0, 0, 0) = lk[i] := by simp [List.getD, hi']
      rw [this]; exact List.getElem_mem _)
    unfold lookOk
    have e : x.looks = lk := by rw [← hx]; rfl
    rw [e, hmany]
    simp only [Bool.or_eq_true, Bool.and_eq_true, decide_eq_true_eq]
    exact .inr ⟨hy.2.2.1, hy.2.2.2.1⟩
  obtain ⟨T, hTe⟩ : ∃ T, truthsL x (everyB x) = T := ⟨_, rfl⟩
  rw [hTe] at hT
  have hTn : T ≠ [] := List.ne_nil_of_mem hT
  have hH := fun (f : Shearer → Int) => (hull_map hTn f).2.2 _ hT
  have hin : ∀ k : Nat, ∀ n : Nat, k < n → inB (k : Int) 0 ((n : Int) - 1) = true := by
    intro k n h; unfold inB; simp; omega
  have hmm : 0 ≤ at_.tmod 1000 ∧ at_.tmod 1000 ≤ 999 := by rw [Int.tmod_eq_emod_of_nonneg hat.1]; omega
  have hA : ∀ (f : Shearer → Int) (ok : Bool), ok = true → ansE x ok (T.map f) = (hull (T.map f), 0) := fun f ok h => ans_some hvx h (by simpa using hTn)
  have hz : ∀ y ∈ bs.zip ds, 0 ≤ y.2 ∧ y.2 ≤ 1000 := by
    intro y hy
    have h1 := (List.of_mem_zip hy).2
    rw [hdsx] at h1
    obtain ⟨q, hq, e⟩ := List.mem_map.1 h1
    have := day_range hsx hmem q hq
    rw [e] at this
    exact this
  have hrget : ∀ r, r < runs.length → runs[r]? = some (runs.getD r (0, 0)) := fun r h => by simp [List.getD, h]
  have hcb : ∀ r, r < runs.length → cntIn (bs.zip ds) (runs.getD r (0, 0)).1 (runs.getD r (0, 0)).2 = begunIn (day x (a, b, c)) r ∧ lastIn (bs.zip ds) (runs.getD r (0, 0)).1 (runs.getD r (0, 0)).2 = lastOf (day x (a, b, c)) r := by
    intro r hr
    rw [← hbs, ← hds, hdx]
    exact cntIn_begun hsort (fun p hp => (hrb p hp).2) (a, b, c) (hrget r hr) sheep
  have hxr : x.runs = runs := by rw [← hx]; rfl
  have hcl := ok_clash m0 m1 m2 runs sheep lk
  rw [hx, show ansC x = (0, 4) from by unfold ansC; rw [if_neg (by simp [hvx]), if_pos (by rw [hTe]; exact hTn)]] at hcl
  have hover : ∀ r : Nat, overOf (day x (a, b, c)) r (runs.getD r (0, 0)).2 = max 0 (lastOf (day x (a, b, c)) r - (runs.getD r (0, 0)).2) ∨ ¬ r < runs.length := by
    intro r
    by_cases hr : r < runs.length
    · left
      unfold overOf
      split
      · rename_i h
        rw [lastOf_none h]
        have := hrb _ (List.mem_of_getElem? (hrget r hr))
        omega
      · exact gmax_max' _ _
    · exact .inr hr
  refine ok_true_some m0 m1 m2 runs sheep looks (minute := at_.tmod 1000)
    (dlo := fun k => (hull (T.map fun t => ((day x t).getD k (0, 0)).1)).1) (dhi := fun k => (hull (T.map fun t => ((day x t).getD k (0, 0)).1)).2)
    (tlo := fun k => (hull (T.map fun t => tk t k)).1) (thi := fun k => (hull (T.map fun t => tk t k)).2)
    (blo := fun r => (hull (T.map fun t => begunIn (day x t) r)).1) (bhi := fun r => (hull (T.map fun t => begunIn (day x t) r)).2)
    (olo := fun r => (hull (T.map fun t => overOf (day x t) r (runs.getD r (0, 0)).2)).1) (ohi := fun r => (hull (T.map fun t => overOf (day x t) r (runs.getD r (0, 0)).2)).2)
    (kk := fun r => lateN (hull (T.map fun t => if lateOf x (day x t) r = true then 1 else 0)))
    (clo := (hull (T.map fun t => countAt (day x t) (at_.tmod 1000))).1) (chi := (hull (T.map fun t => countAt (day x t) (at_.tmod 1000))).2)
    hat rfl hsl hbl2 hdl hs.runs.2 hrb hz hfine htr hday hcl (fun k hk => ?_) (fun k hk => ?_) ?_ ?_ (fun r hr => ?_) (fun r hr => ?_) (fun r hr h0 => ?_)
  · have h := ok_done m0 m1 m2 runs sheep lk k
    rw [hx, doneL, hTe, hA _ _ (hin k _ (by rw [← hdl]; exact hk))] at h
    refine ⟨h, ?_⟩
    have e : ds.getD k 0 = ((day x (a, b, c)).getD k (0, 0)).1 := by
      rw [hdsx] at hk ⊢
      have hk' : k < (day x (a, b, c)).length := by simpa using hk
      simp [List.getD, hk']
    rw [e]
    exact hH fun t => ((day x t).getD k (0, 0)).1
  · have h := ok_takes m0 m1 m2 runs sheep lk k
    rw [hx, takesL, hTe, hA _ _ (by unfold inB; simp; omega)] at h
    refine ⟨h, ?_⟩
    have e : [a, b, c].getD k 0 = tk (a, b, c) k := by
      rcases (show k = 0 ∨ k = 1 ∨ k = 2 by omega) with rfl | rfl | rfl <;> rfl
    rw [e]
    exact hH fun t => tk t k
  · have h := ok_count m0 m1 m2 runs sheep lk (at_.tmod 1000)
    rw [hx, countL, hTe, hA _ _ (by unfold inB; simp; omega)] at h
    exact h
  · rw [← hmany]
    exact hH fun t => countAt (day x t) (at_.tmod 1000)
  · have h := ok_begun m0 m1 m2 runs sheep lk r
    rw [hx, begunL, hTe, hA _ _ (hin r _ hr)] at h
    refine ⟨h, ?_⟩
    rw [(hcb r hr).1]
    exact hH fun t => begunIn (day x t) r
  · have h := ok_over m0 m1 m2 runs sheep lk r
    rw [hx, overL, hTe, hA _ _ (hin r _ hr), hxr] at h
    refine ⟨h, ?_⟩
    rw [(hcb r hr).2]
    have h1 := hH fun t => overOf (day x t) r (runs.getD r (0, 0)).2
    rcases hover r with h2 | h2
    · rw [← h2]; exact h1
    · exact absurd hr h2
  · have h := ok_late m0 m1 m2 runs sheep lk r
    have hok : (inB (r : Int) 0 ((runs.length : Int) - 1) && decide (0 < (r : Int))) = true := by
      rw [hin r _ hr]; simp; omega
    have hAN : ansN x (inB (r : Int) 0 ((runs.length : Int) - 1) && decide (0 < (r : Int))) (T.map fun t => if lateOf x (day x t) r = true then 1 else 0) = (lateN (hull (T.map fun t => if lateOf x (day x t) r = true then 1 else 0)), 0) := by
      unfold ansN
      rw [hA _ _ hok]; rfl
    rw [hx, lateL, hTe] at h
    simp only [Int.toNat_natCast] at h
    rw [hAN] at h
    refine ⟨h, ?_⟩
    have hst : 0 ≤ (runs.getD r (0, 0)).1 := (hrb _ (List.mem_of_getElem? (hrget r hr))).1
    have hfl := free_late (z := bs.zip ds) (runs := runs) (L := fun i => lastOf (day x (a, b, c)) i) hst r fun i hi => (hcb i (by omega)).2
    have hle := lateOf_eq x hsx (by rw [hxr]; exact hsort) hmem r (by rw [hxr]; exact hr)
    have hkey : (runs.getD r (0, 0)).1 < freeF (bs.zip ds) runs r ↔ lateOf x (day x (a, b, c)) r = true := by
      rw [hfl, hle, List.any_eq_true, hxr]
      constructor
      · rintro ⟨i, hi, h⟩; exact ⟨i, List.mem_range.2 hi, decide_eq_true h⟩
      · rintro ⟨i, hi, h⟩; exact ⟨i, List.mem_range.1 hi, of_decide_eq_true h⟩
    rw [hkey, late_hull T hTn]
    constructor
    · intro h2
      split at h2
      · rename_i he
        have := List.filter_eq_self.1 (List.length_filter_eq_length_iff.1 he |> fun h => List.filter_eq_self.2 h) _ hT
        exact this
      · split at h2 <;> omega
    · intro h2 hl
      split at h2
      · omega
      · split at h2
        · rename_i he
          exact List.filter_eq_nil_iff.1 (List.length_eq_zero_iff.1 he) _ hT hl
        · omega
end
end Go.Proofs.Ytojbkpnkcpcioaa
