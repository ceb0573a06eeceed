/- classer: the document's Wrong and All. -/
import Derived.Test.YtgdhdikeicgndaaWcO
set_option linter.all false
namespace Go.Proofs.Ytgdhdikeicgndaa
open Go Go.RowKit Go.Sh Go.Pv Go.Cl
set_option maxHeartbeats 4000000
set_option maxRecDepth 20000
set_option pp.maxSteps 60000
theorem why_zero {bales : List (Int × Int × Int)} {may drift mist : Int} {v : Bool} (h : whyL bales may drift mist v = 0) : lineB bales may drift mist = true ∧ v = true ∧ canB bales drift mist = true := by
  unfold whyL at h
  split at h
  · rename_i h1
    split at h
    · rename_i h2
      split at h
      · rename_i h3; exact ⟨h1, h2, h3⟩
      · exact absurd h (by decide)
    · exact absurd h (by decide)
  · exact absurd h (by decide)
theorem toldL_stL {bs : List (Nat × Nat × Nat)} {May D M : Nat} {asked : Int} {v : Bool} (h : whyL (bs.map castB) May D M v = 0) : toldL (bs.map castB) May D M asked v = stL bs D May M (2 ^ bs.length - 1) asked bs.length := by
  unfold toldL
  rw [h, if_pos rfl, nB_cast, List.length_map]; rfl
theorem toldL_no {bales : List (Int × Int × Int)} {may drift mist asked : Int} {v : Bool} (h : ¬ whyL bales may drift mist v = 0) : toldL bales may drift mist asked v = [] := by
  unfold toldL
  rw [if_neg h]
/-- The first numbers of a list, as rows. -/
def tkR (l : List Nat) (i : Nat) : List (List PV) := (l.take i).map rowN
theorem tkR_succ {l : List Nat} {i : Nat} (h : i < l.length) : tkR l i ++ [[iP ((l.getD i 0 : Nat) : Int)]] = tkR l (i + 1) := by
  unfold tkR
  rw [List.take_add_one, List.getElem?_eq_getElem h, List.map_append, List.getD_eq_getElem?_getD, List.getElem?_eq_getElem h]
  rfl
theorem tkR_len {l : List Nat} {i : Nat} (h : i ≤ l.length) : (tkR l i).length = i := by
  unfold tkR
  rw [List.length_map, List.length_take]; omega
theorem tkR_all (l : List Nat) : tkR l l.length = l.map rowN := by
  unfold tkR
  rw [List.take_length]
theorem rowsK_one1 (a : PV) : rowsK 1 [[a]] = True := eq_true fun i r h => by
  rcases i with _ | i
  · simp at h; subst h; rfl
  · simp at h
attribute [local go_sem] rowsK_one1
section
variable {bales : List (Int × Int × Int)} {may drift mist : Int}
theorem ok_WrongD (hl : bales.length ≤ 40) (i : Int) : FunOK Try.prog 15 [lineR bales may drift mist, .one (iP i)] (ansR (whyL bales may drift mist (inB i 0 ((bales.length : Int) - 1))) (((wrongS drift.toNat mist.toNat (nB bales) i.toNat).1 : Nat), ((wrongS drift.toNat mist.toNat (nB bales) i.toNat).2 : Nat))) := by
  have hb := ok_BaleD (may := may) (drift := drift) (mist := mist) i hl
  have ht := ok_toldD (bales := bales) (may := may) (drift := drift) (mist := mist) i (inB i 0 ((bales.length : Int) - 1))
  by_cases hw : whyL bales may drift mist (inB i 0 ((bales.length : Int) - 1)) = 0
  rotate_left
  · rw [toldL_no hw] at ht
    simp only [ansR, if_neg hw]
    generalize whyL bales may drift mist (inB i 0 ((bales.length : Int) - 1)) = e at *
    generalize inB i 0 ((bales.length : Int) - 1) = v at *
    simp only [lineR] at ht hb ⊢
    refine fun_ok (nt := 39) (rs := [.cell 4 28, .tmp 5]) Try.func15 rfl rfl rfl (by simp) fun Z w0 => ?_; simp only [initFr, avR, List.map_cons, List.map_nil]
    refine tw ?_; try with_reducible intro QQ hQQ
    (refine cD 49 rfl rfl rfl (hb) Try.func49 rfl ?_); refine td ?_; try clear hQQ QQ
    ((refine cG 48 rfl rfl rfl (ht) Try.func48 rfl ?_); refine tv ?_; try clear hQQ QQ); refine tw ?_; try with_reducible intro QQ hQQ
    refine ti ?_; try clear hQQ QQ
    refine tw ?_; try with_reducible intro QQ hQQ
    refine aw_ret ?_; refine ⟨.inr rfl, ?_⟩; simp only [resA, res1, go_sem, ↓reduceIte]
  obtain ⟨hv, hvb, hc⟩ := why_zero hw
  obtain ⟨bs, May, D, M, rfl, rfl, rfl, rfl, hL, hMay, hD, hM⟩ := line_of hv
  have hM' : M < FAR := by unfold FAR; omega
  rw [canB_cast] at hc
  have he := (mist_iff hL hM').1 (of_decide_eq_true hc)
  rw [toldL_stL hw, hw] at ht
  rw [hw]
  rw [hvb] at hb ht
  have hi : 0 ≤ i ∧ i ≤ (bs.length : Int) - 1 := by
    rw [List.length_map] at hvb
    simpa [inB] using hvb
  obtain ⟨j, rfl⟩ : ∃ j : Nat, i = j := ⟨i.toNat, by omega⟩
  have hj : j < bs.length := by omega
  have hr := ref_wrong (May := May) hL hM' he hj
  have hsl := st_len6 (D := D) (May := May) (most := M) (tk := 2 ^ bs.length - 1) (asked := (j : Int)) hL hL.n6
  have hne := st_ne (May := May) (asked := (j : Int)) hL hM' he
  simp only [ansR, if_true, nB_cast, Int.toNat_natCast, lineR_cast, rows_cast] at ht hb ⊢
  rw [← hr]
  clear hr hw hv hvb hc he hL
  generalize stL bs D May M (2 ^ bs.length - 1) (j : Int) bs.length = L at *
  have hlp : 0 < L.length := List.length_pos_iff.2 hne
  have hll : (L.map stP).length = L.length := List.length_map _
  have hal : (L.map fun s => s.2.2.2.2).length = L.length := List.length_map _
  have hga : ∀ k, k < L.length → (L.map stP)[k]? = some [iP ((L.getD k (0, 0, 0, true, 0)).1 : Int), iP ((L.getD k (0, 0, 0, true, 0)).2.1 : Int), iP ((L.getD k (0, 0, 0, true, 0)).2.2.1 : Int), .v (.bool (L.getD k (0, 0, 0, true, 0)).2.2.2.1), iP ((((L.map fun s => s.2.2.2.2).getD k 0 : Nat)) : Int)] := fun k hk => by
    simp [List.getD_eq_getElem?_getD, hk]
  have hh := ok_hull (L.map fun s => s.2.2.2.2) (by rw [hal]; exact hlp) (by rw [hal]; omega)
  rw [hal] at hh
  generalize (L.map fun s => s.2.2.2.2) = A at *
  rw [← tkR_all, hal] at hh
  generalize hullR A L.length = H at *
  clear hne
  refine fun_ok (nt := 39) (rs := [.cell 4 28, .tmp 5]) Try.func15 rfl rfl rfl (by simp) fun Z w0 => ?_; simp only [initFr, avR, List.map_cons, List.map_nil]
  refine tw ?_; try with_reducible intro QQ hQQ
  (refine cD 49 rfl rfl rfl (hb) Try.func49 rfl ?_); refine td ?_; try clear hQQ QQ
  ((refine cG 48 rfl rfl rfl (ht) Try.func48 rfl ?_); refine tv ?_; try clear hQQ QQ); refine tw ?_; try with_reducible intro QQ hQQ
  refine ti ?_; try clear hQQ QQ
  refine tw ?_; try with_reducible intro QQ hQQ
  refine aw_weak (weak_own 8 3 1 rfl) ?_
  have htz : tkR A 0 = [] := rfl
  try clear hF
  have hF := htz
  refine aw_weak (weak_keep [4, 6, 8, 9] (by simp only [hF, go_sem, ↓reduceIte]; rfl)) ?_
  refine aw_loop_ov (ι := { k : Nat // k ≤ L.length }) (fun k => [(8, .one (.own 2 k.1)), (9, iA k.1)]) (fun k => [(2, .arr 3 1 (tkR A k.1) true)]) (fun k => L.length - k.1) ⟨0, by omega⟩ (by first | rfl | (simp only [hF, go_sem, ↓reduceIte]; first | done | rfl | (simp; try rfl))) ?_
  rintro ⟨k, hk⟩
  simp (disch := decide) only [ov, ovL, AL.get_nil, AL.get_eq, AL.get_ne, Option.getD_some, Option.getD_none]
  by_cases hkl : k < L.length
  · have hg := hga k hkl
    have hss := tkR_succ (l := A) (i := k) (by omega)
    have hlk := tkR_len (l := A) (i := k) (by omega)
    have hlb : (k + 1) * 8 ≤ 140737488355328 := by omega
    try clear hF
    have hF := And.intro hll (And.intro hg (And.intro hlk (hlb)))
    refine twF ?_; try with_reducible intro QQ hQQ
    refine tiF ?_; try clear hQQ QQ
    refine twF ?_; try with_reducible intro QQ hQQ
    refine ⟨⟨k + 1, by omega⟩, ?_, weak_round ?_ (by first | rfl | (simp only [hF, go_sem, ↓reduceIte]))⟩
    rotate_left
    · simp only [← hss]
      (simp only [hF, go_sem, ↓reduceIte]; try rfl)
    · simp only; omega
  · have hke : k = L.length := by omega
    subst hke
    have htk : (tkR A L.length).take L.length = tkR A L.length := List.take_of_length_le (by rw [tkR_len (by omega)]; exact Nat.le_refl _)
    have hlk := tkR_len (l := A) (i := L.length) (by omega)
    try clear hF
    have hF := And.intro hll (And.intro htk (hlk))
    refine twF ?_; try with_reducible intro QQ hQQ
    refine tiF ?_; try clear hQQ QQ
    refine twF ?_; try with_reducible intro QQ hQQ
    ((refine cOF 50 rfl rfl rfl (hh) Try.func50 rfl ?_); refine tuF ?_; try clear hQQ QQ); refine twF ?_; try with_reducible intro QQ hQQ
    refine aw_ret ?_; refine ⟨.inr rfl, ?_⟩; simp only [resA, res1, go_sem, ↓reduceIte]
theorem ok_AllD : FunOK Try.prog 17 [lineR bales may drift mist] (ansR (whyL bales may drift mist true) (allS drift.toNat mist.toNat (nB bales))) := by
  have ht := ok_toldD (bales := bales) (may := may) (drift := drift) (mist := mist) (-1) true
  by_cases hw : whyL bales may drift mist true = 0
  rotate_left
  · rw [toldL_no hw] at ht
    simp only [ansR, if_neg hw]
    generalize whyL bales may drift mist true = e at *
    simp only [lineR] at ht ⊢
    refine fun_ok (nt := 33) (rs := [.cell 2 28, .tmp 3]) Try.func17 rfl rfl rfl (by simp) fun Z w0 => ?_; simp only [initFr, avR, List.map_cons, List.map_nil]
    refine tw ?_; try with_reducible intro QQ hQQ
    ((refine cB 48 rfl rfl rfl (ht) Try.func48 rfl ?_); refine tu ?_; try clear hQQ QQ); refine tw ?_; try with_reducible intro QQ hQQ
    refine ti ?_; try clear hQQ QQ
    refine tw ?_; try with_reducible intro QQ hQQ
    refine aw_ret ?_; refine ⟨.inr rfl, ?_⟩; simp only [resA, res1, go_sem, ↓reduceIte]
  obtain ⟨hv, -, hc⟩ := why_zero hw
  obtain ⟨bs, May, D, M, rfl, rfl, rfl, rfl, hL, hMay, hD, hM⟩ := line_of hv
  have hM' : M < FAR := by unfold FAR; omega
  rw [canB_cast] at hc
  have he := (mist_iff hL hM').1 (of_decide_eq_true hc)
  rw [toldL_stL hw, hw] at ht
  rw [hw]
  have hr := ref_all (May := May) hL hM' he (asked := -1)
  have hsl := st_len6 (D := D) (May := May) (most := M) (tk := 2 ^ bs.length - 1) (asked := -1) hL hL.n6
  have hne := st_ne (May := May) (asked := -1) hL hM' he
  simp only [ansR, if_true, nB_cast, Int.toNat_natCast, lineR_cast, rows_cast] at ht ⊢
  rw [← hr]
  clear hr hw hv hc he hL
  generalize stL bs D May M (2 ^ bs.length - 1) (-1) bs.length = L at *
  have hlp : 0 < L.length := List.length_pos_iff.2 hne
  have hll : (L.map stP).length = L.length := List.length_map _
  have hal : (L.map fun s => s.2.1).length = L.length := List.length_map _
  have hga : ∀ k, k < L.length → (L.map stP)[k]? = some [iP ((L.getD k (0, 0, 0, true, 0)).1 : Int), iP ((((L.map fun s => s.2.1).getD k 0 : Nat)) : Int), iP ((L.getD k (0, 0, 0, true, 0)).2.2.1 : Int), .v (.bool (L.getD k (0, 0, 0, true, 0)).2.2.2.1), iP ((L.getD k (0, 0, 0, true, 0)).2.2.2.2 : Int)] := fun k hk => by
    simp [List.getD_eq_getElem?_getD, hk]
  have hh := ok_hull (L.map fun s => s.2.1) (by rw [hal]; exact hlp) (by rw [hal]; omega)
  rw [hal] at hh
  generalize (L.map fun s => s.2.1) = A at *
  rw [← tkR_all, hal] at hh
  generalize hullR A L.length = H at *
  clear hne
  refine fun_ok (nt := 33) (rs := [.cell 2 28, .tmp 3]) Try.func17 rfl rfl rfl (by simp) fun Z w0 => ?_; simp only [initFr, avR, List.map_cons, List.map_nil]
  refine tw ?_; try with_reducible intro QQ hQQ
  ((refine cB 48 rfl rfl rfl (ht) Try.func48 rfl ?_); refine tu ?_; try clear hQQ QQ); refine tw ?_; try with_reducible intro QQ hQQ
  refine ti ?_; try clear hQQ QQ
  refine tw ?_; try with_reducible intro QQ hQQ
  refine aw_weak (weak_own 6 3 1 rfl) ?_
  have htz : tkR A 0 = [] := rfl
  try clear hF
  have hF := htz
  refine aw_weak (weak_keep [2, 4, 6, 7] (by simp only [hF, go_sem, ↓reduceIte]; rfl)) ?_
  refine aw_loop_ov (ι := { k : Nat // k ≤ L.length }) (fun k => [(6, .one (.own 2 k.1)), (7, iA k.1)]) (fun k => [(2, .arr 3 1 (tkR A k.1) true)]) (fun k => L.length - k.1) ⟨0, by omega⟩ (by first | rfl | (simp only [hF, go_sem, ↓reduceIte]; first | done | rfl | (simp; try rfl))) ?_
  rintro ⟨k, hk⟩
  simp (disch := decide) only [ov, ovL, AL.get_nil, AL.get_eq, AL.get_ne, Option.getD_some, Option.getD_none]
  by_cases hkl : k < L.length
  · have hg := hga k hkl
    have hss := tkR_succ (l := A) (i := k) (by omega)
    have hlk := tkR_len (l := A) (i := k) (by omega)
    have hlb : (k + 1) * 8 ≤ 140737488355328 := by omega
    try clear hF
    have hF := And.intro hll (And.intro hg (And.intro hlk (hlb)))
    refine twF ?_; try with_reducible intro QQ hQQ
    refine tiF ?_; try clear hQQ QQ
    refine twF ?_; try with_reducible intro QQ hQQ
    refine ⟨⟨k + 1, by omega⟩, ?_, weak_round ?_ (by first | rfl | (simp only [hF, go_sem, ↓reduceIte]))⟩
    rotate_left
    · simp only [← hss]
      (simp only [hF, go_sem, ↓reduceIte]; try rfl)
    · simp only; omega
  · have hke : k = L.length := by omega
    subst hke
    have htk : (tkR A L.length).take L.length = tkR A L.length := List.take_of_length_le (by rw [tkR_len (by omega)]; exact Nat.le_refl _)
    have hlk := tkR_len (l := A) (i := L.length) (by omega)
    try clear hF
    have hF := And.intro hll (And.intro htk (hlk))
    refine twF ?_; try with_reducible intro QQ hQQ
    refine tiF ?_; try clear hQQ QQ
    refine twF ?_; try with_reducible intro QQ hQQ
    ((refine cOF 50 rfl rfl rfl (hh) Try.func50 rfl ?_); refine tuF ?_; try clear hQQ QQ); refine twF ?_; try with_reducible intro QQ hQQ
    refine aw_ret ?_; refine ⟨.inr rfl, ?_⟩; simp only [resA, res1, go_sem, ↓reduceIte]
end
end Go.Proofs.Ytgdhdikeicgndaa
