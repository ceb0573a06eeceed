/- classer: the document's Keeps, LineOf and Proof. -/
import Derived.Test.YtgdhdikeicgndaaWcP
set_option linter.all false
namespace Go.Proofs.Ytgdhdikeicgndaa
open Go Go.RowKit Go.Sh Go.Pv Go.Cl
set_option maxHeartbeats 4000000
set_option maxRecDepth 20000
set_option pp.maxSteps 60000
theorem kept_take {L : List St5} {k : Nat} (h : k < L.length) : keptN (L.take (k + 1)) = keptN (L.take k) + (if (L.getD k (0, 0, 0, true, 0)).2.2.2.1 = true then 1 else 0) := by
  unfold keptN
  rw [List.take_add_one, List.getElem?_eq_getElem h, List.countP_append, List.getD_eq_getElem?_getD, List.getElem?_eq_getElem h]
  simp [List.countP_cons]
section
variable {bales : List (Int × Int × Int)} {may drift mist : Int}
theorem ok_KeepsD (hl : bales.length ≤ 40) (i : Int) : FunOK Try.prog 19 [lineR bales may drift mist, .one (iP i)] (ansN (whyL bales may drift mist (inB i 0 ((bales.length : Int) - 1))) ((toldS may.toNat (wrongS drift.toNat mist.toNat (nB bales) i.toNat) : Nat))) := by
  have hw := ok_WrongD (may := may) (drift := drift) (mist := mist) hl i
  by_cases h0 : whyL bales may drift mist (inB i 0 ((bales.length : Int) - 1)) = 0
  · obtain ⟨hv, -, -⟩ := why_zero h0
    obtain ⟨bs, May, D, M, rfl, rfl, rfl, rfl, hL, hMay, hD, hM⟩ := line_of hv
    rw [h0] at hw ⊢
    simp only [ansR, ansN, if_true, nB_cast, Int.toNat_natCast, lineR_cast] at hw ⊢
    clear hv h0
    unfold toldS
    generalize wrongS D M bs i.toNat = W at *
    obtain ⟨lo, hi⟩ := W
    dsimp only at *
    by_cases h1 : hi ≤ May
    · rw [if_pos h1]
      refine fun_ok (nt := 27) (rs := [.tmp 4, .tmp 5]) Try.func19 rfl rfl rfl (by simp) fun Z w0 => ?_; simp only [initFr, avR, List.map_cons, List.map_nil]
      refine tw ?_; try with_reducible intro QQ hQQ
      ((refine cO 15 rfl rfl rfl (hw) Try.func15 rfl ?_); refine tu ?_; try clear hQQ QQ); refine tw ?_; try with_reducible intro QQ hQQ
      refine ti ?_; try clear hQQ QQ
      refine tw ?_; try with_reducible intro QQ hQQ
      refine ti ?_; try clear hQQ QQ
      refine tw ?_; try with_reducible intro QQ hQQ
      refine aw_ret ?_; refine ⟨.inr rfl, ?_⟩; simp only [resA, res1, go_sem, ↓reduceIte]
      try rfl
    · by_cases h2 : lo ≤ May
      · rw [if_neg h1, if_pos h2]
        refine fun_ok (nt := 27) (rs := [.tmp 4, .tmp 5]) Try.func19 rfl rfl rfl (by simp) fun Z w0 => ?_; simp only [initFr, avR, List.map_cons, List.map_nil]
        refine tw ?_; try with_reducible intro QQ hQQ
        ((refine cO 15 rfl rfl rfl (hw) Try.func15 rfl ?_); refine tu ?_; try clear hQQ QQ); refine tw ?_; try with_reducible intro QQ hQQ
        refine ti ?_; try clear hQQ QQ
        refine tw ?_; try with_reducible intro QQ hQQ
        refine ti ?_; try clear hQQ QQ
        refine tw ?_; try with_reducible intro QQ hQQ
        refine ti ?_; try clear hQQ QQ
        refine tw ?_; try with_reducible intro QQ hQQ
        refine aw_ret ?_; refine ⟨.inr rfl, ?_⟩; simp only [resA, res1, go_sem, ↓reduceIte]
        try rfl
      · rw [if_neg h1, if_neg h2]
        refine fun_ok (nt := 27) (rs := [.tmp 4, .tmp 5]) Try.func19 rfl rfl rfl (by simp) fun Z w0 => ?_; simp only [initFr, avR, List.map_cons, List.map_nil]
        refine tw ?_; try with_reducible intro QQ hQQ
        ((refine cO 15 rfl rfl rfl (hw) Try.func15 rfl ?_); refine tu ?_; try clear hQQ QQ); refine tw ?_; try with_reducible intro QQ hQQ
        refine ti ?_; try clear hQQ QQ
        refine tw ?_; try with_reducible intro QQ hQQ
        refine ti ?_; try clear hQQ QQ
        refine tw ?_; try with_reducible intro QQ hQQ
        refine ti ?_; try clear hQQ QQ
        refine tw ?_; try with_reducible intro QQ hQQ
        refine aw_ret ?_; refine ⟨.inr rfl, ?_⟩; simp only [resA, res1, go_sem, ↓reduceIte]
        try rfl
  · simp only [ansR, ansN, if_neg h0] at hw ⊢
    generalize whyL bales may drift mist (inB i 0 ((bales.length : Int) - 1)) = e at *
    simp only [lineR] at hw ⊢
    refine fun_ok (nt := 27) (rs := [.tmp 4, .tmp 5]) Try.func19 rfl rfl rfl (by simp) fun Z w0 => ?_; simp only [initFr, avR, List.map_cons, List.map_nil]
    refine tw ?_; try with_reducible intro QQ hQQ
    ((refine cO 15 rfl rfl rfl (hw) Try.func15 rfl ?_); refine tu ?_; try clear hQQ QQ); refine tw ?_; try with_reducible intro QQ hQQ
    refine ti ?_; try clear hQQ QQ
    refine tw ?_; try with_reducible intro QQ hQQ
    refine aw_ret ?_; refine ⟨.inr rfl, ?_⟩; simp only [resA, res1, go_sem, ↓reduceIte]
    try rfl
theorem ok_LineOfD : FunOK Try.prog 21 [lineR bales may drift mist] (ansN (whyL bales may drift mist true) ((lineS drift.toNat mist.toNat may.toNat (nB bales) : Nat))) := by
  have ht := ok_toldD (bales := bales) (may := may) (drift := drift) (mist := mist) (-1) true
  by_cases hw : whyL bales may drift mist true = 0
  rotate_left
  · rw [toldL_no hw] at ht
    simp only [ansN, if_neg hw]
    generalize whyL bales may drift mist true = e at *
    simp only [lineR] at ht ⊢
    refine fun_ok (nt := 35) (rs := [.tmp 2, .tmp 3]) Try.func21 rfl rfl rfl (by simp) fun Z w0 => ?_; simp only [initFr, avR, List.map_cons, List.map_nil]
    refine tw ?_; try with_reducible intro QQ hQQ
    ((refine cB 48 rfl rfl rfl (ht) Try.func48 rfl ?_); refine tu ?_; try clear hQQ QQ); refine tw ?_; try with_reducible intro QQ hQQ
    refine ti ?_; try clear hQQ QQ
    refine tw ?_; try with_reducible intro QQ hQQ
    refine aw_ret ?_; refine ⟨.inr rfl, ?_⟩; simp only [resA, res1, go_sem, ↓reduceIte]
    try rfl
  obtain ⟨hv, -, hc⟩ := why_zero hw
  obtain ⟨bs, May, D, M, rfl, rfl, rfl, rfl, hL, hMay, hD, hM⟩ := line_of hv
  have hM' : M < FAR := by unfold FAR; omega
  rw [canB_cast] at hc
  have he := (mist_iff hL hM').1 (of_decide_eq_true hc)
  rw [toldL_stL hw, hw] at ht
  rw [hw]
  have hr := ref_line (May := May) hL hM' he (asked := -1)
  have hsl := st_len6 (D := D) (May := May) (most := M) (tk := 2 ^ bs.length - 1) (asked := -1) hL hL.n6
  simp only [ansN, if_true, nB_cast, Int.toNat_natCast, lineR_cast, rows_cast] at ht ⊢
  rw [← hr]
  clear hr hw hv hc he hL
  generalize stL bs D May M (2 ^ bs.length - 1) (-1) bs.length = L at *
  have hll : (L.map stP).length = L.length := List.length_map _
  have hga : ∀ k, k < L.length → (L.map stP)[k]? = some [iP ((L.getD k (0, 0, 0, true, 0)).1 : Int), iP ((L.getD k (0, 0, 0, true, 0)).2.1 : Int), iP ((L.getD k (0, 0, 0, true, 0)).2.2.1 : Int), .v (.bool (L.getD k (0, 0, 0, true, 0)).2.2.2.1), iP ((L.getD k (0, 0, 0, true, 0)).2.2.2.2 : Int)] := fun k hk => by
    simp [List.getD_eq_getElem?_getD, hk]
  have hks := fun k (hk : k < L.length) => kept_take hk
  have hkl : ∀ k, k ≤ L.length → keptN (L.take k) ≤ k := fun k hk => by
    have := List.countP_le_length (p := fun s : St5 => s.2.2.2.1) (l := L.take k)
    rw [List.length_take] at this
    unfold keptN; omega
  have hke : keptN L = keptN (L.take L.length) := by rw [List.take_length]
  have hk0 : keptN (L.take 0) = 0 := rfl
  rw [hke]
  clear hke
  obtain ⟨KN, hKN⟩ : ∃ KN : Nat → Nat, ∀ k, keptN (L.take k) = KN k := ⟨_, fun _ => rfl⟩
  simp only [hKN] at *
  clear hKN
  refine fun_ok (nt := 35) (rs := [.tmp 2, .tmp 3]) Try.func21 rfl rfl rfl (by simp) fun Z w0 => ?_; simp only [initFr, avR, List.map_cons, List.map_nil]
  refine tw ?_; try with_reducible intro QQ hQQ
  ((refine cB 48 rfl rfl rfl (ht) Try.func48 rfl ?_); refine tu ?_; try clear hQQ QQ); refine tw ?_; try with_reducible intro QQ hQQ
  refine ti ?_; try clear hQQ QQ
  try clear hF
  have hF := hk0
  refine twF ?_; try with_reducible intro QQ hQQ
  refine aw_weak (weak_keep [4, 6, 7] (by simp only [hF, go_sem, ↓reduceIte]; rfl)) ?_
  refine aw_loop_ov (ι := { k : Nat // k ≤ L.length }) (fun k => [(6, iA (KN k.1)), (7, iA k.1)]) (fun _ => []) (fun k => L.length - k.1) ⟨0, by omega⟩ (by first | rfl | (simp only [hF, go_sem, ↓reduceIte]; first | done | rfl | (simp; try rfl))) ?_
  rintro ⟨k, hk⟩
  simp (disch := decide) only [ov, ovL, AL.get_nil, AL.get_eq, AL.get_ne, Option.getD_some, Option.getD_none]
  by_cases hkl2 : k < L.length
  · have hg := hga k hkl2
    have hs := hks k hkl2
    have hkb := hkl k hk
    clear hga hks hkl
    cases hb : (L.getD k (0, 0, 0, true, 0)).2.2.2.1
    · rw [hb] at hg hs
      simp only [Bool.false_eq_true, if_false, Nat.add_zero] at hs
      try clear hF
      have hF := And.intro hll (hg)
      refine twF ?_; try with_reducible intro QQ hQQ
      refine tiF ?_; try clear hQQ QQ
      refine twF ?_; try with_reducible intro QQ hQQ
      refine tiF ?_; try clear hQQ QQ
      refine twF ?_; try with_reducible intro QQ hQQ
      refine ⟨⟨k + 1, by omega⟩, ?_, weak_round ?_ (by first | rfl | (simp only [hF, go_sem, ↓reduceIte]))⟩
      rotate_left
      · simp only [hs]
        (simp only [hF, go_sem, ↓reduceIte]; try rfl)
      · simp only; omega
    · rw [hb] at hg hs
      simp only [if_true] at hs
      try clear hF
      have hF := And.intro hll (hg)
      refine twF ?_; try with_reducible intro QQ hQQ
      refine tiF ?_; try clear hQQ QQ
      refine twF ?_; try with_reducible intro QQ hQQ
      refine tiF ?_; try clear hQQ QQ
      refine twF ?_; try with_reducible intro QQ hQQ
      refine ⟨⟨k + 1, by omega⟩, ?_, weak_round ?_ (by first | rfl | (simp only [hF, go_sem, ↓reduceIte]))⟩
      rotate_left
      · simp only [hs]
        (simp only [hF, go_sem, ↓reduceIte]; try rfl)
      · simp only; omega
  · have hke : k = L.length := by omega
    subst hke
    have hkb := hkl L.length (Nat.le_refl _)
    clear hga hks hkl
    by_cases h1 : KN L.length = L.length
    · rw [if_pos h1]
      try clear hF
      have hF := hll
      refine twF ?_; try with_reducible intro QQ hQQ
      refine tiF ?_; try clear hQQ QQ
      refine twF ?_; try with_reducible intro QQ hQQ
      refine tiF ?_; try clear hQQ QQ
      refine twF ?_; try with_reducible intro QQ hQQ
      refine aw_ret ?_; refine ⟨.inr rfl, ?_⟩; simp only [resA, res1, go_sem, ↓reduceIte]
      try rfl
    · by_cases h2 : KN L.length = 0
      · rw [if_neg h1, if_pos h2]
        try clear hF
        have hF := hll
        refine twF ?_; try with_reducible intro QQ hQQ
        refine tiF ?_; try clear hQQ QQ
        refine twF ?_; try with_reducible intro QQ hQQ
        refine tiF ?_; try clear hQQ QQ
        refine twF ?_; try with_reducible intro QQ hQQ
        refine tiF ?_; try clear hQQ QQ
        refine twF ?_; try with_reducible intro QQ hQQ
        refine aw_ret ?_; refine ⟨.inr rfl, ?_⟩; simp only [resA, res1, go_sem, ↓reduceIte]
        try rfl
      · rw [if_neg h1, if_neg h2]
        try clear hF
        have hF := hll
        refine twF ?_; try with_reducible intro QQ hQQ
        refine tiF ?_; try clear hQQ QQ
        refine twF ?_; try with_reducible intro QQ hQQ
        refine tiF ?_; try clear hQQ QQ
        refine twF ?_; try with_reducible intro QQ hQQ
        refine tiF ?_; try clear hQQ QQ
        refine twF ?_; try with_reducible intro QQ hQQ
        refine aw_ret ?_; refine ⟨.inr rfl, ?_⟩; simp only [resA, res1, go_sem, ↓reduceIte]
        try rfl
end
end Go.Proofs.Ytgdhdikeicgndaa
