/- THE LAW ClassMistaken, walked. -/
import Derived.Test.YtgdhdikeicgndaaWdQ
import Derived.Test.YtgdhdikeicgndaaWdV
set_option linter.all false
namespace Go.Proofs.Ytgdhdikeicgndaa
open Go Go.RowKit Go.Sh Go.Pv Go.Cl
set_option maxHeartbeats 8000000
set_option maxRecDepth 20000
set_option pp.maxSteps 60000
attribute [local go_sem] eql4 neq4 bne_tf bne_ft beq_tf beq_ft span_eql span_neq
section
variable {bales : List (Int × Int × Int)} {may drift mist : Int} {by_ : List Int}
theorem callF2_mono {K : Kx} {fid : FuncId} {avs : List AV} {st : St} {Q Q' : St → AV → AV → Prop} (h : CallF2 K fid avs st Q) (hq : ∀ st' a b, Q st' a b → Q' st' a b) : CallF2 K fid avs st Q' := fun σ a w us hr hv => (h σ a w us hr hv).mono fun e w' ⟨v0, v1, he, σ', st', a0, a1, h1, h2, h3, h4⟩ => ⟨v0, v1, he, σ', st', a0, a1, h1, h2, h3, hq _ _ _ h4⟩
/-- All fleeces of the first bales were looked at. -/
def allL (bs : List (Nat × Nat × Nat)) (X : List Nat) : Nat → List (Nat × Nat × Nat)
  | 0 => bs
  | k + 1 => (allL bs X k).set k ((bG bs k).1, (bG bs k).1, X.getD k 0)
theorem allL_len {bs : List (Nat × Nat × Nat)} {X : List Nat} : ∀ k, (allL bs X k).length = bs.length
  | 0 => rfl
  | k + 1 => by unfold allL; rw [List.length_set, allL_len k]
theorem allL_at {bs : List (Nat × Nat × Nat)} {X : List Nat} : ∀ k i, k ≤ bs.length → i < bs.length → bG (allL bs X k) i = if i < k then ((bG bs i).1, (bG bs i).1, X.getD i 0) else bG bs i
  | 0, i, _, _ => by rw [if_neg (by omega)]; rfl
  | k + 1, i, hk, hi => by
    have ih := allL_at (X := X) k i (by omega) hi
    unfold allL
    rw [bG_set (by rw [allL_len]; omega)]
    by_cases e : i = k
    · subst e; rw [if_pos rfl, if_pos (by omega)]
    · rw [if_neg e, ih]
      by_cases h : i < k
      · rw [if_pos h, if_pos (by omega)]
      · rw [if_neg h, if_neg (by omega)]
theorem allL_ok {bs : List (Nat × Nat × Nat)} {X : List Nat} (h : LOK bs) (hX : ∀ i, i < bs.length → X.getD i 0 ≤ (bG bs i).1) : LOK (allL bs X bs.length) := by
  refine ⟨by rw [allL_len]; exact h.n1, by rw [allL_len]; exact h.n6, fun i hi => ?_⟩
  rw [allL_len] at hi
  rw [allL_at _ i (Nat.le_refl _) hi, if_pos hi]
  have := h.ba i hi
  have := hX i hi
  dsimp only
  omega
theorem allL_mist {bs : List (Nat × Nat × Nat)} {X : List Nat} {D : Nat} (h : LOK bs) (hX : ∀ i, i < bs.length → X.getD i 0 ≤ (bG bs i).1) (hs : ∀ i, i + 1 < bs.length → near D (X.getD i 0) (X.getD (i + 1) 0)) : Go.Cl.mist D (allL bs X bs.length) (2 ^ bs.length - 1) = 0 := by
  have hL := allL_ok h hX
  have hl := allL_len (bs := bs) (X := X) bs.length
  have hz : AllT D 0 (allL bs X bs.length) (fun i => X.getD i 0) := seen_zero ⟨fun k hk => by
      rw [hl] at hk
      have := hX k hk
      have := (h.bd k).1
      omega, fun k hk => by rw [hl] at hk; exact hs k hk⟩ fun i hi => by
    rw [hl] at hi
    rw [allL_at _ i (Nat.le_refl _) hi, if_pos hi]
    exact ⟨hX i hi, rfl, rfl⟩
  have := (mist_iff hL (by unfold FAR; omega)).2 ⟨_, hz⟩
  rw [hl] at this
  omega
theorem ok_ClassMistaken (hby : ∀ x ∈ by_, 0 ≤ x ∧ x ≤ 65535) : FunOK Try.prog 7 [lineR bales may drift mist, .one (.sl (by_.map rowB16))] (.one (.one (.v (.bool true)))) := by
  have haw := ok_awake
  have hfi := ok_fine (bales := bales) (may := may) (drift := drift) (mist := mist)
  cases hv : lineB bales may drift mist
  · rw [hv] at hfi
    clear hv
    refine fun_ok (nt := 136) (rs := [.tmp 4]) Try.func7 rfl rfl rfl (by simp) fun Z w0 => ?_; simp only [initFr, avR, List.map_cons, List.map_nil]
    simp only [lineR, List.map_cons, List.map_nil]
    refine tw ?_; try with_reducible intro QQ hQQ
    ((refine cO 30 rfl rfl rfl (hfi) Try.func30 rfl ?_); refine tu ?_; try clear hQQ QQ); refine tw ?_; try with_reducible intro QQ hQQ
    refine ti ?_; try clear hQQ QQ
    refine tw ?_; try with_reducible intro QQ hQQ
    ((refine cO 13 rfl rfl rfl (haw) Try.func13 rfl ?_); refine tu ?_; try clear hQQ QQ); refine tw ?_; try with_reducible intro QQ hQQ
    refine aw_ret ?_; refine ⟨.inr rfl, ?_⟩; simp only [resA, res1, go_sem, ↓reduceIte]
  rw [hv] at hfi
  obtain ⟨bs, May, D, M, rfl, rfl, rfl, rfl, hL0, hMay, hD, hM⟩ := line_of hv
  have cMi := fun (m : Nat) (hm : m ≤ 6) => ok_Mistaken (bales := bs.map castB) (may := May) (drift := D) (mist := ((m : Nat) : Int))
  have cCl := ok_Clash (bales := bs.map castB) (may := May) (drift := D) (mist := M)
  have cAl := fun (m : Nat) (hm : m ≤ 6) => ok_All (bales := bs.map castB) (may := May) (drift := D) (mist := ((m : Nat) : Int))
  have hwc : whyC (bs.map castB) May D M = if M < Go.Cl.mist D bs (2 ^ bs.length - 1) then 0 else 4 := by
    unfold whyC
    rw [hv, if_pos rfl, nB_cast, List.length_map, Int.toNat_natCast, Int.toNat_natCast]
    unfold clP
    simp only [decide_eq_true_eq]
  have hwl : ∀ m : Nat, m ≤ 6 → whyL (bs.map castB) May D ((m : Nat) : Int) true = if Go.Cl.mist D bs (2 ^ bs.length - 1) ≤ m then 0 else 10 := fun m hm => by
    have hvm := line_to hL0 hMay hD hm
    simp only [whyL, hvm, if_true, canB_cast, decide_eq_true_eq]
  have cMi : ∀ m : Nat, m ≤ 6 → FunOK Try.prog 24 [.agg [.sl (bs.map baleP), iP (May : Int), iP (D : Int), iP (m : Int)]] (.tup [.one (iP ((Go.Cl.mist D bs (2 ^ bs.length - 1) : Nat) : Int)), .one (iP 0)]) := fun m hm => by
    have := cMi m hm
    rw [line_to hL0 hMay hD hm, if_pos rfl] at this
    simp only [ansN, if_true, nB_cast, Int.toNat_natCast, lineR_cast, List.length_map] at this
    exact this
  have cMM := cMi M hM
  have cAl : ∀ m : Nat, m ≤ 6 → ∃ x y, FunOK Try.prog 16 [.agg [.sl (bs.map baleP), iP (May : Int), iP (D : Int), iP (m : Int)]] (.tup [.agg [iP x, iP y], .one (iP (if Go.Cl.mist D bs (2 ^ bs.length - 1) ≤ m then 0 else 10))]) := fun m hm => by
    have := cAl m hm
    rw [hwl m hm] at this
    simp only [ansR, nB_cast, Int.toNat_natCast, lineR_cast] at this
    exact ⟨_, _, this⟩
  rw [hwc] at cCl
  simp only [ansN, nB_cast, Int.toNat_natCast, lineR_cast, rows_cast] at cCl hfi ⊢
  have hm180 : Go.Cl.mist D bs (2 ^ bs.length - 1) ≤ 180 := mist_180 hL0 _
  have hfin : ∀ (bs' : List (Nat × Nat × Nat)) (X : List Nat), bs'.length = bs.length → X.length = bs.length → (∀ i, i < bs.length → (bG bs' i).1 = (bG bs i).1 ∧ (bG bs' i).2.1 = (bG bs i).2.1 ∧ (bG bs' i).2.2 ≤ (bG bs i).2.1 ∧ X.getD i 0 ≤ (bG bs i).1) → (∀ i, i + 1 < bs.length → near D (X.getD i 0) (X.getD (i + 1) 0)) → sumN (fun i => costB (bG bs' i) (X.getD i 0)) bs.length ≤ M →
      FunOK Try.prog 24 [.agg [.sl ((allL bs' X bs'.length).map baleP), iP (May : Int), iP (D : Int), iP (M : Int)]] (.tup [.one (iP 0), .one (iP 0)]) := fun bs' X hl hX h1 h2 h3 => by
    obtain ⟨hL, hf⟩ := truly_ok hL0 hM hl hX h1 h2 h3
    have hXF : ∀ i, i < bs'.length → X.getD i 0 ≤ (bG bs' i).1 := fun i hi => by rw [hl] at hi; have := h1 i hi; omega
    have hm0 := allL_mist (D := D) hL hXF (fun i hi => h2 i (by omega))
    have := ok_Mistaken (bales := (allL bs' X bs'.length).map castB) (may := May) (drift := D) (mist := M)
    rw [line_to (allL_ok hL hXF) hMay hD hM, if_pos rfl] at this
    simp only [ansN, if_true, nB_cast, Int.toNat_natCast, lineR_cast, List.length_map, allL_len, hm0] at this
    exact this
  generalize Go.Cl.mist D bs (2 ^ bs.length - 1) = mi at *
  generalize clS D M bs = cS at *
  clear hwc hwl hv
  have hcc : ∃ x e, FunOK Try.prog 28 [.agg [.sl (bs.map baleP), iP (May : Int), iP (D : Int), iP (M : Int)]] (.tup [.one (iP x), .one (iP e)]) ∧ (e = 0 ∨ e = 4) ∧ (e = 4 ↔ mi ≤ M) := by
    refine ⟨_, _, cCl, ?_, ?_⟩
    · split <;> simp
    · split <;> simp <;> omega
  clear cCl
  obtain ⟨cx, ce, cCl, ce1, ce2⟩ := hcc
  have hfork : (ce = 4 ∧ mi ≤ M) ∨ (ce = 0 ∧ ¬ mi ≤ M) := by
    rcases ce1 with e | e
    · exact .inr ⟨e, fun h => by have := ce2.2 h; omega⟩
    · exact .inl ⟨e, ce2.1 e⟩
  clear ce1 ce2
  refine fun_ok (nt := 136) (rs := [.tmp 4]) Try.func7 rfl rfl rfl (by simp) fun Z w0 => ?_; simp only [initFr, avR, List.map_cons, List.map_nil]
  refine tw ?_; try with_reducible intro QQ hQQ
  ((refine cO 30 rfl rfl rfl (hfi) Try.func30 rfl ?_); refine tu ?_; try clear hQQ QQ); refine tw ?_; try with_reducible intro QQ hQQ
  refine ti ?_; try clear hQQ QQ
  refine tw ?_; try with_reducible intro QQ hQQ
  ((refine cO 24 rfl rfl rfl (cMM) Try.func24 rfl ?_); refine tu ?_; try clear hQQ QQ); refine tw ?_; try with_reducible intro QQ hQQ
  rcases hfork with ⟨rfl, hmi⟩ | ⟨rfl, hmi⟩
  all_goals
    ((refine cO 28 rfl rfl rfl (cCl) Try.func28 rfl ?_); refine tu ?_; try clear hQQ QQ); refine tw ?_; try with_reducible intro QQ hQQ
    refine ti ?_; try clear hQQ QQ
    refine tw ?_; try with_reducible intro QQ hQQ
    refine aw_weak (weak_keep [1, 2, 5, 57] (by simp only [go_sem, ↓reduceIte]; rfl)) ?_
    refine aw_loop_ov (ι := { m : Nat // m ≤ 7 }) (fun m => [(57, iA m.1)]) (fun _ => []) (fun m => 7 - m.1) ⟨0, by omega⟩ (by first | rfl | (simp only [go_sem, ↓reduceIte]; first | done | rfl | (simp; try rfl))) ?_
    rintro ⟨m, hm⟩
    simp (disch := decide) only [ov, ovL, AL.get_nil, AL.get_eq, AL.get_ne, Option.getD_some, Option.getD_none]
    by_cases hm7 : m < 7
    · obtain ⟨ax, ay, cA⟩ := cAl m (by omega)
      have cM := cMi m (by omega)
      clear cAl cMi hfin
      by_cases hmm : mi ≤ m
      · rw [if_pos hmm] at cA
        refine tw ?_; try with_reducible intro QQ hQQ
        refine ti ?_; try clear hQQ QQ
        refine tw ?_; try with_reducible intro QQ hQQ
        ((refine cO 16 rfl rfl rfl (cA) Try.func16 rfl ?_); refine tu ?_; try clear hQQ QQ); refine tw ?_; try with_reducible intro QQ hQQ
        ((refine cO 24 rfl rfl rfl (cM) Try.func24 rfl ?_); refine tu ?_; try clear hQQ QQ); refine tw ?_; try with_reducible intro QQ hQQ
        refine ti ?_; try clear hQQ QQ
        refine tw ?_; try with_reducible intro QQ hQQ
        (refine ⟨⟨m + 1, by omega⟩, ?_, weak_round (by simp only [go_sem, ↓reduceIte]; first | done | rfl) (by first | rfl | (simp only [go_sem, ↓reduceIte]))⟩; (simp only; omega))
      · rw [if_neg hmm] at cA
        refine tw ?_; try with_reducible intro QQ hQQ
        refine ti ?_; try clear hQQ QQ
        refine tw ?_; try with_reducible intro QQ hQQ
        ((refine cO 16 rfl rfl rfl (cA) Try.func16 rfl ?_); refine tu ?_; try clear hQQ QQ); refine tw ?_; try with_reducible intro QQ hQQ
        ((refine cO 24 rfl rfl rfl (cM) Try.func24 rfl ?_); refine tu ?_; try clear hQQ QQ); refine tw ?_; try with_reducible intro QQ hQQ
        refine ti ?_; try clear hQQ QQ
        refine tw ?_; try with_reducible intro QQ hQQ
        (refine ⟨⟨m + 1, by omega⟩, ?_, weak_round (by simp only [go_sem, ↓reduceIte]; first | done | rfl) (by first | rfl | (simp only [go_sem, ↓reduceIte]))⟩; (simp only; omega))
    · have hme : m = 7 := by omega
      subst hme
      refine tw ?_; try with_reducible intro QQ hQQ
      refine ti ?_; try clear hQQ QQ
      (repeat (first | apply aw_seq | apply aw_block | apply aw_skip | apply aw_label | apply aw_exit | with_reducible first | apply then_n | apply block_n | apply then_x | apply then_r | apply block_r | apply block_e (by decide) | apply block_x (by decide)))
      refine aw_tup (l1 := [_, _]) (oc := _) (om := _) (e0 := _) (e1 := _) (l2 := [_, _, _]) 92 89 93 94 rfl rfl rfl rfl rfl rfl rfl rfl rfl rfl rfl rfl (by decide) rfl rfl rfl rfl ?_
      refine hideO fun QQ hQQ => ?_
      (refine ts ?_; try clear hQQ QQ)
      refine ⟨31, [], _, _, by simp (disch := first | decide | omega) only [go_sem, ↓reduceIte]; try rfl, by simp (disch := first | decide | omega) only [go_sem, ↓reduceIte]; try rfl, Try.func31, rfl, by decide, callF2_mono (c_trulyO (by_ := by_) rfl hL0 hMay hD hM hby) ?_⟩
      rintro _ _ _ ⟨rows, ps, x, ⟨bs', X, hl, hX, h1, h2, h3, rfl, rfl, rfl⟩, rfl, rfl, rfl⟩
      have cF := hfin bs' X hl hX h1 h2 h3
      have hlm : (bs'.map baleP).length = bs'.length := List.length_map _
      refine hideO fun QQ hQQ => ?_
      try clear hF
      have hF := hlm
      (refine tsF ?_; try clear hQQ QQ)
      try clear hF
      have hF := hlm
      refine twF ?_; try with_reducible intro QQ hQQ
      have hn6 : bs'.length ≤ 6 := by rw [hl]; exact hL0.n6
      refine aw_weak (weak_keep [15, 16, 97, 98] (by simp only [go_sem, ↓reduceIte]; rfl)) ?_
      refine aw_loop_ov (ι := { k : Nat // k ≤ bs'.length }) (fun k => [(98, iA k.1)]) (fun k => [(1, .arr 44 3 ((allL bs' X k.1).map baleP) false)]) (fun k => bs'.length - k.1) ⟨0, by omega⟩ (by first | rfl | (simp only [go_sem, ↓reduceIte]; first | done | rfl | (simp; try rfl))) ?_
      rintro ⟨k, hk⟩
      simp (disch := decide) only [ov, ovL, AL.get_nil, AL.get_eq, AL.get_ne, Option.getD_some, Option.getD_none]
      have hla : ((allL bs' X k).map baleP).length = bs'.length := by rw [List.length_map, allL_len]
      by_cases hkl : k < bs'.length
      · have hat := allL_at (bs := bs') (X := X) k k (by omega) hkl
        rw [if_neg (by omega)] at hat
        have hg : ((allL bs' X k).map baleP)[k]? = some [iP ((bG bs' k).1 : Int), iP ((bG bs' k).2.1 : Int), iP ((bG bs' k).2.2 : Int)] := by
          rw [List.getElem?_map, get_someBale (by rw [allL_len]; exact hkl), hat]; rfl
        have hgX : (X.map rowN)[k]? = some [iP ((X.getD k 0 : Nat) : Int)] := by
          rw [List.getElem?_map, List.getElem?_eq_getElem (by omega), List.getD_eq_getElem?_getD, List.getElem?_eq_getElem (by omega)]; rfl
        have hgs : ∀ r : List PV, (((allL bs' X k).map baleP).set k r)[k]? = some r := fun r => by rw [List.getElem?_set_self (by rw [hla]; exact hkl)]
        have hss : ∀ r r2 : List PV, (((allL bs' X k).map baleP).set k r).set k r2 = ((allL bs' X k).map baleP).set k r2 := fun r r2 => by rw [List.set_set]
        have hls : ∀ r : List PV, (((allL bs' X k).map baleP).set k r).length = bs'.length := fun r => by rw [List.length_set]; exact hla
        have hlX : (X.map rowN).length = bs'.length := by rw [List.length_map, hX, hl]
        have hrow : ((allL bs' X k).map baleP).set k [iP ((bG bs' k).1 : Int), iP ((bG bs' k).1 : Int), iP ((X.getD k 0 : Nat) : Int)] = (allL bs' X (k + 1)).map baleP := by
          show _ = ((allL bs' X k).set k ((bG bs' k).1, (bG bs' k).1, X.getD k 0)).map baleP
          rw [List.map_set]; rfl
        clear cF hfin cAl cMi
        generalize X.getD k 0 = xk at *
        try clear hF
        have hF := And.intro hla (And.intro hg (And.intro hgX (And.intro hgs (And.intro hss (And.intro hls (hlX))))))
        refine twF ?_; try with_reducible intro QQ hQQ
        refine tiF ?_; try clear hQQ QQ
        refine twF ?_; try with_reducible intro QQ hQQ
        refine ⟨⟨k + 1, by omega⟩, ?_, weak_round ?_ (by first | rfl | (simp only [hF, go_sem, ↓reduceIte]))⟩
        rotate_left
        · simp only [← hrow]
          (simp only [hF, go_sem, ↓reduceIte]; try rfl)
        · simp only; omega
      · have hke : k = bs'.length := by omega
        subst hke
        have htk : ((allL bs' X bs'.length).map baleP).take bs'.length = (allL bs' X bs'.length).map baleP := List.take_of_length_le (by rw [hla]; exact Nat.le_refl _)
        try clear hF
        have hF := And.intro hla (htk)
        refine twF ?_; try with_reducible intro QQ hQQ
        refine tiF ?_; try clear hQQ QQ
        refine twF ?_; try with_reducible intro QQ hQQ
        ((refine cOF 24 rfl rfl rfl (cF) Try.func24 rfl ?_); refine tuF ?_; try clear hQQ QQ); refine twF ?_; try with_reducible intro QQ hQQ
        ((refine cOF 13 rfl rfl rfl (haw) Try.func13 rfl ?_); refine tuF ?_; try clear hQQ QQ); refine twF ?_; try with_reducible intro QQ hQQ
        refine aw_ret ?_; refine ⟨.inr rfl, ?_⟩; simp only [resA, res1, go_sem, ↓reduceIte]
end
end Go.Proofs.Ytgdhdikeicgndaa
