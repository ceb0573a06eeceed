/- THE LAW ClassTrue, walked. -/
import Derived.Test.YtgdhdikeicgndaaWdP
import Derived.Test.YtgdhdikeicgndaaWdC
import Derived.Test.YtgdhdikeicgndaaKcx18
set_option linter.all false
namespace Go.Proofs.Ytgdhdikeicgndaa
open Go Go.RowKit Go.Sh Go.Pv Go.Cl
set_option maxHeartbeats 8000000
set_option maxRecDepth 20000
set_option pp.maxSteps 60000
attribute [local go_sem] eql4 neq4 bne_tf bne_ft beq_tf beq_ft span_eql span_neq
section
variable {bales : List (Int × Int × Int)} {may drift mist : Int} {by_ : List Int}
theorem sumN_30t {f : Nat → Nat} : ∀ n, (∀ k, k < n → f k ≤ 30) → sumN f n ≤ 30 * n
  | 0, _ => Nat.le_refl _
  | n + 1, h => by
    have ih := sumN_30t n fun k hk => h k (by omega)
    have := h n (by omega)
    show sumN f n + f n ≤ _
    omega
abbrev rowB16 (n : Int) : List PV := [PV.v (.int .u16 n)]
/-- What truly gives, as facts. -/
theorem truly_ok {bs bs' : List (Nat × Nat × Nat)} {X : List Nat} {D M : Nat} (h : LOK bs) (hM : M ≤ 6) (hl : bs'.length = bs.length) (hX : X.length = bs.length)
    (h1 : ∀ i, i < bs.length → (bG bs' i).1 = (bG bs i).1 ∧ (bG bs' i).2.1 = (bG bs i).2.1 ∧ (bG bs' i).2.2 ≤ (bG bs i).2.1 ∧ X.getD i 0 ≤ (bG bs i).1) (h2 : ∀ i, i + 1 < bs.length → near D (X.getD i 0) (X.getD (i + 1) 0)) (h3 : sumN (fun i => costB (bG bs' i) (X.getD i 0)) bs.length ≤ M) :
    LOK bs' ∧ AllT D M bs' (fun i => X.getD i 0) := by
  have hL : LOK bs' := ⟨by rw [hl]; exact h.n1, by rw [hl]; exact h.n6, fun i hi => by
    rw [hl] at hi
    have hb := h.ba i hi
    obtain ⟨a, b, c, d⟩ := h1 i hi
    omega⟩
  refine ⟨hL, all_iff.2 ⟨⟨fun k hk => ?_, fun k hk => ?_⟩, ?_⟩⟩
  · rw [hl] at hk
    have := (h1 k hk).2.2.2
    have := (h.bd k).1
    omega
  · rw [hl] at hk
    exact h2 k hk
  · rw [hl]
    refine Nat.le_trans (Nat.le_of_eq (sumN_congr _ fun i hi => ?_)) h3
    unfold ownF
    have hi' := h1 i hi
    rw [if_neg (by omega), if_pos rfl]
/-- Do the first bales keep the line? -/
def keptB (May : Nat) (f : Nat → Nat) : Nat → Bool
  | 0 => true
  | k + 1 => keptB May f k && decide (f k ≤ May)
theorem keptB_iff {May : Nat} {f : Nat → Nat} : ∀ n, keptB May f n = true ↔ ∀ k, k < n → f k ≤ May
  | 0 => ⟨fun _ k hk => by omega, fun _ => rfl⟩
  | n + 1 => by
    show (keptB May f n && decide (f n ≤ May)) = true ↔ _
    rw [Bool.and_eq_true, keptB_iff n, decide_eq_true_eq]
    constructor
    · rintro ⟨h1, h2⟩ k hk
      by_cases e : k = n
      · subst e; exact h2
      · exact h1 k (by omega)
    · intro h; exact ⟨fun k hk => h k (by omega), h n (by omega)⟩
theorem ok_ClassTrue (hby : ∀ x ∈ by_, 0 ≤ x ∧ x ≤ 65535) : FunOK Try.prog 5 [lineR bales may drift mist, .one (.sl (by_.map rowB16))] (.one (.one (.v (.bool true)))) := by
  have haw := ok_awake
  have hfi := ok_fine (bales := bales) (may := may) (drift := drift) (mist := mist)
  cases hv : lineB bales may drift mist
  · rw [hv] at hfi
    clear hv
    refine fun_ok (nt := 192) (rs := [.tmp 4]) Try.func5 rfl rfl rfl (by simp) fun Z w0 => ?_; simp only [initFr, avR, List.map_cons, List.map_nil]
    simp only [lineR, List.map_cons, List.map_nil]
    refine tw ?_; try with_reducible intro QQ hQQ
    ((refine cO 30 rfl rfl rfl (hfi) Try.func30 rfl ?_); refine tu ?_; try clear hQQ QQ); refine tw ?_; try with_reducible intro QQ hQQ
    refine ti ?_; try clear hQQ QQ
    refine tw ?_; try with_reducible intro QQ hQQ
    ((refine cO 13 rfl rfl rfl (haw) Try.func13 rfl ?_); refine tu ?_; try clear hQQ QQ); refine tw ?_; try with_reducible intro QQ hQQ
    refine aw_ret ?_; refine ⟨.inr rfl, ?_⟩; simp only [resA, res1, go_sem, ↓reduceIte]
  rw [hv] at hfi
  obtain ⟨bs, May, D, M, rfl, rfl, rfl, rfl, hL0, hMay, hD, hM⟩ := line_of hv
  clear hv
  simp only [lineR_cast, rows_cast] at hfi ⊢
  refine fun_ok (nt := 192) (rs := [.tmp 4]) Try.func5 rfl rfl rfl (by simp) fun Z w0 => ?_; simp only [initFr, avR, List.map_cons, List.map_nil]
  refine tw ?_; try with_reducible intro QQ hQQ
  ((refine cO 30 rfl rfl rfl (hfi) Try.func30 rfl ?_); refine tu ?_; try clear hQQ QQ); refine tw ?_; try with_reducible intro QQ hQQ
  refine ti ?_; try clear hQQ QQ
  refine tw ?_; try with_reducible intro QQ hQQ
  refine callS_ok rfl rfl 31 (by simp (disch := first | decide | omega) only [go_sem, ↓reduceIte]; try rfl) (by simp (disch := first | decide | omega) only [go_sem, ↓reduceIte]; try rfl) Try.func31 rfl (by decide) (CallF.mono (callF_ex (by simp (disch := first | decide | omega) only [go_sem, ↓reduceIte]; try rfl) (ok_truly hL0 hMay hD hM hby)) ?_)
  rintro _ _ ⟨rfl, res, ⟨bs', X, hl, hX, h1, h2, h3, rfl⟩, rfl⟩
  obtain ⟨hL, hf⟩ := truly_ok hL0 hM hl hX h1 h2 h3
  clear h1 h2 h3
  have hM' : M < FAR := by unfold FAR; omega
  have he : ∃ f, AllT D M bs' f := ⟨_, hf⟩
  have hmi := (mist_iff hL hM').2 he
  have hv := line_to hL hMay hD hM
  have hc : canB (bs'.map castB) D M = true := by rw [canB_cast]; exact decide_eq_true hmi
  have hw : whyL (bs'.map castB) May D M true = 0 := by simp [whyL, hv, hc]
  have cCl := ok_Clash (bales := bs'.map castB) (may := May) (drift := D) (mist := M)
  have cAl := ok_All (bales := bs'.map castB) (may := May) (drift := D) (mist := M)
  have cLi := ok_Line (bales := bs'.map castB) (may := May) (drift := D) (mist := M)
  have cPr := ok_Proof (bales := bs'.map castB) (may := May) (drift := D) (mist := M)
  have cMi := ok_Mistaken (bales := bs'.map castB) (may := May) (drift := D) (mist := M)
  have hwc : whyC (bs'.map castB) May D M = 4 := by
    unfold whyC
    rw [hv, if_pos rfl, nB_cast, List.length_map, Int.toNat_natCast, Int.toNat_natCast]
    unfold clP
    rw [if_neg (by rw [decide_eq_true_eq]; omega)]
  have hwp : whyP (bs'.map castB) May D M = if (List.range bs'.length).any (nevB D M May bs') = true then 0 else 4 := by
    unfold whyP
    rw [hw, if_pos rfl, nB_cast, List.length_map, Int.toNat_natCast, Int.toNat_natCast, Int.toNat_natCast]
  have hpn : proofN (bs'.map castB) May D M = firstF (nevB D M May bs') (List.range bs'.length) := by
    unfold proofN
    rw [nB_cast, List.length_map, Int.toNat_natCast, Int.toNat_natCast, Int.toNat_natCast]
  rw [hwc] at cCl
  rw [hw] at cAl cLi
  rw [hwp, hpn] at cPr
  rw [hv, if_pos rfl] at cMi
  simp only [ansR, ansN, if_true, if_false, show ((4 : Int) = 0) = False from by decide, nB_cast, Int.toNat_natCast, lineR_cast, List.length_map] at cCl cAl cLi cPr cMi
  have hW : ∀ i : Nat, i < bs'.length → FunOK Try.prog 14 [.agg [.sl (bs'.map baleP), iP (May : Int), iP (D : Int), iP (M : Int)], .one (iP (i : Int))] (.tup [.agg [iP ((wrongS D M bs' i).1 : Int), iP ((wrongS D M bs' i).2 : Int)], .one (iP 0)]) := fun i hi => by
    have := ok_Wrong (bales := bs'.map castB) (may := May) (drift := D) (mist := M) (i : Int)
    rw [show inB (i : Int) 0 (((bs'.map castB).length : Int) - 1) = true by rw [List.length_map]; simp [inB]; omega, hw] at this
    simp only [ansR, if_true, nB_cast, Int.toNat_natCast, lineR_cast] at this
    exact this
  have hK : ∀ i : Nat, i < bs'.length → FunOK Try.prog 18 [.agg [.sl (bs'.map baleP), iP (May : Int), iP (D : Int), iP (M : Int)], .one (iP (i : Int))] (.tup [.one (iP ((toldS May (wrongS D M bs' i) : Nat) : Int)), .one (iP 0)]) := fun i hi => by
    have := ok_Keeps (bales := bs'.map castB) (may := May) (drift := D) (mist := M) (i : Int)
    rw [show inB (i : Int) 0 (((bs'.map castB).length : Int) - 1) = true by rw [List.length_map]; simp [inB]; omega, hw] at this
    simp only [ansN, if_true, nB_cast, Int.toNat_natCast, lineR_cast] at this
    exact this
  have hin := fun i (hi : i < bs'.length) => wrong_in hL hM' hi hf
  have ht2 := fun i (hi : i < bs'.length) => fun e => (told_two (May := May) hL hM' hi he).1 e _ hf
  have ht0 := fun i (hi : i < bs'.length) => fun e => (told_zero (May := May) hL hM' hi he).1 e _ hf
  have htl := fun i => told_le (May := May) (wrongS D M bs' i)
  have hl2 := fun e => (keptB_iff (May := May) (f := fun i => X.getD i 0) bs'.length).2 ((line_two (May := May) hL hM' he).1 e _ hf)
  have hl0 : lineS D M May bs' = 0 → keptB May (fun i => X.getD i 0) bs'.length = false := fun e => by
    obtain ⟨i, hi, hi2⟩ := (line_zero (May := May) hL hM' he).1 e _ hf
    cases hk : keptB May (fun i => X.getD i 0) bs'.length
    · rfl
    · have := (keptB_iff bs'.length).1 hk i hi
      omega
  have hls := line_le (D := D) (M := M) (May := May) (bs := bs')
  have hal : (allS D M bs').1 ≤ (sumN (fun i => X.getD i 0) bs'.length : Nat) ∧ ((sumN (fun i => X.getD i 0) bs'.length : Nat) : Int) ≤ (allS D M bs').2 := by
    obtain ⟨a, b, e, _, _, hx⟩ := all_mem hL he
    rw [e]
    have := hx _ hf
    exact ⟨by omega, by omega⟩
  have hpf : (List.range bs'.length).any (nevB D M May bs') = true → firstF (nevB D M May bs') (List.range bs'.length) < bs'.length ∧ May < X.getD (firstF (nevB D M May bs') (List.range bs'.length)) 0 := fun ha => by
    obtain ⟨f1, f2, _⟩ := first_range ha
    exact ⟨f1, ht0 _ f1 (of_decide_eq_true f2)⟩
  have hX30 : ∀ k, k < bs'.length → X.getD k 0 ≤ 30 := fun k hk => hf.seq.le k hk
  have hsb := fun k (hk : k ≤ bs'.length) => sumN_30t (f := fun i => X.getD i 0) k (fun i hi => hX30 i (by omega))
  have hss : ∀ k, sumN (fun i => X.getD i 0) (k + 1) = sumN (fun i => X.getD i 0) k + X.getD k 0 := fun k => rfl
  have hks : ∀ k, keptB May (fun i => X.getD i 0) (k + 1) = (keptB May (fun i => X.getD i 0) k && decide (X.getD k 0 ≤ May)) := fun k => rfl
  have hs0 : sumN (fun i => X.getD i 0) 0 = 0 := rfl
  have hk0 : keptB May (fun i => X.getD i 0) 0 = true := rfl
  have hXl : (X.map rowN).length = bs'.length := by rw [List.length_map, hX, hl]
  have hgX : ∀ k, k < bs'.length → (X.map rowN)[k]? = some [iP ((X.getD k 0 : Nat) : Int)] := fun k hk => by
    rw [List.getElem?_map, List.getElem?_eq_getElem (by omega), List.getD_eq_getElem?_getD, List.getElem?_eq_getElem (by omega)]; rfl
  have hn6 := hL.n6
  generalize hN : bs'.length = N at *
  generalize wrongS D M bs' = W at *
  generalize lineS D M May bs' = LS at *
  generalize allS D M bs' = AS at *
  generalize Go.Cl.mist D bs' (2 ^ N - 1) = MI at *
  generalize nevB D M May bs' = NV at *
  generalize sumN (fun i => X.getD i 0) = SM at *
  generalize keptB May (fun i => X.getD i 0) = KB at *
  obtain ⟨TS, hT⟩ : ∃ TS : Nat → Nat, ∀ i, toldS May (W i) = TS i := ⟨_, fun _ => rfl⟩
  simp only [hT] at *
  obtain ⟨XF, hXF⟩ : ∃ XF : Nat → Nat, ∀ i, X.getD i 0 = XF i := ⟨_, fun _ => rfl⟩
  simp only [hXF] at *
  clear hT hXF hv hc hw hwc hwp hpn hf he hL hL0 hfi
  obtain ⟨A1, A2⟩ := AS
  dsimp only at hal cAl
  (refine ts ?_; try clear hQQ QQ)
  refine tw ?_; try with_reducible intro QQ hQQ
  ((refine cO 28 rfl rfl rfl (cCl) Try.func28 rfl ?_); refine tu ?_; try clear hQQ QQ); refine tw ?_; try with_reducible intro QQ hQQ
  ((refine cO 16 rfl rfl rfl (cAl) Try.func16 rfl ?_); refine tu ?_; try clear hQQ QQ); refine tw ?_; try with_reducible intro QQ hQQ
  ((refine cO 20 rfl rfl rfl (cLi) Try.func20 rfl ?_); refine tu ?_; try clear hQQ QQ); refine tw ?_; try with_reducible intro QQ hQQ
  cases hA : (List.range N).any NV
  · rw [hA] at cPr
    simp only [Bool.false_eq_true, if_false, show ((4 : Int) = 0) = False from by decide] at cPr
    clear hpf
    ((refine cO 22 rfl rfl rfl (cPr) Try.func22 rfl ?_); refine tu ?_; try clear hQQ QQ); refine tw ?_; try with_reducible intro QQ hQQ
    (refine cO 24 rfl rfl rfl (cMi) Try.func24 rfl ?_); refine ts ?_; try clear hQQ QQ
    try clear hF
    have hF := And.intro hXl (And.intro hs0 (hk0))
    refine twF ?_; try with_reducible intro QQ hQQ
    refine tiF ?_; try clear hQQ QQ
    refine twF ?_; try with_reducible intro QQ hQQ
    refine aw_weak (weak_keep [2, 5, 6, 9, 11, 13, 14, 17, 18, 88, 89, 90] (by simp only [hF, go_sem, ↓reduceIte]; rfl)) ?_
    refine aw_loop_ov (ι := { k : Nat // k ≤ N }) (fun k => [(17, iA (SM k.1)), (18, .one (.p (.v (.bool (KB k.1))))), (90, iA k.1)]) (fun _ => []) (fun k => N - k.1) ⟨0, by omega⟩ (by first | rfl | (simp only [hF, go_sem, ↓reduceIte]; first | done | rfl | (simp; try rfl))) ?_
    rintro ⟨k, hk⟩
    simp (disch := decide) only [ov, ovL, AL.get_nil, AL.get_eq, AL.get_ne, Option.getD_some, Option.getD_none]
    by_cases hkN : k < N
    · have w := hW k hkN
      have kp := hK k hkN
      have hik := hin k hkN
      have a2 := ht2 k hkN
      have a0 := ht0 k hkN
      have tl := htl k
      have hgk := hgX k hkN
      have hx30 := hX30 k hkN
      have hsk := hsb k hk
      have hssk := hss k
      have hksk := hks k
      have hins := ok_inside (XF k : Int) ((W k).1 : Int) ((W k).2 : Int)
      rw [show inB (XF k : Int) ((W k).1 : Int) ((W k).2 : Int) = true by simp [inB]; omega] at hins
      clear hW hK hin ht2 ht0 htl hgX hX30 hsb hss hks hl2 hl0 hal cCl cAl cLi cPr cMi haw hby
      by_cases hxm : XF k ≤ May
      · skip
        have h0 : ¬ TS k = 0 := fun e => by have := a0 e; omega
        by_cases h2 : TS k = 2
        · skip
          try clear hF
          have hF := And.intro hXl (hgk)
          refine twF ?_; try with_reducible intro QQ hQQ
          refine tiF ?_; try clear hQQ QQ
          refine twF ?_; try with_reducible intro QQ hQQ
          ((refine cOF 14 rfl rfl rfl (w) Try.func14 rfl ?_); refine tuF ?_; try clear hQQ QQ); refine twF ?_; try with_reducible intro QQ hQQ
          ((refine cOF 18 rfl rfl rfl (kp) Try.func18 rfl ?_); refine tuF ?_; try clear hQQ QQ); refine twF ?_; try with_reducible intro QQ hQQ
          ((refine cOF 32 rfl rfl rfl (hins) Try.func32 rfl ?_); refine tuF ?_; try clear hQQ QQ); refine twF ?_; try with_reducible intro QQ hQQ
          refine tiF ?_; try clear hQQ QQ
          cases hKB : KB k
          · rw [hKB] at hksk
            try rw [decide_eq_true hxm] at hksk
            simp only [Bool.false_and, Bool.true_and] at hksk
            refine twF ?_; try with_reducible intro QQ hQQ
            refine ⟨⟨k + 1, by omega⟩, ?_, weak_round ?_ (by first | rfl | (simp only [hF, go_sem, ↓reduceIte]))⟩
            rotate_left
            · simp only [hssk, hksk]
              (simp only [hF, go_sem, ↓reduceIte]; try rfl)
            · simp only; omega
          · rw [hKB] at hksk
            try rw [decide_eq_true hxm] at hksk
            simp only [Bool.false_and, Bool.true_and] at hksk
            refine twF ?_; try with_reducible intro QQ hQQ
            refine ⟨⟨k + 1, by omega⟩, ?_, weak_round ?_ (by first | rfl | (simp only [hF, go_sem, ↓reduceIte]))⟩
            rotate_left
            · simp only [hssk, hksk]
              (simp only [hF, go_sem, ↓reduceIte]; try rfl)
            · simp only; omega
        · skip
          try clear hF
          have hF := And.intro hXl (hgk)
          refine twF ?_; try with_reducible intro QQ hQQ
          refine tiF ?_; try clear hQQ QQ
          refine twF ?_; try with_reducible intro QQ hQQ
          ((refine cOF 14 rfl rfl rfl (w) Try.func14 rfl ?_); refine tuF ?_; try clear hQQ QQ); refine twF ?_; try with_reducible intro QQ hQQ
          ((refine cOF 18 rfl rfl rfl (kp) Try.func18 rfl ?_); refine tuF ?_; try clear hQQ QQ); refine twF ?_; try with_reducible intro QQ hQQ
          ((refine cOF 32 rfl rfl rfl (hins) Try.func32 rfl ?_); refine tuF ?_; try clear hQQ QQ); refine twF ?_; try with_reducible intro QQ hQQ
          refine tiF ?_; try clear hQQ QQ
          cases hKB : KB k
          · rw [hKB] at hksk
            try rw [decide_eq_true hxm] at hksk
            simp only [Bool.false_and, Bool.true_and] at hksk
            refine twF ?_; try with_reducible intro QQ hQQ
            refine ⟨⟨k + 1, by omega⟩, ?_, weak_round ?_ (by first | rfl | (simp only [hF, go_sem, ↓reduceIte]))⟩
            rotate_left
            · simp only [hssk, hksk]
              (simp only [hF, go_sem, ↓reduceIte]; try rfl)
            · simp only; omega
          · rw [hKB] at hksk
            try rw [decide_eq_true hxm] at hksk
            simp only [Bool.false_and, Bool.true_and] at hksk
            refine twF ?_; try with_reducible intro QQ hQQ
            refine ⟨⟨k + 1, by omega⟩, ?_, weak_round ?_ (by first | rfl | (simp only [hF, go_sem, ↓reduceIte]))⟩
            rotate_left
            · simp only [hssk, hksk]
              (simp only [hF, go_sem, ↓reduceIte]; try rfl)
            · simp only; omega
      · skip
        have h2 : ¬ TS k = 2 := fun e => by have := a2 e; omega
        by_cases h0 : TS k = 0
        · skip
          try clear hF
          have hF := And.intro hXl (hgk)
          refine twF ?_; try with_reducible intro QQ hQQ
          refine tiF ?_; try clear hQQ QQ
          refine twF ?_; try with_reducible intro QQ hQQ
          ((refine cOF 14 rfl rfl rfl (w) Try.func14 rfl ?_); refine tuF ?_; try clear hQQ QQ); refine twF ?_; try with_reducible intro QQ hQQ
          ((refine cOF 18 rfl rfl rfl (kp) Try.func18 rfl ?_); refine tuF ?_; try clear hQQ QQ); refine twF ?_; try with_reducible intro QQ hQQ
          ((refine cOF 32 rfl rfl rfl (hins) Try.func32 rfl ?_); refine tuF ?_; try clear hQQ QQ); refine twF ?_; try with_reducible intro QQ hQQ
          refine tiF ?_; try clear hQQ QQ
          cases hKB : KB k
          · rw [hKB] at hksk
            try rw [decide_eq_false hxm] at hksk
            simp only [Bool.false_and, Bool.true_and] at hksk
            refine twF ?_; try with_reducible intro QQ hQQ
            refine ⟨⟨k + 1, by omega⟩, ?_, weak_round ?_ (by first | rfl | (simp only [hF, go_sem, ↓reduceIte]))⟩
            rotate_left
            · simp only [hssk, hksk]
              (simp only [hF, go_sem, ↓reduceIte]; try rfl)
            · simp only; omega
          · rw [hKB] at hksk
            try rw [decide_eq_false hxm] at hksk
            simp only [Bool.false_and, Bool.true_and] at hksk
            refine twF ?_; try with_reducible intro QQ hQQ
            refine ⟨⟨k + 1, by omega⟩, ?_, weak_round ?_ (by first | rfl | (simp only [hF, go_sem, ↓reduceIte]))⟩
            rotate_left
            · simp only [hssk, hksk]
              (simp only [hF, go_sem, ↓reduceIte]; try rfl)
            · simp only; omega
        · skip
          try clear hF
          have hF := And.intro hXl (hgk)
          refine twF ?_; try with_reducible intro QQ hQQ
          refine tiF ?_; try clear hQQ QQ
          refine twF ?_; try with_reducible intro QQ hQQ
          ((refine cOF 14 rfl rfl rfl (w) Try.func14 rfl ?_); refine tuF ?_; try clear hQQ QQ); refine twF ?_; try with_reducible intro QQ hQQ
          ((refine cOF 18 rfl rfl rfl (kp) Try.func18 rfl ?_); refine tuF ?_; try clear hQQ QQ); refine twF ?_; try with_reducible intro QQ hQQ
          ((refine cOF 32 rfl rfl rfl (hins) Try.func32 rfl ?_); refine tuF ?_; try clear hQQ QQ); refine twF ?_; try with_reducible intro QQ hQQ
          refine tiF ?_; try clear hQQ QQ
          cases hKB : KB k
          · rw [hKB] at hksk
            try rw [decide_eq_false hxm] at hksk
            simp only [Bool.false_and, Bool.true_and] at hksk
            refine twF ?_; try with_reducible intro QQ hQQ
            refine ⟨⟨k + 1, by omega⟩, ?_, weak_round ?_ (by first | rfl | (simp only [hF, go_sem, ↓reduceIte]))⟩
            rotate_left
            · simp only [hssk, hksk]
              (simp only [hF, go_sem, ↓reduceIte]; try rfl)
            · simp only; omega
          · rw [hKB] at hksk
            try rw [decide_eq_false hxm] at hksk
            simp only [Bool.false_and, Bool.true_and] at hksk
            refine twF ?_; try with_reducible intro QQ hQQ
            refine ⟨⟨k + 1, by omega⟩, ?_, weak_round ?_ (by first | rfl | (simp only [hF, go_sem, ↓reduceIte]))⟩
            rotate_left
            · simp only [hssk, hksk]
              (simp only [hF, go_sem, ↓reduceIte]; try rfl)
            · simp only; omega
    · have hke : k = N := by omega
      subst hke
      have hsk := hsb k (Nat.le_refl _)
      have hins := ok_inside (SM k : Int) A1 A2
      rw [show inB (SM k : Int) A1 A2 = true by simp [inB]; omega] at hins
      clear hW hK hin ht2 ht0 htl hgX hX30 hsb hss hks cCl cAl cLi cPr cMi hby
      by_cases e2 : LS = 2
      · rw [hl2 e2]
        try clear hF
        have hF := hXl
        refine twF ?_; try with_reducible intro QQ hQQ
        refine tiF ?_; try clear hQQ QQ
        refine twF ?_; try with_reducible intro QQ hQQ
        refine tiF ?_; try clear hQQ QQ
        refine twF ?_; try with_reducible intro QQ hQQ
        ((refine cOF 32 rfl rfl rfl (hins) Try.func32 rfl ?_); refine tuF ?_; try clear hQQ QQ); refine twF ?_; try with_reducible intro QQ hQQ
        ((refine cOF 13 rfl rfl rfl (haw) Try.func13 rfl ?_); refine tuF ?_; try clear hQQ QQ); refine twF ?_; try with_reducible intro QQ hQQ
        refine aw_ret ?_; refine ⟨.inr rfl, ?_⟩; simp only [resA, res1, go_sem, ↓reduceIte]
      · by_cases e0 : LS = 0
        · rw [hl0 e0]
          try clear hF
          have hF := hXl
          refine twF ?_; try with_reducible intro QQ hQQ
          refine tiF ?_; try clear hQQ QQ
          refine twF ?_; try with_reducible intro QQ hQQ
          refine tiF ?_; try clear hQQ QQ
          refine twF ?_; try with_reducible intro QQ hQQ
          ((refine cOF 32 rfl rfl rfl (hins) Try.func32 rfl ?_); refine tuF ?_; try clear hQQ QQ); refine twF ?_; try with_reducible intro QQ hQQ
          ((refine cOF 13 rfl rfl rfl (haw) Try.func13 rfl ?_); refine tuF ?_; try clear hQQ QQ); refine twF ?_; try with_reducible intro QQ hQQ
          refine aw_ret ?_; refine ⟨.inr rfl, ?_⟩; simp only [resA, res1, go_sem, ↓reduceIte]
        · cases hKB : KB k
          · skip
            try clear hF
            have hF := hXl
            refine twF ?_; try with_reducible intro QQ hQQ
            refine tiF ?_; try clear hQQ QQ
            refine twF ?_; try with_reducible intro QQ hQQ
            refine tiF ?_; try clear hQQ QQ
            refine twF ?_; try with_reducible intro QQ hQQ
            ((refine cOF 32 rfl rfl rfl (hins) Try.func32 rfl ?_); refine tuF ?_; try clear hQQ QQ); refine twF ?_; try with_reducible intro QQ hQQ
            ((refine cOF 13 rfl rfl rfl (haw) Try.func13 rfl ?_); refine tuF ?_; try clear hQQ QQ); refine twF ?_; try with_reducible intro QQ hQQ
            refine aw_ret ?_; refine ⟨.inr rfl, ?_⟩; simp only [resA, res1, go_sem, ↓reduceIte]
          · skip
            try clear hF
            have hF := hXl
            refine twF ?_; try with_reducible intro QQ hQQ
            refine tiF ?_; try clear hQQ QQ
            refine twF ?_; try with_reducible intro QQ hQQ
            refine tiF ?_; try clear hQQ QQ
            refine twF ?_; try with_reducible intro QQ hQQ
            ((refine cOF 32 rfl rfl rfl (hins) Try.func32 rfl ?_); refine tuF ?_; try clear hQQ QQ); refine twF ?_; try with_reducible intro QQ hQQ
            ((refine cOF 13 rfl rfl rfl (haw) Try.func13 rfl ?_); refine tuF ?_; try clear hQQ QQ); refine twF ?_; try with_reducible intro QQ hQQ
            refine aw_ret ?_; refine ⟨.inr rfl, ?_⟩; simp only [resA, res1, go_sem, ↓reduceIte]
  · rw [hA] at cPr
    simp only [if_true] at cPr
    obtain ⟨hp1, hp2⟩ := hpf hA
    generalize firstF NV (List.range N) = FP at *
    ((refine cO 22 rfl rfl rfl (cPr) Try.func22 rfl ?_); refine tu ?_; try clear hQQ QQ); refine tw ?_; try with_reducible intro QQ hQQ
    (refine cO 24 rfl rfl rfl (cMi) Try.func24 rfl ?_); refine ts ?_; try clear hQQ QQ
    try clear hF
    have hF := And.intro hXl (And.intro hs0 (hk0))
    refine twF ?_; try with_reducible intro QQ hQQ
    refine tiF ?_; try clear hQQ QQ
    refine twF ?_; try with_reducible intro QQ hQQ
    refine aw_weak (weak_keep [2, 5, 6, 9, 11, 13, 14, 17, 18, 88, 89, 90] (by simp only [hF, go_sem, ↓reduceIte]; rfl)) ?_
    refine aw_loop_ov (ι := { k : Nat // k ≤ N }) (fun k => [(17, iA (SM k.1)), (18, .one (.p (.v (.bool (KB k.1))))), (90, iA k.1)]) (fun _ => []) (fun k => N - k.1) ⟨0, by omega⟩ (by first | rfl | (simp only [hF, go_sem, ↓reduceIte]; first | done | rfl | (simp; try rfl))) ?_
    rintro ⟨k, hk⟩
    simp (disch := decide) only [ov, ovL, AL.get_nil, AL.get_eq, AL.get_ne, Option.getD_some, Option.getD_none]
    by_cases hkN : k < N
    · have w := hW k hkN
      have kp := hK k hkN
      have hik := hin k hkN
      have a2 := ht2 k hkN
      have a0 := ht0 k hkN
      have tl := htl k
      have hgk := hgX k hkN
      have hx30 := hX30 k hkN
      have hsk := hsb k hk
      have hssk := hss k
      have hksk := hks k
      have hins := ok_inside (XF k : Int) ((W k).1 : Int) ((W k).2 : Int)
      rw [show inB (XF k : Int) ((W k).1 : Int) ((W k).2 : Int) = true by simp [inB]; omega] at hins
      clear hW hK hin ht2 ht0 htl hgX hX30 hsb hss hks hl2 hl0 hal cCl cAl cLi cPr cMi haw hby
      by_cases hxm : XF k ≤ May
      · skip
        have h0 : ¬ TS k = 0 := fun e => by have := a0 e; omega
        by_cases h2 : TS k = 2
        · skip
          try clear hF
          have hF := And.intro hXl (hgk)
          refine twF ?_; try with_reducible intro QQ hQQ
          refine tiF ?_; try clear hQQ QQ
          refine twF ?_; try with_reducible intro QQ hQQ
          ((refine cOF 14 rfl rfl rfl (w) Try.func14 rfl ?_); refine tuF ?_; try clear hQQ QQ); refine twF ?_; try with_reducible intro QQ hQQ
          ((refine cOF 18 rfl rfl rfl (kp) Try.func18 rfl ?_); refine tuF ?_; try clear hQQ QQ); refine twF ?_; try with_reducible intro QQ hQQ
          ((refine cOF 32 rfl rfl rfl (hins) Try.func32 rfl ?_); refine tuF ?_; try clear hQQ QQ); refine twF ?_; try with_reducible intro QQ hQQ
          refine tiF ?_; try clear hQQ QQ
          cases hKB : KB k
          · rw [hKB] at hksk
            try rw [decide_eq_true hxm] at hksk
            simp only [Bool.false_and, Bool.true_and] at hksk
            refine twF ?_; try with_reducible intro QQ hQQ
            refine ⟨⟨k + 1, by omega⟩, ?_, weak_round ?_ (by first | rfl | (simp only [hF, go_sem, ↓reduceIte]))⟩
            rotate_left
            · simp only [hssk, hksk]
              (simp only [hF, go_sem, ↓reduceIte]; try rfl)
            · simp only; omega
          · rw [hKB] at hksk
            try rw [decide_eq_true hxm] at hksk
            simp only [Bool.false_and, Bool.true_and] at hksk
            refine twF ?_; try with_reducible intro QQ hQQ
            refine ⟨⟨k + 1, by omega⟩, ?_, weak_round ?_ (by first | rfl | (simp only [hF, go_sem, ↓reduceIte]))⟩
            rotate_left
            · simp only [hssk, hksk]
              (simp only [hF, go_sem, ↓reduceIte]; try rfl)
            · simp only; omega
        · skip
          try clear hF
          have hF := And.intro hXl (hgk)
          refine twF ?_; try with_reducible intro QQ hQQ
          refine tiF ?_; try clear hQQ QQ
          refine twF ?_; try with_reducible intro QQ hQQ
          ((refine cOF 14 rfl rfl rfl (w) Try.func14 rfl ?_); refine tuF ?_; try clear hQQ QQ); refine twF ?_; try with_reducible intro QQ hQQ
          ((refine cOF 18 rfl rfl rfl (kp) Try.func18 rfl ?_); refine tuF ?_; try clear hQQ QQ); refine twF ?_; try with_reducible intro QQ hQQ
          ((refine cOF 32 rfl rfl rfl (hins) Try.func32 rfl ?_); refine tuF ?_; try clear hQQ QQ); refine twF ?_; try with_reducible intro QQ hQQ
          refine tiF ?_; try clear hQQ QQ
          cases hKB : KB k
          · rw [hKB] at hksk
            try rw [decide_eq_true hxm] at hksk
            simp only [Bool.false_and, Bool.true_and] at hksk
            refine twF ?_; try with_reducible intro QQ hQQ
            refine ⟨⟨k + 1, by omega⟩, ?_, weak_round ?_ (by first | rfl | (simp only [hF, go_sem, ↓reduceIte]))⟩
            rotate_left
            · simp only [hssk, hksk]
              (simp only [hF, go_sem, ↓reduceIte]; try rfl)
            · simp only; omega
          · rw [hKB] at hksk
            try rw [decide_eq_true hxm] at hksk
            simp only [Bool.false_and, Bool.true_and] at hksk
            refine twF ?_; try with_reducible intro QQ hQQ
            refine ⟨⟨k + 1, by omega⟩, ?_, weak_round ?_ (by first | rfl | (simp only [hF, go_sem, ↓reduceIte]))⟩
            rotate_left
            · simp only [hssk, hksk]
              (simp only [hF, go_sem, ↓reduceIte]; try rfl)
            · simp only; omega
      · skip
        have h2 : ¬ TS k = 2 := fun e => by have := a2 e; omega
        by_cases h0 : TS k = 0
        · skip
          try clear hF
          have hF := And.intro hXl (hgk)
          refine twF ?_; try with_reducible intro QQ hQQ
          refine tiF ?_; try clear hQQ QQ
          refine twF ?_; try with_reducible intro QQ hQQ
          ((refine cOF 14 rfl rfl rfl (w) Try.func14 rfl ?_); refine tuF ?_; try clear hQQ QQ); refine twF ?_; try with_reducible intro QQ hQQ
          ((refine cOF 18 rfl rfl rfl (kp) Try.func18 rfl ?_); refine tuF ?_; try clear hQQ QQ); refine twF ?_; try with_reducible intro QQ hQQ
          ((refine cOF 32 rfl rfl rfl (hins) Try.func32 rfl ?_); refine tuF ?_; try clear hQQ QQ); refine twF ?_; try with_reducible intro QQ hQQ
          refine tiF ?_; try clear hQQ QQ
          cases hKB : KB k
          · rw [hKB] at hksk
            try rw [decide_eq_false hxm] at hksk
            simp only [Bool.false_and, Bool.true_and] at hksk
            refine twF ?_; try with_reducible intro QQ hQQ
            refine ⟨⟨k + 1, by omega⟩, ?_, weak_round ?_ (by first | rfl | (simp only [hF, go_sem, ↓reduceIte]))⟩
            rotate_left
            · simp only [hssk, hksk]
              (simp only [hF, go_sem, ↓reduceIte]; try rfl)
            · simp only; omega
          · rw [hKB] at hksk
            try rw [decide_eq_false hxm] at hksk
            simp only [Bool.false_and, Bool.true_and] at hksk
            refine twF ?_; try with_reducible intro QQ hQQ
            refine ⟨⟨k + 1, by omega⟩, ?_, weak_round ?_ (by first | rfl | (simp only [hF, go_sem, ↓reduceIte]))⟩
            rotate_left
            · simp only [hssk, hksk]
              (simp only [hF, go_sem, ↓reduceIte]; try rfl)
            · simp only; omega
        · skip
          try clear hF
          have hF := And.intro hXl (hgk)
          refine twF ?_; try with_reducible intro QQ hQQ
          refine tiF ?_; try clear hQQ QQ
          refine twF ?_; try with_reducible intro QQ hQQ
          ((refine cOF 14 rfl rfl rfl (w) Try.func14 rfl ?_); refine tuF ?_; try clear hQQ QQ); refine twF ?_; try with_reducible intro QQ hQQ
          ((refine cOF 18 rfl rfl rfl (kp) Try.func18 rfl ?_); refine tuF ?_; try clear hQQ QQ); refine twF ?_; try with_reducible intro QQ hQQ
          ((refine cOF 32 rfl rfl rfl (hins) Try.func32 rfl ?_); refine tuF ?_; try clear hQQ QQ); refine twF ?_; try with_reducible intro QQ hQQ
          refine tiF ?_; try clear hQQ QQ
          cases hKB : KB k
          · rw [hKB] at hksk
            try rw [decide_eq_false hxm] at hksk
            simp only [Bool.false_and, Bool.true_and] at hksk
            refine twF ?_; try with_reducible intro QQ hQQ
            refine ⟨⟨k + 1, by omega⟩, ?_, weak_round ?_ (by first | rfl | (simp only [hF, go_sem, ↓reduceIte]))⟩
            rotate_left
            · simp only [hssk, hksk]
              (simp only [hF, go_sem, ↓reduceIte]; try rfl)
            · simp only; omega
          · rw [hKB] at hksk
            try rw [decide_eq_false hxm] at hksk
            simp only [Bool.false_and, Bool.true_and] at hksk
            refine twF ?_; try with_reducible intro QQ hQQ
            refine ⟨⟨k + 1, by omega⟩, ?_, weak_round ?_ (by first | rfl | (simp only [hF, go_sem, ↓reduceIte]))⟩
            rotate_left
            · simp only [hssk, hksk]
              (simp only [hF, go_sem, ↓reduceIte]; try rfl)
            · simp only; omega
    · have hke : k = N := by omega
      subst hke
      have hsk := hsb k (Nat.le_refl _)
      have hins := ok_inside (SM k : Int) A1 A2
      rw [show inB (SM k : Int) A1 A2 = true by simp [inB]; omega] at hins
      have hgF := hgX FP hp1
      clear hW hK hin ht2 ht0 htl hgX hX30 hsb hss hks cCl cAl cLi cPr cMi hby
      by_cases e2 : LS = 2
      · rw [hl2 e2]
        try clear hF
        have hF := And.intro hXl (hgF)
        refine twF ?_; try with_reducible intro QQ hQQ
        refine tiF ?_; try clear hQQ QQ
        refine twF ?_; try with_reducible intro QQ hQQ
        refine tiF ?_; try clear hQQ QQ
        refine twF ?_; try with_reducible intro QQ hQQ
        ((refine cOF 32 rfl rfl rfl (hins) Try.func32 rfl ?_); refine tuF ?_; try clear hQQ QQ); refine twF ?_; try with_reducible intro QQ hQQ
        ((refine cOF 13 rfl rfl rfl (haw) Try.func13 rfl ?_); refine tuF ?_; try clear hQQ QQ); refine twF ?_; try with_reducible intro QQ hQQ
        refine aw_ret ?_; refine ⟨.inr rfl, ?_⟩; simp only [resA, res1, go_sem, ↓reduceIte]
      · by_cases e0 : LS = 0
        · rw [hl0 e0]
          try clear hF
          have hF := And.intro hXl (hgF)
          refine twF ?_; try with_reducible intro QQ hQQ
          refine tiF ?_; try clear hQQ QQ
          refine twF ?_; try with_reducible intro QQ hQQ
          refine tiF ?_; try clear hQQ QQ
          refine twF ?_; try with_reducible intro QQ hQQ
          ((refine cOF 32 rfl rfl rfl (hins) Try.func32 rfl ?_); refine tuF ?_; try clear hQQ QQ); refine twF ?_; try with_reducible intro QQ hQQ
          ((refine cOF 13 rfl rfl rfl (haw) Try.func13 rfl ?_); refine tuF ?_; try clear hQQ QQ); refine twF ?_; try with_reducible intro QQ hQQ
          refine aw_ret ?_; refine ⟨.inr rfl, ?_⟩; simp only [resA, res1, go_sem, ↓reduceIte]
        · cases hKB : KB k
          · skip
            try clear hF
            have hF := And.intro hXl (hgF)
            refine twF ?_; try with_reducible intro QQ hQQ
            refine tiF ?_; try clear hQQ QQ
            refine twF ?_; try with_reducible intro QQ hQQ
            refine tiF ?_; try clear hQQ QQ
            refine twF ?_; try with_reducible intro QQ hQQ
            ((refine cOF 32 rfl rfl rfl (hins) Try.func32 rfl ?_); refine tuF ?_; try clear hQQ QQ); refine twF ?_; try with_reducible intro QQ hQQ
            ((refine cOF 13 rfl rfl rfl (haw) Try.func13 rfl ?_); refine tuF ?_; try clear hQQ QQ); refine twF ?_; try with_reducible intro QQ hQQ
            refine aw_ret ?_; refine ⟨.inr rfl, ?_⟩; simp only [resA, res1, go_sem, ↓reduceIte]
          · skip
            try clear hF
            have hF := And.intro hXl (hgF)
            refine twF ?_; try with_reducible intro QQ hQQ
            refine tiF ?_; try clear hQQ QQ
            refine twF ?_; try with_reducible intro QQ hQQ
            refine tiF ?_; try clear hQQ QQ
            refine twF ?_; try with_reducible intro QQ hQQ
            ((refine cOF 32 rfl rfl rfl (hins) Try.func32 rfl ?_); refine tuF ?_; try clear hQQ QQ); refine twF ?_; try with_reducible intro QQ hQQ
            ((refine cOF 13 rfl rfl rfl (haw) Try.func13 rfl ?_); refine tuF ?_; try clear hQQ QQ); refine twF ?_; try with_reducible intro QQ hQQ
            refine aw_ret ?_; refine ⟨.inr rfl, ?_⟩; simp only [resA, res1, go_sem, ↓reduceIte]
end
end Go.Proofs.Ytgdhdikeicgndaa

