/- THE LAW ClassWide, walked: its end, from the three lines on. -/
import Derived.Test.YtgdhdikeicgndaaWdM
import Derived.Test.YtgdhdikeicgndaaWdD
import Derived.Test.YtgdhdikeicgndaaPvQ
import Derived.Test.YtgdhdikeicgndaaWcJ
import Derived.Test.YtgdhdikeicgndaaKwc8
set_option linter.all false
namespace Go.Proofs.Ytgdhdikeicgndaa
open Go Go.RowKit Go.Sh Go.Pv Go.Cl
set_option maxHeartbeats 2000000
set_option maxRecDepth 20000
set_option pp.maxSteps 60000
attribute [local go_sem] eql4 neq4 bne_tf bne_ft beq_tf beq_ft span_eql span_neq bale_neq
theorem ok_inW {a b x y : Int} (h1 : x ≤ a) (h2 : b ≤ y) : FunOK Try.prog 40 [.agg [iP a, iP b], .agg [iP x, iP y]] (.one (.one (.v (.bool true)))) := by
  refine fun_ok (nt := 17) (rs := [.tmp 4]) Try.func40 rfl rfl rfl (by simp) fun Z w0 => ?_; simp only [initFr, avR, List.map_cons, List.map_nil]
  refine tw ?_; try with_reducible intro QQ hQQ
  refine aw_ret ?_; refine ⟨.inr rfl, ?_⟩; simp only [resA, res1, go_sem, ↓reduceIte]
abbrev QTW : Exit → St → Prop := fun e st => (e = .normal ∨ e = .ret) ∧ resA Try.prog st [.tmp 6] = some (.one (.one (.v (.bool true))))
section
variable {bs : List (Nat × Nat × Nat)} {D M May k : Nat}
theorem wide_tail (hL : LOK bs) (hk : k < bs.length) {i e1 : Nat} {B : Nat → List (Nat × Nat × Nat)} {Dv Mv : Nat → Nat}
    (hgR : ∀ v, v < 3 → ([[.sl (bs.map baleP), iP (May : Int), iP (D : Int), iP ((M - 1 : Nat) : Int)], [.sl (bs.map baleP), iP (May : Int), iP ((D - 1 : Nat) : Int), iP (M : Int)], [.sl ((oneL bs i e1).map baleP), iP (May : Int), iP (D : Int), iP (M : Int)]] : List (List PV))[v]? = some [.sl ((B v).map baleP), iP (May : Int), iP ((Dv v : Nat) : Int), iP ((Mv v : Nat) : Int)])
    (hV14 : ∀ v, v < 3 → FunOK Try.prog 14 [.agg [.sl ((B v).map baleP), iP (May : Int), iP ((Dv v : Nat) : Int), iP ((Mv v : Nat) : Int)], .one (iP (k : Int))] (.tup [.agg [iP (wN1 (Dv v) (Mv v) (B v) k), iP (wN2 (Dv v) (Mv v) (B v) k)], .one (iP (eN (Dv v) (Mv v) (B v)))]))
    (hV16 : ∀ v, v < 3 → FunOK Try.prog 16 [.agg [.sl ((B v).map baleP), iP (May : Int), iP ((Dv v : Nat) : Int), iP ((Mv v : Nat) : Int)]] (.tup [.agg [iP (aN1 (Dv v) (Mv v) (B v)), iP (aN2 (Dv v) (Mv v) (B v))], .one (iP (eN (Dv v) (Mv v) (B v)))]))
    (hV20 : ∀ v, v < 3 → FunOK Try.prog 20 [.agg [.sl ((B v).map baleP), iP (May : Int), iP ((Dv v : Nat) : Int), iP ((Mv v : Nat) : Int)]] (.tup [.one (iP (lN (Dv v) (Mv v) May (B v))), .one (iP (eN (Dv v) (Mv v) (B v)))]))
    (hV24 : ∀ v, v < 3 → FunOK Try.prog 24 [.agg [.sl ((B v).map baleP), iP (May : Int), iP ((Dv v : Nat) : Int), iP ((Mv v : Nat) : Int)]] (.tup [.one (iP ((mN (Dv v) (B v) : Nat) : Int)), .one (iP 0)]))
    (hrel : ∀ v, v < 3 → eN (Dv v) (Mv v) (B v) = 0 → eN D M bs = 0 ∧ wN1 D M bs k ≤ wN1 (Dv v) (Mv v) (B v) k ∧ wN2 (Dv v) (Mv v) (B v) k ≤ wN2 D M bs k ∧ aN1 D M bs ≤ aN1 (Dv v) (Mv v) (B v) ∧ aN2 (Dv v) (Mv v) (B v) ≤ aN2 D M bs ∧ (¬ lN D M May bs = 1 → lN (Dv v) (Mv v) May (B v) = lN D M May bs))
    (hmm : ∀ v, v < 3 → mN D bs ≤ mN (Dv v) (B v))
    (B14 : FunOK Try.prog 14 [.agg [.sl (bs.reverse.map baleP), iP (May : Int), iP (D : Int), iP (M : Int)], .one (iP ((bs.length - 1 - k : Nat) : Int))] (.tup [.agg [iP (wN1 D M bs k), iP (wN2 D M bs k)], .one (iP (eN D M bs))]))
    (B16 : FunOK Try.prog 16 [.agg [.sl (bs.reverse.map baleP), iP (May : Int), iP (D : Int), iP (M : Int)]] (.tup [.agg [iP (aN1 D M bs), iP (aN2 D M bs)], .one (iP (eN D M bs))]))
    (B20 : FunOK Try.prog 20 [.agg [.sl (bs.reverse.map baleP), iP (May : Int), iP (D : Int), iP (M : Int)]] (.tup [.one (iP (lN D M May bs)), .one (iP (eN D M bs))]))
    (B24 : FunOK Try.prog 24 [.agg [.sl (bs.reverse.map baleP), iP (May : Int), iP (D : Int), iP (M : Int)]] (.tup [.one (iP ((mN D bs : Nat) : Int)), .one (iP 0)])) (hm180 : mN D bs ≤ 180) (Z : Zn) (w0 : World) :
    AW ⟨Try.prog, Z, w0, fun _ => False, 331, none, noPan, none, [], true⟩ (rgtN 16 (fnCode Try.f11)) QTW
      ⟨[(3, .one (.box 0 0)), (7, iA bs.length), (9, .one (.box 5 0)), (10, .one (.box 6 0)), (11, .one (.box 7 0)), (12, .one (.box 8 0)), (15, .one (.box 10 0)), (16, iA k), (17, .one (.fn 40 [])), (18, .one (.box 11 0)), (19, .one (.p (iP (eN D M bs)))), (20, .one (.box 12 0)), (21, .one (.p (iP (eN D M bs)))), (22, .one (.p (iP (lN D M May bs)))), (23, .one (.p (iP (eN D M bs)))), (24, .one (.p (iP ((mN D bs : Nat) : Int)))), (25, .one (.p (iP 0)))],
       [(0, .box [.p (.sl (bs.map baleP)), .p (iP (May : Int)), .p (iP (D : Int)), .p (iP (M : Int))]), (5, .box [.p (.sl (bs.map baleP)), .p (iP (May : Int)), .p (iP (D : Int)), .p (iP ((M - 1 : Nat) : Int))]), (6, .box [.p (.sl (bs.map baleP)), .p (iP (May : Int)), .p (iP ((D - 1 : Nat) : Int)), .p (iP (M : Int))]), (7, .box [.p (.sl ((oneL bs i e1).map baleP)), .p (iP (May : Int)), .p (iP (D : Int)), .p (iP (M : Int))]), (8, .box [.p (.sl (bs.reverse.map baleP)), .p (iP (May : Int)), .p (iP (D : Int)), .p (iP (M : Int))]), (9, .arr 44 3 (bs.map baleP) false), (10, .box [.own 9 bs.length, .p (iP (May : Int)), .p (iP (D : Int)), .p (iP (M : Int))]), (11, .box [.p (iP (wN1 D M bs k)), .p (iP (wN2 D M bs k))]), (12, .box [.p (iP (aN1 D M bs)), .p (iP (aN2 D M bs))])], 13⟩ := by
  have haw := ok_awake
  have hec := fun v => eN_cases (D := Dv v) (M := Mv v) (bs := B v)
  have hl0 := lN_le (D := D) (M := M) (May := May) (bs := bs)
  have n1 := hL.n1
  have n6 := hL.n6
  have hll : (bs.map baleP).length = bs.length := List.length_map _
  have hg : ∀ j, j < bs.length → (bs.map baleP)[j]? = some [iP ((bG bs j).1 : Int), iP ((bG bs j).2.1 : Int), iP ((bG bs j).2.2 : Int)] := fun j hj => by rw [List.getElem?_map, get_someBale hj]; rfl
  generalize eN D M bs = e0 at *
  generalize wN1 D M bs k = w1 at *
  generalize wN2 D M bs k = w2 at *
  generalize aN1 D M bs = a1 at *
  generalize aN2 D M bs = a2 at *
  generalize lN D M May bs = l0 at *
  generalize mN D bs = m0 at *
  conv => arg 2; whnf
  (try simp only [List.append_eq, List.cons_append, List.nil_append])
  refine tw ?_; try with_reducible intro QQ hQQ
  obtain ⟨rows, hrows⟩ : ∃ r : List (List PV), r = [[.sl (bs.map baleP), iP (May : Int), iP (D : Int), iP ((M - 1 : Nat) : Int)], [.sl (bs.map baleP), iP (May : Int), iP ((D - 1 : Nat) : Int), iP (M : Int)], [.sl ((oneL bs i e1).map baleP), iP (May : Int), iP (D : Int), iP (M : Int)]] := ⟨_, rfl⟩
  rw [← hrows] at hgR ⊢
  have hrl : rows.length = 3 := by rw [hrows]; rfl
  clear hrows
  have hgV := fun v (h : v < 3) => hgR v h
  clear hgR
  refine aw_weak (weak_keep [3, 7, 12, 15, 16, 17, 18, 19, 20, 21, 22, 23, 24, 25, 166, 167, 168] (by simp only [go_sem, ↓reduceIte]; rfl)) ?_
  refine aw_loop_ov (ι := { v : Nat // v ≤ 3 }) (fun v => [(168, iA v.1)]) (fun _ => []) (fun v => 3 - v.1) ⟨0, by omega⟩ (by first | rfl | (simp only [go_sem, ↓reduceIte]; first | done | rfl | (simp; try rfl))) ?_
  rintro ⟨v, hv⟩
  simp (disch := decide) only [ov, ovL, AL.get_nil, AL.get_eq, AL.get_ne, Option.getD_some, Option.getD_none]
  by_cases hv3 : v < 3
  · have g := hgV v hv3
    have c14 := hV14 v hv3
    have c16 := hV16 v hv3
    have c20 := hV20 v hv3
    have c24 := hV24 v hv3
    have cr := hrel v hv3
    have cm := hmm v hv3
    have ce := hec v
    clear hgV hV14 hV16 hV20 hV24 hrel hmm hec B14 B16 B20 B24 haw
    generalize eN (Dv v) (Mv v) (B v) = e0' at *
    generalize wN1 (Dv v) (Mv v) (B v) k = w1' at *
    generalize wN2 (Dv v) (Mv v) (B v) k = w2' at *
    generalize aN1 (Dv v) (Mv v) (B v) = a1' at *
    generalize aN2 (Dv v) (Mv v) (B v) = a2' at *
    generalize lN (Dv v) (Mv v) May (B v) = l0' at *
    generalize mN (Dv v) (B v) = m0' at *
    try clear hF
    have hF := And.intro g (hrl)
    refine twF ?_; try with_reducible intro QQ hQQ
    refine tiF ?_; try clear hQQ QQ
    refine twF ?_; try with_reducible intro QQ hQQ
    ((refine cOF 14 rfl rfl rfl (c14) Try.func14 rfl ?_); refine tuF ?_; try clear hQQ QQ); refine twF ?_; try with_reducible intro QQ hQQ
    ((refine cOF 16 rfl rfl rfl (c16) Try.func16 rfl ?_); refine tuF ?_; try clear hQQ QQ); refine twF ?_; try with_reducible intro QQ hQQ
    ((refine cOF 20 rfl rfl rfl (c20) Try.func20 rfl ?_); refine tuF ?_; try clear hQQ QQ); refine twF ?_; try with_reducible intro QQ hQQ
    (refine cOF 24 rfl rfl rfl (c24) Try.func24 rfl ?_); refine tsF ?_; try clear hQQ QQ
    rcases ce with rfl | rfl
    · obtain ⟨rfl, r1, r2, r3, r4, r5⟩ := cr rfl
      have i1 := ok_inW r1 r2
      have i2 := ok_inW r3 r4
      clear cr
      by_cases hl1 : l0 = 1
      · refine tw ?_; try with_reducible intro QQ hQQ
        ((refine cO 40 rfl rfl rfl (i1) Try.func40 rfl ?_); refine tu ?_; try clear hQQ QQ); refine tw ?_; try with_reducible intro QQ hQQ
        ((refine cO 40 rfl rfl rfl (i2) Try.func40 rfl ?_); refine tu ?_; try clear hQQ QQ); refine tw ?_; try with_reducible intro QQ hQQ
        refine ti ?_; try clear hQQ QQ
        refine tw ?_; try with_reducible intro QQ hQQ
        (refine ⟨⟨v + 1, by omega⟩, ?_, weak_round (by simp only [go_sem, ↓reduceIte]; first | done | rfl) (by first | rfl | (simp only [go_sem, ↓reduceIte]))⟩; (simp only; omega))
      · have r5 := r5 hl1
        subst r5
        refine tw ?_; try with_reducible intro QQ hQQ
        ((refine cO 40 rfl rfl rfl (i1) Try.func40 rfl ?_); refine tu ?_; try clear hQQ QQ); refine tw ?_; try with_reducible intro QQ hQQ
        ((refine cO 40 rfl rfl rfl (i2) Try.func40 rfl ?_); refine tu ?_; try clear hQQ QQ); refine tw ?_; try with_reducible intro QQ hQQ
        refine ti ?_; try clear hQQ QQ
        refine tw ?_; try with_reducible intro QQ hQQ
        (refine ⟨⟨v + 1, by omega⟩, ?_, weak_round (by simp only [go_sem, ↓reduceIte]; first | done | rfl) (by first | rfl | (simp only [go_sem, ↓reduceIte]))⟩; (simp only; omega))
    · clear cr
      refine tw ?_; try with_reducible intro QQ hQQ
      refine ti ?_; try clear hQQ QQ
      refine tw ?_; try with_reducible intro QQ hQQ
      (refine ⟨⟨v + 1, by omega⟩, ?_, weak_round (by simp only [go_sem, ↓reduceIte]; first | done | rfl) (by first | rfl | (simp only [go_sem, ↓reduceIte]))⟩; (simp only; omega))
  have hve : v = 3 := by omega
  subst hve
  clear hgV hV14 hV16 hV20 hV24 hrel hmm hec
  have hn1 : (bs.length : Int) - 1 = ((bs.length - 1 : Nat) : Int) := by omega
  have hn2 : ((bs.length - 1 : Nat) : Int) - (k : Int) = ((bs.length - 1 - k : Nat) : Int) := by omega
  try clear hF
  have hF := And.intro hn1 (And.intro hn2 (hll))
  refine twF ?_; try with_reducible intro QQ hQQ
  refine tiF ?_; try clear hQQ QQ
  refine twF ?_; try with_reducible intro QQ hQQ
  ((refine cOF 14 rfl rfl rfl (B14) Try.func14 rfl ?_); refine tuF ?_; try clear hQQ QQ); refine twF ?_; try with_reducible intro QQ hQQ
  ((refine cOF 16 rfl rfl rfl (B16) Try.func16 rfl ?_); refine tuF ?_; try clear hQQ QQ); refine twF ?_; try with_reducible intro QQ hQQ
  ((refine cOF 20 rfl rfl rfl (B20) Try.func20 rfl ?_); refine tuF ?_; try clear hQQ QQ); refine twF ?_; try with_reducible intro QQ hQQ
  ((refine cOF 24 rfl rfl rfl (B24) Try.func24 rfl ?_); refine tuF ?_; try clear hQQ QQ); refine twF ?_; try with_reducible intro QQ hQQ
  refine tiF ?_; try clear hQQ QQ
  refine twF ?_; try with_reducible intro QQ hQQ
  refine aw_weak (weak_keep [3, 15, 314, 315] (by simp only [go_sem, ↓reduceIte]; rfl)) ?_
  refine aw_loop_ov (ι := { v : Nat // v ≤ bs.length }) (fun v => [(315, iA v.1)]) (fun _ => []) (fun v => bs.length - v.1) ⟨0, by omega⟩ (by first | rfl | (simp only [go_sem, ↓reduceIte]; first | done | rfl | (simp; try rfl))) ?_
  rintro ⟨v, hv⟩
  simp (disch := decide) only [ov, ovL, AL.get_nil, AL.get_eq, AL.get_ne, Option.getD_some, Option.getD_none]
  by_cases hvl : v < bs.length
  · have g := hg v hvl
    try clear hF
    have hF := And.intro g (hll)
    refine twF ?_; try with_reducible intro QQ hQQ
    refine tiF ?_; try clear hQQ QQ
    refine twF ?_; try with_reducible intro QQ hQQ
    refine tiF ?_; try clear hQQ QQ
    refine twF ?_; try with_reducible intro QQ hQQ
    (refine ⟨⟨v + 1, by omega⟩, ?_, weak_round (by simp only [hF, go_sem, ↓reduceIte]; first | done | rfl) (by first | rfl | (simp only [hF, go_sem, ↓reduceIte]))⟩; (simp only; omega))
  · have hve : v = bs.length := by omega
    subst hve
    refine tw ?_; try with_reducible intro QQ hQQ
    refine ti ?_; try clear hQQ QQ
    refine tw ?_; try with_reducible intro QQ hQQ
    ((refine cO 13 rfl rfl rfl (haw) Try.func13 rfl ?_); refine tu ?_; try clear hQQ QQ); refine tw ?_; try with_reducible intro QQ hQQ
    refine aw_ret ?_; refine ⟨.inr rfl, ?_⟩; simp only [resA, res1, go_sem, ↓reduceIte]
end
end Go.Proofs.Ytgdhdikeicgndaa
