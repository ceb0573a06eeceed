/- classer: a truth is drawn, walked. -/
import Derived.Test.YtgdhdikeicgndaaWdO
set_option linter.all false
namespace Go.Proofs.Ytgdhdikeicgndaa
open Go Go.RowKit Go.Sh Go.Pv Go.Cl
set_option maxHeartbeats 8000000
set_option maxRecDepth 20000
set_option pp.maxSteps 60000
section
variable {bs : List (Nat × Nat × Nat)} {May D M : Nat} {by_ : List Int}
theorem getD_snoc {q : List Nat} {r i : Nat} : (q ++ [r]).getD i 0 = if i < q.length then q.getD i 0 else if i = q.length then r else 0 := by
  simp only [List.getD_eq_getElem?_getD]
  by_cases h1 : i < q.length
  · rw [if_pos h1, List.getElem?_append_left h1]
  · rw [if_neg h1, List.getElem?_append_right (by omega)]
    by_cases h2 : i = q.length
    · rw [if_pos h2, h2]; simp
    · rw [if_neg h2, List.getElem?_eq_none (by simp; omega)]; rfl
/-- The first numbers are 0. -/
def zN (q : List Nat) (k : Nat) : List Nat := List.replicate k 0 ++ q.drop k
theorem zN_zero (q : List Nat) : zN q 0 = q := rfl
theorem zN_len {q : List Nat} {k : Nat} (h : k ≤ q.length) : (zN q k).length = q.length := by unfold zN; simp; omega
theorem zN_set {q : List Nat} {k : Nat} (h : k < q.length) : (zN q k).set k 0 = zN q (k + 1) := by
  unfold zN
  rw [List.set_append_right _ _ (by simp), List.length_replicate, Nat.sub_self, List.drop_eq_getElem_cons h, List.set_cons_zero, List.replicate_succ', List.append_assoc]
  rfl
theorem zN_all (q : List Nat) : zN q q.length = List.replicate q.length 0 := by unfold zN; simp
theorem zN_get {q : List Nat} {k : Nat} (h : k < q.length) : ((zN q k).map rowN)[k]? = some [iP ((q.getD k 0 : Nat) : Int)] := by
  unfold zN
  rw [List.getElem?_map, List.getElem?_append_right (by simp), List.length_replicate, Nat.sub_self, List.getElem?_drop, Nat.add_zero, List.getElem?_eq_getElem h, List.getD_eq_getElem?_getD, List.getElem?_eq_getElem h]
  rfl
theorem rep_getD (n i : Nat) : (List.replicate n 0).getD i 0 = 0 := by
  simp only [List.getD_eq_getElem?_getD, List.getElem?_replicate]
  split <;> rfl
/-- A cell of a number. -/
abbrev iC (n : Nat) : AC := .p (iP (n : Int))
/-- Several ways meet again: the rest of the code is walked once for all of them. -/
theorem aw_merge2 {K : Kx} {c : Code} {Q : Exit → St → Prop} {ι : Type} (R : ι → Prop) (ST : ι → St) {G : Prop} (h1 : (∀ i, R i → AW K c Q (ST i)) → G) (h2 : ∀ i, R i → AW K c Q (ST i)) : G := h1 h2
/-- What is known of a truth that was drawn: the line, and the numbers. -/
def TrulyR (D M May : Nat) (bs : List (Nat × Nat × Nat)) (res : RR) : Prop := ∃ (bs' : List (Nat × Nat × Nat)) (X : List Nat), bs'.length = bs.length ∧ X.length = bs.length ∧
  (∀ i, i < bs.length → (bG bs' i).1 = (bG bs i).1 ∧ (bG bs' i).2.1 = (bG bs i).2.1 ∧ (bG bs' i).2.2 ≤ (bG bs i).2.1 ∧ X.getD i 0 ≤ (bG bs i).1) ∧ (∀ i, i + 1 < bs.length → near D (X.getD i 0) (X.getD (i + 1) 0)) ∧ sumN (fun i => costB (bG bs' i) (X.getD i 0)) bs.length ≤ M ∧
  res = .tup [.agg [.sl (bs'.map baleP), iP (May : Int), iP (D : Int), iP (M : Int)], .one (.sl (X.map rowN))]
theorem ok_truly (h : LOK bs) (hMay : May ≤ 30) (hD : D ≤ 30) (hM : M ≤ 6) (hby : ∀ x ∈ by_, 0 ≤ x ∧ x ≤ 65535) :
    FunEx Try.prog 31 [.agg [.sl (bs.map baleP), iP (May : Int), iP (D : Int), iP (M : Int)], .one (.sl (by_.map fun n => [PV.v (.int .u16 n)]))] (TrulyR D M May bs) := by
  have hb6 := h.n6
  have hll : (bs.map baleP).length = bs.length := List.length_map _
  have hgb : ∀ i, i < bs.length → (bs.map baleP)[i]? = some [iP ((bG bs i).1 : Int), iP ((bG bs i).2.1 : Int), iP ((bG bs i).2.2 : Int)] := fun i hi => by rw [List.getElem?_map, get_someBale hi]; rfl
  refine fun_ex (nt := 164) (rs := [.cell 4 24, .tmp 5]) Try.func31 rfl rfl rfl (by simp) fun Z w0 => ?_; simp only [initFr, avR, List.map_cons, List.map_nil]
  refine tw ?_; try with_reducible intro QQ hQQ
  (refine callS_ok rfl rfl 74 (by simp (maxSteps := 400000) (disch := first | decide | omega) only [go_sem, ↓reduceIte]; try rfl) (by simp (maxSteps := 400000) (disch := first | decide | omega) only [go_sem, ↓reduceIte]; try rfl) Try.func74 rfl (by decide) ?_); (refine callF_in (nt := 5) (rs := [.tmp 2]) Try.func74 rfl rfl rfl (by simp) fun tm Ds => ?_); simp only [initV, capV, List.map_cons, List.map_nil, List.cons_append, List.nil_append]
  refine tw ?_; try with_reducible intro QQ hQQ
  (refine aw_ret ⟨.inr rfl, _, by (simp (maxSteps := 400000) (disch := first | decide | omega) only [go_sem, ↓reduceIte]; try rfl), by (simp (maxSteps := 400000) (disch := first | decide | omega) only [go_sem, ↓reduceIte]; try rfl), ?_⟩); refine ts ?_; try clear hQQ QQ
  refine tw ?_; try with_reducible intro QQ hQQ
  refine callS_ok rfl rfl 37 (by simp (disch := first | decide | omega) only [go_sem, ↓reduceIte]; try rfl) (by simp (disch := first | decide | omega) only [go_sem, ↓reduceIte]; try rfl) Try.func37 rfl (by decide) (CallF.mono (c_copyN h) ?_); rintro _ _ ⟨rfl, rfl⟩; refine ts ?_; try clear hQQ QQ
  refine tw ?_; try with_reducible intro QQ hQQ
  refine aw_weak (weak_ownF 5 3 1 (by simp (disch := first | decide | omega) only [go_sem, ↓reduceIte]; try rfl)) ?_
  refine aw_weak (weak_restrict [2, 4, 5, 6, 7, 30, 31] [0, 1, 3, 4, 5, 6] 7 (by simp only [go_sem, ↓reduceIte]; rfl)) ?_
  refine aw_loop_ov (ι := { q : List Nat // q.length ≤ bs.length ∧ (∀ i, i < q.length → q.getD i 0 ≤ (bG bs i).1) ∧ ∀ i, i + 1 < q.length → near D (q.getD i 0) (q.getD (i + 1) 0) }) (fun q => [(5, .one (.own 6 q.1.length)), (31, iA q.1.length)]) (fun q => [(6, .arr 3 1 (q.1.map rowN) false), (4, .box [iC (2 * q.1.length - 1)])]) (fun q => bs.length - q.1.length) ⟨[], by simp, by simp, by simp⟩ (by first | rfl | (simp only [go_sem, ↓reduceIte]; first | done | rfl | (simp; try rfl))) ?_
  rintro ⟨q, hq1, hq2, hq3⟩
  simp (disch := decide) only [ov, ovL, AL.get_nil, AL.get_eq, AL.get_ne, Option.getD_some, Option.getD_none]
  by_cases hql : q.length < bs.length
  · obtain ⟨i, hi⟩ : ∃ i, q.length = i := ⟨_, rfl⟩
    rw [hi] at hql hq1 hq2 hq3
    rw [hi]
    have hba := h.ba i hql
    have hg := hgb i hql
    apply aw_merge2 (ι := List Nat × Nat) (fun p => p.1.length = i ∧ (∀ k, k < i → p.1.getD k 0 ≤ (bG bs k).1) ∧ (∀ k, k + 1 < i → near D (p.1.getD k 0) (p.1.getD (k + 1) 0)) ∧ p.2 ≤ (bG bs i).1 ∧ (0 < i → near D (p.1.getD (i - 1) 0) p.2)) (fun p => ⟨[(2, .one (.box 0 0)), (4, .one (.box 1 0)), (5, .one (.own 6 i)), (6, .one (.fn 94 [.box 4, .box 3])), (7, .one (.p (iP (M : Int)))), (30, iA bs.length), (31, iA i), (10, iA p.2)], [(0, .box [.p (.sl (bs.map baleP)), .p (iP (May : Int)), .p (iP (D : Int)), .p (iP (M : Int))]), (1, .box [.own 5 bs.length, .p (iP (May : Int)), .p (iP (D : Int)), .p (iP (M : Int))]), (3, .box [.p (.sl (by_.map fun n => [PV.v (.int .u16 n)]))]), (4, .box [iC (2 * (i + 1) - 1)]), (5, .arr 44 3 (bs.map baleP) false), (6, .arr 3 1 (p.1.map rowN) false)], 7⟩)
    · intro hrest
      by_cases hi0 : i = 0
      · skip
        try clear hF
        have hF := And.intro hll (hg)
        refine twF ?_; try with_reducible intro QQ hQQ
        refine tiF ?_; try clear hQQ QQ
        refine twF ?_; try with_reducible intro QQ hQQ
        refine callS_ok rfl rfl 94 (by simp (disch := first | decide | omega) only [hF, go_sem, ↓reduceIte]; try rfl) (by simp (disch := first | decide | omega) only [hF, go_sem, ↓reduceIte]; try rfl) Try.func94 rfl (by decide) ((c_draw94 (A := 4) (B := 3) (a := 2 * i - 1) (by_ := by_) (by omega) hby 0 ((bG bs i).1 : Int) (by omega) (by omega) (by omega) ?_ ?_ (by decide)).mono ?_)
        · simp (disch := first | decide | omega) only [hF, go_sem, ↓reduceIte]; try rfl
        · simp (disch := first | decide | omega) only [hF, go_sem, ↓reduceIte]; try rfl
        rintro _ _ ⟨r, hr1, hr2, rfl, rfl⟩
        (refine tsF ?_; try clear hQQ QQ)
        refine twF ?_; try with_reducible intro QQ hQQ
        refine tiF ?_; try clear hQQ QQ
        (repeat (first | apply aw_seq | apply aw_skip))
        obtain ⟨r, rfl⟩ : ∃ j : Nat, r = j := ⟨r.toNat, by omega⟩
        refine aw_weak (weak_restrict [2, 4, 5, 6, 7, 30, 31, 10] [0, 1, 3, 4, 5, 6] 7 (by simp only [hF, go_sem, ↓reduceIte]; rfl)) ?_
        rw [show 2 * i - 1 + 1 = 2 * (i + 1) - 1 by omega]
        exact hrest (q, r) ⟨hi, hq2, hq3, by dsimp only; omega, fun h => by omega⟩
      · obtain ⟨old, hold⟩ : ∃ o, q.getD (i - 1) 0 = o := ⟨_, rfl⟩
        have hob := hq2 (i - 1) (by omega)
        have hbo := (h.bd (i - 1)).1
        rw [hold] at hob
        have hgq : (q.map rowN)[i - 1]? = some [iP (old : Int)] := by
          rw [List.getElem?_map, List.getElem?_eq_getElem (by omega), ← hold, List.getD_eq_getElem?_getD, List.getElem?_eq_getElem (by omega)]; rfl
        have hmx : (if (old : Int) - (D : Int) > 0 then (old : Int) - (D : Int) else 0) = ((old - D : Nat) : Int) := by split <;> omega
        have hmn : (if (old : Int) + (D : Int) < ((bG bs i).1 : Int) then (old : Int) + (D : Int) else ((bG bs i).1 : Int)) = ((min (bG bs i).1 (old + D) : Nat) : Int) := by split <;> omega
        have hmxB : (if (old : Int) - (D : Int) > 0 then ((old - D : Nat) : Int) else 0) = ((old - D : Nat) : Int) := by split <;> omega
        have hmnB : (if ((old + D : Nat) : Int) < ((bG bs i).1 : Int) then ((old + D : Nat) : Int) else ((bG bs i).1 : Int)) = ((min (bG bs i).1 (old + D) : Nat) : Int) := by split <;> omega
        have hmnC : (if (old : Int) + (D : Int) < ((bG bs i).1 : Int) then ((old + D : Nat) : Int) else ((bG bs i).1 : Int)) = ((min (bG bs i).1 (old + D) : Nat) : Int) := by split <;> omega
        have hi1 : (i : Int) - 1 = ((i - 1 : Nat) : Int) := by omega
        have hlq : (q.map rowN).length = i := by rw [List.length_map, hi]
        by_cases hlh : old - D ≤ min (bG bs i).1 (old + D)
        · skip
          try clear hF
          have hF := And.intro hll (And.intro hg (And.intro hgq (And.intro hmx (And.intro hmn (And.intro hmxB (And.intro hmnB (And.intro hmnC (And.intro hi1 (hlq)))))))))
          refine twF ?_; try with_reducible intro QQ hQQ
          refine tiF ?_; try clear hQQ QQ
          refine twF ?_; try with_reducible intro QQ hQQ
          refine callS_ok rfl rfl 94 (by simp (disch := first | decide | omega) only [hF, go_sem, ↓reduceIte]; try rfl) (by simp (disch := first | decide | omega) only [hF, go_sem, ↓reduceIte]; try rfl) Try.func94 rfl (by decide) ((c_draw94 (A := 4) (B := 3) (a := 2 * i - 1) (by_ := by_) (by omega) hby 0 ((bG bs i).1 : Int) (by omega) (by omega) (by omega) ?_ ?_ (by decide)).mono ?_)
          · simp (disch := first | decide | omega) only [hF, go_sem, ↓reduceIte]; try rfl
          · simp (disch := first | decide | omega) only [hF, go_sem, ↓reduceIte]; try rfl
          rintro _ _ ⟨r0, hr1, hr2, rfl, rfl⟩
          (refine tsF ?_; try clear hQQ QQ)
          refine twF ?_; try with_reducible intro QQ hQQ
          refine tiF ?_; try clear hQQ QQ
          refine twF ?_; try with_reducible intro QQ hQQ
          refine tiF ?_; try clear hQQ QQ
          refine twF ?_; try with_reducible intro QQ hQQ
          refine callS_ok rfl rfl 94 (by simp (disch := first | decide | omega) only [hF, go_sem, ↓reduceIte]; try rfl) (by simp (disch := first | decide | omega) only [hF, go_sem, ↓reduceIte]; try rfl) Try.func94 rfl (by decide) ((c_draw94 (A := 4) (B := 3) (a := 2 * i - 1 + 1) (by_ := by_) (by omega) hby ((old - D : Nat) : Int) ((min (bG bs i).1 (old + D) : Nat) : Int) (by omega) (by omega) (by omega) ?_ ?_ (by decide)).mono ?_)
          · simp (disch := first | decide | omega) only [hF, go_sem, ↓reduceIte]; try rfl
          · simp (disch := first | decide | omega) only [hF, go_sem, ↓reduceIte]; try rfl
          rintro _ _ ⟨r, hr3, hr4, rfl, rfl⟩
          (refine tsF ?_; try clear hQQ QQ)
          obtain ⟨r, rfl⟩ : ∃ j : Nat, r = j := ⟨r.toNat, by omega⟩
          (repeat (first | apply aw_seq | apply aw_skip))
          refine aw_weak (weak_restrict [2, 4, 5, 6, 7, 30, 31, 10] [0, 1, 3, 4, 5, 6] 7 (by simp only [go_sem, ↓reduceIte]; rfl)) ?_
          rw [show 2 * i - 1 + 1 + 1 = 2 * (i + 1) - 1 by omega]
          exact hrest (q, r) ⟨hi, hq2, hq3, by dsimp only; omega, fun _ => by dsimp only; rw [hold]; unfold near; omega⟩
        · have hlh2 : ¬ ((old - D : Nat) : Int) ≤ ((min (bG bs i).1 (old + D) : Nat) : Int) := by omega
          have hmn2 : (if (D : Int) < ((bG bs i).1 : Int) then (D : Int) else ((bG bs i).1 : Int)) = ((min (bG bs i).1 D : Nat) : Int) := by split <;> omega
          have hz0 := zN_zero q
          try clear hF
          have hF := And.intro hll (And.intro hg (And.intro hgq (And.intro hmx (And.intro hmn (And.intro hmxB (And.intro hmnB (And.intro hmnC (And.intro hi1 (hlq)))))))))
          refine twF ?_; try with_reducible intro QQ hQQ
          refine tiF ?_; try clear hQQ QQ
          refine twF ?_; try with_reducible intro QQ hQQ
          refine callS_ok rfl rfl 94 (by simp (disch := first | decide | omega) only [hF, go_sem, ↓reduceIte]; try rfl) (by simp (disch := first | decide | omega) only [hF, go_sem, ↓reduceIte]; try rfl) Try.func94 rfl (by decide) ((c_draw94 (A := 4) (B := 3) (a := 2 * i - 1) (by_ := by_) (by omega) hby 0 ((bG bs i).1 : Int) (by omega) (by omega) (by omega) ?_ ?_ (by decide)).mono ?_)
          · simp (disch := first | decide | omega) only [hF, go_sem, ↓reduceIte]; try rfl
          · simp (disch := first | decide | omega) only [hF, go_sem, ↓reduceIte]; try rfl
          rintro _ _ ⟨r0, hr1, hr2, rfl, rfl⟩
          (refine tsF ?_; try clear hQQ QQ)
          refine twF ?_; try with_reducible intro QQ hQQ
          refine tiF ?_; try clear hQQ QQ
          refine twF ?_; try with_reducible intro QQ hQQ
          refine tiF ?_; try clear hQQ QQ
          refine twF ?_; try with_reducible intro QQ hQQ
          try clear hF
          have hF := hz0
          refine aw_weak (weak_keep [2, 4, 5, 6, 7, 9, 30, 31, 69, 70] (by simp only [hF, go_sem, ↓reduceIte]; rfl)) ?_
          refine aw_loop_ov (ι := { k : Nat // k ≤ i }) (fun k => [(70, iA k.1)]) (fun k => [(6, .arr 3 1 ((zN q k.1).map rowN) false)]) (fun k => i - k.1) ⟨0, by omega⟩ (by first | rfl | (simp only [hF, go_sem, ↓reduceIte]; first | done | rfl | (simp; try rfl))) ?_
          rintro ⟨k, hk⟩
          simp (disch := decide) only [ov, ovL, AL.get_nil, AL.get_eq, AL.get_ne, Option.getD_some, Option.getD_none]
          by_cases hki : k < i
          · have hzg := zN_get (q := q) (k := k) (by omega)
            have hzl : ((zN q k).map rowN).length = i := by rw [List.length_map, zN_len (by omega), hi]
            have hzs : ((zN q k).map rowN).set k [iP 0] = (zN q (k + 1)).map rowN := by rw [← zN_set (by omega), List.map_set]; rfl
            try clear hF
            have hF := And.intro hzg (And.intro hzl (hzs))
            refine twF ?_; try with_reducible intro QQ hQQ
            refine tiF ?_; try clear hQQ QQ
            refine twF ?_; try with_reducible intro QQ hQQ
            refine ⟨⟨k + 1, by omega⟩, ?_, weak_round ?_ (by first | rfl | (simp only [hF, go_sem, ↓reduceIte]))⟩
            rotate_left
            · simp only [← hzs]
              (simp only [hF, go_sem, ↓reduceIte]; try rfl)
            · simp only; omega
          · have hke : k = i := by omega
            subst hke
            have hrep : zN q k = List.replicate k 0 := by rw [← hi]; exact zN_all q
            try clear hF
            have hF := And.intro hg (hmn2)
            refine twF ?_; try with_reducible intro QQ hQQ
            refine tiF ?_; try clear hQQ QQ
            refine twF ?_; try with_reducible intro QQ hQQ
            refine callS_ok rfl rfl 94 (by simp (disch := first | decide | omega) only [hF, go_sem, ↓reduceIte]; try rfl) (by simp (disch := first | decide | omega) only [hF, go_sem, ↓reduceIte]; try rfl) Try.func94 rfl (by decide) ((c_draw94 (A := 4) (B := 3) (a := 2 * k - 1 + 1) (by_ := by_) (by omega) hby 0 ((min (bG bs k).1 D : Nat) : Int) (by omega) (by omega) (by omega) ?_ ?_ (by decide)).mono ?_)
            · simp (disch := first | decide | omega) only [hF, go_sem, ↓reduceIte]; try rfl
            · simp (disch := first | decide | omega) only [hF, go_sem, ↓reduceIte]; try rfl
            rintro _ _ ⟨r, hr3, hr4, rfl, rfl⟩
            (refine tsF ?_; try clear hQQ QQ)
            obtain ⟨r, rfl⟩ : ∃ j : Nat, r = j := ⟨r.toNat, by omega⟩
            (repeat (first | apply aw_seq | apply aw_skip))
            refine aw_weak (weak_restrict [2, 4, 5, 6, 7, 30, 31, 10] [0, 1, 3, 4, 5, 6] 7 (by simp only [go_sem, ↓reduceIte]; rfl)) ?_
            rw [show 2 * k - 1 + 1 + 1 = 2 * (k + 1) - 1 by omega]
            refine hrest (zN q k, r) ⟨by dsimp only; rw [zN_len (by omega)]; exact hi, fun j hj => by dsimp only; rw [hrep, rep_getD]; exact Nat.zero_le _, fun j hj => by dsimp only; rw [hrep, rep_getD, rep_getD]; unfold near; omega, by dsimp only; omega, fun _ => by dsimp only; rw [hrep, rep_getD]; unfold near; omega⟩
    · rintro ⟨q2, r⟩ ⟨hl2, hc1, hc2, hc3, hc4⟩
      dsimp only at hl2 hc1 hc2 hc3 hc4 ⊢
      refine aw_app (l1 := [_, _, _]) (o := _) (l2 := [_]) 88 90 38 91 rfl rfl ?_
      refine hideO fun QQ hQQ => ?_
      (refine ts ?_; try clear hQQ QQ)
      have hlr : (q2.map rowN).length = i := by rw [List.length_map, hl2]
      refine ⟨rfl, by (simp (disch := first | decide | omega) only [go_sem, ↓reduceIte]; try rfl), 6, 3, 1, 8, [.p (.v (.int .i64 0))], q2.map rowN, [[iP (r : Int)]], .one (.own 7 1), [2, 4, 6, 7, 30, 31], [0, 1, 3, 4, 5, 6], ⟨[(2, .one (.box 0 0)), (4, .one (.box 1 0)), (6, .one (.fn 94 [.box 4, .box 3])), (7, .one (.p (iP (M : Int)))), (30, iA bs.length), (31, iA i)], [(0, .box [.p (.sl (bs.map baleP)), .p (iP (May : Int)), .p (iP (D : Int)), .p (iP (M : Int))]), (1, .box [.own 5 bs.length, .p (iP (May : Int)), .p (iP (D : Int)), .p (iP (M : Int))]), (3, .box [.p (.sl (by_.map fun n => [PV.v (.int .u16 n)]))]), (4, .box [iC (2 * (i + 1) - 1)]), (5, .arr 44 3 (bs.map baleP) false), (6, .arr 3 1 (q2.map rowN) false)], 8⟩, ?_, ?_, ?_, ?_, by decide, by decide, rfl, ?_, ?_, by simp, ?_, ?_, ?_, ?_, ?_, ?_, by decide, ?_, fr_refs rfl, hp_refs rfl, ?_⟩
      · simp (disch := first | decide | omega) only [go_sem, ↓reduceIte]; try rfl
      · simp (disch := first | decide | omega) only [go_sem, ↓reduceIte]; try rfl
      · simp (disch := first | decide | omega) only [go_sem, ↓reduceIte]; try rfl
      · simp (disch := first | decide | omega) only [go_sem, ↓reduceIte]; try rfl
      · intro a b c
        rcases a with _ | a
        · simp at c; subst c; rfl
        · simp at c
      · rw [hlr]
        show (i + 1) * 8 ≤ _
        omega
      · rw [hlr]
        simp (disch := first | decide | omega) only [go_sem, ↓reduceIte]; try rfl
      · simp (disch := first | decide | omega) only [go_sem, ↓reduceIte]; try rfl
      · simp (disch := first | decide | omega) only [go_sem, ↓reduceIte]; try rfl
      · simp (disch := first | decide | omega) only [go_sem, ↓reduceIte]; try rfl
      · intro a row b c ha hb
        rcases Nat.lt_or_ge a (q2.map rowN).length with e | e
        · rw [List.getElem?_append_left e, List.getElem?_map] at ha
          obtain ⟨x, _, rfl⟩ := Option.map_eq_some_iff.1 ha
          rcases b with _ | b
          · simp [rowN] at hb; exact ⟨_, hb.symm⟩
          · simp [rowN] at hb
        · rw [List.getElem?_append_right e] at ha
          have hm := List.mem_of_getElem? ha
          rw [List.mem_singleton] at hm
          subst hm
          rcases b with _ | b
          · simp at hb; exact ⟨_, hb.symm⟩
          · simp at hb
      · simp only [go_sem, ↓reduceIte]; try rfl
      · simp (disch := first | decide | omega) only [go_sem, ↓reduceIte]; try rfl
      have hrr : q2.map rowN ++ [[iP (r : Int)]] = (q2 ++ [r]).map rowN := by simp [rowN]
      rw [hrr, hlr]
      dsimp only [List.length_cons, List.length_nil]
      refine hideO fun QQ hQQ => ?_
      (refine ts ?_; try clear hQQ QQ)
      refine tw ?_; try with_reducible intro QQ hQQ
      have hl3 : (q2 ++ [r]).length = i + 1 := by simp [hl2]
      refine ⟨⟨q2 ++ [r], by rw [hl3]; omega, fun k hk => ?_, fun k hk => ?_⟩, ?_, weak_round ?_ (by first | rfl | (simp only [go_sem, ↓reduceIte]))⟩
      · rw [getD_snoc, hl2]
        rw [hl3] at hk
        by_cases e : k < i
        · rw [if_pos e]; exact hc1 k e
        · have e2 : k = i := by omega
          rw [if_neg e, if_pos e2, e2]; exact hc3
      · rw [getD_snoc, getD_snoc, hl2]
        rw [hl3] at hk
        by_cases e : k + 1 < i
        · rw [if_pos e, if_pos (by omega)]; exact hc2 k e
        · have e2 : k + 1 = i := by omega
          rw [if_neg e, if_pos e2, if_pos (by omega)]
          have := hc4 (by omega)
          rw [show i - 1 = k by omega] at this
          exact this
      · show bs.length - (q2 ++ [r]).length < _
        rw [hl3]; omega
      · simp only [hl3]
        (simp only [go_sem, ↓reduceIte]; try rfl)
  · have hqe : q.length = bs.length := by omega
    rw [hqe]
    have hn1 := h.n1
    try clear hF
    have hF := hll
    refine twF ?_; try with_reducible intro QQ hQQ
    refine tiF ?_; try clear hQQ QQ
    refine twF ?_; try with_reducible intro QQ hQQ
    refine aw_weak (weak_restrict [4, 5, 6, 7, 95, 96] [1, 3, 4, 5, 6] 7 (by simp only [go_sem, ↓reduceIte]; rfl)) ?_
    refine aw_loop_ov (ι := { p : List (Nat × Nat × Nat) × Nat × Nat // p.1.length = bs.length ∧ p.2.1 ≤ bs.length ∧ p.2.2 ≤ 6 ∧ (∀ k, k < bs.length → (bG p.1 k).1 = (bG bs k).1 ∧ (bG p.1 k).2.1 = (bG bs k).2.1 ∧ (bG p.1 k).2.2 ≤ (bG bs k).2.1) ∧ sumN (fun k => costB (bG p.1 k) (q.getD k 0)) p.2.1 + p.2.2 ≤ M }) (fun p => [(7, .one (.p (iP (p.1.2.2 : Int)))), (96, iA p.1.2.1)]) (fun p => [(5, .arr 44 3 (p.1.1.map baleP) false), (4, .box [iC (2 * bs.length - 1 + 3 * p.1.2.1)])]) (fun p => bs.length - p.1.2.1) ⟨(bs, 0, M), rfl, Nat.zero_le _, hM, fun k hk => ⟨rfl, rfl, (h.ba k hk).2.2.2⟩, by simp [sumN]⟩ (by first | rfl | (simp only [go_sem, ↓reduceIte]; first | done | rfl | (simp; try rfl))) ?_
    rintro ⟨⟨bq, i, lf⟩, hb1, hb2, hb3, hb4, hb5⟩
    simp (disch := decide) only [ov, ovL, AL.get_nil, AL.get_eq, AL.get_ne, Option.getD_some, Option.getD_none]
    dsimp only at hb1 hb2 hb3 hb4 hb5 ⊢
    have hlb : (bq.map baleP).length = bs.length := by rw [List.length_map, hb1]
    have hlq : (q.map rowN).length = bs.length := by rw [List.length_map, hqe]
    by_cases hil : i < bs.length
    · obtain ⟨x, hx⟩ : ∃ x, q.getD i 0 = x := ⟨_, rfl⟩
      have hxF := hq2 i (by omega)
      rw [hx] at hxF
      have hba := h.ba i hil
      have hbi := hb4 i hil
      have hgX : (q.map rowN)[i]? = some [iP (x : Int)] := by
        rw [List.getElem?_map, List.getElem?_eq_getElem (by omega), ← hx, List.getD_eq_getElem?_getD, List.getElem?_eq_getElem (by omega)]; rfl
      have hgq : (bq.map baleP)[i]? = some [iP ((bG bs i).1 : Int), iP ((bG bs i).2.1 : Int), iP ((bG bq i).2.2 : Int)] := by
        rw [List.getElem?_map, get_someBale (by omega), ← hbi.1, ← hbi.2.1]; rfl
      generalize hFe : (bG bs i).1 = F at *
      generalize hKe : (bG bs i).2.1 = K at *
      have hmx : (if (x : Int) - ((F - K : Nat) : Int) > 0 then (x : Int) - ((F - K : Nat) : Int) else 0) = ((x - (F - K) : Nat) : Int) := by split <;> omega
      have hmx2 : (if (x : Int) - ((F - K : Nat) : Int) > 0 then ((x - (F - K) : Nat) : Int) else 0) = ((x - (F - K) : Nat) : Int) := by split <;> omega
      have hmx9 : (if (x : Int) - ((F : Int) - (K : Int)) > 0 then (x : Int) - ((F : Int) - (K : Int)) else 0) = ((x - (F - K) : Nat) : Int) := by split <;> omega
      have hmxA : (if (x : Int) - ((F : Int) - (K : Int)) > 0 then ((x - (F - K) : Nat) : Int) else 0) = ((x - (F - K) : Nat) : Int) := by split <;> omega
      have hmn : (if (x : Int) < (K : Int) then (x : Int) else (K : Int)) = ((min K x : Nat) : Int) := by split <;> omega
      try clear hF
      have hF := And.intro hlb (And.intro hlq (And.intro hgX (And.intro hgq (And.intro hmx (And.intro hmx2 (And.intro hmx9 (And.intro hmxA (hmn))))))))
      refine twF ?_; try with_reducible intro QQ hQQ
      refine tiF ?_; try clear hQQ QQ
      refine twF ?_; try with_reducible intro QQ hQQ
      refine callS_ok rfl rfl 94 (by simp (disch := first | decide | omega) only [hF, go_sem, ↓reduceIte]; try rfl) (by simp (disch := first | decide | omega) only [hF, go_sem, ↓reduceIte]; try rfl) Try.func94 rfl (by decide) ((c_draw94 (A := 4) (B := 3) (a := 2 * bs.length - 1 + 3 * i) (by_ := by_) (by omega) hby ((x - (F - K) : Nat) : Int) ((min K x : Nat) : Int) (by omega) (by omega) (by omega) ?_ ?_ (by decide)).mono ?_)
      · simp (disch := first | decide | omega) only [hF, go_sem, ↓reduceIte]; try rfl
      · simp (disch := first | decide | omega) only [hF, go_sem, ↓reduceIte]; try rfl
      rintro _ _ ⟨s0, hs1, hs2, rfl, rfl⟩
      obtain ⟨sn, rfl⟩ : ∃ j : Nat, s0 = j := ⟨s0.toNat, by omega⟩
      (refine tsF ?_; try clear hQQ QQ)
      refine twF ?_; try with_reducible intro QQ hQQ
      refine callS_ok rfl rfl 94 (by simp (disch := first | decide | omega) only [hF, go_sem, ↓reduceIte]; try rfl) (by simp (disch := first | decide | omega) only [hF, go_sem, ↓reduceIte]; try rfl) Try.func94 rfl (by decide) ((c_draw94 (A := 4) (B := 3) (a := 2 * bs.length - 1 + 3 * i + 1) (by_ := by_) (by omega) hby 0 (lf : Int) (by omega) (by omega) (by omega) ?_ ?_ (by decide)).mono ?_)
      · simp (disch := first | decide | omega) only [hF, go_sem, ↓reduceIte]; try rfl
      · simp (disch := first | decide | omega) only [hF, go_sem, ↓reduceIte]; try rfl
      rintro _ _ ⟨k0, hk1, hk2, rfl, rfl⟩
      obtain ⟨kk, rfl⟩ : ∃ j : Nat, k0 = j := ⟨k0.toNat, by omega⟩
      (refine tsF ?_; try clear hQQ QQ)
      have hm3 : (if (sn : Int) - (kk : Int) > 0 then (sn : Int) - (kk : Int) else 0) = ((sn - kk : Nat) : Int) := by split <;> omega
      have hm4 : (if (sn : Int) - (kk : Int) > 0 then ((sn - kk : Nat) : Int) else 0) = ((sn - kk : Nat) : Int) := by split <;> omega
      have hm5 : (if (sn : Int) + (kk : Int) < (K : Int) then (sn : Int) + (kk : Int) else (K : Int)) = ((min K (sn + kk) : Nat) : Int) := by split <;> omega
      have hm6 : (if ((sn + kk : Nat) : Int) < (K : Int) then ((sn + kk : Nat) : Int) else (K : Int)) = ((min K (sn + kk) : Nat) : Int) := by split <;> omega
      have hm6B : (if (sn : Int) + (kk : Int) < (K : Int) then ((sn + kk : Nat) : Int) else (K : Int)) = ((min K (sn + kk) : Nat) : Int) := by split <;> omega
      try clear hF
      have hF := And.intro hlb (And.intro hlq (And.intro hgX (And.intro hgq (And.intro hm3 (And.intro hm4 (And.intro hm5 (And.intro hm6 (hm6B))))))))
      refine twF ?_; try with_reducible intro QQ hQQ
      refine callS_ok rfl rfl 94 (by simp (disch := first | decide | omega) only [hF, go_sem, ↓reduceIte]; try rfl) (by simp (disch := first | decide | omega) only [hF, go_sem, ↓reduceIte]; try rfl) Try.func94 rfl (by decide) ((c_draw94 (A := 4) (B := 3) (a := 2 * bs.length - 1 + 3 * i + 1 + 1) (by_ := by_) (by omega) hby ((sn - kk : Nat) : Int) ((min K (sn + kk) : Nat) : Int) (by omega) (by omega) (by omega) ?_ ?_ (by decide)).mono ?_)
      · simp (disch := first | decide | omega) only [hF, go_sem, ↓reduceIte]; try rfl
      · simp (disch := first | decide | omega) only [hF, go_sem, ↓reduceIte]; try rfl
      rintro _ _ ⟨f0, hf1, hf2, rfl, rfl⟩
      obtain ⟨fd, rfl⟩ : ∃ j : Nat, f0 = j := ⟨f0.toNat, by omega⟩
      (refine tsF ?_; try clear hQQ QQ)
      have hm7 : (if (sn : Int) - (fd : Int) > (fd : Int) - (sn : Int) then (sn : Int) - (fd : Int) else (fd : Int) - (sn : Int)) = ((max (fd - sn) (sn - fd) : Nat) : Int) := by split <;> omega
      have hm8 : (if (sn : Int) - (fd : Int) > (fd : Int) - (sn : Int) then ((sn - fd : Nat) : Int) else ((fd - sn : Nat) : Int)) = ((max (fd - sn) (sn - fd) : Nat) : Int) := by split <;> omega
      have hml : max (fd - sn) (sn - fd) ≤ lf := by omega
      have hcf := cost_found (F := F) (K := K) (W := fd) (w := x) (s := sn) (by omega) (by omega)
      generalize max (fd - sn) (sn - fd) = mx at *
      have hlm : (lf : Int) - (mx : Int) = ((lf - mx : Nat) : Int) := by omega
      have hrw : (bq.map baleP).set i [iP (F : Int), iP (K : Int), iP (fd : Int)] = (bq.set i (F, K, fd)).map baleP := by rw [List.map_set]; rfl
      have hat : 2 * bs.length - 1 + 3 * (i + 1) = 2 * bs.length - 1 + 3 * i + 1 + 1 + 1 := by omega
      try clear hF
      have hF := And.intro hlb (And.intro hlq (And.intro hgX (And.intro hgq (And.intro hm7 (And.intro hm8 (hlm))))))
      refine twF ?_; try with_reducible intro QQ hQQ
      refine ⟨⟨(bq.set i (F, K, fd), i + 1, lf - mx), by simp [hb1], by dsimp only; omega, by dsimp only; omega, fun k hk => ?_, ?_⟩, ?_, weak_round ?_ (by first | rfl | (simp only [go_sem, ↓reduceIte]))⟩
      · dsimp only
        rw [bG_set (by omega)]
        by_cases e : k = i
        · rw [if_pos e, e]
          dsimp only
          omega
        · rw [if_neg e]; exact hb4 k hk
      · dsimp only
        show sumN (fun k => costB (bG (bq.set i (F, K, fd)) k) (q.getD k 0)) i + costB (bG (bq.set i (F, K, fd)) i) (q.getD i 0) + (lf - mx) ≤ M
        rw [bG_set (by omega), if_pos rfl, hx, sumN_congr (g := fun k => costB (bG bq k) (q.getD k 0)) i fun k hk => by rw [bG_set (by omega), if_neg (by omega)]]
        omega
      · show bs.length - (i + 1) < bs.length - i
        omega
      · simp only [hat, ← hrw]
        (simp only [go_sem, ↓reduceIte]; try rfl)
    · have hie : i = bs.length := by omega
      subst hie
      have htb : (bq.map baleP).take bs.length = bq.map baleP := List.take_of_length_le (by omega)
      have htq : (q.map rowN).take bs.length = q.map rowN := List.take_of_length_le (by omega)
      refine aw_weak (weak_share 5 (by rfl)) ?_
      refine aw_weak (weak_share 6 (by rfl)) ?_
      try clear hF
      have hF := And.intro hlb (And.intro hlq (And.intro htb (htq)))
      refine twF ?_; try with_reducible intro QQ hQQ
      refine tiF ?_; try clear hQQ QQ
      refine twF ?_; try with_reducible intro QQ hQQ
      refine aw_weak (weak_restrict [4, 5] [1, 5, 6] 7 (by simp only [go_sem, ↓reduceIte]; rfl)) ?_
      refine aw_ret ⟨.inr rfl, _, ?_, bq, q, hb1, hqe, fun k hk => ⟨(hb4 k hk).1, (hb4 k hk).2.1, (hb4 k hk).2.2, hq2 k (by omega)⟩, fun k hk => hq3 k (by omega), by omega, rfl⟩
      simp only [resA, res1, go_sem, ↓reduceIte]
      try simp only [or_self, or_true, true_or, if_true, htb, htq]
      try rfl
end
end Go.Proofs.Ytgdhdikeicgndaa
