/- tally: whether a call can be right. -/
import Derived.Test.YtejbglbiefpagaaTvJ
set_option linter.all false
namespace Go.Proofs.Ytejbglbiefpagaa
open Go Go.RowKit Go.Sh Go.Pv
set_option maxHeartbeats 8000000
set_option maxRecDepth 20000
attribute [local go_sem] spanR row4
section
variable {n most : Int} {strays : List (Int × Int)} {calls : List (Int × Int × Int × Int)}
theorem is_box4 {F : Nat → Nat → Nat → Int} {g : FuncId} {i1 i2 i3 i4 : Int} {b : Bool} (hS : FunS Try.prog g [.one (.box 0 0), .one (.box 2 0)] ((2, .box [.p (iP i1), .p (iP i2), .p (iP i3), .p (iP i4)]) :: ydH n most strays calls (keepI F) Try.prog) 3 (.one (.one (.v (.bool b)))))
    {hp : List (Nat × Obj')} {nx c : Nat} (hc : AL.get hp c = some (.box [.p (iP i1), .p (iP i2), .p (iP i3), .p (iP i4)])) (hcl : c < nx) (K : Kx) (hpX : List (Nat × Obj')) (nxX : Nat) (fr : List (Nat × AV)) (hK : K.P = Try.prog) (h3 : AL.get hpX (nx + 1 + 1 + 1) = some (.box (ydC n most strays calls (nx + 1 + 1))))
    (h2 : AL.get hpX (nx + 1 + 1) = some (.memo Try.prog 135 (keepI F))) (hx : ∀ id o, id < nx → AL.get hp id = some o → AL.get hpX id = some o) :
    CallF K g ([.one (.box (nx + 1 + 1 + 1) 0)] ++ [CC.box c].map capV) ⟨fr, hpX, nxX⟩ fun st' av => st' = ⟨fr, hpX, nxX⟩ ∧ av = .one (.p (.v (.bool b))) :=
  callF_S (hp := (2, .box [.p (iP i1), .p (iP i2), .p (iP i3), .p (iP i4)]) :: ydH n most strays calls (keepI F) Try.prog) (avs0 := [.one (.box 0 0), .one (.box 2 0)]) (nx := 3) [nx + 1 + 1 + 1, nx + 1 + 1, c] (by rw [hK]; exact hS) rfl (show _ ∧ _ ∧ _ ∧ True from ⟨hx c _ hcl hc, h2, h3, trivial⟩) (by simp; omega) (by simp) rfl
theorem s_is69 (F : Nat → Nat → Nat → Int) (hn : -1000 ≤ n ∧ n ≤ 1000) (c : Int × Int × Int × Int) : FunS Try.prog 69 [.one (.box 0 0), .one (.box 2 0)] ((2, .box [.p (iP c.1), .p (iP c.2.1), .p (iP c.2.2.1), .p (iP c.2.2.2)]) :: ydH n most strays calls (keepI F) Try.prog) 3 (.one (.one (.v (.bool (isCallB n c))))) := by
  have h := ok_isCall n most strays calls c hn
  simp only [ydP, row4] at h
  unfold ydH ydC
  refine funS_ok (nt := 7) (rs := [.tmp 3]) Try.func69 rfl rfl rfl (by simp) fun Z w0 cap pan dk tm => ?_; simp only [initV, pins, pinOf, List.map_cons, List.map_nil]
  refine tw ?_; try with_reducible intro QQ hQQ
  ((refine cO 70 rfl rfl rfl (h) Try.func70 rfl ?_); refine tu ?_; try clear hQQ QQ); refine tw ?_; try with_reducible intro QQ hQQ
  (refine aw_ret ⟨.inr rfl, (by simp (maxSteps := 400000) (disch := first | decide | omega) only [go_sem, ↓reduceIte]; try rfl), (by simp (maxSteps := 400000) (disch := first | decide | omega) only [go_sem, ↓reduceIte]; try rfl), (by simp only [List.mem_cons, List.mem_nil_iff, forall_eq_or_imp, forall_eq, false_imp_iff, implies_true, or_false, and_true]; simp (maxSteps := 400000) (disch := first | decide | omega) only [go_sem, ↓reduceIte]; try exact ⟨rfl, rfl⟩)⟩)
theorem cnt_all {N : Nat} (hT : TOK N most strays calls) (c : Int × Int × Int × Int) (hc : isCallB N c = true) : ∃ v, FunOK Try.prog 71 [.one (ydP N most strays calls), .agg (row4 c)] (.one (.one (.v v))) ∧
    (canB (tabF N most strays calls (2 ^ calls.length - 1)) 11 = true → FunS Try.prog 51 [.one (.box 0 0), .one (.p (.v v))] (ydH N most strays calls (keepI (tabF N most strays calls)) Try.prog) 2 (spanR (tabF N most strays calls (2 ^ calls.length - 1)) (cntA N c) (cntZ N c))) := by
  have hcc := call_of hc
  have h5 := hT.n5
  rcases hcc.1 with hk | ⟨hk | hk, hk2⟩
  · refine ⟨_, ok_counts2 N most strays calls c hk, fun hcan => ?_⟩
    have hA : cntA N c = N := by unfold cntA; rw [if_neg (by omega), if_neg (by omega)]
    have hZ : cntZ N c = 0 := by unfold cntZ; rw [if_neg (by omega), if_neg (by omega)]
    rw [hA, hZ]
    exact s_of0 hT hcan 0 N (by omega) (by omega) 0 N rfl rfl
  · refine ⟨_, ok_counts0 N most strays calls c (by omega) hk, fun hcan => ?_⟩
    have hA : cntA N c = c.2.1.toNat + 1 := by unfold cntA; rw [if_pos hk]
    have hZ : cntZ N c = c.2.1.toNat := by unfold cntZ; rw [if_pos hk]
    rw [hA, hZ]
    exact s_of0 hT hcan _ _ (by omega) (by omega) _ _ (by omega) (by omega)
  · refine ⟨_, ok_counts1 N most strays calls c (by omega) hk, fun hcan => ?_⟩
    have hA : cntA N c = posM N (c.2.1.toNat + 1) := by unfold cntA; rw [if_neg (by omega), if_pos hk]
    have hZ : cntZ N c = posM N c.2.1.toNat := by unfold cntZ; rw [if_neg (by omega), if_pos hk]
    rw [hA, hZ]
    exact s_of1 hT hcan _ _ (by omega) (by omega) _ _ (by omega) (by omega)
/-- Whether a call can be right, by the span of what it counts. -/
def fitsV (c : Int × Int × Int × Int) (lo hi : Int) : Int := if c.2.2.1 ≤ lo ∧ hi ≤ c.2.2.2 then 2 else if hi < c.2.2.1 ∨ lo > c.2.2.2 then 0 else 1
def fitsS (n most : Int) (strays : List (Int × Int)) (calls : List (Int × Int × Int × Int)) (c : Int × Int × Int × Int) : Int :=
  fitsV c (-(tabE n most strays calls (cntZ n.toNat c) (cntA n.toNat c))) (tabE n most strays calls (cntA n.toNat c) (cntZ n.toNat c))
theorem ok_Fits (c : Int × Int × Int × Int) : FunOK Try.prog 22 [tyR n most strays calls, .agg (row4 c)] (ansN (whyE n most strays calls (isCallB n c)) (fitsS n most strays calls c)) := by
  refine fun_exp (l := [_]) (od := _) (nt := 47) (t := 8) (eb := 2) (rs := [.tmp 4, .cell 5 32]) ans68 Try.func22 rfl rfl rfl (by simp) rfl rfl rfl Try.func68 rfl (by decide) fun Z w0 => ?_; simp only [initFr, avR, List.map_cons, List.map_nil]
  simp only [tyR, row4, List.map_cons, List.map_nil]
  refine tw ?_; try with_reducible intro QQ hQQ
  refine ⟨rfl, ?_⟩
  (refine ts ?_; try clear hQQ QQ)
  refine tw ?_; try with_reducible intro QQ hQQ
  cases hv : validB n most strays calls
  · have hwhy : whyE n most strays calls (isCallB n c) = 1 := by simp [whyE, hv]
    have hb := hwhy
    refine callS_ok rfl rfl 48 (by simp (disch := first | decide | omega) only [go_sem, ↓reduceIte]; try rfl) (by simp (disch := first | decide | omega) only [go_sem, ↓reduceIte]; try rfl) Try.func48 rfl (by decide) (CallF.mono (c_open_arg hv Try.func69 rfl (by decide) ?_) fun _ _ h => False.elim h)
    exact ⟨1, 0, rfl, by simp (disch := first | decide | omega) only [go_sem, ↓reduceIte]; try rfl, by simp (disch := first | decide | omega) only [go_sem, ↓reduceIte]; try rfl, by simp (disch := first | decide | omega) only [resA, res1, ansR, ansN, hwhy, hb, go_sem, ↓reduceIte]; try rfl⟩
  obtain ⟨hnn, hT⟩ := tok_of hv
  have hn5 := valid_n hv
  generalize n.toNat = N at hnn hT
  subst hnn
  have hIS := s_is69 (most := most) (strays := strays) (calls := calls) (tabF N most strays calls) (n := N) (by omega) c
  cases hb : isCallB N c
  · have hwhy : whyE N most strays calls false = 2 := by simp [whyE, hv]
    rw [hb] at hIS
    refine callS_ok rfl rfl 48 (by simp (disch := first | decide | omega) only [go_sem, ↓reduceIte]; try rfl) (by simp (disch := first | decide | omega) only [go_sem, ↓reduceIte]; try rfl) Try.func48 rfl (by decide) (CallF.mono (c_open_ran hT Try.func69 rfl (by decide) ?_ ?_) fun _ _ h => False.elim h); (exact is_box4 (c := 1) hIS (by rfl) (by first | decide | (dsimp only; omega)))
    exact ⟨2, 0, rfl, by simp (disch := first | decide | omega) only [go_sem, ↓reduceIte]; try rfl, by simp (disch := first | decide | omega) only [go_sem, ↓reduceIte]; try rfl, by simp (disch := first | decide | omega) only [resA, res1, ansR, ansN, hwhy, hb, go_sem, ↓reduceIte]; try rfl⟩
  rw [hb] at hIS
  obtain ⟨v, hcnt, hof⟩ := cnt_all hT c hb
  simp only [ydP, row4] at hcnt
  have hcd := call_of hb
  cases hc : canB (tabF N most strays calls (2 ^ calls.length - 1)) 11
  · have hwhy : whyE N most strays calls true = 10 := by simp [whyE, hv, hc]
    refine callS_ok rfl rfl 48 (by simp (disch := first | decide | omega) only [go_sem, ↓reduceIte]; try rfl) (by simp (disch := first | decide | omega) only [go_sem, ↓reduceIte]; try rfl) Try.func48 rfl (by decide) (CallF.mono (c_open_ok hT Try.func69 rfl (by decide) ?_) ?_); (exact is_box4 (c := 1) hIS (by rfl) (by first | decide | (dsimp only; omega))); rintro _ _ ⟨rfl, rfl⟩; refine ts ?_; try clear hQQ QQ
    refine tw ?_; try with_reducible intro QQ hQQ
    (refine cO 71 rfl rfl rfl (hcnt) Try.func71 rfl ?_); refine ts ?_; try clear hQQ QQ
    refine callO_SX [6, 5] (sx_of hT hc _) rfl rfl (by simp (disch := first | decide | omega) only [go_sem, ↓reduceIte]; try rfl) (by simp (disch := first | decide | omega) only [go_sem, ↓reduceIte]; try rfl) Try.func51 rfl (by decide) (by rfl) (by repeat' (first | trivial | apply And.intro | (simp (disch := first | decide | omega) only [go_sem, ↓reduceIte]; first | done | rfl))) (by decide) (by decide) (by first | rfl | (simp (disch := first | decide | omega) only [go_sem, ↓reduceIte]; try rfl)) ?_
    exact ⟨10, 0, rfl, by simp (disch := first | decide | omega) only [go_sem, ↓reduceIte]; try rfl, by simp (disch := first | decide | omega) only [go_sem, ↓reduceIte]; try rfl, by simp (disch := first | decide | omega) only [resA, res1, ansR, ansN, hwhy, hb, go_sem, ↓reduceIte]; try rfl⟩
  · have hwhy : whyE N most strays calls true = 0 := by simp [whyE, hv, hc]
    have hof := hof hc
    have hlt := cnt_lt hT.n1 hT.n5 hb
    have hbd := tab_bd hT (2 ^ calls.length - 1) (cntZ N c) (cntA N c) hlt.2 hlt.1
    have hans0 : fitsS N most strays calls c = fitsV c (-(tabF N most strays calls (2 ^ calls.length - 1) (cntZ N c) (cntA N c))) (tabF N most strays calls (2 ^ calls.length - 1) (cntA N c) (cntZ N c)) := rfl
    unfold fitsV at hans0
    refine callS_ok rfl rfl 48 (by simp (disch := first | decide | omega) only [go_sem, ↓reduceIte]; try rfl) (by simp (disch := first | decide | omega) only [go_sem, ↓reduceIte]; try rfl) Try.func48 rfl (by decide) (CallF.mono (c_open_ok hT Try.func69 rfl (by decide) ?_) ?_); (exact is_box4 (c := 1) hIS (by rfl) (by first | decide | (dsimp only; omega))); rintro _ _ ⟨rfl, rfl⟩; refine ts ?_; try clear hQQ QQ
    refine tw ?_; try with_reducible intro QQ hQQ
    (refine cO 71 rfl rfl rfl (hcnt) Try.func71 rfl ?_); refine ts ?_; try clear hQQ QQ
    (refine callO_S [6, 5] (hof) rfl rfl (by simp (disch := first | decide | omega) only [go_sem, ↓reduceIte]; try rfl) (by simp (disch := first | decide | omega) only [go_sem, ↓reduceIte]; try rfl) Try.func51 rfl (by decide) (by rfl) (by repeat' (first | trivial | apply And.intro | (simp (disch := first | decide | omega) only [go_sem, ↓reduceIte]; first | done | rfl))) (by decide) (by decide) (by first | rfl | (simp (disch := first | decide | omega) only [go_sem, ↓reduceIte]; try rfl)) ?_); refine ts ?_; try clear hQQ QQ
    by_cases g1 : c.2.2.1 ≤ -(tabF N most strays calls (2 ^ calls.length - 1) (cntZ N c) (cntA N c))
    · by_cases g2 : tabF N most strays calls (2 ^ calls.length - 1) (cntA N c) (cntZ N c) ≤ c.2.2.2
      · have hans : fitsS N most strays calls c = 2 := by rw [hans0, if_pos ⟨g1, g2⟩]
        refine tw ?_; try with_reducible intro QQ hQQ
        refine ti ?_; try clear hQQ QQ
        refine tw ?_; try with_reducible intro QQ hQQ
        (refine aw_ret ⟨.inr rfl, by simp (disch := first | decide | omega) only [go_sem, ↓reduceIte]; try rfl, by simp (disch := first | decide | omega) only [resA, res1, ansR, ansN, hb, hwhy, hans, go_sem, ↓reduceIte]; try rfl⟩)
      · by_cases g4 : c.2.2.2 < -(tabF N most strays calls (2 ^ calls.length - 1) (cntZ N c) (cntA N c))
        · by_cases g3 : tabF N most strays calls (2 ^ calls.length - 1) (cntA N c) (cntZ N c) < c.2.2.1
          · exfalso; omega
          · have hans : fitsS N most strays calls c = 0 := by rw [hans0, if_neg (by omega), if_pos (.inr g4)]
            refine tw ?_; try with_reducible intro QQ hQQ
            refine ti ?_; try clear hQQ QQ
            refine tw ?_; try with_reducible intro QQ hQQ
            refine ti ?_; try clear hQQ QQ
            refine tw ?_; try with_reducible intro QQ hQQ
            (refine aw_ret ⟨.inr rfl, by simp (disch := first | decide | omega) only [go_sem, ↓reduceIte]; try rfl, by simp (disch := first | decide | omega) only [resA, res1, ansR, ansN, hb, hwhy, hans, go_sem, ↓reduceIte]; try rfl⟩)
        · by_cases g3 : tabF N most strays calls (2 ^ calls.length - 1) (cntA N c) (cntZ N c) < c.2.2.1
          · exfalso; omega
          · have hans : fitsS N most strays calls c = 1 := by rw [hans0, if_neg (by omega), if_neg (by omega)]
            refine tw ?_; try with_reducible intro QQ hQQ
            refine ti ?_; try clear hQQ QQ
            refine tw ?_; try with_reducible intro QQ hQQ
            refine ti ?_; try clear hQQ QQ
            refine tw ?_; try with_reducible intro QQ hQQ
            (refine aw_ret ⟨.inr rfl, by simp (disch := first | decide | omega) only [go_sem, ↓reduceIte]; try rfl, by simp (disch := first | decide | omega) only [resA, res1, ansR, ansN, hb, hwhy, hans, go_sem, ↓reduceIte]; try rfl⟩)
    · by_cases g3 : tabF N most strays calls (2 ^ calls.length - 1) (cntA N c) (cntZ N c) < c.2.2.1
      · have hans : fitsS N most strays calls c = 0 := by rw [hans0, if_neg (by omega), if_pos (.inl g3)]
        refine tw ?_; try with_reducible intro QQ hQQ
        refine ti ?_; try clear hQQ QQ
        refine tw ?_; try with_reducible intro QQ hQQ
        refine ti ?_; try clear hQQ QQ
        refine tw ?_; try with_reducible intro QQ hQQ
        (refine aw_ret ⟨.inr rfl, by simp (disch := first | decide | omega) only [go_sem, ↓reduceIte]; try rfl, by simp (disch := first | decide | omega) only [resA, res1, ansR, ansN, hb, hwhy, hans, go_sem, ↓reduceIte]; try rfl⟩)
      · by_cases g4 : c.2.2.2 < -(tabF N most strays calls (2 ^ calls.length - 1) (cntZ N c) (cntA N c))
        · exfalso; omega
        · have hans : fitsS N most strays calls c = 1 := by rw [hans0, if_neg (by omega), if_neg (by omega)]
          refine tw ?_; try with_reducible intro QQ hQQ
          refine ti ?_; try clear hQQ QQ
          refine tw ?_; try with_reducible intro QQ hQQ
          refine ti ?_; try clear hQQ QQ
          refine tw ?_; try with_reducible intro QQ hQQ
          (refine aw_ret ⟨.inr rfl, by simp (disch := first | decide | omega) only [go_sem, ↓reduceIte]; try rfl, by simp (disch := first | decide | omega) only [resA, res1, ansR, ansN, hb, hwhy, hans, go_sem, ↓reduceIte]; try rfl⟩)
end
end Go.Proofs.Ytejbglbiefpagaa
