/- tally: spans that are told, further ones. -/
import Derived.Test.YtejbglbiefpagaaTvI
set_option linter.all false
namespace Go.Proofs.Ytejbglbiefpagaa
open Go Go.RowKit Go.Sh Go.Pv
set_option maxHeartbeats 8000000
set_option maxRecDepth 20000
attribute [local go_sem] spanR row4
section
variable {n most : Int} {strays : List (Int × Int)} {calls : List (Int × Int × Int × Int)}
theorem s_is56 (F : Nat → Nat → Nat → Int) (hn : -1000 ≤ n ∧ n ≤ 1000) (i : Int) : FunS Try.prog 56 [.one (.box 0 0), .one (.box 2 0)] ((2, .box [.p (iP i)]) :: ydH n most strays calls (keepI F) Try.prog) 3 (.one (.one (.v (.bool (inB i 0 (n - 1)))))) := by
  have h := ok_isShearer n most strays calls i hn
  simp only [ydP] at h
  unfold ydH ydC
  refine funS_ok (nt := 7) (rs := [.tmp 3]) Try.func56 rfl rfl rfl (by simp) fun Z w0 cap pan dk tm => ?_; simp only [initV, pins, pinOf, List.map_cons, List.map_nil]
  refine tw ?_; try with_reducible intro QQ hQQ
  ((refine cO 50 rfl rfl rfl (h) Try.func50 rfl ?_); refine tu ?_; try clear hQQ QQ); refine tw ?_; try with_reducible intro QQ hQQ
  (refine aw_ret ⟨.inr rfl, (by simp (maxSteps := 400000) (disch := first | decide | omega) only [go_sem, ↓reduceIte]; try rfl), (by simp (maxSteps := 400000) (disch := first | decide | omega) only [go_sem, ↓reduceIte]; try rfl), (by simp only [List.mem_cons, List.mem_nil_iff, forall_eq_or_imp, forall_eq, false_imp_iff, implies_true, or_false, and_true]; simp (maxSteps := 400000) (disch := first | decide | omega) only [go_sem, ↓reduceIte]; try exact ⟨rfl, rfl⟩)⟩)
theorem s_is59 (F : Nat → Nat → Nat → Int) (hn : -1000 ≤ n ∧ n ≤ 1000) (i : Int) : FunS Try.prog 59 [.one (.box 0 0), .one (.box 2 0)] ((2, .box [.p (iP i)]) :: ydH n most strays calls (keepI F) Try.prog) 3 (.one (.one (.v (.bool (inB i 0 (n - 2)))))) := by
  have h := ok_within i 0 (n - 2)
  unfold ydH ydC
  refine funS_ok (nt := 12) (rs := [.tmp 3]) Try.func59 rfl rfl rfl (by simp) fun Z w0 cap pan dk tm => ?_; simp only [initV, pins, pinOf, List.map_cons, List.map_nil]
  refine tw ?_; try with_reducible intro QQ hQQ
  (refine cD 60 rfl rfl rfl (h) Try.func60 rfl ?_); refine td ?_; try clear hQQ QQ
  refine tw ?_; try with_reducible intro QQ hQQ
  (refine aw_ret ⟨.inr rfl, (by simp (maxSteps := 400000) (disch := first | decide | omega) only [go_sem, ↓reduceIte]; try rfl), (by simp (maxSteps := 400000) (disch := first | decide | omega) only [go_sem, ↓reduceIte]; try rfl), (by simp only [List.mem_cons, List.mem_nil_iff, forall_eq_or_imp, forall_eq, false_imp_iff, implies_true, or_false, and_true]; simp (maxSteps := 400000) (disch := first | decide | omega) only [go_sem, ↓reduceIte]; try exact ⟨rfl, rfl⟩)⟩)
def penS (n most : Int) (strays : List (Int × Int)) (calls : List (Int × Int × Int × Int)) (i : Int) : Int × Int :=
  (-(tabE n most strays calls (posM n.toNat i.toNat) (posM n.toNat (i.toNat + 1))), tabE n most strays calls (posM n.toNat (i.toNat + 1)) (posM n.toNat i.toNat))
theorem ok_Pen (i : Int) : FunOK Try.prog 16 [tyR n most strays calls, .one (iP i)] (ansR (whyE n most strays calls (inB i 0 (n - 1))) (penS n most strays calls i)) := by
  refine fun_exp (l := [_]) (od := _) (nt := 17) (t := 6) (eb := 3) (rs := [.cell 4 27, .cell 5 32]) ans55 Try.func16 rfl rfl rfl (by simp) rfl rfl rfl Try.func55 rfl (by decide) fun Z w0 => ?_; simp only [initFr, avR, List.map_cons, List.map_nil]
  simp only [tyR, List.map_cons, List.map_nil]
  refine tw ?_; try with_reducible intro QQ hQQ
  refine ⟨rfl, ?_⟩
  (refine ts ?_; try clear hQQ QQ)
  refine tw ?_; try with_reducible intro QQ hQQ
  cases hv : validB n most strays calls
  · have hwhy : whyE n most strays calls (inB i 0 (n - 1)) = 1 := by simp [whyE, hv]
    have hb := hwhy
    refine callD_FX rfl rfl (by simp (disch := first | decide | omega) only [go_sem, ↓reduceIte]; try rfl) (by simp (disch := first | decide | omega) only [go_sem, ↓reduceIte]; try rfl) Try.func48 rfl (by decide) ?_ ?_; rotate_left; ((repeat (first | refine evDead_skip (by rfl) ?_ | (refine evDead_step (by rfl) (by simp (maxSteps := 400000) (disch := first | decide | omega) only [go_sem, ↓reduceIte]; try rfl) (by simp (maxSteps := 400000) (disch := first | decide | omega) only [go_sem, ↓reduceIte]; try rfl) ?_; simp (maxSteps := 400000) (disch := first | decide | omega) only [go_sem, ↓reduceIte]))); (try (show okDraw _ _ = true)); kernel_rfl); intro fr hk; refine c_open_arg hv Try.func56 rfl (by decide) ?_
    (have k6 := hk 6 (by rfl); have k4 := hk 4 (by rfl); have k5 := hk 5 (by rfl); simp (disch := first | decide | omega) only [go_sem, ↓reduceIte] at k6 k4 k5; exact ⟨1, 0, rfl, k6, by simp (disch := first | decide | omega) only [go_sem, ↓reduceIte]; try rfl, by simp (disch := first | decide | omega) only [k4, k5, hwhy, hb, resA, res1, ansR, ansN, go_sem, ↓reduceIte]; try rfl⟩)
  obtain ⟨hnn, hT⟩ := tok_of hv
  have hn5 := valid_n hv
  generalize n.toNat = N at hnn hT
  subst hnn
  have hIS := s_is56 (most := most) (strays := strays) (calls := calls) (tabF N most strays calls) (n := N) (by omega) i
  cases hb : inB i 0 (N - 1)
  · have hwhy : whyE N most strays calls false = 2 := by simp [whyE, hv]
    rw [hb] at hIS
    refine callD_FX rfl rfl (by simp (disch := first | decide | omega) only [go_sem, ↓reduceIte]; try rfl) (by simp (disch := first | decide | omega) only [go_sem, ↓reduceIte]; try rfl) Try.func48 rfl (by decide) ?_ ?_; rotate_left; ((repeat (first | refine evDead_skip (by rfl) ?_ | (refine evDead_step (by rfl) (by simp (maxSteps := 400000) (disch := first | decide | omega) only [go_sem, ↓reduceIte]; try rfl) (by simp (maxSteps := 400000) (disch := first | decide | omega) only [go_sem, ↓reduceIte]; try rfl) ?_; simp (maxSteps := 400000) (disch := first | decide | omega) only [go_sem, ↓reduceIte]))); (try (show okDraw _ _ = true)); kernel_rfl); intro fr hk; refine c_open_ran hT Try.func56 rfl (by decide) ?_ ?_; (exact is_box1 (c := 1) hIS (by rfl) (by first | decide | (dsimp only; omega)))
    (have k6 := hk 6 (by rfl); have k4 := hk 4 (by rfl); have k5 := hk 5 (by rfl); simp (disch := first | decide | omega) only [go_sem, ↓reduceIte] at k6 k4 k5; exact ⟨2, 0, rfl, k6, by simp (disch := first | decide | omega) only [go_sem, ↓reduceIte]; try rfl, by simp (disch := first | decide | omega) only [k4, k5, hwhy, hb, resA, res1, ansR, ansN, go_sem, ↓reduceIte]; try rfl⟩)
  rw [hb] at hIS
  have hi : 0 ≤ i ∧ i ≤ N - 1 := by simpa [inB] using hb
  obtain ⟨k, rfl⟩ : ∃ k : Nat, i = k := ⟨i.toNat, by omega⟩
  cases hc : canB (tabF N most strays calls (2 ^ calls.length - 1)) 11
  · have hwhy : whyE N most strays calls true = 10 := by simp [whyE, hv, hc]
    refine callD_F [7, 6] ?_ ?_ 8 rfl rfl (by simp (disch := first | decide | omega) only [go_sem, ↓reduceIte]; try rfl) (by simp (disch := first | decide | omega) only [go_sem, ↓reduceIte]; try rfl) Try.func48 rfl (by decide) ?_ (by dsimp only; omega) (by decide) ?_ ?_; rotate_left 3; (intro fr hk; refine c_open_ok hT Try.func56 rfl (by decide) ?_; exact is_box1 (c := 1) hIS (by rfl) (by first | decide | (dsimp only; omega))); rotate_left; (intro id hid; simp only [List.mem_cons, List.mem_nil_iff, or_false, not_or] at hid; obtain ⟨_, _⟩ := hid; simp (disch := first | decide | omega) only [go_sem, ↓reduceIte]); refine td ?_; try clear hQQ QQ
    refine callD_SX [7, 6] (sx_of hT hc _) rfl rfl (by simp (disch := first | decide | omega) only [go_sem, ↓reduceIte]; try rfl) (by simp (disch := first | decide | omega) only [go_sem, ↓reduceIte]; try rfl) Try.func51 rfl (by decide) (by rfl) (by repeat' (first | trivial | apply And.intro | (simp (disch := first | decide | omega) only [go_sem, ↓reduceIte]; first | done | rfl))) (by decide) (by decide) (by first | rfl | (simp (disch := first | decide | omega) only [go_sem, ↓reduceIte]; try rfl)) ?_ ?_; rotate_left; ((repeat (first | refine evDead_skip (by rfl) ?_ | (refine evDead_step (by rfl) (by simp (maxSteps := 400000) (disch := first | decide | omega) only [go_sem, ↓reduceIte]; try rfl) (by simp (maxSteps := 400000) (disch := first | decide | omega) only [go_sem, ↓reduceIte]; try rfl) ?_; simp (maxSteps := 400000) (disch := first | decide | omega) only [go_sem, ↓reduceIte]))); (try (show okDraw _ _ = true)); kernel_rfl); intro fr hk
    (have k6 := hk 6 (by rfl); have k4 := hk 4 (by rfl); have k5 := hk 5 (by rfl); simp (disch := first | decide | omega) only [go_sem, ↓reduceIte] at k6 k4 k5; exact ⟨10, 0, rfl, k6, by simp (disch := first | decide | omega) only [go_sem, ↓reduceIte]; try rfl, by simp (disch := first | decide | omega) only [k4, k5, hwhy, hb, resA, res1, ansR, ansN, go_sem, ↓reduceIte]; try rfl⟩)
  · have hwhy : whyE N most strays calls true = 0 := by simp [whyE, hv, hc]
    have hans : penS N most strays calls k = (-(tabF N most strays calls (2 ^ calls.length - 1) (posM N k) (posM N (k + 1))), tabF N most strays calls (2 ^ calls.length - 1) (posM N (k + 1)) (posM N k)) := rfl
    refine callD_F [7, 6] ?_ ?_ 8 rfl rfl (by simp (disch := first | decide | omega) only [go_sem, ↓reduceIte]; try rfl) (by simp (disch := first | decide | omega) only [go_sem, ↓reduceIte]; try rfl) Try.func48 rfl (by decide) ?_ (by dsimp only; omega) (by decide) ?_ ?_; rotate_left 3; (intro fr hk; refine c_open_ok hT Try.func56 rfl (by decide) ?_; exact is_box1 (c := 1) hIS (by rfl) (by first | decide | (dsimp only; omega))); rotate_left; (intro id hid; simp only [List.mem_cons, List.mem_nil_iff, or_false, not_or] at hid; obtain ⟨_, _⟩ := hid; simp (disch := first | decide | omega) only [go_sem, ↓reduceIte]); refine td ?_; try clear hQQ QQ
    (refine callD_S [7, 6] (s_of1 hT hc k (k + 1) (by omega) (by omega) k (k + 1) rfl (by push_cast; rfl)) rfl rfl (by simp (disch := first | decide | omega) only [go_sem, ↓reduceIte]; try rfl) (by simp (disch := first | decide | omega) only [go_sem, ↓reduceIte]; try rfl) Try.func51 rfl (by decide) (by rfl) (by repeat' (first | trivial | apply And.intro | (simp (disch := first | decide | omega) only [go_sem, ↓reduceIte]; first | done | rfl))) (by decide) (by decide) (by first | rfl | (simp (disch := first | decide | omega) only [go_sem, ↓reduceIte]; try rfl)) ?_); refine td ?_; try clear hQQ QQ
    refine tw ?_; try with_reducible intro QQ hQQ
    (refine aw_ret ⟨.inr rfl, by simp (disch := first | decide | omega) only [go_sem, ↓reduceIte]; try rfl, by simp (disch := first | decide | omega) only [resA, res1, ansR, ansN, hb, hwhy, hans, go_sem, ↓reduceIte]; try rfl⟩)
def strayS (n most : Int) (strays : List (Int × Int)) (calls : List (Int × Int × Int × Int)) (i : Int) : Int × Int :=
  (-(tabE n most strays calls (posM n.toNat (i.toNat + 1)) (i.toNat + 1)), tabE n most strays calls (i.toNat + 1) (posM n.toNat (i.toNat + 1)))
theorem ok_Stray (i : Int) : FunOK Try.prog 18 [tyR n most strays calls, .one (iP i)] (ansR (whyE n most strays calls (inB i 0 (n - 2))) (strayS n most strays calls i)) := by
  refine fun_exp (l := [_]) (od := _) (nt := 21) (t := 7) (eb := 3) (rs := [.cell 4 27, .cell 5 32]) ans58 Try.func18 rfl rfl rfl (by simp) rfl rfl rfl Try.func58 rfl (by decide) fun Z w0 => ?_; simp only [initFr, avR, List.map_cons, List.map_nil]
  simp only [tyR, List.map_cons, List.map_nil]
  refine tw ?_; try with_reducible intro QQ hQQ
  refine ⟨rfl, ?_⟩
  (refine ts ?_; try clear hQQ QQ)
  refine tw ?_; try with_reducible intro QQ hQQ
  cases hv : validB n most strays calls
  · have hwhy : whyE n most strays calls (inB i 0 (n - 2)) = 1 := by simp [whyE, hv]
    have hb := hwhy
    refine callS_ok rfl rfl 48 (by simp (disch := first | decide | omega) only [go_sem, ↓reduceIte]; try rfl) (by simp (disch := first | decide | omega) only [go_sem, ↓reduceIte]; try rfl) Try.func48 rfl (by decide) (CallF.mono (c_open_arg hv Try.func59 rfl (by decide) ?_) fun _ _ h => False.elim h)
    exact ⟨1, 0, rfl, by simp (disch := first | decide | omega) only [go_sem, ↓reduceIte]; try rfl, by simp (disch := first | decide | omega) only [go_sem, ↓reduceIte]; try rfl, by simp (disch := first | decide | omega) only [resA, res1, ansR, ansN, hwhy, hb, go_sem, ↓reduceIte]; try rfl⟩
  obtain ⟨hnn, hT⟩ := tok_of hv
  have hn5 := valid_n hv
  generalize n.toNat = N at hnn hT
  subst hnn
  have hIS := s_is59 (most := most) (strays := strays) (calls := calls) (tabF N most strays calls) (n := N) (by omega) i
  cases hb : inB i 0 (N - 2)
  · have hwhy : whyE N most strays calls false = 2 := by simp [whyE, hv]
    rw [hb] at hIS
    refine callS_ok rfl rfl 48 (by simp (disch := first | decide | omega) only [go_sem, ↓reduceIte]; try rfl) (by simp (disch := first | decide | omega) only [go_sem, ↓reduceIte]; try rfl) Try.func48 rfl (by decide) (CallF.mono (c_open_ran hT Try.func59 rfl (by decide) ?_ ?_) fun _ _ h => False.elim h); (exact is_box1 (c := 1) hIS (by rfl) (by first | decide | (dsimp only; omega)))
    exact ⟨2, 0, rfl, by simp (disch := first | decide | omega) only [go_sem, ↓reduceIte]; try rfl, by simp (disch := first | decide | omega) only [go_sem, ↓reduceIte]; try rfl, by simp (disch := first | decide | omega) only [resA, res1, ansR, ansN, hwhy, hb, go_sem, ↓reduceIte]; try rfl⟩
  rw [hb] at hIS
  have hi : 0 ≤ i ∧ i ≤ N - 2 := by simpa [inB] using hb
  obtain ⟨k, rfl⟩ : ∃ k : Nat, i = k := ⟨i.toNat, by omega⟩
  cases hc : canB (tabF N most strays calls (2 ^ calls.length - 1)) 11
  · have hwhy : whyE N most strays calls true = 10 := by simp [whyE, hv, hc]
    refine callS_ok rfl rfl 48 (by simp (disch := first | decide | omega) only [go_sem, ↓reduceIte]; try rfl) (by simp (disch := first | decide | omega) only [go_sem, ↓reduceIte]; try rfl) Try.func48 rfl (by decide) (CallF.mono (c_open_ok hT Try.func59 rfl (by decide) ?_) ?_); (exact is_box1 (c := 1) hIS (by rfl) (by first | decide | (dsimp only; omega))); rintro _ _ ⟨rfl, rfl⟩; refine ts ?_; try clear hQQ QQ
    refine tw ?_; try with_reducible intro QQ hQQ
    refine callD_SX [7, 6] (sx_told hT hc) rfl rfl (by simp (disch := first | decide | omega) only [go_sem, ↓reduceIte]; try rfl) (by simp (disch := first | decide | omega) only [go_sem, ↓reduceIte]; try rfl) Try.func61 rfl (by decide) (by rfl) (by repeat' (first | trivial | apply And.intro | (simp (disch := first | decide | omega) only [go_sem, ↓reduceIte]; first | done | rfl))) (by decide) (by decide) (by first | rfl | (simp (disch := first | decide | omega) only [go_sem, ↓reduceIte]; try rfl)) ?_ ?_; rotate_left; ((repeat (first | refine evDead_skip (by rfl) ?_ | (refine evDead_step (by rfl) (by simp (maxSteps := 400000) (disch := first | decide | omega) only [go_sem, ↓reduceIte]; try rfl) (by simp (maxSteps := 400000) (disch := first | decide | omega) only [go_sem, ↓reduceIte]; try rfl) ?_; simp (maxSteps := 400000) (disch := first | decide | omega) only [go_sem, ↓reduceIte]))); (try (show okDraw _ _ = true)); kernel_rfl); intro fr hk
    (have k7 := hk 7 (by rfl); have k4 := hk 4 (by rfl); have k5 := hk 5 (by rfl); simp (disch := first | decide | omega) only [go_sem, ↓reduceIte] at k7 k4 k5; exact ⟨10, 0, rfl, k7, by simp (disch := first | decide | omega) only [go_sem, ↓reduceIte]; try rfl, by simp (disch := first | decide | omega) only [k4, k5, hwhy, hb, resA, res1, ansR, ansN, go_sem, ↓reduceIte]; try rfl⟩)
  · have hwhy : whyE N most strays calls true = 0 := by simp [whyE, hv, hc]
    have hans : strayS N most strays calls k = (-(tabF N most strays calls (2 ^ calls.length - 1) (posM N (k + 1)) (k + 1)), tabF N most strays calls (2 ^ calls.length - 1) (k + 1) (posM N (k + 1))) := rfl
    have hpens := ok_pens N most strays calls (k + 1) (by omega)
    have hpc := posM_cast N (k + 1)
    push_cast at hpc
    rw [show (if (k : Int) + 1 = 0 ∨ (k : Int) + 1 = N then (k : Int) + 1 else 5 + ((k : Int) + 1)) = posN N ((k : Int) + 1) from rfl, hpc] at hpens
    simp only [ydP] at hpens
    have hsp := ok_span (tabF N most strays calls (2 ^ calls.length - 1)) (k + 1) (posM N (k + 1)) 0 0 (by omega) (posM_lt hT.n5 (by omega)) (tab_bd hT _ _ _ (posM_lt hT.n5 (by omega)) (by omega))
    push_cast at hsp
    refine callS_ok rfl rfl 48 (by simp (disch := first | decide | omega) only [go_sem, ↓reduceIte]; try rfl) (by simp (disch := first | decide | omega) only [go_sem, ↓reduceIte]; try rfl) Try.func48 rfl (by decide) (CallF.mono (c_open_ok hT Try.func59 rfl (by decide) ?_) ?_); (exact is_box1 (c := 1) hIS (by rfl) (by first | decide | (dsimp only; omega))); rintro _ _ ⟨rfl, rfl⟩; refine ts ?_; try clear hQQ QQ
    refine tw ?_; try with_reducible intro QQ hQQ
    (refine callD_S [7, 6] (s_told hT hc) rfl rfl (by simp (disch := first | decide | omega) only [go_sem, ↓reduceIte]; try rfl) (by simp (disch := first | decide | omega) only [go_sem, ↓reduceIte]; try rfl) Try.func61 rfl (by decide) (by rfl) (by repeat' (first | trivial | apply And.intro | (simp (disch := first | decide | omega) only [go_sem, ↓reduceIte]; first | done | rfl))) (by decide) (by decide) (by first | rfl | (simp (disch := first | decide | omega) only [go_sem, ↓reduceIte]; try rfl)) ?_); refine td ?_; try clear hQQ QQ
    (refine cD 63 rfl rfl rfl (hpens) Try.func63 rfl ?_); refine td ?_; try clear hQQ QQ
    (refine cD 62 rfl rfl rfl (hsp) Try.func62 rfl ?_); refine td ?_; try clear hQQ QQ
    refine tw ?_; try with_reducible intro QQ hQQ
    (refine aw_ret ⟨.inr rfl, by simp (disch := first | decide | omega) only [go_sem, ↓reduceIte]; try rfl, by simp (disch := first | decide | omega) only [resA, res1, ansR, ansN, hb, hwhy, hans, go_sem, ↓reduceIte]; try rfl⟩)
/-- A question asked of a yard, by a closure that has captured two boxes. -/
theorem is_box2 {F : Nat → Nat → Nat → Int} {g : FuncId} {i j : Int} {b : Bool} (hS : FunS Try.prog g [.one (.box 0 0), .one (.box 2 0), .one (.box 3 0)] ((3, .box [.p (iP j)]) :: (2, .box [.p (iP i)]) :: ydH n most strays calls (keepI F) Try.prog) 4 (.one (.one (.v (.bool b)))))
    {hp : List (Nat × Obj')} {nx c d : Nat} (hc : AL.get hp c = some (.box [.p (iP i)])) (hcl : c < nx) (hd : AL.get hp d = some (.box [.p (iP j)])) (hdl : d < nx) (hcd : c ≠ d) (K : Kx) (hpX : List (Nat × Obj')) (nxX : Nat) (fr : List (Nat × AV)) (hK : K.P = Try.prog) (h3 : AL.get hpX (nx + 1 + 1 + 1) = some (.box (ydC n most strays calls (nx + 1 + 1))))
    (h2 : AL.get hpX (nx + 1 + 1) = some (.memo Try.prog 135 (keepI F))) (hx : ∀ id o, id < nx → AL.get hp id = some o → AL.get hpX id = some o) :
    CallF K g ([.one (.box (nx + 1 + 1 + 1) 0)] ++ [CC.box c, CC.box d].map capV) ⟨fr, hpX, nxX⟩ fun st' av => st' = ⟨fr, hpX, nxX⟩ ∧ av = .one (.p (.v (.bool b))) :=
  callF_S (hp := (3, .box [.p (iP j)]) :: (2, .box [.p (iP i)]) :: ydH n most strays calls (keepI F) Try.prog) (avs0 := [.one (.box 0 0), .one (.box 2 0), .one (.box 3 0)]) (nx := 4) [nx + 1 + 1 + 1, nx + 1 + 1, c, d] (by rw [hK]; exact hS) rfl (show _ ∧ _ ∧ _ ∧ _ ∧ True from ⟨hx d _ hdl hd, hx c _ hcl hc, h2, h3, trivial⟩) (by simp; omega) (by simp) rfl
def togB (n i j : Int) : Bool := (inB i 0 (n - 1) && inB j 0 (n - 1)) && decide (i ≤ j)
theorem s_is66 (F : Nat → Nat → Nat → Int) (hn : -1000 ≤ n ∧ n ≤ 1000) (i j : Int) : FunS Try.prog 66 [.one (.box 0 0), .one (.box 2 0), .one (.box 3 0)] ((3, .box [.p (iP j)]) :: (2, .box [.p (iP i)]) :: ydH n most strays calls (keepI F) Try.prog) 4 (.one (.one (.v (.bool (togB n i j))))) := by
  have h := ok_isShearer n most strays calls i hn
  have h' := ok_isShearer n most strays calls j hn
  simp only [ydP] at h h'
  cases h1 : inB i 0 (n - 1)
  · rw [show togB n i j = false by simp [togB, h1]]
    rw [h1] at h
    unfold ydH ydC
    refine funS_ok (nt := 18) (rs := [.tmp 4]) Try.func66 rfl rfl rfl (by simp) fun Z w0 cap pan dk tm => ?_; simp only [initV, pins, pinOf, List.map_cons, List.map_nil]
    refine tw ?_; try with_reducible intro QQ hQQ
    ((refine cO 50 rfl rfl rfl (h) Try.func50 rfl ?_); refine tu ?_; try clear hQQ QQ); refine tw ?_; try with_reducible intro QQ hQQ
    (refine aw_ret ⟨.inr rfl, (by simp (maxSteps := 400000) (disch := first | decide | omega) only [go_sem, ↓reduceIte]; try rfl), (by simp (maxSteps := 400000) (disch := first | decide | omega) only [go_sem, ↓reduceIte]; try rfl), (by simp only [List.mem_cons, List.mem_nil_iff, forall_eq_or_imp, forall_eq, false_imp_iff, implies_true, or_false, and_true]; simp (maxSteps := 400000) (disch := first | decide | omega) only [go_sem, ↓reduceIte]; try exact ⟨rfl, rfl⟩)⟩)
  rw [h1] at h
  cases h2 : inB j 0 (n - 1)
  · rw [show togB n i j = false by simp [togB, h1, h2]]
    rw [h2] at h'
    unfold ydH ydC
    refine funS_ok (nt := 18) (rs := [.tmp 4]) Try.func66 rfl rfl rfl (by simp) fun Z w0 cap pan dk tm => ?_; simp only [initV, pins, pinOf, List.map_cons, List.map_nil]
    refine tw ?_; try with_reducible intro QQ hQQ
    (refine cO 50 rfl rfl rfl (h) Try.func50 rfl ?_); refine ts ?_; try clear hQQ QQ
    ((refine cO 50 rfl rfl rfl (h') Try.func50 rfl ?_); refine tu ?_; try clear hQQ QQ); refine tw ?_; try with_reducible intro QQ hQQ
    (refine aw_ret ⟨.inr rfl, (by simp (maxSteps := 400000) (disch := first | decide | omega) only [go_sem, ↓reduceIte]; try rfl), (by simp (maxSteps := 400000) (disch := first | decide | omega) only [go_sem, ↓reduceIte]; try rfl), (by simp only [List.mem_cons, List.mem_nil_iff, forall_eq_or_imp, forall_eq, false_imp_iff, implies_true, or_false, and_true]; simp (maxSteps := 400000) (disch := first | decide | omega) only [go_sem, ↓reduceIte]; try exact ⟨rfl, rfl⟩)⟩)
  rw [h2] at h'
  rw [show togB n i j = decide (i ≤ j) by simp [togB, h1, h2]]
  unfold ydH ydC
  refine funS_ok (nt := 18) (rs := [.tmp 4]) Try.func66 rfl rfl rfl (by simp) fun Z w0 cap pan dk tm => ?_; simp only [initV, pins, pinOf, List.map_cons, List.map_nil]
  refine tw ?_; try with_reducible intro QQ hQQ
  (refine cO 50 rfl rfl rfl (h) Try.func50 rfl ?_); refine ts ?_; try clear hQQ QQ
  ((refine cO 50 rfl rfl rfl (h') Try.func50 rfl ?_); refine tu ?_; try clear hQQ QQ); refine tw ?_; try with_reducible intro QQ hQQ
  (refine aw_ret ⟨.inr rfl, (by simp (maxSteps := 400000) (disch := first | decide | omega) only [go_sem, ↓reduceIte]; try rfl), (by simp (maxSteps := 400000) (disch := first | decide | omega) only [go_sem, ↓reduceIte]; try rfl), (by simp only [List.mem_cons, List.mem_nil_iff, forall_eq_or_imp, forall_eq, false_imp_iff, implies_true, or_false, and_true]; simp (maxSteps := 400000) (disch := first | decide | omega) only [go_sem, ↓reduceIte]; try exact ⟨rfl, rfl⟩)⟩)
def togS (n most : Int) (strays : List (Int × Int)) (calls : List (Int × Int × Int × Int)) (i j : Int) : Int × Int := (-(tabE n most strays calls i.toNat (j.toNat + 1)), tabE n most strays calls (j.toNat + 1) i.toNat)
theorem ok_Together (i j : Int) : FunOK Try.prog 20 [tyR n most strays calls, .one (iP i), .one (iP j)] (ansR (whyE n most strays calls (togB n i j)) (togS n most strays calls i j)) := by
  refine fun_exp (l := [_]) (od := _) (nt := 18) (t := 8) (eb := 4) (rs := [.cell 6 27, .cell 7 32]) ans65 Try.func20 rfl rfl rfl (by simp) rfl rfl rfl Try.func65 rfl (by decide) fun Z w0 => ?_; simp only [initFr, avR, List.map_cons, List.map_nil]
  simp only [tyR, List.map_cons, List.map_nil]
  refine tw ?_; try with_reducible intro QQ hQQ
  refine ⟨rfl, ?_⟩
  (refine ts ?_; try clear hQQ QQ)
  refine tw ?_; try with_reducible intro QQ hQQ
  cases hv : validB n most strays calls
  · have hwhy : whyE n most strays calls (togB n i j) = 1 := by simp [whyE, hv]
    have hb := hwhy
    refine callD_FX rfl rfl (by simp (disch := first | decide | omega) only [go_sem, ↓reduceIte]; try rfl) (by simp (disch := first | decide | omega) only [go_sem, ↓reduceIte]; try rfl) Try.func48 rfl (by decide) ?_ ?_; rotate_left; ((repeat (first | refine evDead_skip (by rfl) ?_ | (refine evDead_step (by rfl) (by simp (maxSteps := 400000) (disch := first | decide | omega) only [go_sem, ↓reduceIte]; try rfl) (by simp (maxSteps := 400000) (disch := first | decide | omega) only [go_sem, ↓reduceIte]; try rfl) ?_; simp (maxSteps := 400000) (disch := first | decide | omega) only [go_sem, ↓reduceIte]))); (try (show okDraw _ _ = true)); kernel_rfl); intro fr hk; refine c_open_arg hv Try.func66 rfl (by decide) ?_
    (have k8 := hk 8 (by rfl); have k6 := hk 6 (by rfl); have k7 := hk 7 (by rfl); simp (disch := first | decide | omega) only [go_sem, ↓reduceIte] at k8 k6 k7; exact ⟨1, 0, rfl, k8, by simp (disch := first | decide | omega) only [go_sem, ↓reduceIte]; try rfl, by simp (disch := first | decide | omega) only [k6, k7, hwhy, hb, resA, res1, ansR, ansN, go_sem, ↓reduceIte]; try rfl⟩)
  obtain ⟨hnn, hT⟩ := tok_of hv
  have hn5 := valid_n hv
  generalize n.toNat = N at hnn hT
  subst hnn
  have hIS := s_is66 (most := most) (strays := strays) (calls := calls) (tabF N most strays calls) (n := N) (by omega) i j
  cases hb : togB N i j
  · have hwhy : whyE N most strays calls false = 2 := by simp [whyE, hv]
    rw [hb] at hIS
    refine callD_FX rfl rfl (by simp (disch := first | decide | omega) only [go_sem, ↓reduceIte]; try rfl) (by simp (disch := first | decide | omega) only [go_sem, ↓reduceIte]; try rfl) Try.func48 rfl (by decide) ?_ ?_; rotate_left; ((repeat (first | refine evDead_skip (by rfl) ?_ | (refine evDead_step (by rfl) (by simp (maxSteps := 400000) (disch := first | decide | omega) only [go_sem, ↓reduceIte]; try rfl) (by simp (maxSteps := 400000) (disch := first | decide | omega) only [go_sem, ↓reduceIte]; try rfl) ?_; simp (maxSteps := 400000) (disch := first | decide | omega) only [go_sem, ↓reduceIte]))); (try (show okDraw _ _ = true)); kernel_rfl); intro fr hk; refine c_open_ran hT Try.func66 rfl (by decide) ?_ ?_; (exact is_box2 (c := 1) (d := 2) hIS (by rfl) (by first | decide | (dsimp only; omega)) (by rfl) (by first | decide | (dsimp only; omega)) (by decide))
    (have k8 := hk 8 (by rfl); have k6 := hk 6 (by rfl); have k7 := hk 7 (by rfl); simp (disch := first | decide | omega) only [go_sem, ↓reduceIte] at k8 k6 k7; exact ⟨2, 0, rfl, k8, by simp (disch := first | decide | omega) only [go_sem, ↓reduceIte]; try rfl, by simp (disch := first | decide | omega) only [k6, k7, hwhy, hb, resA, res1, ansR, ansN, go_sem, ↓reduceIte]; try rfl⟩)
  rw [hb] at hIS
  have hi : ((0 ≤ i ∧ i ≤ N - 1) ∧ 0 ≤ j ∧ j ≤ N - 1) ∧ i ≤ j := by simpa [togB, inB] using hb
  obtain ⟨k, rfl⟩ : ∃ k : Nat, i = k := ⟨i.toNat, by omega⟩
  obtain ⟨m, rfl⟩ : ∃ m : Nat, j = m := ⟨j.toNat, by omega⟩
  cases hc : canB (tabF N most strays calls (2 ^ calls.length - 1)) 11
  · have hwhy : whyE N most strays calls true = 10 := by simp [whyE, hv, hc]
    refine callD_F [8, 7] ?_ ?_ 9 rfl rfl (by simp (disch := first | decide | omega) only [go_sem, ↓reduceIte]; try rfl) (by simp (disch := first | decide | omega) only [go_sem, ↓reduceIte]; try rfl) Try.func48 rfl (by decide) ?_ (by dsimp only; omega) (by decide) ?_ ?_; rotate_left 3; (intro fr hk; refine c_open_ok hT Try.func66 rfl (by decide) ?_; exact is_box2 (c := 1) (d := 2) hIS (by rfl) (by first | decide | (dsimp only; omega)) (by rfl) (by first | decide | (dsimp only; omega)) (by decide)); rotate_left; (intro id hid; simp only [List.mem_cons, List.mem_nil_iff, or_false, not_or] at hid; obtain ⟨_, _⟩ := hid; simp (disch := first | decide | omega) only [go_sem, ↓reduceIte]); refine td ?_; try clear hQQ QQ
    refine callD_SX [8, 7] (sx_of hT hc _) rfl rfl (by simp (disch := first | decide | omega) only [go_sem, ↓reduceIte]; try rfl) (by simp (disch := first | decide | omega) only [go_sem, ↓reduceIte]; try rfl) Try.func51 rfl (by decide) (by rfl) (by repeat' (first | trivial | apply And.intro | (simp (disch := first | decide | omega) only [go_sem, ↓reduceIte]; first | done | rfl))) (by decide) (by decide) (by first | rfl | (simp (disch := first | decide | omega) only [go_sem, ↓reduceIte]; try rfl)) ?_ ?_; rotate_left; ((repeat (first | refine evDead_skip (by rfl) ?_ | (refine evDead_step (by rfl) (by simp (maxSteps := 400000) (disch := first | decide | omega) only [go_sem, ↓reduceIte]; try rfl) (by simp (maxSteps := 400000) (disch := first | decide | omega) only [go_sem, ↓reduceIte]; try rfl) ?_; simp (maxSteps := 400000) (disch := first | decide | omega) only [go_sem, ↓reduceIte]))); (try (show okDraw _ _ = true)); kernel_rfl); intro fr hk
    (have k8 := hk 8 (by rfl); have k6 := hk 6 (by rfl); have k7 := hk 7 (by rfl); simp (disch := first | decide | omega) only [go_sem, ↓reduceIte] at k8 k6 k7; exact ⟨10, 0, rfl, k8, by simp (disch := first | decide | omega) only [go_sem, ↓reduceIte]; try rfl, by simp (disch := first | decide | omega) only [k6, k7, hwhy, hb, resA, res1, ansR, ansN, go_sem, ↓reduceIte]; try rfl⟩)
  · have hwhy : whyE N most strays calls true = 0 := by simp [whyE, hv, hc]
    have hans : togS N most strays calls k m = (-(tabF N most strays calls (2 ^ calls.length - 1) k (m + 1)), tabF N most strays calls (2 ^ calls.length - 1) (m + 1) k) := rfl
    refine callD_F [8, 7] ?_ ?_ 9 rfl rfl (by simp (disch := first | decide | omega) only [go_sem, ↓reduceIte]; try rfl) (by simp (disch := first | decide | omega) only [go_sem, ↓reduceIte]; try rfl) Try.func48 rfl (by decide) ?_ (by dsimp only; omega) (by decide) ?_ ?_; rotate_left 3; (intro fr hk; refine c_open_ok hT Try.func66 rfl (by decide) ?_; exact is_box2 (c := 1) (d := 2) hIS (by rfl) (by first | decide | (dsimp only; omega)) (by rfl) (by first | decide | (dsimp only; omega)) (by decide)); rotate_left; (intro id hid; simp only [List.mem_cons, List.mem_nil_iff, or_false, not_or] at hid; obtain ⟨_, _⟩ := hid; simp (disch := first | decide | omega) only [go_sem, ↓reduceIte]); refine td ?_; try clear hQQ QQ
    (refine callD_S [8, 7] (s_of0 hT hc k (m + 1) (by omega) (by omega) k (m + 1) rfl (by push_cast; rfl)) rfl rfl (by simp (disch := first | decide | omega) only [go_sem, ↓reduceIte]; try rfl) (by simp (disch := first | decide | omega) only [go_sem, ↓reduceIte]; try rfl) Try.func51 rfl (by decide) (by rfl) (by repeat' (first | trivial | apply And.intro | (simp (disch := first | decide | omega) only [go_sem, ↓reduceIte]; first | done | rfl))) (by decide) (by decide) (by first | rfl | (simp (disch := first | decide | omega) only [go_sem, ↓reduceIte]; try rfl)) ?_); refine td ?_; try clear hQQ QQ
    refine tw ?_; try with_reducible intro QQ hQQ
    (refine aw_ret ⟨.inr rfl, by simp (disch := first | decide | omega) only [go_sem, ↓reduceIte]; try rfl, by simp (disch := first | decide | omega) only [resA, res1, ansR, ansN, hb, hwhy, hans, go_sem, ↓reduceIte]; try rfl⟩)
end
end Go.Proofs.Ytejbglbiefpagaa
