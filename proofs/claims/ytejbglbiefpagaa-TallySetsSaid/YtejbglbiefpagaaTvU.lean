/- tally: False, Suspects and Clash, walked. -/
import Derived.Test.YtejbglbiefpagaaTvT
set_option linter.all false
namespace Go.Proofs.Ytejbglbiefpagaa
open Go Go.RowKit Go.Sh Go.Pv
set_option maxHeartbeats 8000000
set_option maxRecDepth 20000
attribute [local go_sem] conv104_3 uP
section
variable {n most : Int} {strays : List (Int × Int)} {calls : List (Int × Int × Int × Int)}
theorem s_is76 (F : Nat → Nat → Nat → Int) : FunS Try.prog 76 [.one (.box 0 0)] (ydH n most strays calls (keepI F) Try.prog) 2 (.one (.one (.v (.bool true)))) := by
  unfold ydH ydC
  refine funS_ok (nt := 3) (rs := [.tmp 2]) Try.func76 rfl rfl rfl (by simp) fun Z w0 cap pan dk tm => ?_; simp only [initV, pins, pinOf, List.map_cons, List.map_nil]
  refine tw ?_; try with_reducible intro QQ hQQ
  (refine aw_ret ⟨.inr rfl, (by simp (maxSteps := 400000) (disch := first | decide | omega) only [go_sem, ↓reduceIte]; try rfl), (by simp (maxSteps := 400000) (disch := first | decide | omega) only [go_sem, ↓reduceIte]; try rfl), (by simp only [List.mem_cons, List.mem_nil_iff, forall_eq_or_imp, forall_eq, false_imp_iff, implies_true, or_false, and_true]; simp (maxSteps := 400000) (disch := first | decide | omega) only [go_sem, ↓reduceIte]; try exact ⟨rfl, rfl⟩)⟩)
theorem is_box0 {F : Nat → Nat → Nat → Int} {hp : List (Nat × Obj')} {nx : Nat} (K : Kx) (hpX : List (Nat × Obj')) (nxX : Nat) (fr : List (Nat × AV)) (hK : K.P = Try.prog) (h3 : AL.get hpX (nx + 1 + 1 + 1) = some (.box (ydC n most strays calls (nx + 1 + 1))))
    (h2 : AL.get hpX (nx + 1 + 1) = some (.memo Try.prog 135 (keepI F))) (hx : ∀ id o, id < nx → AL.get hp id = some o → AL.get hpX id = some o) :
    CallF K 76 ([.one (.box (nx + 1 + 1 + 1) 0)] ++ ([] : List CC).map capV) ⟨fr, hpX, nxX⟩ fun st' av => st' = ⟨fr, hpX, nxX⟩ ∧ av = .one (.p (.v (.bool true))) :=
  callF_S (hp := ydH n most strays calls (keepI F) Try.prog) (avs0 := [.one (.box 0 0)]) (nx := 2) [nx + 1 + 1 + 1, nx + 1 + 1] (by rw [hK]; exact s_is76 F) rfl (show _ ∧ _ ∧ True from ⟨h2, h3, trivial⟩) (by simp) (by simp) rfl
/-- Which set is first without which there is a truth, and which is first that clashes. -/
def wIdx (n most : Int) (strays : List (Int × Int)) (calls : List (Int × Int × Int × Int)) : Int := idxB (pW n.toNat most strays calls) (setsL calls.length)
def cIdx (n most : Int) (strays : List (Int × Int)) (calls : List (Int × Int × Int × Int)) : Int := idxB (pC n.toNat most strays calls) (setsL calls.length)
def wSet (n most : Int) (strays : List (Int × Int)) (calls : List (Int × Int × Int × Int)) : Nat := (setsL calls.length).getD (wIdx n most strays calls).toNat 0
def cSet (n most : Int) (strays : List (Int × Int)) (calls : List (Int × Int × Int × Int)) : Nat := (setsL calls.length).getD (cIdx n most strays calls).toNat 0
def whyW (n most : Int) (strays : List (Int × Int)) (calls : List (Int × Int × Int × Int)) : Int := if validB n most strays calls = false then 1 else if wIdx n most strays calls = -1 then 10 else 0
def whyC (n most : Int) (strays : List (Int × Int)) (calls : List (Int × Int × Int × Int)) : Int := if validB n most strays calls = false then 1 else if cIdx n most strays calls = -1 then 4 else 0
theorem idxB_cases (p : Nat → Bool) : ∀ L : List Nat, idxB p L = -1 ∨ ∃ i, i < L.length ∧ idxB p L = (i : Int)
  | [] => .inl rfl
  | x :: r => by
    unfold idxB
    by_cases h : p x = true
    · rw [if_pos h]; exact .inr ⟨0, by simp, rfl⟩
    · rw [if_neg h]
      rcases idxB_cases p r with h1 | ⟨i, hi, h1⟩
      · rw [h1, if_pos (by decide)]; exact .inl rfl
      · rw [h1, if_neg (by omega)]; exact .inr ⟨i + 1, by simpa using hi, by push_cast; rfl⟩
def ansF (e a b : Int) : RR := .tup [.one (iP (if e = 0 then a else 0)), .one (iP (if e = 0 then b else 0)), .one (iP e)]
theorem ok_False : FunOK Try.prog 24 [tyR n most strays calls] (ansF (whyW n most strays calls) (popc (wSet n most strays calls)) (wSet n most strays calls)) := by
  refine fun_exp (l := [_]) (od := _) (nt := 14) (t := 6) (eb := 1) (rs := [.tmp 2, .tmp 3, .cell 4 32]) ans75 Try.func24 rfl rfl rfl (by simp) rfl rfl rfl Try.func75 rfl (by decide) fun Z w0 => ?_; simp only [initFr, avR, List.map_cons, List.map_nil]
  simp only [tyR, List.map_cons, List.map_nil]
  (repeat (first | apply aw_seq | apply aw_block | apply aw_skip | apply aw_label | apply aw_exit | ((first | refine aw_region (hideO fun QQ hQQ => ?_) | refine aw_draw mixed (hideD fun QQ hQQ => ?_)); simp (maxSteps := 400000) (disch := first | decide | omega) only [ansF, go_sem, ↓reduceIte]; try (first | with_reducible refine unhide hQQ ?_ | refine ⟨by kernel_rfl, unhide hQQ ?_⟩); clear hQQ QQ) | with_reducible first | apply then_n | apply block_n | apply then_x | apply then_r | apply nog_n | apply nog_r | apply block_r | apply block_e (by decide) | apply block_x (by decide)))
  refine ⟨rfl, ?_⟩
  (simp (maxSteps := 400000) (disch := first | decide | omega) only [ansF, go_sem, ↓reduceIte]; (try (with_reducible refine unhide hQQ ?_; clear hQQ QQ; (repeat with_reducible first | apply then_n | apply block_n | apply then_x | apply then_r | apply nog_n | apply nog_r | apply block_r | apply block_e (by decide) | apply block_x (by decide)))))
  (repeat (first | apply aw_seq | apply aw_block | apply aw_skip | apply aw_label | apply aw_exit | ((first | refine aw_region (hideO fun QQ hQQ => ?_) | refine aw_draw mixed (hideD fun QQ hQQ => ?_)); simp (maxSteps := 400000) (disch := first | decide | omega) only [ansF, go_sem, ↓reduceIte]; try (first | with_reducible refine unhide hQQ ?_ | refine ⟨by kernel_rfl, unhide hQQ ?_⟩); clear hQQ QQ) | with_reducible first | apply then_n | apply block_n | apply then_x | apply then_r | apply nog_n | apply nog_r | apply block_r | apply block_e (by decide) | apply block_x (by decide)))
  cases hv : validB n most strays calls
  · have hwhy : whyW n most strays calls = 1 := by simp [whyW, hv]
    have hb := hwhy
    refine callS_ok rfl rfl 48 (by simp (disch := first | decide | omega) only [ansF, go_sem, ↓reduceIte]; try rfl) (by simp (disch := first | decide | omega) only [ansF, go_sem, ↓reduceIte]; try rfl) Try.func48 rfl (by decide) (CallF.mono (c_open_arg hv Try.func76 rfl (by decide) ?_) fun _ _ h => False.elim h)
    exact ⟨1, 0, rfl, by simp (disch := first | decide | omega) only [ansF, go_sem, ↓reduceIte]; try rfl, by simp (disch := first | decide | omega) only [ansF, go_sem, ↓reduceIte]; try rfl, by simp (disch := first | decide | omega) only [resA, res1, ansR, ansN, hwhy, hb, go_sem, ↓reduceIte]; try rfl⟩
  obtain ⟨hnn, hT⟩ := tok_of hv
  have hn5 := valid_n hv
  generalize n.toNat = N at hnn hT
  subst hnn
  rcases idxB_cases (pW N most strays calls) (setsL calls.length) with hi | ⟨i, hi, hidx⟩
  · have hwhy : whyW N most strays calls = 10 := by
      have : wIdx N most strays calls = -1 := hi
      simp [whyW, hv, this]
    have hb := hwhy
    refine callS_ok rfl rfl 48 (by simp (disch := first | decide | omega) only [ansF, go_sem, ↓reduceIte]; try rfl) (by simp (disch := first | decide | omega) only [ansF, go_sem, ↓reduceIte]; try rfl) Try.func48 rfl (by decide) (CallF.mono (c_open_ok hT Try.func76 rfl (by decide) ?_) ?_); (exact is_box0); rintro _ _ ⟨rfl, rfl⟩; simp (maxSteps := 400000) (disch := first | decide | omega) only [ansF, go_sem, ↓reduceIte]; (try (with_reducible refine unhide hQQ ?_; clear hQQ QQ; (repeat with_reducible first | apply then_n | apply block_n | apply then_x | apply then_r | apply nog_n | apply nog_r | apply block_r | apply block_e (by decide) | apply block_x (by decide))))
    refine callO_SX [5, 4] (sx_without hT hi) rfl rfl (by simp (disch := first | decide | omega) only [ansF, go_sem, ↓reduceIte]; try rfl) (by simp (disch := first | decide | omega) only [ansF, go_sem, ↓reduceIte]; try rfl) Try.func77 rfl (by decide) (by rfl) (by repeat' (first | trivial | apply And.intro | (simp (disch := first | decide | omega) only [ansF, go_sem, ↓reduceIte]; first | done | rfl))) (by decide) (by decide) (by first | rfl | (simp (disch := first | decide | omega) only [ansF, go_sem, ↓reduceIte]; try rfl)) ?_
    exact ⟨10, 0, rfl, by simp (disch := first | decide | omega) only [ansF, go_sem, ↓reduceIte]; try rfl, by simp (disch := first | decide | omega) only [ansF, go_sem, ↓reduceIte]; try rfl, by simp (disch := first | decide | omega) only [resA, res1, ansR, ansN, hwhy, hb, go_sem, ↓reduceIte]; try rfl⟩
  · have hw0 : wIdx N most strays calls = i := hidx
    have hwhy : whyW N most strays calls = 0 := by
      simp [whyW, hv, hw0]
    have hb := hwhy
    have hans : wSet N most strays calls = (setsL calls.length).getD i 0 := by unfold wSet; rw [hw0]; rfl
    have h256 := sets_at hT.cl hi
    have hbits := ok_bits _ h256
    have hwo := s_without hT hi hidx
    rw [hans]
    simp only [uP] at hbits hwo
    generalize (setsL calls.length).getD i 0 = w at *
    refine callS_ok rfl rfl 48 (by simp (disch := first | decide | omega) only [ansF, go_sem, ↓reduceIte]; try rfl) (by simp (disch := first | decide | omega) only [ansF, go_sem, ↓reduceIte]; try rfl) Try.func48 rfl (by decide) (CallF.mono (c_open_ok hT Try.func76 rfl (by decide) ?_) ?_); (exact is_box0); rintro _ _ ⟨rfl, rfl⟩; simp (maxSteps := 400000) (disch := first | decide | omega) only [ansF, go_sem, ↓reduceIte]; (try (with_reducible refine unhide hQQ ?_; clear hQQ QQ; (repeat with_reducible first | apply then_n | apply block_n | apply then_x | apply then_r | apply nog_n | apply nog_r | apply block_r | apply block_e (by decide) | apply block_x (by decide))))
    (refine callO_S [5, 4] (hwo) rfl rfl (by simp (disch := first | decide | omega) only [ansF, go_sem, ↓reduceIte]; try rfl) (by simp (disch := first | decide | omega) only [ansF, go_sem, ↓reduceIte]; try rfl) Try.func77 rfl (by decide) (by rfl) (by repeat' (first | trivial | apply And.intro | (simp (disch := first | decide | omega) only [ansF, go_sem, ↓reduceIte]; first | done | rfl))) (by decide) (by decide) (by first | rfl | (simp (disch := first | decide | omega) only [ansF, go_sem, ↓reduceIte]; try rfl)) ?_); simp (maxSteps := 400000) (disch := first | decide | omega) only [ansF, go_sem, ↓reduceIte]; (try (with_reducible refine unhide hQQ ?_; clear hQQ QQ; (repeat with_reducible first | apply then_n | apply block_n | apply then_x | apply then_r | apply nog_n | apply nog_r | apply block_r | apply block_e (by decide) | apply block_x (by decide))))
    (repeat (first | apply aw_seq | apply aw_block | apply aw_skip | apply aw_label | apply aw_exit | ((first | refine aw_region (hideO fun QQ hQQ => ?_) | refine aw_draw mixed (hideD fun QQ hQQ => ?_)); simp (maxSteps := 400000) (disch := first | decide | omega) only [ansF, go_sem, ↓reduceIte]; try (first | with_reducible refine unhide hQQ ?_ | refine ⟨by kernel_rfl, unhide hQQ ?_⟩); clear hQQ QQ) | with_reducible first | apply then_n | apply block_n | apply then_x | apply then_r | apply nog_n | apply nog_r | apply block_r | apply block_e (by decide) | apply block_x (by decide)))
    ((refine callO_ok rfl rfl 78 true rfl (by simp (disch := first | decide | omega) only [ansF, go_sem, ↓reduceIte]; try rfl) (fun _ => rfl) (hbits) Try.func78 rfl (by decide) ?_); simp (maxSteps := 400000) (disch := first | decide | omega) only [ansF, go_sem, ↓reduceIte]; try (with_reducible refine unhide hQQ ?_; clear hQQ QQ)); (repeat (first | apply aw_seq | apply aw_block | apply aw_skip | apply aw_label | apply aw_exit | ((first | refine aw_region (hideO fun QQ hQQ => ?_) | refine aw_draw mixed (hideD fun QQ hQQ => ?_)); simp (maxSteps := 400000) (disch := first | decide | omega) only [ansF, go_sem, ↓reduceIte]; try (first | with_reducible refine unhide hQQ ?_ | refine ⟨by kernel_rfl, unhide hQQ ?_⟩); clear hQQ QQ) | with_reducible first | apply then_n | apply block_n | apply then_x | apply then_r | apply nog_n | apply nog_r | apply block_r | apply block_e (by decide) | apply block_x (by decide)))
    (refine aw_ret ⟨.inr rfl, by simp (disch := first | decide | omega) only [ansF, go_sem, ↓reduceIte]; try rfl, by simp (disch := first | decide | omega) only [resA, res1, ansR, ansN, hb, hwhy, hans, go_sem, ↓reduceIte]; try rfl⟩)
theorem ok_Clash : FunOK Try.prog 28 [tyR n most strays calls] (ansN (whyC n most strays calls) (cSet n most strays calls)) := by
  refine fun_exp (l := [_]) (od := _) (nt := 14) (t := 5) (eb := 1) (rs := [.tmp 2, .cell 3 32]) ans88 Try.func28 rfl rfl rfl (by simp) rfl rfl rfl Try.func88 rfl (by decide) fun Z w0 => ?_; simp only [initFr, avR, List.map_cons, List.map_nil]
  simp only [tyR, List.map_cons, List.map_nil]
  refine tw ?_; try with_reducible intro QQ hQQ
  refine ⟨rfl, ?_⟩
  (refine ts ?_; try clear hQQ QQ)
  refine tw ?_; try with_reducible intro QQ hQQ
  cases hv : validB n most strays calls
  · have hwhy : whyC n most strays calls = 1 := by simp [whyC, hv]
    have hb := hwhy
    refine callS_ok rfl rfl 48 (by simp (disch := first | decide | omega) only [go_sem, ↓reduceIte]; try rfl) (by simp (disch := first | decide | omega) only [go_sem, ↓reduceIte]; try rfl) Try.func48 rfl (by decide) (CallF.mono (c_open_arg hv Try.func76 rfl (by decide) ?_) fun _ _ h => False.elim h)
    exact ⟨1, 0, rfl, by simp (disch := first | decide | omega) only [go_sem, ↓reduceIte]; try rfl, by simp (disch := first | decide | omega) only [go_sem, ↓reduceIte]; try rfl, by simp (disch := first | decide | omega) only [resA, res1, ansR, ansN, hwhy, hb, go_sem, ↓reduceIte]; try rfl⟩
  obtain ⟨hnn, hT⟩ := tok_of hv
  have hn5 := valid_n hv
  generalize n.toNat = N at hnn hT
  subst hnn
  have hse := s_sets (n := N) (most := most) (strays := strays) (F := tabF N most strays calls) hT.cl
  rcases idxB_cases (pC N most strays calls) (setsL calls.length) with hi | ⟨i, hi, hidx⟩
  · have hwhy : whyC N most strays calls = 4 := by
      have : cIdx N most strays calls = -1 := hi
      simp [whyC, hv, this]
    have hb := hwhy
    have hfi := sx_first Try.func90 rfl (by decide) (sets_len _ hT.cl) (ask90 hT) 4 hi
    generalize hL : setsL calls.length = L at hse hfi
    refine callS_ok rfl rfl 48 (by simp (disch := first | decide | omega) only [go_sem, ↓reduceIte]; try rfl) (by simp (disch := first | decide | omega) only [go_sem, ↓reduceIte]; try rfl) Try.func48 rfl (by decide) (CallF.mono (c_open_ok hT Try.func76 rfl (by decide) ?_) ?_); (exact is_box0); rintro _ _ ⟨rfl, rfl⟩; refine ts ?_; try clear hQQ QQ
    refine tw ?_; try with_reducible intro QQ hQQ
    (refine callO_S [5, 4] (hse) rfl rfl (by simp (disch := first | decide | omega) only [go_sem, ↓reduceIte]; try rfl) (by simp (disch := first | decide | omega) only [go_sem, ↓reduceIte]; try rfl) Try.func82 rfl (by decide) (by rfl) (by repeat' (first | trivial | apply And.intro | (simp (disch := first | decide | omega) only [go_sem, ↓reduceIte]; first | done | rfl))) (by decide) (by decide) (by first | rfl | (simp (disch := first | decide | omega) only [go_sem, ↓reduceIte]; try rfl)) ?_); refine ts ?_; try clear hQQ QQ
    refine callO_SX [5, 4, 6] (hfi) rfl rfl (by simp (disch := first | decide | omega) only [go_sem, ↓reduceIte]; try rfl) (by simp (disch := first | decide | omega) only [go_sem, ↓reduceIte]; try rfl) Try.func89 rfl (by decide) (by rfl) (by repeat' (first | trivial | apply And.intro | (simp (disch := first | decide | omega) only [go_sem, ↓reduceIte]; first | done | rfl))) (by decide) (by decide) (by first | rfl | (simp (disch := first | decide | omega) only [go_sem, ↓reduceIte]; try rfl)) ?_
    exact ⟨4, 0, rfl, by simp (disch := first | decide | omega) only [go_sem, ↓reduceIte]; try rfl, by simp (disch := first | decide | omega) only [go_sem, ↓reduceIte]; try rfl, by simp (disch := first | decide | omega) only [resA, res1, ansR, ansN, hwhy, hb, go_sem, ↓reduceIte]; try rfl⟩
  · have hw0 : cIdx N most strays calls = i := hidx
    have hwhy : whyC N most strays calls = 0 := by
      simp [whyC, hv, hw0]
    have hb := hwhy
    have hans : cSet N most strays calls = (setsL calls.length).getD i 0 := by unfold cSet; rw [hw0]; rfl
    have h256 := sets_at hT.cl hi
    have hfi := s_first Try.func90 rfl (by decide) (sets_len _ hT.cl) (ask90 hT) 4 hi hidx
    rw [hans]
    simp only [uP] at hfi
    generalize (setsL calls.length).getD i 0 = w at *
    generalize hL : setsL calls.length = L at hse hfi
    refine callS_ok rfl rfl 48 (by simp (disch := first | decide | omega) only [go_sem, ↓reduceIte]; try rfl) (by simp (disch := first | decide | omega) only [go_sem, ↓reduceIte]; try rfl) Try.func48 rfl (by decide) (CallF.mono (c_open_ok hT Try.func76 rfl (by decide) ?_) ?_); (exact is_box0); rintro _ _ ⟨rfl, rfl⟩; refine ts ?_; try clear hQQ QQ
    refine tw ?_; try with_reducible intro QQ hQQ
    (refine callO_S [5, 4] (hse) rfl rfl (by simp (disch := first | decide | omega) only [go_sem, ↓reduceIte]; try rfl) (by simp (disch := first | decide | omega) only [go_sem, ↓reduceIte]; try rfl) Try.func82 rfl (by decide) (by rfl) (by repeat' (first | trivial | apply And.intro | (simp (disch := first | decide | omega) only [go_sem, ↓reduceIte]; first | done | rfl))) (by decide) (by decide) (by first | rfl | (simp (disch := first | decide | omega) only [go_sem, ↓reduceIte]; try rfl)) ?_); refine ts ?_; try clear hQQ QQ
    (refine callO_S [5, 4, 6] (hfi) rfl rfl (by simp (disch := first | decide | omega) only [go_sem, ↓reduceIte]; try rfl) (by simp (disch := first | decide | omega) only [go_sem, ↓reduceIte]; try rfl) Try.func89 rfl (by decide) (by rfl) (by repeat' (first | trivial | apply And.intro | (simp (disch := first | decide | omega) only [go_sem, ↓reduceIte]; first | done | rfl))) (by decide) (by decide) (by first | rfl | (simp (disch := first | decide | omega) only [go_sem, ↓reduceIte]; try rfl)) ?_); refine ts ?_; try clear hQQ QQ
    refine tw ?_; try with_reducible intro QQ hQQ
    (refine aw_ret ⟨.inr rfl, by simp (disch := first | decide | omega) only [go_sem, ↓reduceIte]; try rfl, by simp (disch := first | decide | omega) only [resA, res1, ansR, ansN, hb, hwhy, hans, go_sem, ↓reduceIte]; try rfl⟩)
end
end Go.Proofs.Ytejbglbiefpagaa
