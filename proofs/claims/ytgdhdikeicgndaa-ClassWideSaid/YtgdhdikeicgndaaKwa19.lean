/- Kwa19: texts joined (WaU WaV WaW). -/
import Derived.Test.YtgdhdikeicgndaaKwa14
import Derived.Test.YtgdhdikeicgndaaKwb17
import Derived.Test.YtgdhdikeicgndaaKpv12
import Derived.Test.YtgdhdikeicgndaaKcx18
set_option linter.all false
/- classer: looks that clash, walked: the exported function Clash. -/
namespace Go.Proofs.Ytgdhdikeicgndaa
open Go Go.RowKit Go.Sh Go.Pv Go.Cl
set_option maxHeartbeats 400000
set_option maxRecDepth 20000
set_option pp.maxSteps 60000
/-- A slice of the call's own, of which nothing else holds a part. -/
theorem weak_unshare {K : Kx} {fr : List (Nat × AV)} {t nx : Nat} {E : TypeId} {k : Nat} {rows : List (List PV)} (hfr : ∀ t' av, AL.get fr t' = some av → (∃ v, av = .one (.p (.v v))) ∨ av = .one (.own t rows.length)) (hr : ∀ (i : Nat) (row : List PV) (j : Nat) (c : PV), rows[i]? = some row → row[j]? = some c → ∃ v, c = .v v) :
    Weak K ⟨fr, [(t, .arr E k rows true)], nx⟩ ⟨fr, [(t, .arr E k rows false)], nx⟩ := by
  intro σ a w h
  have hg : ∀ {sh : Bool} {id o}, AL.get [(t, Obj'.arr E k rows sh)] id = some o → id = t ∧ o = .arr E k rows sh := by
    intro sh id o ho
    by_cases e : id = t
    · subst e; rw [AL.get_eq] at ho; cases ho; exact ⟨rfl, rfl⟩
    · rw [AL.get_ne _ _ e] at ho; cases ho
  refine ⟨σ, ⟨fun id o ho => ?_, fun id l hl => ?_, h.heap.inj, h.heap.lt⟩, fun t' av ht => ?_, fun id o ho => ?_, h.df, h.nt, h.frm⟩
  · obtain ⟨rfl, rfl⟩ := hg ho
    obtain ⟨val, xs, h1, h2, h3, h4⟩ := h.heap.objs id (.arr E k rows true) (AL.get_eq _ _ _)
    refine ⟨val, xs, h1, h2, h3, fun i row j c hi hj => ?_⟩
    obtain ⟨u, hu, hru⟩ := h4 i row j c hi hj
    obtain ⟨v, rfl⟩ := hr i row j c hi hj
    cases hru with
    | v _ hv => exact ⟨_, hu, .v _ hv⟩
  · obtain ⟨o, ho⟩ := h.heap.dom id l hl
    obtain ⟨rfl, _⟩ := hg ho
    exact ⟨_, AL.get_eq _ _ _⟩
  · obtain ⟨h1, h2⟩ := h.fr t' av ht
    refine ⟨h1, ?_⟩
    rcases hfr t' av ht with ⟨v, rfl⟩ | rfl
    · cases h2 with
      | v _ hv => exact .v _ hv
    · obtain ⟨E', k', rows', sh', l, g1, g2, g3, g4, g5⟩ := h2
      obtain ⟨_, g⟩ := hg g1
      cases g
      exact ⟨E, k, rows, false, l, AL.get_eq _ _ _, g2, g3, g4, fun hlt => absurd hlt (Nat.lt_irrefl _)⟩
  · obtain ⟨rfl, _⟩ := hg ho
    exact h.lt id _ (AL.get_eq _ _ _)
theorem sets_all : ∀ k, k ≤ 6 → ∃ s0, (List.range (2 ^ k)).map (gt s0) = List.range (2 ^ k) ∧ (List.range (2 ^ k)).map (gt (stabN (2 ^ k) s0)) = setsL k := by
  intro k hk
  rcases (show k = 0 ∨ k = 1 ∨ k = 2 ∨ k = 3 ∨ k = 4 ∨ k = 5 ∨ k = 6 by omega) with rfl | rfl | rfl | rfl | rfl | rfl | rfl
  · exact ⟨_, by kernel_rfl, by rw [stab0]; kernel_rfl⟩
  · exact ⟨_, by kernel_rfl, by rw [stab1]; kernel_rfl⟩
  · exact ⟨_, by kernel_rfl, by rw [stab2]; kernel_rfl⟩
  · exact ⟨_, by kernel_rfl, by rw [stab3]; kernel_rfl⟩
  · exact ⟨_, by kernel_rfl, by rw [stab4]; kernel_rfl⟩
  · exact ⟨_, by kernel_rfl, by rw [stab5]; kernel_rfl⟩
  · exact ⟨_, by kernel_rfl, by rw [stab6]; kernel_rfl⟩
theorem rowsF_map (f : Nat → Nat) (len : Nat) : rowsF f len = ((List.range len).map f).map rowU := by
  unfold rowsF rowU; rw [List.map_map]; rfl
theorem rowsF_take (f : Nat → Nat) (n : Nat) : (rowsF f n).take n = rowsF f n := List.take_of_length_le (by rw [rowsF_len]; exact Nat.le_refl _)
theorem rowsK_one (c : PV) : rowsK 1 [[c]] = True := eq_true fun i r h => by
  rcases i with _ | i
  · simp at h; subst h; rfl
  · simp at h
section
variable {bales : List (Int × Int × Int)} {may drift mist : Int} {bs : List (Nat × Nat × Nat)} {May D M : Nat}
/-- The closure over a method value of the open line. -/
def tH3 (D M May : Nat) (bs : List (Nat × Nat × Nat)) (P : Program) : List (Nat × Obj') := (2, .box [.bfx 53 0]) :: tH D M May bs P
theorem s_clash (h : LOK bs) (hD : D ≤ 30) (x : Nat) (hx : x < 2 ^ 63) : FunS Try.prog 73 [.one (.p (uP x)), .one (.box 2 0)] (tH3 D M May bs Try.prog) 3 (.one (.one (.v (.bool (clP D M bs x))))) := by
  have hc := s_can (M := M) (May := May) h hD x hx
  have hcl : clP D M bs x = !decide (Go.Cl.mist D bs x ≤ M) := by
    unfold clP
    rw [← decide_not]
    exact decide_eq_decide.2 (by omega)
  rw [hcl]
  generalize decide (Go.Cl.mist D bs x ≤ M) = b at *
  unfold tH3 tH tC
  refine funS_ok (nt := 8) (rs := [.tmp 3]) Try.func73 rfl rfl rfl (by simp) fun Z w0 cap pan dk tm => ?_; simp only [initV, pins, pinOf, List.map_cons, List.map_nil]
  refine tw ?_; try with_reducible intro QQ hQQ
  refine ⟨rfl, .inr ⟨rfl, callS_bfx (b := 0) rfl rfl 53 (by simp (disch := first | decide | omega) only [go_sem, ↓reduceIte]; try rfl) (avs := [.one (.p (uP x))]) (by simp (disch := first | decide | omega) only [go_sem, ↓reduceIte]; try rfl) Try.func53 rfl (by decide) ((callF_S (hp := [(1, .memo Try.prog 118 (keepI D bs)), (0, .box [.p (.sl (bs.map baleP)), .p (iP (May : Int)), .p (iP (D : Int)), .p (iP (M : Int)), .memo 1])]) (avs0 := [.one (.box 0 0), .one (.p (uP x))]) (nx := 2) [0, 1] hc rfl ?_ (by decide) (by decide) rfl).mono ?_)⟩⟩
  · refine ⟨rfl, rfl, trivial⟩
  rintro _ _ ⟨rfl, rfl⟩
  (refine ts ?_; try clear hQQ QQ)
  refine tw ?_; try with_reducible intro QQ hQQ
  (refine aw_ret ⟨.inr rfl, (by simp (maxSteps := 400000) (disch := first | decide | omega) only [go_sem, ↓reduceIte]; try rfl), (by simp (maxSteps := 400000) (disch := first | decide | omega) only [go_sem, ↓reduceIte]; try rfl), (by simp only [List.mem_cons, List.mem_nil_iff, forall_eq_or_imp, forall_eq, false_imp_iff, implies_true, or_false, and_true]; simp (maxSteps := 400000) (disch := first | decide | omega) only [go_sem, ↓reduceIte]; try exact ⟨rfl, rfl⟩)⟩)
/-- All sets are put in order: what is laid down first. -/
theorem clash_rows (k : Nat) : (List.range k).map rowU = rowsF id k := rfl
def whyC (bales : List (Int × Int × Int)) (may drift mist : Int) : Int := if lineB bales may drift mist = true then (if clP drift.toNat mist.toNat (nB bales) (2 ^ bales.length - 1) = true then 0 else 4) else 1
theorem ok_Clash : FunOK Try.prog 28 [lineR bales may drift mist] (ansN (whyC bales may drift mist) (clS drift.toNat mist.toNat (nB bales) : Nat)) := by
  refine fun_expAr false (l := []) (od := _) (nt := 30) (t := 3) (eb := 1) (rs := [.tmp 2, .cell 3 29]) ans43 Try.func28 rfl rfl rfl (by simp) rfl rfl rfl ansFid_eq Try.func43 rfl (by decide) fun Z w0 => ?_; simp only [initFr, avR, List.map_cons, List.map_nil]
  simp only [lineR, List.map_cons, List.map_nil]
  refine tw ?_; try with_reducible intro QQ hQQ
  refine ⟨rfl, ?_⟩
  (refine ts ?_; try clear hQQ QQ)
  refine tw ?_; try with_reducible intro QQ hQQ
  cases hv : lineB bales may drift mist
  · have hwhy : whyC bales may drift mist = 1 := by simp [whyC, hv]
    have hb := hwhy
    refine callS_ok rfl rfl 44 (by simp (disch := first | decide | omega) only [go_sem, ↓reduceIte]; try rfl) (by simp (disch := first | decide | omega) only [go_sem, ↓reduceIte]; try rfl) Try.func44 rfl (by decide) (CallF.mono (c_open_arg hv Try.func51 rfl (by decide) ?_ ?_) fun _ _ h => False.elim h); (intro i hi; first | exact (List.not_mem_nil hi).elim | (simp only [List.flatMap_cons, List.flatMap_nil, refsCC, List.append_nil, List.mem_singleton] at hi; subst hi; exact ⟨_, by simp (disch := first | decide | omega) only [go_sem, ↓reduceIte]; try rfl⟩))
    exact ⟨1, 0, rfl, by simp (disch := first | decide | omega) only [go_sem, ↓reduceIte]; try rfl, by simp (disch := first | decide | omega) only [go_sem, ↓reduceIte]; try rfl, by simp (disch := first | decide | omega) only [resA, res1, ansR, ansN, hwhy, hb, go_sem, ↓reduceIte]; try rfl⟩
  obtain ⟨bs, May, D, M, rfl, rfl, rfl, rfl, hL, hMay, hD, hM⟩ := line_of hv
  simp only [rows_cast]
  have hl1 := hL.n1
  have hl6 := hL.n6
  have hp6 := pow64 hl6
  have hev := ok_every (D := D) (M := M) (May := May) hL
  unfold tP at hev
  have hpp := Nat.two_pow_pos bs.length
  obtain ⟨N, hN⟩ : ∃ N, 2 ^ bs.length = N := ⟨_, rfl⟩
  obtain ⟨E, hE⟩ : ∃ E, 2 ^ bs.length - 1 = E := ⟨_, rfl⟩
  rw [hE] at hev
  have hEN : E + 1 = N := by omega
  have hN64 : N ≤ 64 := by omega
  have hwr : IntKind.u64.wrap (((E + 1 : Nat)) : Int) = ((N : Nat) : Int) := by rw [hEN]; exact wrap_u64 (by omega) (by omega)
  clear hv
  refine callS_ok rfl rfl 44 (by simp (disch := first | decide | omega) only [go_sem, ↓reduceIte]; try rfl) (by simp (disch := first | decide | omega) only [go_sem, ↓reduceIte]; try rfl) Try.func44 rfl (by decide) (CallF.mono (c_open_ok hL hMay hD hM Try.func51 rfl (by decide) ?_ ?_) ?_); (intro i hi; first | exact (List.not_mem_nil hi).elim | (simp only [List.flatMap_cons, List.flatMap_nil, refsCC, List.append_nil, List.mem_singleton] at hi; subst hi; exact ⟨_, by simp (disch := first | decide | omega) only [go_sem, ↓reduceIte]; try rfl⟩)); (exact is_box0 s_always); rintro _ _ ⟨rfl, rfl⟩; refine ts ?_; try clear hQQ QQ
  refine tw ?_; try with_reducible intro QQ hQQ
  ((refine callO_ok rfl rfl 54 true rfl (by simp (disch := first | decide | omega) only [hwr, go_sem, ↓reduceIte]; try rfl) (fun _ => rfl) (hev) Try.func54 rfl (by decide) ?_); simp (maxSteps := 400000) (disch := first | decide | omega) only [hwr, go_sem, ↓reduceIte]; try (with_reducible refine unhide hQQ ?_; clear hQQ QQ)); (repeat (first | apply aw_seq | apply aw_block | apply aw_skip | apply aw_label | apply aw_exit | ((first | refine aw_region (hideO fun QQ hQQ => ?_) | refine aw_draw mixed (hideD fun QQ hQQ => ?_)); simp (maxSteps := 400000) (disch := first | decide | omega) only [hwr, go_sem, ↓reduceIte]; try (first | with_reducible refine unhide hQQ ?_ | refine ⟨by kernel_rfl, unhide hQQ ?_⟩); clear hQQ QQ) | with_reducible first | apply then_n | apply block_n | apply then_x | apply then_r | apply nog_n | apply nog_r | apply block_r | apply block_e (by decide) | apply block_x (by decide)))
  have hpl : ∀ (k a : Nat) (row : List PV) (j : Nat) (c : PV), (rowsF id k)[a]? = some row → row[j]? = some c → ∃ v, c = .v v := by
    intro k a row j c ha hj
    unfold rowsF at ha
    rw [List.getElem?_map] at ha
    obtain ⟨x, _, rfl⟩ := Option.map_eq_some_iff.1 ha
    rcases j with _ | j
    · simp at hj; exact ⟨_, hj.symm⟩
    · simp at hj
  refine aw_frame [(15, .one (.p (uP 0))), (14, .one (.p (uP N))), (6, .one .nil), (5, .one (.box 6 0)), (3, .one (.box 1 0)), (2, .one (.p (iP 0)))] [(5, .one (.box 6 0)), (3, .one (.box 1 0)), (2, .one (.p (iP 0)))] 6 71 1 (rowsF id N) (.exit 0) rfl ?_ ?_ ?_ (fun vals w => ?_) ?_
  · intro t av ht
    simp only [AL.get] at ht
    repeat (first | (split at ht; · cases ht; rename_i h; subst h; exact ⟨rfl, rfl⟩) | cases ht)
  · exact hpl N
  · intro t av ht
    simp only [AL.get] at ht
    repeat (first | (split at ht; · cases ht; rename_i h; subst h; rfl) | cases ht)
  · simp only [smallFr, smallV]
    refine aw_weak (weak_own 6 71 1 rfl) ?_
    (refine ts ?_; try clear hQQ QQ)
    refine aw_weak (weak_keep [2, 3, 5, 6, 14, 15] (by simp only [go_sem, ↓reduceIte]; rfl)) ?_
    refine aw_loop_ov (ι := { i : Nat // i ≤ N }) (fun i => [(15, .one (.p (uP i.1))), (6, .one (.own 0 i.1))]) (fun i => [(0, .arr 71 1 ((List.range i.1).map rowU) true)]) (fun i => N - i.1) ⟨0, by omega⟩ (by first | rfl | (simp only [go_sem, ↓reduceIte]; first | done | rfl | (simp; try rfl))) ?_
    rintro ⟨i, hi⟩
    simp (disch := decide) only [ov, ovL, AL.get_nil, AL.get_eq, AL.get_ne, Option.getD_some, Option.getD_none]
    have hu1 : IntKind.u64.wrap ((i + 1 : Nat) : Int) = ((i + 1 : Nat) : Int) := wrapu_nat (n := i + 1) (by omega)
    by_cases hil : i < N
    · have hlb : (i + 1) * 8 ≤ 140737488355328 := by omega
      have hrow : (List.range i).map rowU ++ [[.v (.int .u64 (i : Int))]] = (List.range (i + 1)).map rowU := by simp [List.range_succ, rowU]
      have hll : ((List.range i).map rowU).length = i := by simp
      (repeat (first | apply aw_seq | apply aw_block | apply aw_skip | apply aw_label | apply aw_exit | ((first | refine aw_region (hideO fun QQ hQQ => ?_) | refine aw_draw mixed (hideD fun QQ hQQ => ?_)); simp (maxSteps := 400000) (disch := first | decide | omega) only [rowsK_one, rowsK_rU, hlb, hll, hu1, go_sem, ↓reduceIte]; try (first | with_reducible refine unhide hQQ ?_ | refine ⟨by kernel_rfl, unhide hQQ ?_⟩); clear hQQ QQ) | with_reducible first | apply then_n | apply block_n | apply then_x | apply then_r | apply nog_n | apply nog_r | apply block_r | apply block_e (by decide) | apply block_x (by decide)))
      refine aw_cond2 (by simp (disch := first | decide | omega) only [rowsK_one, rowsK_rU, hlb, hll, hu1, go_sem, ↓reduceIte]; rfl) ?_; first | refine .inl ⟨by first | rfl | exact decide_eq_true (by omega) | exact decide_eq_true (by assumption) | (simp (disch := first | decide | omega) only [if_pos_d, if_neg_d, decide_eq_true_eq, Bool.not_eq_true', decide_eq_false_iff_not]; omega), ?_⟩ | refine .inr ⟨by first | rfl | exact decide_eq_false (by omega) | exact decide_eq_false (by assumption) | (simp (disch := first | decide | omega) only [if_pos_d, if_neg_d, decide_eq_true_eq, Bool.not_eq_true', decide_eq_false_iff_not]; omega), ?_⟩
      (repeat (first | apply aw_seq | apply aw_block | apply aw_skip | apply aw_label | apply aw_exit | ((first | refine aw_region (hideO fun QQ hQQ => ?_) | refine aw_draw mixed (hideD fun QQ hQQ => ?_)); simp (maxSteps := 400000) (disch := first | decide | omega) only [rowsK_one, rowsK_rU, hlb, hll, hu1, go_sem, ↓reduceIte]; try (first | with_reducible refine unhide hQQ ?_ | refine ⟨by kernel_rfl, unhide hQQ ?_⟩); clear hQQ QQ) | with_reducible first | apply then_n | apply block_n | apply then_x | apply then_r | apply nog_n | apply nog_r | apply block_r | apply block_e (by decide) | apply block_x (by decide)))
      refine ⟨⟨i + 1, by omega⟩, ?_, weak_round ?_ (by first | rfl | (simp only [rowsK_one, rowsK_rU, hlb, hll, hu1, go_sem, ↓reduceIte]))⟩
      rotate_left
      · simp only [← hrow]
        (simp only [rowsK_one, rowsK_rU, hlb, hll, hu1, go_sem, ↓reduceIte]; try rfl)
      · simp only; omega
    · have hie : i = N := by omega
      subst hie
      rw [clash_rows]
      refine tw ?_; try with_reducible intro QQ hQQ
      refine ti ?_; try clear hQQ QQ
      refine aw_weak (weak_unshare (t := 0) (E := 71) (k := 1) (rows := rowsF id i) ?_ ?_) ?_
      · intro t' av ht
        simp only [AL.get] at ht
        repeat (first | (split at ht; · cases ht; first | exact .inl ⟨_, rfl⟩ | (right; rw [rowsF_len])) | cases ht)
      · exact hpl i
      refine aw_exit ?_
      repeat (first | with_reducible refine then_x ?_ | with_reducible refine block_x rfl ?_ | with_reducible refine block_n ?_ | with_reducible refine then_n ?_)
      refine ⟨rfl, 0, ?_, ?_, fun t av ht => ?_⟩
      · first | rfl | (rw [rowsF_len]; rfl)
      · rfl
      simp only [AL.get] at ht
      repeat (first | (split at ht; · cases ht; rename_i h; subst h; rfl) | cases ht)
  simp only [rowsF_len]
  (repeat (first | with_reducible refine block_e rfl ?_ | with_reducible refine block_x rfl ?_ | with_reducible refine block_n ?_ | with_reducible refine then_n ?_))
  obtain ⟨s0, hs0, hs1⟩ := sets_all bs.length hl6
  rw [hN] at hs0 hs1
  have hr0 : rowsF id N = rowsF (gt s0) N := by rw [rowsF_map (gt s0), hs0]; rfl
  have hr1 : rowsF (gt (stabN N s0)) N = (setsL bs.length).map rowU := by rw [rowsF_map, hs1]
  rw [hr0]
  (refine ts ?_; try clear hQQ QQ)
  refine tw ?_; try with_reducible intro QQ hQQ
  (refine callS_ok rfl rfl 69 (by simp (disch := first | decide | omega) only [go_sem, ↓reduceIte]; try rfl) (by simp (disch := first | decide | omega) only [go_sem, ↓reduceIte]; try rfl) Try.func69 rfl (by decide) ((c_sort (len := N) (t := 7) (by omega) s0 rfl).mono ?_)); rintro _ _ ⟨rfl, rfl⟩; refine ts ?_; try clear hQQ QQ
  (repeat (first | with_reducible refine then_n ?_ | with_reducible refine block_n ?_))
  unfold arrS
  refine aw_weak (weak_share 7 (E := 71) (k := 1) (rows := rowsF (gt (stabN N s0)) N) (sh := false) (by rfl)) ?_
  refine aw_weak (weak_dataS 6 (t := 7) (n := N) (E := 71) (k := 1) (rows := rowsF (gt (stabN N s0)) N) (by rfl) (by rfl)) ?_
  rw [List.take_of_length_le (by rw [rowsF_len]; exact Nat.le_refl _), hr1]
  have hlS : (setsL bs.length).length ≤ 100000 := by
    have := congrArg List.length hs1
    simp only [List.length_map, List.length_range] at this
    omega
  have hmem : ∀ x ∈ setsL bs.length, x < 2 ^ 63 := fun x hx => by
    rw [← hs1] at hx
    obtain ⟨i, _, rfl⟩ := List.mem_map.1 hx
    have := gt_lt (stabN N s0) i
    omega
  have hSF := fun x hx => s_clash (May := May) (M := M) hL hD x (hmem x hx)
  have hcl := cl_any (D := D) (M := M) hL
  cases hc : (setsL bs.length).any (clP D M bs)
  · have hwhy : whyC (bs.map castB) May D M = 4 := by
      rw [hc] at hcl
      unfold whyC
      rw [line_to hL hMay hD hM, nB_cast, List.length_map, Int.toNat_natCast, Int.toNat_natCast, ← hcl]
      rfl
    have hb := hwhy
    refine tw ?_; try with_reducible intro QQ hQQ
    refine callS_ok rfl rfl 72 (by simp (disch := first | decide | omega) only [go_sem, ↓reduceIte]; try rfl) (by simp (disch := first | decide | omega) only [go_sem, ↓reduceIte]; try rfl) Try.func72 rfl (by decide) (CallF.mono (cx_firstU (l := setsL bs.length) hlS (pred_clo (caps := [.box 6]) (nx0 := 8) (kd := .u64) Try.func73 rfl (by decide) (fun K st x hK hx hh => callF_S (hp := tH3 D M May bs Try.prog) (avs0 := [.one (.p (uP x)), .one (.box 2 0)]) (nx := 3) [5, 4, 6] (by rw [hK]; exact hSF x hx) rfl (show _ ∧ _ ∧ _ ∧ True from ⟨hh 6 _ (by decide) rfl, hh 4 _ (by decide) rfl, hh 5 _ (by decide) rfl, trivial⟩) (by decide) (by decide) rfl)) hc ?_) fun _ _ h => False.elim h)
    exact ⟨4, 0, rfl, by simp (disch := first | decide | omega) only [go_sem, ↓reduceIte]; try rfl, by simp (disch := first | decide | omega) only [go_sem, ↓reduceIte]; try rfl, by simp (disch := first | decide | omega) only [resA, res1, ansR, ansN, hwhy, hb, go_sem, ↓reduceIte]; try rfl⟩
  · have hwhy : whyC (bs.map castB) May D M = 0 := by
      rw [hc] at hcl
      unfold whyC
      rw [line_to hL hMay hD hM, nB_cast, List.length_map, Int.toNat_natCast, Int.toNat_natCast, ← hcl]
      rfl
    have hb := hwhy
    have hxl : clS D M bs < 2 ^ bs.length := (cl_least hL (by rw [← hcl]; exact hc)).2.1
    obtain ⟨x, hans⟩ : ∃ x, clS D M bs = x := ⟨_, rfl⟩
    have hcv := conv71_3 x (by omega)
    have hans' : clS D M (nB (bs.map castB)) = x := by rw [nB_cast]; exact hans
    refine tw ?_; try with_reducible intro QQ hQQ
    rw [← show firstF (clP D M bs) (setsL bs.length) = x from hans] at hcv
    (refine callS_ok rfl rfl 72 (by simp (disch := first | decide | omega) only [hcv, go_sem, ↓reduceIte]; try rfl) (by simp (disch := first | decide | omega) only [hcv, go_sem, ↓reduceIte]; try rfl) Try.func72 rfl (by decide) ((c_firstU (l := setsL bs.length) hlS (pred_clo (caps := [.box 6]) (nx0 := 8) (kd := .u64) Try.func73 rfl (by decide) (fun K st x hK hx hh => callF_S (hp := tH3 D M May bs Try.prog) (avs0 := [.one (.p (uP x)), .one (.box 2 0)]) (nx := 3) [5, 4, 6] (by rw [hK]; exact hSF x hx) rfl (show _ ∧ _ ∧ _ ∧ True from ⟨hh 6 _ (by decide) rfl, hh 4 _ (by decide) rfl, hh 5 _ (by decide) rfl, trivial⟩) (by decide) (by decide) rfl)) hc).mono ?_)); rintro _ _ ⟨rfl, rfl⟩; simp (maxSteps := 400000) (disch := first | decide | omega) only [hcv, go_sem, ↓reduceIte]; (try (with_reducible refine unhide hQQ ?_; clear hQQ QQ; (repeat with_reducible first | apply then_n | apply block_n | apply then_x | apply then_r | apply nog_n | apply nog_r | apply block_r | apply block_e (by decide) | apply block_x (by decide))))
    try rw [show firstF (clP D M bs) (setsL bs.length) = x from hans]
    have hans := hans'
    (repeat (first | apply aw_seq | apply aw_block | apply aw_skip | apply aw_label | apply aw_exit | ((first | refine aw_region (hideO fun QQ hQQ => ?_) | refine aw_draw mixed (hideD fun QQ hQQ => ?_)); simp (maxSteps := 400000) (disch := first | decide | omega) only [hcv, go_sem, ↓reduceIte]; try (first | with_reducible refine unhide hQQ ?_ | refine ⟨by kernel_rfl, unhide hQQ ?_⟩); clear hQQ QQ) | with_reducible first | apply then_n | apply block_n | apply then_x | apply then_r | apply nog_n | apply nog_r | apply block_r | apply block_e (by decide) | apply block_x (by decide)))
    (refine aw_ret ⟨.inr rfl, by simp (disch := first | decide | omega) only [go_sem, ↓reduceIte]; try rfl, by simp (disch := first | decide | omega) only [resA, res1, ansR, ansN, hb, hwhy, hans, go_sem, ↓reduceIte]; try rfl⟩)
end
end Go.Proofs.Ytgdhdikeicgndaa
/- classer: are so many fleeces more enough, walked. -/
namespace Go.Proofs.Ytgdhdikeicgndaa
open Go Go.RowKit Go.Sh Go.Pv Go.Cl
set_option maxHeartbeats 800000
set_option maxRecDepth 20000
set_option pp.maxSteps 60000
/-- A line of which more fleeces of one bale were looked at. -/
def moreL (bs : List (Nat × Nat × Nat)) (j x : Nat) : List (Nat × Nat × Nat) := bs.set j ((bG bs j).1, (bG bs j).2.1 + x, (bG bs j).2.2)
theorem moreL_len {bs : List (Nat × Nat × Nat)} {j x : Nat} : (moreL bs j x).length = bs.length := List.length_set
theorem moreL_ok {bs : List (Nat × Nat × Nat)} {j x : Nat} (h : LOK bs) (hj : j < bs.length) (hx : (bG bs j).2.1 + x ≤ (bG bs j).1) : LOK (moreL bs j x) := by
  have := h.ba j hj
  exact h.set hj ⟨this.1, this.2.1, hx, by dsimp only; omega⟩
theorem lendV_box {i5 b : Nat} {h : Nat → Option Obj'} {cs : List AC} {r : List PV} (h1 : b ≠ i5) (h2 : h b = some (.box cs)) (h3 : cs.mapM (lendC h) = some r) : lendV i5 h (.one (.box b 0)) = some (.one (.ptr r)) := by
  show (if b = i5 then none else match h b with | some (.box cs) => (cs.mapM (lendC h)).map fun r => RV.one (.ptr r) | _ => none) = _
  rw [if_neg h1, h2]
  dsimp only
  rw [h3]; rfl
theorem lendC_own {h : Nat → Option Obj'} {t n E k : Nat} {rows : List (List PV)} {sh : Bool} (h1 : h t = some (.arr E k rows sh)) : lendC h (.own t n) = some (.sl (rows.take n)) := by
  show (match h t with | some (.arr _ _ rows _) => some (PV.sl (rows.take n)) | _ => none) = _
  rw [h1]
section
variable {Z : Zn} {w0 : World} {cap : Nat → Prop} {nt : Nat} {rd : Option Nat} {pan : List PanicEntry → St → Prop} {df : Option Nat} {dk : List Nat} {rg : Bool} {fr : List (Nat × AV)} {hp : List (Nat × Obj')} {nx : Nat}
variable {bs : List (Nat × Nat × Nat)} {May D M j x bo bl bb t : Nat} {rows : List (List PV)}
theorem c_enough (h : LOK bs) (hMay : May ≤ 30) (hD : D ≤ 30) (hM : M ≤ 6) (hj : j < bs.length) (hx : (bG bs j).2.1 + x ≤ (bG bs j).1) (hbo : AL.get hp bo = some (.box [.own t bs.length])) (hbl : AL.get hp bl = some (.box [.p (.sl (bs.map baleP)), .p (iP (May : Int)), .p (iP (D : Int)), .p (iP (M : Int))]))
    (hbb : AL.get hp bb = some (.box [.p (iP (j : Int))])) (ht : AL.get hp t = some (.arr 44 3 rows false)) (hr : rows.length = bs.length) :
    CallF ⟨Try.prog, Z, w0, cap, nt, rd, pan, df, dk, rg⟩ 66 [.one (.p (iP (x : Int))), .one (.box bo 0), .one (.box bl 0), .one (.box bb 0)] ⟨fr, hp, nx⟩ fun st' av => st' = ⟨fr, AL.set hp t (.arr 44 3 ((moreL bs j x).map baleP) false), nx⟩ ∧ av = .one (.p (.v (.bool (enB D M May (moreL bs j x) j 31)))) := by
  have hb1 : bs.length ≤ 6 := h.n6
  have hba := (h.ba j hj).2.1
  have hsum : (bG bs j).2.1 + x ≤ 30 := by omega
  (refine callF_to0 (nt := 45) (rs := [.cell 5 4]) Try.func66 rfl rfl rfl (by simp) fun hcl tm Ds => ?_); simp only [initV]
  have hlt := hcl.lt
  have lbo := hlt bo _ hbo
  have lbl := hlt bl _ hbl
  have lbb := hlt bb _ hbb
  have lt := hlt t _ ht
  dsimp only [Kx.calleeT] at lbo lbl lbb lt ⊢
  refine aw0_seq ?_
  refine tw ?_; try with_reducible intro QQ hQQ
  refine aw0_seq ?_
  have hlen3 : (bs.map baleP).length = bs.length := List.length_map _
  (repeat (first | apply aw_seq | apply aw_block | apply aw_skip | apply aw_label | apply aw_exit | ((first | refine aw_region (hideO fun QQ hQQ => ?_) | refine aw_draw mixed (hideD fun QQ hQQ => ?_)); simp (maxSteps := 400000) (disch := first | decide | omega) only [hbo, hbl, hbb, ht, go_sem, ↓reduceIte]; try (first | with_reducible refine unhide hQQ ?_ | refine ⟨by kernel_rfl, unhide hQQ ?_⟩); clear hQQ QQ) | with_reducible first | apply then_n | apply block_n | apply then_x | apply then_r | apply nog_n | apply nog_r | apply block_r | apply block_e (by decide) | apply block_x (by decide)))
  have hrk : rowsK 3 (bs.map baleP) := by rw [rowsK_bale]; trivial
  refine ⟨rfl, .inr ⟨rfl, callS_copy (t := t) (n := bs.length) (k := 3) (E := 44) (rows := rows) (xr := bs.map baleP) (av := .one (.p (.sl (bs.map baleP)))) rfl rfl ?_ ?_ (by decide) ?_ ?_ hr.symm ?_ ?_ hrk (by rw [hr, List.length_map]) ?_⟩⟩
  · simp (disch := first | decide | omega) only [hbo, hbl, hbb, ht, go_sem, ↓reduceIte]
  · simp (disch := first | decide | omega) only [hbo, hbl, hbb, ht, go_sem, ↓reduceIte]
  · simp (disch := first | decide | omega) only [hbo, hbl, hbb, ht, go_sem, ↓reduceIte]
  · simp (disch := first | decide | omega) only [hbo, hbl, hbb, ht, go_sem, ↓reduceIte]
  · simp (disch := first | decide | omega) only [hbo, hbl, hbb, ht, go_sem, ↓reduceIte]
  · simp (disch := first | decide | omega) only [hbo, hbl, hbb, ht, go_sem, ↓reduceIte]
  clear hrk
  (simp (maxSteps := 400000) (disch := first | decide | omega) only [hbo, hbl, hbb, ht, go_sem, ↓reduceIte]; (try (with_reducible refine unhide hQQ ?_; clear hQQ QQ; (repeat with_reducible first | apply then_n | apply block_n | apply then_x | apply then_r | apply nog_n | apply nog_r | apply block_r | apply block_e (by decide) | apply block_x (by decide)))))
  (repeat (first | apply aw_seq | apply aw_block | apply aw_skip | apply aw_label | apply aw_exit | ((first | refine aw_region (hideO fun QQ hQQ => ?_) | refine aw_draw mixed (hideD fun QQ hQQ => ?_)); simp (maxSteps := 400000) (disch := first | decide | omega) only [hbo, hbl, hbb, ht, go_sem, ↓reduceIte]; try (first | with_reducible refine unhide hQQ ?_ | refine ⟨by kernel_rfl, unhide hQQ ?_⟩); clear hQQ QQ) | with_reducible first | apply then_n | apply block_n | apply then_x | apply then_r | apply nog_n | apply nog_r | apply block_r | apply block_e (by decide) | apply block_x (by decide)))
  have hbo' : bo ≠ t := by rintro rfl; rw [hbo] at ht; cases ht
  have hbl' : bl ≠ t := by rintro rfl; rw [hbl] at ht; cases ht
  have hbb' : bb ≠ t := by rintro rfl; rw [hbb] at ht; cases ht
  have hg : (bs.map baleP)[j]? = some [iP ((bG bs j).1 : Int), iP ((bG bs j).2.1 : Int), iP ((bG bs j).2.2 : Int)] := by rw [List.getElem?_map, get_someBale hj]; rfl
  refine aw0_seq ?_
  (repeat (first | apply aw_seq | apply aw_block | apply aw_skip | apply aw_label | apply aw_exit | ((first | refine aw_region (hideO fun QQ hQQ => ?_) | refine aw_draw mixed (hideD fun QQ hQQ => ?_)); simp (maxSteps := 400000) (disch := first | decide | omega) only [hbo, hbl, hbb, ht, hg, hlen3, go_sem, ↓reduceIte]; try (first | with_reducible refine unhide hQQ ?_ | refine ⟨by kernel_rfl, unhide hQQ ?_⟩); clear hQQ QQ) | with_reducible first | apply then_n | apply block_n | apply then_x | apply then_r | apply nog_n | apply nog_r | apply block_r | apply block_e (by decide) | apply block_x (by decide)))
  have hrows : (bs.map baleP).set j [iP ((bG bs j).1 : Int), iP (((bG bs j).2.1 + x : Nat) : Int), iP ((bG bs j).2.2 : Int)] = (moreL bs j x).map baleP := by
    unfold moreL
    rw [List.map_set]; rfl
  rw [hrows]
  obtain ⟨B, hB⟩ : ∃ B, enB D M May (moreL bs j x) j 31 = B := ⟨_, rfl⟩
  have hL := moreL_ok h hj hx
  have hjl : j < (moreL bs j x).length := by rw [moreL_len]; exact hj
  have hl2 : (moreL bs j x).length = bs.length := moreL_len
  rw [hB]
  generalize moreL bs j x = bs2 at *
  have hlb : (List.map baleP bs2).take bs.length = List.map baleP bs2 := List.take_of_length_le (by rw [List.length_map, hl2]; exact Nat.le_refl _)
  refine aw0_lend 5 (nx + 1) (.bool false) [(0, .one (iP (x : Int))), (1, .one (.ptr [.sl (bs2.map baleP)])), (2, .one (.ptr [.sl (bs.map baleP), iP (May : Int), iP (D : Int), iP (M : Int)])), (3, .one (.ptr [iP (j : Int)]))] rfl rfl (by simp (disch := first | decide | omega) only [go_sem, ↓reduceIte]) (by simp (disch := first | decide | omega) only [go_sem, ↓reduceIte]) ?_ (fun Z2 w2 cap2 tm0 => ?_)
  · have hh : ∀ {b o}, AL.get hp b = some o → b < nx → b ≠ t → AL.get ((t, Obj'.arr 44 3 (List.map baleP bs2) false) :: (t, Obj'.arr 44 3 (List.map baleP bs) false) :: (nx + 1, Obj'.box [AC.p (PV.v (Value.bool false))]) :: (nx, Obj'.kept fr tm) :: hp) b = some o := by
      intro b o h1 h2 h3
      rw [AL.get_ne _ _ h3, AL.get_ne _ _ h3, AL.get_ne _ _ (by omega), AL.get_ne _ _ (by omega)]; exact h1
    intro s rv hs
    simp only [AL.get] at hs
    split at hs
    · cases hs; rename_i e; subst e; exact ⟨by decide, _, rfl, rfl⟩
    split at hs
    · cases hs; rename_i e; subst e
      refine ⟨by decide, _, rfl, lendV_box (by omega) (hh hbo lbo hbo') ?_⟩
      rw [mapM_eq, mapO, lendC_own (AL.get_eq _ _ _), hlb]; rfl
    split at hs
    · cases hs; rename_i e; subst e
      exact ⟨by decide, _, rfl, lendV_box (by omega) (hh hbl lbl hbl') rfl⟩
    split at hs
    · cases hs; rename_i e; subst e
      exact ⟨by decide, _, rfl, lendV_box (by omega) (hh hbb lbb hbb') rfl⟩
    · cases hs
  dsimp only [List.map_cons, List.map_nil, avR]
  refine AW.mono (Q := fun e st' => AL.get st'.fr 5 = some (.one (.box 0 0)) ∧ AL.get st'.hp 1 = some (.kept [(0, .one (.box 0 0))] tm0) ∧ AL.get st'.hp 0 = some (.box [.p (.v (.bool B))]) ∧ (e = .normal ∨ e = .ret)) ?_ fun e st' hq => ?_
  rotate_left
  · obtain ⟨q1, q2, q3, q4⟩ := hq
    refine ⟨q1, q2, _, q3, q4, .one (.p (.v (.bool B))), by simp (disch := first | decide | omega) only [go_sem, ↓reduceIte]; try rfl, by simp (disch := first | decide | omega) only [go_sem, ↓reduceIte]; try rfl, ⟨fr, (t, .arr 44 3 (bs2.map baleP) false) :: hp, nx⟩, rfl, ?_, ?_, fun i hi => (by cases hi), rfl, rfl⟩
    · exact Closed.set hcl ht (fun _ _ h => by cases h) (fun i hi => by cases hi)
    · intro id o ho
      have ho : AL.get ((t, Obj'.arr 44 3 (List.map baleP bs2) false) :: hp) id = some o := ho
      by_cases e1 : id = t
      · subst e1
        rw [AL.get_eq] at ho
        show AL.get ((nx + 1, _) :: (id, _) :: _) id = _
        rw [AL.get_ne _ _ (by omega), AL.get_eq]; exact ho
      · rw [AL.get_ne _ _ e1] at ho
        have := hlt id o ho
        dsimp only at this
        show AL.get ((nx + 1, _) :: (t, _) :: (t, _) :: (nx + 1, _) :: (nx, _) :: hp) id = _
        rw [AL.get_ne _ _ (by omega), AL.get_ne _ _ e1, AL.get_ne _ _ e1, AL.get_ne _ _ (by omega), AL.get_ne _ _ (by omega)]; exact ho
  clear hlb hrows hg hbb' hbl' hbo' lt lbb lbl lbo hlt hcl ht hbb hbl hbo hr hsum hba hx
  have hlen2 : bs2.length ≤ 6 := hL.n6
  have hev := ok_every (D := D) (M := M) (May := May) hL
  have hth := s_through (M := M) (May := May) hL hD _ j (all_lt hL) hjl
  have hEn : ∀ k, enB D M May bs2 j (k + 1) = (enB D M May bs2 j k && (!decide (thr D bs2.length (oT bs2 (2 ^ bs2.length - 1)) j k ≤ M) || decide (k ≤ May))) := fun k => rfl
  have hE0 : enB D M May bs2 j 0 = true := rfl
  unfold tP at hev
  generalize enB D M May bs2 j = EN at *
  generalize thr D bs2.length (oT bs2 (2 ^ bs2.length - 1)) j = T at *
  generalize (2 ^ bs2.length - 1) = E at *
  unfold tH tC at hth
  refine tw ?_; try with_reducible intro QQ hQQ
  refine ⟨rfl, .inr ⟨rfl, callS_makeMap rfl rfl 118 (keepI D bs2) (fun _ _ h => h) ?_⟩⟩
  (refine ts ?_; try clear hQQ QQ)
  refine tw ?_; try with_reducible intro QQ hQQ
  (refine cD 54 rfl rfl rfl (hev) Try.func54 rfl ?_); refine td ?_; try clear hQQ QQ
  refine tw ?_; try with_reducible intro QQ hQQ
  (refine callD_S [4, 3] (hth) rfl rfl (by simp (disch := first | decide | omega) only [go_sem, ↓reduceIte]; try rfl) (by simp (disch := first | decide | omega) only [go_sem, ↓reduceIte]; try rfl) Try.func67 rfl (by decide) (by rfl) (by repeat' (first | trivial | apply And.intro | (simp (disch := first | decide | omega) only [go_sem, ↓reduceIte]; first | done | rfl))) (by decide) (by decide) (by first | rfl | (simp (disch := first | decide | omega) only [go_sem, ↓reduceIte]; try rfl)) ?_); refine td ?_; try clear hQQ QQ
  refine tw ?_; try with_reducible intro QQ hQQ
  refine callD_F [6, 7] ?_ ?_ 8 rfl rfl (by simp (disch := first | decide | omega) only [go_sem, ↓reduceIte]; try rfl) (by simp (disch := first | decide | omega) only [go_sem, ↓reduceIte]; try rfl) Try.func68 rfl (by decide) ?_ (by dsimp only; omega) (by decide) ?_ ?_; rotate_left 3; (intro fr hk; exact c_upTo T M); rotate_left; (intro id hid; simp only [List.mem_cons, List.mem_nil_iff, or_false, not_or] at hid; simp (disch := first | decide | omega) only [go_sem, ↓reduceIte]); refine td ?_; try clear hQQ QQ
  refine tw ?_; try with_reducible intro QQ hQQ
  have hmono : ∀ m k, EN k = false → EN (k + m) = false := fun m => by
    induction m with
    | zero => exact fun k h => h
    | succ m ih => exact fun k h => by rw [show k + (m + 1) = (k + m) + 1 from rfl, hEn, ih k h]; rfl
  refine aw_weak (weak_restrict [2, 5, 39] [7, 6, 1, 0] 8 (by simp only [go_sem, ↓reduceIte]; rfl)) ?_
  clear hth hev hL hjl
  refine aw_rangeFunc (nt := 19) rfl rfl (by simp (disch := first | decide | omega) only [go_sem, ↓reduceIte]; rfl) Try.func89 rfl (by decide) rfl rfl (by decide) fun r bb tm2 Ds2 hr1 hr1p hr2 hr3 hr4 hr5 hr6 hr7 => ?_
  dsimp only [Kx.iter] at hr5 hr7 ⊢
  refine aw_scope rfl ?_
  refine tw ?_; try with_reducible intro QQ hQQ
  refine aw_weak (weak_keepA [0, 2, 6, 7] (by simp only [go_sem, ↓reduceIte]; rfl)) ?_
  refine aw_loop_ov (ι := { i : Nat // i ≤ 31 ∧ EN i = true }) (fun i => [(7, iA i.1)]) (fun i => []) (fun i => 31 - i.1) ⟨0, by omega, hE0⟩ (by first | rfl | (simp only [go_sem, ↓reduceIte]; first | done | rfl | (simp; try rfl))) ?_
  rintro ⟨i, hi, hei⟩
  simp (disch := decide) only [ov, ovL, AL.get_nil, AL.get_eq, AL.get_ne, Option.getD_some, Option.getD_none]
  by_cases hil : i < 31
  · have hen := hEn i
    by_cases hc : T i ≤ M
    · refine tw ?_; try with_reducible intro QQ hQQ
      refine ti ?_; try clear hQQ QQ
      refine tw ?_; try with_reducible intro QQ hQQ
      refine ti ?_; try clear hQQ QQ
      refine tw ?_; try with_reducible intro QQ hQQ
      refine ⟨rfl, .inr ⟨rfl, callS_yield (L := 9) (C := 8) (avs := [.one (.p (iP (i : Int)))]) rfl rfl (by simp (disch := first | decide | omega) only [go_sem, ↓reduceIte]; try rfl) (by simp (disch := first | decide | omega) only [go_sem, ↓reduceIte]; try rfl) (by simp (disch := first | decide | omega) only [go_sem, ↓reduceIte]; try rfl) hr1 (by simp (disch := first | decide | omega) only [go_sem, ↓reduceIte]; try rfl) hr6 (by rw [hr5]; exact fun t av ht => hr7 t av ht |> fun h => by rw [hr5] at h; exact h) (by rw [hr2]; rfl) ?_ fun Ds tmi => ?_⟩⟩
      · intro t ht
        rw [hr2] at ht
        rw [hr5]
        simp only [List.mem_cons, List.mem_nil_iff, or_false] at ht
        subst ht; decide
      obtain ⟨rB, hrB⟩ : ∃ rB, ({ r with state := .busy } : Loop) = rB := ⟨_, rfl⟩
      rw [hrB, hr2, hr3, hr4, hr5]
      have hrr : ({ rB with state := .ready, pending := none } : Loop) = r := by
        rw [← hrB]
        cases r
        dsimp only at hr1 hr1p
        subst hr1 hr1p
        rfl
      simp only [Kx.round, setPs]
      by_cases hk : i ≤ May
      · refine tw ?_; try with_reducible intro QQ hQQ
        refine ⟨rfl, by simp (disch := first | decide | omega) only [go_sem, ↓reduceIte], ?_⟩
        refine tw ?_; try with_reducible intro QQ hQQ
        refine ti ?_; try clear hQQ QQ
        refine tw ?_; try with_reducible intro QQ hQQ
        refine ⟨by simp (disch := first | decide | omega) only [go_sem, ↓reduceIte]; try rfl, none, .inl ⟨rfl, rfl⟩, rB, by simp (disch := first | decide | omega) only [go_sem, ↓reduceIte]; try rfl, ?_⟩
        (simp (maxSteps := 400000) (disch := first | decide | omega) only [Option.isNone_none, hrr, go_sem, ↓reduceIte]; (try (with_reducible refine unhide hQQ ?_; clear hQQ QQ; (repeat with_reducible first | apply then_n | apply block_n | apply then_x | apply then_r | apply nog_n | apply nog_r | apply block_r | apply block_e (by decide) | apply block_x (by decide)))))
        (repeat (first | apply aw_seq | apply aw_block | apply aw_skip | apply aw_label | apply aw_exit | ((first | refine aw_region (hideO fun QQ hQQ => ?_) | refine aw_draw mixed (hideD fun QQ hQQ => ?_)); simp (maxSteps := 400000) (disch := first | decide | omega) only [Option.isNone_none, hrr, go_sem, ↓reduceIte]; try (first | with_reducible refine unhide hQQ ?_ | refine ⟨by kernel_rfl, unhide hQQ ?_⟩); clear hQQ QQ) | with_reducible first | apply then_n | apply block_n | apply then_x | apply then_r | apply nog_n | apply nog_r | apply block_r | apply block_e (by decide) | apply block_x (by decide)))
        refine aw_cond2 (by simp (disch := first | decide | omega) only [Option.isNone_none, hrr, go_sem, ↓reduceIte]; rfl) ?_; first | refine .inl ⟨by first | rfl | exact decide_eq_true (by omega) | exact decide_eq_true (by assumption) | (simp (disch := first | decide | omega) only [if_pos_d, if_neg_d, decide_eq_true_eq, Bool.not_eq_true', decide_eq_false_iff_not]; omega), ?_⟩ | refine .inr ⟨by first | rfl | exact decide_eq_false (by omega) | exact decide_eq_false (by assumption) | (simp (disch := first | decide | omega) only [if_pos_d, if_neg_d, decide_eq_true_eq, Bool.not_eq_true', decide_eq_false_iff_not]; omega), ?_⟩
        (repeat (first | apply aw_seq | apply aw_block | apply aw_skip | apply aw_label | apply aw_exit | ((first | refine aw_region (hideO fun QQ hQQ => ?_) | refine aw_draw mixed (hideD fun QQ hQQ => ?_)); simp (maxSteps := 400000) (disch := first | decide | omega) only [Option.isNone_none, hrr, go_sem, ↓reduceIte]; try (first | with_reducible refine unhide hQQ ?_ | refine ⟨by kernel_rfl, unhide hQQ ?_⟩); clear hQQ QQ) | with_reducible first | apply then_n | apply block_n | apply then_x | apply then_r | apply nog_n | apply nog_r | apply block_r | apply block_e (by decide) | apply block_x (by decide)))
        refine ⟨⟨i + 1, by omega, by rw [hen, hei, decide_eq_true hk]; simp⟩, ?_, weak_round ?_ (by first | rfl | (simp only [Option.isNone_none, hrr, go_sem, ↓reduceIte]))⟩
        rotate_left
        · (simp only [Option.isNone_none, hrr, go_sem, ↓reduceIte]; try rfl)
        · show 31 - (i + 1) < 31 - i
          omega
      · refine tw ?_; try with_reducible intro QQ hQQ
        refine ⟨rfl, by simp (disch := first | decide | omega) only [go_sem, ↓reduceIte], ?_⟩
        refine tw ?_; try with_reducible intro QQ hQQ
        refine ti ?_; try clear hQQ QQ
        refine tw ?_; try with_reducible intro QQ hQQ
        have hBf : B = false := by
          rw [← hB, show 31 = (i + 1) + (30 - i) by omega]
          exact hmono _ _ (by rw [hen, decide_eq_false hk, decide_eq_true hc]; simp)
        subst hBf
        refine aw_ret ⟨by simp (disch := first | decide | omega) only [go_sem, ↓reduceIte]; try rfl, some .ret, .inr (.inl ⟨rfl, rfl⟩), rB, by simp (disch := first | decide | omega) only [go_sem, ↓reduceIte]; try rfl, ?_⟩
        (simp (maxSteps := 400000) (disch := first | decide | omega) only [Option.isNone_some, go_sem, ↓reduceIte]; (try (with_reducible refine unhide hQQ ?_; clear hQQ QQ; (repeat with_reducible first | apply then_n | apply block_n | apply then_x | apply then_r | apply nog_n | apply nog_r | apply block_r | apply block_e (by decide) | apply block_x (by decide)))))
        (repeat (first | apply aw_seq | apply aw_block | apply aw_skip | apply aw_label | apply aw_exit | ((first | refine aw_region (hideO fun QQ hQQ => ?_) | refine aw_draw mixed (hideD fun QQ hQQ => ?_)); simp (maxSteps := 400000) (disch := first | decide | omega) only [Option.isNone_some, go_sem, ↓reduceIte]; try (first | with_reducible refine unhide hQQ ?_ | refine ⟨by kernel_rfl, unhide hQQ ?_⟩); clear hQQ QQ) | with_reducible first | apply then_n | apply block_n | apply then_x | apply then_r | apply nog_n | apply nog_r | apply block_r | apply block_e (by decide) | apply block_x (by decide)))
        refine aw_cond2 (by simp (disch := first | decide | omega) only [Option.isNone_some, go_sem, ↓reduceIte]; rfl) ?_; first | refine .inl ⟨by first | rfl | exact decide_eq_true (by omega) | exact decide_eq_true (by assumption) | (simp (disch := first | decide | omega) only [if_pos_d, if_neg_d, decide_eq_true_eq, Bool.not_eq_true', decide_eq_false_iff_not]; omega), ?_⟩ | refine .inr ⟨by first | rfl | exact decide_eq_false (by omega) | exact decide_eq_false (by assumption) | (simp (disch := first | decide | omega) only [if_pos_d, if_neg_d, decide_eq_true_eq, Bool.not_eq_true', decide_eq_false_iff_not]; omega), ?_⟩
        (repeat (first | apply aw_seq | apply aw_block | apply aw_skip | apply aw_label | apply aw_exit | ((first | refine aw_region (hideO fun QQ hQQ => ?_) | refine aw_draw mixed (hideD fun QQ hQQ => ?_)); simp (maxSteps := 400000) (disch := first | decide | omega) only [Option.isNone_some, go_sem, ↓reduceIte]; try (first | with_reducible refine unhide hQQ ?_ | refine ⟨by kernel_rfl, unhide hQQ ?_⟩); clear hQQ QQ) | with_reducible first | apply then_n | apply block_n | apply then_x | apply then_r | apply nog_n | apply nog_r | apply block_r | apply block_e (by decide) | apply block_x (by decide)))
        refine ⟨.inl rfl, by simp (disch := first | decide | omega) only [go_sem, ↓reduceIte], { rB with state := .done, pending := some .ret }, by simp (disch := first | decide | omega) only [go_sem, ↓reduceIte], (fun h => by cases h), ?_⟩
        (repeat (first | with_reducible refine then_r ?_ | with_reducible refine then_n ?_ | with_reducible refine block_n ?_))
        show _ ∧ _ ∧ _ ∧ _
        exact ⟨by simp (disch := first | decide | omega) only [go_sem, ↓reduceIte]; try rfl, by simp (disch := first | decide | omega) only [go_sem, ↓reduceIte]; try rfl, by simp (disch := first | decide | omega) only [go_sem, ↓reduceIte]; try rfl, .inr rfl⟩
    · refine tw ?_; try with_reducible intro QQ hQQ
      refine ti ?_; try clear hQQ QQ
      refine tw ?_; try with_reducible intro QQ hQQ
      refine ti ?_; try clear hQQ QQ
      (refine aw_exit ?_); (repeat with_reducible first | apply then_n | apply block_n | apply then_x | apply then_r | apply nog_n | apply nog_r | apply block_r | apply block_e (by decide) | apply block_x (by decide))
      refine tw ?_; try with_reducible intro QQ hQQ
      refine ⟨⟨i + 1, by omega, by rw [hen, hei, decide_eq_false hc]; rfl⟩, ?_, weak_round ?_ (by first | rfl | (simp only [go_sem, ↓reduceIte]))⟩
      rotate_left
      · (simp only [go_sem, ↓reduceIte]; try rfl)
      · show 31 - (i + 1) < 31 - i
        omega
  · have : i = 31 := by omega
    subst this
    refine tw ?_; try with_reducible intro QQ hQQ
    refine ti ?_; try clear hQQ QQ
    refine tw ?_; try with_reducible intro QQ hQQ
    refine ⟨.inl rfl, by simp (disch := first | decide | omega) only [go_sem, ↓reduceIte], r, by simp (disch := first | decide | omega) only [go_sem, ↓reduceIte], by rw [hr1]; decide, ?_⟩
    rw [hr1p]
    (repeat (first | with_reducible refine then_n ?_ | with_reducible refine block_n ?_))
    show AW _ _ _ _
    rw [hei] at hB
    subst hB
    refine tw ?_; try with_reducible intro QQ hQQ
    refine aw_ret ⟨by simp (disch := first | decide | omega) only [go_sem, ↓reduceIte]; try rfl, by simp (disch := first | decide | omega) only [go_sem, ↓reduceIte]; try rfl, by simp (disch := first | decide | omega) only [go_sem, ↓reduceIte]; try rfl, .inr rfl⟩
end
end Go.Proofs.Ytgdhdikeicgndaa
/- classer: the first number that suits, where asking turns one slice. -/
namespace Go.Proofs.Ytgdhdikeicgndaa
open Go Go.RowKit Go.Sh Go.Pv Go.Cl
set_option maxHeartbeats 800000
set_option maxRecDepth 20000
set_option pp.maxSteps 60000
/-- A predicate that is called, and leaves a slice as it was made for what was asked. -/
def PredT (ac : AC) (p : Nat → Bool) (l : List Nat) (t n : Nat) (RF : Nat → List (List PV)) (hp0 : List (Nat × Obj')) (nx0 : Nat) : Prop :=
  ∀ (K : Kx) (st : St) (o : Oper) (f : Operand) (arg : Operand) (argTypes : Array TypeId) (x : Nat) (Q : St → Prop), K.P = Try.prog → x ∈ l → dstOK K o.dst = true → o.op = .call { callee := .value f, args := #[arg], argTypes := argTypes } →
    evalA (AL.get st.fr) f = some (.one ac) → evalA (AL.get st.fr) arg = some (.one (.p (iP (x : Int)))) → ∀ R, AL.get st.hp t = some (.arr 44 3 R false) → R.length = n → (∀ id ob, id < nx0 → id ≠ t → AL.get hp0 id = some ob → AL.get st.hp id = some ob) →
    Q (St.put ⟨st.fr, AL.set st.hp t (.arr 44 3 (RF x) false), st.nx⟩ o.dst (.one (.p (.v (.bool (p x)))))) → CallS K st o Q
theorem PredT.mono {ac : AC} {p : Nat → Bool} {l : List Nat} {t n : Nat} {RF : Nat → List (List PV)} {hp0 hp1 : List (Nat × Obj')} {nx0 nx1 : Nat} (h : PredT ac p l t n RF hp0 nx0) (hh : ∀ id ob, id < nx0 → AL.get hp0 id = some ob → id < nx1 ∧ AL.get hp1 id = some ob) : PredT ac p l t n RF hp1 nx1 :=
  fun K st o f arg argTypes x Q h1 h2 h3 h4 h5 h6 R h7 h8 h9 h10 => h K st o f arg argTypes x Q h1 h2 h3 h4 h5 h6 R h7 h8 (fun id ob hi hne ho => let ⟨g1, g2⟩ := hh id ob hi ho; h9 id ob g1 hne g2) h10
attribute [local go_sem] rowN rowsK_rN rowU rowsK_rU get_someN
section
variable {Z : Zn} {w0 : World} {cap : Nat → Prop} {nt : Nat} {rd : Option Nat} {pan : List PanicEntry → St → Prop} {df : Option Nat} {dk : List Nat} {rg : Bool} {fr : List (Nat × AV)} {hp : List (Nat × Obj')} {nx : Nat}
theorem c_indexT {ac : AC} {p : Nat → Bool} {l : List Nat} {t n : Nat} {RF : Nat → List (List PV)} {R0 : List (List PV)} (hRF : ∀ x, (RF x).length = n) (ht : AL.get hp t = some (.arr 44 3 R0 false)) (hR0 : R0.length = n) (hl : l.length ≤ 100000) (hp1 : PredT ac p l t n RF hp nx) :
    CallF ⟨Try.prog, Z, w0, cap, nt, rd, pan, df, dk, rg⟩ 84 [.one (.p (.sl (l.map rowN))), .one ac] ⟨fr, hp, nx⟩ fun st' av => ∃ R, R.length = n ∧ (l.any p = true → R = RF (firstF p l)) ∧ st' = ⟨fr, AL.set hp t (.arr 44 3 R false), nx⟩ ∧ av = .one (.p (iP (idxF p l))) := by
  (refine callF_to (nt := 19) (rs := [.tmp 4]) Try.func84 rfl rfl rfl (by simp) fun hcl tm Ds => ?_); simp only [initV]
  dsimp only [Kx.calleeT]
  have hlt := hcl.lt
  dsimp only at hlt
  refine tw ?_; try with_reducible intro QQ hQQ
  refine aw_weak (weak_thr [0, 1, 7, 8] (by simp only [go_sem, ↓reduceIte]; rfl)) ?_
  let FX : List (Nat × Obj') → Nat → Prop := fun hpX nxX => nx < nxX ∧ AL.get hpX nx = some (.kept fr tm) ∧ (∃ R, R.length = n ∧ AL.get hpX t = some (.arr 44 3 R false)) ∧ ∀ id o, id < nx → id ≠ t → AL.get hp id = some o → AL.get hpX id = some o
  have hfin : ∀ {hpX : List (Nat × Obj')} {nxX : Nat} {v : Int} {R : List (List PV)}, FX hpX nxX → AL.get hpX t = some (.arr 44 3 R false) → R.length = n → (l.any p = true → R = RF (firstF p l)) → v = idxF p l → AL.get hpX nx = some (.kept fr tm) ∧ ∃ T : St, T.fr = fr ∧ Closed T ∧ (∀ id o, AL.get T.hp id = some o → AL.get hpX id = some o) ∧ There (AL.get T.hp) (refsV (.one (.p (iP v)))) ∧ ∃ R, R.length = n ∧ (l.any p = true → R = RF (firstF p l)) ∧ T = ⟨fr, AL.set hp t (.arr 44 3 R false), nx⟩ ∧ (AV.one (.p (iP v)) : AV) = .one (.p (iP (idxF p l))) := by
    intro hpX nxX v R ⟨g0, g1, _, g2⟩ hR hRn hRF' hv
    refine ⟨g1, ⟨fr, AL.set hp t (.arr 44 3 R false), nx⟩, rfl, hcl.set ht (fun _ _ h => by cases h) (fun i hi => by cases hi), fun id o ho => ?_, fun i hi => (by cases hi), R, hRn, hRF', rfl, by rw [hv]⟩
    have ho : AL.get (AL.set hp t (.arr 44 3 R false)) id = some o := ho
    rw [AL.get_set] at ho
    split at ho
    · rename_i e; rw [e]; rw [← ho]; exact hR
    · rename_i e; exact g2 id o (hlt id o ho) e ho
  have htn := hlt t _ ht
  refine aw_loop_hp (ι := { i : Nat // i ≤ l.length ∧ ∀ k, k < i → p (l.getD k 0) = false }) (fun i => [(8, iA i.1)]) (fun _ => FX) (fun i => l.length - i.1) ⟨0, by omega, fun k hk => absurd hk (by omega)⟩ (by first | rfl | (simp only [go_sem, ↓reduceIte]; rfl)) ?_ ?_
  · exact ⟨by dsimp only; omega, by simp (disch := first | decide | omega) only [go_sem, ↓reduceIte]; try rfl, ⟨R0, hR0, by simp (disch := first | decide | omega) only [go_sem, ↓reduceIte]; exact ht⟩, fun id o hl _ h => by simp (disch := first | decide | omega) only [go_sem, ↓reduceIte]; exact h⟩
  rintro ⟨i, hi, hik⟩ hpX nxX hFX
  obtain ⟨f0, f1, ⟨R, hRn, f3⟩, f2⟩ := id hFX
  simp (disch := decide) only [ov, ovL, AL.get_nil, AL.get_eq, AL.get_ne, Option.getD_some, Option.getD_none]
  by_cases hil : i < l.length
  · have hmem := mem_of_getD (d := 0) hil
    have hfi := fun h => findIdx_of (p := p) hil hik h
    have hnx : p (l.getD i 0) = false → ∀ k, k < i + 1 → p (l.getD k 0) = false := fun hx k hk => by
      by_cases e : k = i
      · rw [e]; exact hx
      · exact hik k (by omega)
    clear hik
    (repeat (first | apply aw_seq | apply aw_block | apply aw_skip | apply aw_label | apply aw_exit | ((first | refine aw_region (hideO fun QQ hQQ => ?_) | refine aw_draw mixed (hideD fun QQ hQQ => ?_)); simp (maxSteps := 400000) (disch := first | decide | omega) only [f1, f3, go_sem, ↓reduceIte]; try (first | with_reducible refine unhide hQQ ?_ | refine ⟨by kernel_rfl, unhide hQQ ?_⟩); clear hQQ QQ) | with_reducible first | apply then_n | apply block_n | apply then_x | apply then_r | apply nog_n | apply nog_r | apply block_r | apply block_e (by decide) | apply block_x (by decide)))
    refine aw_cond2 (by simp (disch := first | decide | omega) only [f1, f3, go_sem, ↓reduceIte]; rfl) ?_; first | refine .inl ⟨by first | rfl | exact decide_eq_true (by omega) | exact decide_eq_true (by assumption) | (simp (disch := first | decide | omega) only [if_pos_d, if_neg_d, decide_eq_true_eq, Bool.not_eq_true', decide_eq_false_iff_not]; omega), ?_⟩ | refine .inr ⟨by first | rfl | exact decide_eq_false (by omega) | exact decide_eq_false (by assumption) | (simp (disch := first | decide | omega) only [if_pos_d, if_neg_d, decide_eq_true_eq, Bool.not_eq_true', decide_eq_false_iff_not]; omega), ?_⟩
    (repeat (first | apply aw_seq | apply aw_block | apply aw_skip | apply aw_label | apply aw_exit | ((first | refine aw_region (hideO fun QQ hQQ => ?_) | refine aw_draw mixed (hideD fun QQ hQQ => ?_)); simp (maxSteps := 400000) (disch := first | decide | omega) only [f1, f3, go_sem, ↓reduceIte]; try (first | with_reducible refine unhide hQQ ?_ | refine ⟨by kernel_rfl, unhide hQQ ?_⟩); clear hQQ QQ) | with_reducible first | apply then_n | apply block_n | apply then_x | apply then_r | apply nog_n | apply nog_r | apply block_r | apply block_e (by decide) | apply block_x (by decide)))
    refine ⟨rfl, .inr ⟨rfl, hp1 _ _ _ _ _ _ (l.getD i 0) _ rfl hmem rfl rfl (by simp (disch := first | decide | omega) only [f1, f3, go_sem, ↓reduceIte]; try rfl) (by simp (disch := first | decide | omega) only [f1, f3, go_sem, ↓reduceIte]; try rfl) R (by simp (disch := first | decide | omega) only [f1, f3, go_sem, ↓reduceIte]; try rfl) hRn (by intro id ob h1 h2 h3; simp (disch := first | decide | omega) only [f1, f3, go_sem, ↓reduceIte]; exact f2 id ob h1 h2 h3) ?_⟩⟩
    cases hx : p (l.getD i 0)
    · (simp (maxSteps := 400000) (disch := first | decide | omega) only [f1, f3, go_sem, ↓reduceIte]; (try (with_reducible refine unhide hQQ ?_; clear hQQ QQ; (repeat with_reducible first | apply then_n | apply block_n | apply then_x | apply then_r | apply nog_n | apply nog_r | apply block_r | apply block_e (by decide) | apply block_x (by decide)))))
      (repeat (first | apply aw_seq | apply aw_block | apply aw_skip | apply aw_label | apply aw_exit | ((first | refine aw_region (hideO fun QQ hQQ => ?_) | refine aw_draw mixed (hideD fun QQ hQQ => ?_)); simp (maxSteps := 400000) (disch := first | decide | omega) only [f1, f3, go_sem, ↓reduceIte]; try (first | with_reducible refine unhide hQQ ?_ | refine ⟨by kernel_rfl, unhide hQQ ?_⟩); clear hQQ QQ) | with_reducible first | apply then_n | apply block_n | apply then_x | apply then_r | apply nog_n | apply nog_r | apply block_r | apply block_e (by decide) | apply block_x (by decide)))
      refine aw_cond2 (by simp (disch := first | decide | omega) only [f1, f3, go_sem, ↓reduceIte]; rfl) ?_; first | refine .inl ⟨by first | rfl | exact decide_eq_true (by omega) | exact decide_eq_true (by assumption) | (simp (disch := first | decide | omega) only [if_pos_d, if_neg_d, decide_eq_true_eq, Bool.not_eq_true', decide_eq_false_iff_not]; omega), ?_⟩ | refine .inr ⟨by first | rfl | exact decide_eq_false (by omega) | exact decide_eq_false (by assumption) | (simp (disch := first | decide | omega) only [if_pos_d, if_neg_d, decide_eq_true_eq, Bool.not_eq_true', decide_eq_false_iff_not]; omega), ?_⟩
      (repeat (first | apply aw_seq | apply aw_block | apply aw_skip | apply aw_label | apply aw_exit | ((first | refine aw_region (hideO fun QQ hQQ => ?_) | refine aw_draw mixed (hideD fun QQ hQQ => ?_)); simp (maxSteps := 400000) (disch := first | decide | omega) only [f1, f3, go_sem, ↓reduceIte]; try (first | with_reducible refine unhide hQQ ?_ | refine ⟨by kernel_rfl, unhide hQQ ?_⟩); clear hQQ QQ) | with_reducible first | apply then_n | apply block_n | apply then_x | apply then_r | apply nog_n | apply nog_r | apply block_r | apply block_e (by decide) | apply block_x (by decide)))
      refine ⟨⟨i + 1, by omega, hnx hx⟩, ?_, ?_, ?_⟩
      · simp only; omega
      · exact ⟨by dsimp only; omega, by simp (disch := first | decide | omega) only [f1, f3, go_sem, ↓reduceIte]; try rfl, ⟨RF (l.getD i 0), hRF _, by simp (disch := first | decide | omega) only [f1, f3, go_sem, ↓reduceIte]; try rfl⟩, fun id o hl hne h => by simp (disch := first | decide | omega) only [f1, f3, go_sem, ↓reduceIte]; exact f2 id o hl hne h⟩
      · first | rfl | (simp only [f1, f3, go_sem, ↓reduceIte]; rfl)
    · (simp (maxSteps := 400000) (disch := first | decide | omega) only [f1, f3, go_sem, ↓reduceIte]; (try (with_reducible refine unhide hQQ ?_; clear hQQ QQ; (repeat with_reducible first | apply then_n | apply block_n | apply then_x | apply then_r | apply nog_n | apply nog_r | apply block_r | apply block_e (by decide) | apply block_x (by decide)))))
      (repeat (first | apply aw_seq | apply aw_block | apply aw_skip | apply aw_label | apply aw_exit | ((first | refine aw_region (hideO fun QQ hQQ => ?_) | refine aw_draw mixed (hideD fun QQ hQQ => ?_)); simp (maxSteps := 400000) (disch := first | decide | omega) only [f1, f3, go_sem, ↓reduceIte]; try (first | with_reducible refine unhide hQQ ?_ | refine ⟨by kernel_rfl, unhide hQQ ?_⟩); clear hQQ QQ) | with_reducible first | apply then_n | apply block_n | apply then_x | apply then_r | apply nog_n | apply nog_r | apply block_r | apply block_e (by decide) | apply block_x (by decide)))
      refine aw_cond2 (by simp (disch := first | decide | omega) only [f1, f3, go_sem, ↓reduceIte]; rfl) ?_; first | refine .inl ⟨by first | rfl | exact decide_eq_true (by omega) | exact decide_eq_true (by assumption) | (simp (disch := first | decide | omega) only [if_pos_d, if_neg_d, decide_eq_true_eq, Bool.not_eq_true', decide_eq_false_iff_not]; omega), ?_⟩ | refine .inr ⟨by first | rfl | exact decide_eq_false (by omega) | exact decide_eq_false (by assumption) | (simp (disch := first | decide | omega) only [if_pos_d, if_neg_d, decide_eq_true_eq, Bool.not_eq_true', decide_eq_false_iff_not]; omega), ?_⟩
      (repeat (first | apply aw_seq | apply aw_block | apply aw_skip | apply aw_label | apply aw_exit | ((first | refine aw_region (hideO fun QQ hQQ => ?_) | refine aw_draw mixed (hideD fun QQ hQQ => ?_)); simp (maxSteps := 400000) (disch := first | decide | omega) only [f1, f3, go_sem, ↓reduceIte]; try (first | with_reducible refine unhide hQQ ?_ | refine ⟨by kernel_rfl, unhide hQQ ?_⟩); clear hQQ QQ) | with_reducible first | apply then_n | apply block_n | apply then_x | apply then_r | apply nog_n | apply nog_r | apply block_r | apply block_e (by decide) | apply block_x (by decide)))
      refine aw_ret ⟨.inr rfl, _, by simp (disch := first | decide | omega) only [f1, f3, go_sem, ↓reduceIte]; try rfl, hfin (R := RF (l.getD i 0)) ⟨f0, by simp (disch := first | decide | omega) only [f1, f3, go_sem, ↓reduceIte]; try rfl, ⟨RF (l.getD i 0), hRF _, by simp (disch := first | decide | omega) only [f1, f3, go_sem, ↓reduceIte]; try rfl⟩, fun id o hl hne h => by simp (disch := first | decide | omega) only [f1, f3, go_sem, ↓reduceIte]; exact f2 id o hl hne h⟩ (by simp (disch := first | decide | omega) only [f1, f3, go_sem, ↓reduceIte]; try rfl) (hRF _) (fun ha => ?_) (hfi hx).symm⟩
      obtain ⟨i2, h1, h2, h3⟩ := idx_lt ha
      rw [hfi hx] at h2
      have : i2 = i := by omega
      subst this
      rw [h3]
  · have hie : i = l.length := by omega
    subst hie
    have hidx := idx_none hik
    clear hik
    (repeat (first | apply aw_seq | apply aw_block | apply aw_skip | apply aw_label | apply aw_exit | ((first | refine aw_region (hideO fun QQ hQQ => ?_) | refine aw_draw mixed (hideD fun QQ hQQ => ?_)); simp (maxSteps := 400000) (disch := first | decide | omega) only [f1, go_sem, ↓reduceIte]; try (first | with_reducible refine unhide hQQ ?_ | refine ⟨by kernel_rfl, unhide hQQ ?_⟩); clear hQQ QQ) | with_reducible first | apply then_n | apply block_n | apply then_x | apply then_r | apply nog_n | apply nog_r | apply block_r | apply block_e (by decide) | apply block_x (by decide)))
    refine aw_cond2 (by simp (disch := first | decide | omega) only [f1, go_sem, ↓reduceIte]; rfl) ?_; first | refine .inl ⟨by first | rfl | exact decide_eq_true (by omega) | exact decide_eq_true (by assumption) | (simp (disch := first | decide | omega) only [if_pos_d, if_neg_d, decide_eq_true_eq, Bool.not_eq_true', decide_eq_false_iff_not]; omega), ?_⟩ | refine .inr ⟨by first | rfl | exact decide_eq_false (by omega) | exact decide_eq_false (by assumption) | (simp (disch := first | decide | omega) only [if_pos_d, if_neg_d, decide_eq_true_eq, Bool.not_eq_true', decide_eq_false_iff_not]; omega), ?_⟩
    (repeat (first | apply aw_seq | apply aw_block | apply aw_skip | apply aw_label | apply aw_exit | ((first | refine aw_region (hideO fun QQ hQQ => ?_) | refine aw_draw mixed (hideD fun QQ hQQ => ?_)); simp (maxSteps := 400000) (disch := first | decide | omega) only [f1, go_sem, ↓reduceIte]; try (first | with_reducible refine unhide hQQ ?_ | refine ⟨by kernel_rfl, unhide hQQ ?_⟩); clear hQQ QQ) | with_reducible first | apply then_n | apply block_n | apply then_x | apply then_r | apply nog_n | apply nog_r | apply block_r | apply block_e (by decide) | apply block_x (by decide)))
    refine aw_ret ⟨.inr rfl, _, by simp (disch := first | decide | omega) only [go_sem, ↓reduceIte]; try rfl, hfin (R := R) hFX f3 hRn (fun ha => ?_) hidx.symm⟩
    have := idxF_nonneg (p := p) (l := l)
    rw [hidx, ha] at this
    simp at this
theorem c_firstT {ac : AC} {p : Nat → Bool} {l : List Nat} {t n : Nat} {RF : Nat → List (List PV)} {R0 : List (List PV)} (hRF : ∀ x, (RF x).length = n) (ht : AL.get hp t = some (.arr 44 3 R0 false)) (hR0 : R0.length = n) (hl : l.length ≤ 100000) (hp1 : PredT ac p l t n RF hp nx) (h : l.any p = true) :
    CallF ⟨Try.prog, Z, w0, cap, nt, rd, pan, df, dk, rg⟩ 59 [.one (.p (.sl (l.map rowN))), .agg [ac]] ⟨fr, hp, nx⟩ fun st' av => st' = ⟨fr, AL.set hp t (.arr 44 3 (RF (firstF p l)) false), nx⟩ ∧ av = .one (.p (.v (.int .i64 ((firstF p l : Nat) : Int)))) := by
  obtain ⟨i, hi, hidx, hfi⟩ := idx_lt h
  have hm := ok_ask 4
  (refine callF_to (nt := 17) (rs := [.tmp 4]) Try.func59 rfl rfl rfl (by simp) fun hcl tm Ds => ?_); simp only [initV]
  dsimp only [Kx.calleeT]
  have hlt := hcl.lt
  dsimp only at hlt
  have htn := hlt t _ ht
  have hp2 : PredT ac p l t n RF ((nx + 1, .box [ac]) :: (nx, Obj'.kept fr tm) :: hp) (nx + 1 + 1) := hp1.mono fun id ob hi ho => ⟨by omega, by rw [AL.get_ne _ _ (by omega), AL.get_ne _ _ (by omega)]; exact ho⟩
  have hcI := fun {Z w0 cap nt rd pan df dk rg fr} => c_indexT (Z := Z) (w0 := w0) (cap := cap) (nt := nt) (rd := rd) (pan := pan) (df := df) (dk := dk) (rg := rg) (fr := fr) hRF (by rw [AL.get_ne _ _ (by omega), AL.get_ne _ _ (by omega)]; exact ht) hR0 hl hp2
  rw [hidx] at hcI
  refine tw ?_; try with_reducible intro QQ hQQ
  (refine callS_ok rfl rfl 84 (by simp (disch := first | decide | omega) only [go_sem, ↓reduceIte]; try rfl) (by simp (disch := first | decide | omega) only [go_sem, ↓reduceIte]; try rfl) Try.func84 rfl (by decide) ((hcI).mono ?_)); rintro _ _ ⟨R, hRn, hRe, rfl, rfl⟩
  have hRe := hRe h
  subst hRe
  (refine ts ?_; try clear hQQ QQ)
  refine tw ?_; try with_reducible intro QQ hQQ
  ((refine cO 52 rfl rfl rfl (hm) Try.func52 rfl ?_); refine tu ?_; try clear hQQ QQ); refine tw ?_; try with_reducible intro QQ hQQ
  refine aw_ret ⟨.inr rfl, _, by simp (disch := first | decide | omega) only [go_sem, ↓reduceIte]; try rfl, by simp (disch := first | decide | omega) only [go_sem, ↓reduceIte]; try rfl, ⟨fr, AL.set hp t (.arr 44 3 (RF (firstF p l)) false), nx⟩, rfl, hcl.set ht (fun _ _ h => by cases h) (fun i hi => by cases hi), fun id o ho => ?_, fun i hi => (by cases hi), rfl, ?_⟩
  · have ho : AL.get (AL.set hp t (.arr 44 3 (RF (firstF p l)) false)) id = some o := ho
    rw [AL.get_set] at ho
    split at ho
    · rename_i e; rw [e, ← ho]; simp (disch := first | decide | omega) only [go_sem, ↓reduceIte]
    · rename_i e
      have := hlt id o ho
      simp (disch := first | decide | omega) only [go_sem, ↓reduceIte]
      exact ho
  · rw [← hfi]
theorem cx_firstT {ac : AC} {p : Nat → Bool} {l : List Nat} {t n : Nat} {RF : Nat → List (List PV)} {R0 : List (List PV)} (hRF : ∀ x, (RF x).length = n) (ht : AL.get hp t = some (.arr 44 3 R0 false)) (hR0 : R0.length = n) (hl : l.length ≤ 100000) (hp1 : PredT ac p l t n RF hp nx) (h : l.any p = false) (hpan : ∀ R, pan [{ v := stopV 4, recovered := false }] ⟨fr, AL.set hp t (.arr 44 3 R false), nx⟩) :
    CallF ⟨Try.prog, Z, w0, cap, nt, rd, pan, df, dk, rg⟩ 59 [.one (.p (.sl (l.map rowN))), .agg [ac]] ⟨fr, hp, nx⟩ fun _ _ => False := by
  have hidx : idxF p l = -1 := by unfold idxF; rw [if_neg (by rw [h]; decide)]
  (refine callF_to (nt := 17) (rs := [.tmp 4]) Try.func59 rfl rfl rfl (by simp) fun hcl tm Ds => ?_); simp only [initV]
  dsimp only [Kx.calleeT]
  have hlt := hcl.lt
  dsimp only at hlt
  have htn := hlt t _ ht
  have hp2 : PredT ac p l t n RF ((nx + 1, .box [ac]) :: (nx, Obj'.kept fr tm) :: hp) (nx + 1 + 1) := hp1.mono fun id ob hi ho => ⟨by omega, by rw [AL.get_ne _ _ (by omega), AL.get_ne _ _ (by omega)]; exact ho⟩
  have hcI := fun {Z w0 cap nt rd pan df dk rg fr} => c_indexT (Z := Z) (w0 := w0) (cap := cap) (nt := nt) (rd := rd) (pan := pan) (df := df) (dk := dk) (rg := rg) (fr := fr) hRF (by rw [AL.get_ne _ _ (by omega), AL.get_ne _ _ (by omega)]; exact ht) hR0 hl hp2
  rw [hidx] at hcI
  refine tw ?_; try with_reducible intro QQ hQQ
  (refine callS_ok rfl rfl 84 (by simp (disch := first | decide | omega) only [go_sem, ↓reduceIte]; try rfl) (by simp (disch := first | decide | omega) only [go_sem, ↓reduceIte]; try rfl) Try.func84 rfl (by decide) ((hcI).mono ?_)); rintro _ _ ⟨R, hRn, hRe, rfl, rfl⟩
  clear hRe
  (refine ts ?_; try clear hQQ QQ)
  refine tw ?_; try with_reducible intro QQ hQQ
  (refine ⟨rfl, .inr ⟨rfl, callS_x rfl 52 ⟨by simp (disch := first | decide | omega) only [go_sem, ↓reduceIte]; try rfl, by simp (disch := first | decide | omega) only [go_sem, ↓reduceIte]; try rfl⟩ Try.func52 rfl (by decide) (x_ask 4) ?_⟩⟩)
  refine ⟨by simp (disch := first | decide | omega) only [go_sem, ↓reduceIte]; try rfl, ⟨fr, AL.set hp t (.arr 44 3 R false), nx⟩, ⟨rfl, hcl.set ht (fun _ _ h => by cases h) (fun i hi => by cases hi), fun id o ho => ?_⟩, hpan R⟩
  have ho : AL.get (AL.set hp t (.arr 44 3 R false)) id = some o := ho
  rw [AL.get_set] at ho
  split at ho
  · rename_i e; rw [e, ← ho]; simp (disch := first | decide | omega) only [go_sem, ↓reduceIte]
  · rename_i e
    have := hlt id o ho
    simp (disch := first | decide | omega) only [go_sem, ↓reduceIte]
    exact ho
end
end Go.Proofs.Ytgdhdikeicgndaa
