/- tally: all sets of calls, the smaller ones first, walked; what is first. -/
import Derived.Test.YtejbglbiefpagaaTvR
import Derived.Test.YtejbglbiefpagaaTvH
set_option linter.all false
namespace Go.Proofs.Ytejbglbiefpagaa
open Go Go.RowKit Go.Sh Go.Pv
set_option maxHeartbeats 8000000
set_option maxRecDepth 8000
attribute [local go_sem] conv3_104
def rowU (x : Nat) : List PV := [.v (.int .u64 (x : Int))]
theorem sets_all : ∀ k, k ≤ 8 → ∃ s0, (List.range (2 ^ k)).map (gt s0) = List.range (2 ^ k) ∧ (List.range (2 ^ k)).map (gt (stabN (2 ^ k) s0)) = setsL k := by
  intro k hk
  rcases (show k = 0 ∨ k = 1 ∨ k = 2 ∨ k = 3 ∨ k = 4 ∨ k = 5 ∨ k = 6 ∨ k = 7 ∨ k = 8 by omega) with rfl | rfl | rfl | rfl | rfl | rfl | rfl | rfl | rfl
  · exact ⟨_, by kernel_rfl, by rw [stab0]; kernel_rfl⟩
  · exact ⟨_, by kernel_rfl, by rw [stab1]; kernel_rfl⟩
  · exact ⟨_, by kernel_rfl, by rw [stab2]; kernel_rfl⟩
  · exact ⟨_, by kernel_rfl, by rw [stab3]; kernel_rfl⟩
  · exact ⟨_, by kernel_rfl, by rw [stab4]; kernel_rfl⟩
  · exact ⟨_, by kernel_rfl, by rw [stab5]; kernel_rfl⟩
  · exact ⟨_, by kernel_rfl, by rw [stab6]; kernel_rfl⟩
  · exact ⟨_, by kernel_rfl, by rw [stab7]; kernel_rfl⟩
  · exact ⟨_, by kernel_rfl, by rw [stab8]; kernel_rfl⟩
theorem rowsF_map (f : Nat → Nat) (len : Nat) : rowsF f len = ((List.range len).map f).map rowU := by
  unfold rowsF rowU; rw [List.map_map]; rfl
theorem rowsK_F (f : Nat → Nat) (n : Nat) : rowsK 1 (rowsF f n) := by
  intro i row h
  unfold rowsF at h
  rw [List.getElem?_map] at h
  obtain ⟨x, _, rfl⟩ := Option.map_eq_some_iff.1 h
  rfl
/-- The first numbers are laid. -/
def partN (i : Nat) : Nat → Nat := fun k => if k < i then k else 0
theorem zeros_rows (n : Nat) : List.replicate n [PV.v (.int .u64 0)] = rowsF (partN 0) n := by
  apply List.ext_getElem?
  intro i
  rw [List.getElem?_replicate]
  by_cases h : i < n
  · rw [if_pos h, rowsF_get _ h]; rfl
  · rw [if_neg h, List.getElem?_eq_none (by rw [rowsF_len]; omega)]
theorem part_upd (i n : Nat) : rowsF (updN (partN i) i i) n = rowsF (partN (i + 1)) n := by
  congr 1
  funext k
  simp only [updN, partN]
  by_cases h1 : k = i
  · rw [if_pos h1, if_pos (by omega), h1]
  · rw [if_neg h1]
    by_cases h2 : k < i
    · rw [if_pos h2, if_pos (by omega)]
    · rw [if_neg h2, if_neg (by omega)]
theorem part_rows (n : Nat) (s0 : Nat) (h : (List.range n).map (gt s0) = List.range n) : rowsF (partN n) n = rowsF (gt s0) n := by
  rw [rowsF_map, rowsF_map, h]
  congr 1
  rw [show (List.range n).map (partN n) = (List.range n).map id from List.map_congr_left fun k hk => by simp [partN, List.mem_range.1 hk], List.map_id]
theorem rowsF_take (f : Nat → Nat) (n : Nat) : (rowsF f n).take n = rowsF f n := List.take_of_length_le (by rw [rowsF_len]; exact Nat.le_refl _)
theorem binu_add1 {P : Program} (T : TypeId) (x y : Operand) {a : Nat} (h : a + 1 < 2 ^ 64) : binA P .add T x y (.int .u64 (a : Int)) (.int .u64 1) = some (.int .u64 ((a + 1 : Nat) : Int)) := binu_add T x y (b := 1) h
section
variable {n most : Int} {strays : List (Int × Int)} {calls : List (Int × Int × Int × Int)} {F : Nat → Nat → Nat → Int}
theorem s_sets (hc : calls.length ≤ 8) : FunS Try.prog 82 [.one (.box 0 0)] (ydH n most strays calls (keepI F) Try.prog) 2 (.one (.one (.sl ((setsL calls.length).map rowU)))) := by
  obtain ⟨s0, hs0, hs1⟩ := sets_all calls.length hc
  have hev := ok_every n most strays calls hc
  simp only [ydP, uP] at hev
  have hp1 := Nat.one_le_two_pow (n := calls.length)
  have hp2 : 2 ^ calls.length ≤ 2 ^ 8 := Nat.pow_le_pow_right (by decide) hc
  have hp3 : 2 ^ calls.length - 1 + 1 = 2 ^ calls.length := by omega
  rw [← hs1, ← rowsF_map]
  generalize 2 ^ calls.length = M at *
  have hM : M ≤ 256 := hp2
  have hadd : ∀ (P : Program) (T : TypeId) (x y : Operand), binA P .add T x y (.int .u64 ((M - 1 : Nat) : Int)) (.int .u64 1) = some (.int .u64 (M : Int)) := fun P T x y => by rw [binu_add1 T x y (by omega), hp3]
  unfold ydH ydC
  refine funS_ok (nt := 30) (rs := [.tmp 2]) Try.func82 rfl rfl rfl (by simp) fun Z w0 cap pan dk tm => ?_; simp only [initV, pins, pinOf, List.map_cons, List.map_nil]
  (repeat (first | apply aw_seq | apply aw_block | apply aw_skip | apply aw_label | apply aw_exit | ((first | refine aw_region (hideO fun QQ hQQ => ?_) | refine aw_draw mixed (hideD fun QQ hQQ => ?_)); simp (maxSteps := 400000) (disch := first | decide | omega) only [hadd, go_sem, ↓reduceIte]; try (first | with_reducible refine unhide hQQ ?_ | refine ⟨by kernel_rfl, unhide hQQ ?_⟩); clear hQQ QQ) | with_reducible first | apply then_n | apply block_n | apply then_x | apply then_r | apply nog_n | apply nog_r | apply block_r | apply block_e (by decide) | apply block_x (by decide)))
  (refine callO_ok rfl rfl 84 true rfl (by simp (disch := first | decide | omega) only [hadd, go_sem, ↓reduceIte]; try rfl) (fun _ => rfl) (hev) Try.func84 rfl (by decide) ?_); simp (maxSteps := 400000) (disch := first | decide | omega) only [hadd, go_sem, ↓reduceIte]; (try (with_reducible refine unhide hQQ ?_; clear hQQ QQ; (repeat with_reducible first | apply then_n | apply block_n | apply then_x | apply then_r | apply nog_n | apply nog_r | apply block_r | apply block_e (by decide) | apply block_x (by decide))))
  refine ⟨rfl, .inr ⟨rfl, callS_makeSlice (n := M) (E := 104) (k := 1) (by_ := 8) (zr := [.v (.int .u64 0)]) rfl rfl (by simp (disch := first | decide | omega) only [hadd, go_sem, ↓reduceIte]) (by simp (disch := first | decide | omega) only [hadd, go_sem, ↓reduceIte]) (by simp (disch := first | decide | omega) only [hadd, go_sem, ↓reduceIte]) (by simp (disch := first | decide | omega) only [hadd, go_sem, ↓reduceIte]; try rfl) rfl (by simp (disch := first | decide | omega) only [hadd, go_sem, ↓reduceIte]; try rfl) (by simp (disch := first | decide | omega) only [hadd, go_sem, ↓reduceIte]; try rfl) (by omega) (by omega) (by unfold maxLen; omega) ?_⟩⟩
  rw [zeros_rows]
  (simp (maxSteps := 400000) (disch := first | decide | omega) only [hadd, go_sem, ↓reduceIte]; (try (with_reducible refine unhide hQQ ?_; clear hQQ QQ; (repeat with_reducible first | apply then_n | apply block_n | apply then_x | apply then_r | apply nog_n | apply nog_r | apply block_r | apply block_e (by decide) | apply block_x (by decide)))))
  (repeat (first | apply aw_seq | apply aw_block | apply aw_skip | apply aw_label | apply aw_exit | ((first | refine aw_region (hideO fun QQ hQQ => ?_) | refine aw_draw mixed (hideD fun QQ hQQ => ?_)); simp (maxSteps := 400000) (disch := first | decide | omega) only [hadd, go_sem, ↓reduceIte]; try (first | with_reducible refine unhide hQQ ?_ | refine ⟨by kernel_rfl, unhide hQQ ?_⟩); clear hQQ QQ) | with_reducible first | apply then_n | apply block_n | apply then_x | apply then_r | apply nog_n | apply nog_r | apply block_r | apply block_e (by decide) | apply block_x (by decide)))
  refine aw_weak (weak_keepA [3, 11, 12] (by simp only [hadd, go_sem, ↓reduceIte]; rfl)) ?_
  refine aw_loop_ov (ι := { i : Nat // i ≤ M }) (fun i => [(12, iA i.1)]) (fun i => [(3, .arr 104 1 (rowsF (partN i.1) M) false)]) (fun i => M - i.1) ⟨0, by omega⟩ (by first | rfl | (simp only [hadd, go_sem, ↓reduceIte]; first | done | rfl | (simp; try rfl))) ?_
  rintro ⟨i, hi⟩
  simp (disch := decide) only [ov, ovL, AL.get_nil, AL.get_eq, AL.get_ne, Option.getD_some, Option.getD_none]
  by_cases hil : i < M
  · (repeat (first | apply aw_seq | apply aw_block | apply aw_skip | apply aw_label | apply aw_exit | ((first | refine aw_region (hideO fun QQ hQQ => ?_) | refine aw_draw mixed (hideD fun QQ hQQ => ?_)); simp (maxSteps := 400000) (disch := first | decide | omega) only [hadd, go_sem, ↓reduceIte]; try (first | with_reducible refine unhide hQQ ?_ | refine ⟨by kernel_rfl, unhide hQQ ?_⟩); clear hQQ QQ) | with_reducible first | apply then_n | apply block_n | apply then_x | apply then_r | apply nog_n | apply nog_r | apply block_r | apply block_e (by decide) | apply block_x (by decide)))
    refine aw_cond2 (by simp (disch := first | decide | omega) only [hadd, go_sem, ↓reduceIte]; rfl) ?_; first | refine .inl ⟨by first | rfl | exact decide_eq_true (by omega) | exact decide_eq_true (by assumption) | (simp (disch := first | decide | omega) only [if_pos_d, if_neg_d, decide_eq_true_eq, Bool.not_eq_true', decide_eq_false_iff_not]; omega), ?_⟩ | refine .inr ⟨by first | rfl | exact decide_eq_false (by omega) | exact decide_eq_false (by assumption) | (simp (disch := first | decide | omega) only [if_pos_d, if_neg_d, decide_eq_true_eq, Bool.not_eq_true', decide_eq_false_iff_not]; omega), ?_⟩
    (repeat (first | apply aw_seq | apply aw_block | apply aw_skip | apply aw_label | apply aw_exit | ((first | refine aw_region (hideO fun QQ hQQ => ?_) | refine aw_draw mixed (hideD fun QQ hQQ => ?_)); simp (maxSteps := 400000) (disch := first | decide | omega) only [hadd, go_sem, ↓reduceIte]; try (first | with_reducible refine unhide hQQ ?_ | refine ⟨by kernel_rfl, unhide hQQ ?_⟩); clear hQQ QQ) | with_reducible first | apply then_n | apply block_n | apply then_x | apply then_r | apply nog_n | apply nog_r | apply block_r | apply block_e (by decide) | apply block_x (by decide)))
    refine ⟨⟨i + 1, by omega⟩, ?_, weak_round ?_ (by first | rfl | (simp only [hadd, go_sem, ↓reduceIte]))⟩
    rotate_left
    · rw [← part_upd]
      (simp only [hadd, go_sem, ↓reduceIte]; try rfl)
    · simp only; omega
  · have hiM : i = M := by omega
    subst hiM
    rw [part_rows i s0 hs0]
    (repeat (first | apply aw_seq | apply aw_block | apply aw_skip | apply aw_label | apply aw_exit | ((first | refine aw_region (hideO fun QQ hQQ => ?_) | refine aw_draw mixed (hideD fun QQ hQQ => ?_)); simp (maxSteps := 400000) (disch := first | decide | omega) only [hadd, go_sem, ↓reduceIte]; try (first | with_reducible refine unhide hQQ ?_ | refine ⟨by kernel_rfl, unhide hQQ ?_⟩); clear hQQ QQ) | with_reducible first | apply then_n | apply block_n | apply then_x | apply then_r | apply nog_n | apply nog_r | apply block_r | apply block_e (by decide) | apply block_x (by decide)))
    refine aw_cond2 (by simp (disch := first | decide | omega) only [hadd, go_sem, ↓reduceIte]; rfl) ?_; first | refine .inl ⟨by first | rfl | exact decide_eq_true (by omega) | exact decide_eq_true (by assumption) | (simp (disch := first | decide | omega) only [if_pos_d, if_neg_d, decide_eq_true_eq, Bool.not_eq_true', decide_eq_false_iff_not]; omega), ?_⟩ | refine .inr ⟨by first | rfl | exact decide_eq_false (by omega) | exact decide_eq_false (by assumption) | (simp (disch := first | decide | omega) only [if_pos_d, if_neg_d, decide_eq_true_eq, Bool.not_eq_true', decide_eq_false_iff_not]; omega), ?_⟩
    (repeat (first | apply aw_seq | apply aw_block | apply aw_skip | apply aw_label | apply aw_exit | ((first | refine aw_region (hideO fun QQ hQQ => ?_) | refine aw_draw mixed (hideD fun QQ hQQ => ?_)); simp (maxSteps := 400000) (disch := first | decide | omega) only [hadd, go_sem, ↓reduceIte]; try (first | with_reducible refine unhide hQQ ?_ | refine ⟨by kernel_rfl, unhide hQQ ?_⟩); clear hQQ QQ) | with_reducible first | apply then_n | apply block_n | apply then_x | apply then_r | apply nog_n | apply nog_r | apply block_r | apply block_e (by decide) | apply block_x (by decide)))
    refine ⟨rfl, .inr ⟨rfl, callS_makeSlice (n := i) (E := 104) (k := 1) (by_ := 8) (zr := [.v (.int .u64 0)]) rfl rfl (by simp (disch := first | decide | omega) only [hadd, go_sem, ↓reduceIte]) (by simp (disch := first | decide | omega) only [hadd, go_sem, ↓reduceIte]) (by simp (disch := first | decide | omega) only [hadd, go_sem, ↓reduceIte]) (by simp (disch := first | decide | omega) only [hadd, go_sem, ↓reduceIte]; try rfl) rfl (by simp (disch := first | decide | omega) only [hadd, go_sem, ↓reduceIte]; try rfl) (by simp (disch := first | decide | omega) only [hadd, go_sem, ↓reduceIte]; try rfl) (by omega) (by omega) (by unfold maxLen; omega) ?_⟩⟩
    rw [zeros_rows]
    (simp (maxSteps := 400000) (disch := first | decide | omega) only [hadd, go_sem, ↓reduceIte]; (try (with_reducible refine unhide hQQ ?_; clear hQQ QQ; (repeat with_reducible first | apply then_n | apply block_n | apply then_x | apply then_r | apply nog_n | apply nog_r | apply block_r | apply block_e (by decide) | apply block_x (by decide)))))
    (repeat (first | apply aw_seq | apply aw_block | apply aw_skip | apply aw_label | apply aw_exit | ((first | refine aw_region (hideO fun QQ hQQ => ?_) | refine aw_draw mixed (hideD fun QQ hQQ => ?_)); simp (maxSteps := 400000) (disch := first | decide | omega) only [hadd, go_sem, ↓reduceIte]; try (first | with_reducible refine unhide hQQ ?_ | refine ⟨by kernel_rfl, unhide hQQ ?_⟩); clear hQQ QQ) | with_reducible first | apply then_n | apply block_n | apply then_x | apply then_r | apply nog_n | apply nog_r | apply block_r | apply block_e (by decide) | apply block_x (by decide)))
    refine ⟨rfl, .inr ⟨rfl, callS_copy (t := 4) (n := i) (k := 1) (E := 104) (rows := rowsF (partN 0) i) (xr := rowsF (gt s0) i) rfl rfl (by simp (disch := first | decide | omega) only [hadd, go_sem, ↓reduceIte]) (by simp (disch := first | decide | omega) only [hadd, go_sem, ↓reduceIte]) (by decide) (by simp (disch := first | decide | omega) only [hadd, go_sem, ↓reduceIte]; try rfl) (by simp (disch := first | decide | omega) only [hadd, go_sem, ↓reduceIte]; try rfl) (by rw [rowsF_len]) (by simp (disch := first | decide | omega) only [hadd, go_sem, ↓reduceIte]; try rfl) (by simp (disch := first | decide | omega) only [hadd, go_sem, ↓reduceIte]; rw [rowsF_take]) (rowsK_F _ _) (by rw [rowsF_len, rowsF_len]) ?_⟩⟩
    (simp (maxSteps := 400000) (disch := first | decide | omega) only [hadd, go_sem, ↓reduceIte]; (try (with_reducible refine unhide hQQ ?_; clear hQQ QQ; (repeat with_reducible first | apply then_n | apply block_n | apply then_x | apply then_r | apply nog_n | apply nog_r | apply block_r | apply block_e (by decide) | apply block_x (by decide)))))
    (repeat (first | apply aw_seq | apply aw_block | apply aw_skip | apply aw_label | apply aw_exit | ((first | refine aw_region (hideO fun QQ hQQ => ?_) | refine aw_draw mixed (hideD fun QQ hQQ => ?_)); simp (maxSteps := 400000) (disch := first | decide | omega) only [hadd, go_sem, ↓reduceIte]; try (first | with_reducible refine unhide hQQ ?_ | refine ⟨by kernel_rfl, unhide hQQ ?_⟩); clear hQQ QQ) | with_reducible first | apply then_n | apply block_n | apply then_x | apply then_r | apply nog_n | apply nog_r | apply block_r | apply block_e (by decide) | apply block_x (by decide)))
    refine callS_ok rfl rfl 102 (by simp (disch := first | decide | omega) only [hadd, go_sem, ↓reduceIte]; try rfl) (by simp (disch := first | decide | omega) only [hadd, go_sem, ↓reduceIte]; try rfl) Try.func102 rfl (by decide) (CallF.mono (c_sort (by omega) s0 ?_) ?_)
    · rfl
    rintro _ _ ⟨rfl, rfl⟩
    (simp (maxSteps := 400000) (disch := first | decide | omega) only [hadd, go_sem, ↓reduceIte]; (try (with_reducible refine unhide hQQ ?_; clear hQQ QQ; (repeat with_reducible first | apply then_n | apply block_n | apply then_x | apply then_r | apply nog_n | apply nog_r | apply block_r | apply block_e (by decide) | apply block_x (by decide)))))
    (repeat (first | apply aw_seq | apply aw_block | apply aw_skip | apply aw_label | apply aw_exit | ((first | refine aw_region (hideO fun QQ hQQ => ?_) | refine aw_draw mixed (hideD fun QQ hQQ => ?_)); simp (maxSteps := 400000) (disch := first | decide | omega) only [hadd, go_sem, ↓reduceIte]; try (first | with_reducible refine unhide hQQ ?_ | refine ⟨by kernel_rfl, unhide hQQ ?_⟩); clear hQQ QQ) | with_reducible first | apply then_n | apply block_n | apply then_x | apply then_r | apply nog_n | apply nog_r | apply block_r | apply block_e (by decide) | apply block_x (by decide)))
    refine aw_weak (weak_share 4 (E := 104) (k := 1) (rows := rowsF (gt (stabN i s0)) i) (sh := false) (by rfl)) ?_
    refine aw_weak (weak_dataS 2 (t := 4) (n := i) (E := 104) (k := 1) (rows := rowsF (gt (stabN i s0)) i) (by rfl) (by rfl)) ?_
    rw [rowsF_take]
    (refine aw_ret ⟨.inr rfl, (by simp (maxSteps := 400000) (disch := first | decide | omega) only [hadd, go_sem, ↓reduceIte]; try rfl), (by simp (maxSteps := 400000) (disch := first | decide | omega) only [hadd, go_sem, ↓reduceIte]; try rfl), (by simp only [List.mem_cons, List.mem_nil_iff, forall_eq_or_imp, forall_eq, false_imp_iff, implies_true, or_false, and_true]; simp (maxSteps := 400000) (disch := first | decide | omega) only [hadd, go_sem, ↓reduceIte]; try exact ⟨rfl, rfl⟩)⟩)
/-- The first place of a list at which something is so, or -1. -/
def idxB (p : Nat → Bool) : List Nat → Int
  | [] => -1
  | x :: r => if p x then 0 else (if idxB p r < 0 then -1 else idxB p r + 1)
theorem idxB_at {p : Nat → Bool} : ∀ {L : List Nat} {i : Nat}, i < L.length → (∀ k, k < i → p (L.getD k 0) = false) → p (L.getD i 0) = true → idxB p L = i
  | x :: r, 0, _, _, h => by
    have h : p x = true := h
    unfold idxB; rw [if_pos h]; rfl
  | x :: r, i + 1, hi, hf, h => by
    have h0 : p x = false := hf 0 (by omega)
    have ih := idxB_at (p := p) (L := r) (i := i) (by simpa using hi) (fun k hk => hf (k + 1) (by omega)) h
    unfold idxB
    rw [if_neg (by rw [h0]; decide), ih, if_neg (by omega)]
    push_cast; rfl
theorem idxB_none {p : Nat → Bool} : ∀ {L : List Nat}, (∀ k, k < L.length → p (L.getD k 0) = false) → idxB p L = -1
  | [], _ => rfl
  | x :: r, hf => by
    have h0 : p x = false := hf 0 (by simp)
    have ih := idxB_none (p := p) (L := r) (fun k hk => hf (k + 1) (by simpa using hk))
    unfold idxB
    rw [if_neg (by rw [h0]; decide), ih, if_pos (by decide)]
theorem get_someU {l : List Nat} {k : Nat} (h : k < l.length) : l[k]? = some (l.getD k 0) := by simp [List.getD, h]
/-- A closure that asks something of a set of calls. -/
def AskS (g : FuncId) (n most : Int) (strays : List (Int × Int)) (calls : List (Int × Int × Int × Int)) (F : Nat → Nat → Nat → Int) (L : List Nat) (p : Nat → Bool) : Prop :=
  ∀ k, k < L.length → FunS Try.prog g [.one (.p (uP (L.getD k 0))), .one (.box 2 0)] (ydH2 n most strays calls (keepI F) Try.prog) 3 (.one (.one (.v (.bool (p (L.getD k 0))))))
theorem s_index {g : FuncId} {gn : Func} (hg : Try.prog.funcs[g]? = some gn) (hgb : gn.body.isSome = true) (hgn : gn.name ≠ "runtime.NumGoroutine") {L : List Nat} {p : Nat → Bool} (hL : L.length ≤ 1000) (hS : AskS g n most strays calls F L p) :
    FunS Try.prog 107 [.one (.p (.sl (L.map rowU))), .one (.fn g [.box 2])] (ydH2 n most strays calls (keepI F) Try.prog) 3 (.one (.one (iP (idxB p L)))) := by
  unfold AskS at hS
  unfold ydH2 ydC at hS ⊢
  simp only [uP] at hS
  refine funS_ok (nt := 19) (rs := [.tmp 4]) Try.func107 rfl rfl rfl (by simp) fun Z w0 cap pan dk tm => ?_; simp only [initV, pins, pinOf, List.map_cons, List.map_nil]
  refine tw ?_; try with_reducible intro QQ hQQ
  refine aw_weak (weak_thr [0, 1, 7, 8] (by simp only [go_sem, ↓reduceIte]; rfl)) ?_
  refine aw_loop_ov (ι := { i : Nat // i ≤ L.length ∧ ∀ k, k < i → p (L.getD k 0) = false }) (fun i => [(8, iA i.1)]) (fun _ => []) (fun i => L.length - i.1) ⟨0, by omega, fun k hk => by omega⟩ (by first | rfl | (simp only [go_sem, ↓reduceIte]; first | done | rfl | (simp; try rfl))) ?_
  rintro ⟨i, hi, hf⟩
  simp (disch := decide) only [ov, ovL, AL.get_nil, AL.get_eq, AL.get_ne, Option.getD_some, Option.getD_none]
  by_cases hil : i < L.length
  · have hSi := hS i hil
    cases hp : p (L.getD i 0)
    · rw [hp] at hSi
      (repeat (first | apply aw_seq | apply aw_block | apply aw_skip | apply aw_label | apply aw_exit | ((first | refine aw_region (hideO fun QQ hQQ => ?_) | refine aw_draw mixed (hideD fun QQ hQQ => ?_)); simp (maxSteps := 400000) (disch := first | decide | omega) only [get_someU, rowU, go_sem, ↓reduceIte]; try (first | with_reducible refine unhide hQQ ?_ | refine ⟨by kernel_rfl, unhide hQQ ?_⟩); clear hQQ QQ) | with_reducible first | apply then_n | apply block_n | apply then_x | apply then_r | apply nog_n | apply nog_r | apply block_r | apply block_e (by decide) | apply block_x (by decide)))
      refine aw_cond2 (by simp (disch := first | decide | omega) only [get_someU, rowU, go_sem, ↓reduceIte]; rfl) ?_; first | refine .inl ⟨by first | rfl | exact decide_eq_true (by omega) | exact decide_eq_true (by assumption) | (simp (disch := first | decide | omega) only [if_pos_d, if_neg_d, decide_eq_true_eq, Bool.not_eq_true', decide_eq_false_iff_not]; omega), ?_⟩ | refine .inr ⟨by first | rfl | exact decide_eq_false (by omega) | exact decide_eq_false (by assumption) | (simp (disch := first | decide | omega) only [if_pos_d, if_neg_d, decide_eq_true_eq, Bool.not_eq_true', decide_eq_false_iff_not]; omega), ?_⟩
      (repeat (first | apply aw_seq | apply aw_block | apply aw_skip | apply aw_label | apply aw_exit | ((first | refine aw_region (hideO fun QQ hQQ => ?_) | refine aw_draw mixed (hideD fun QQ hQQ => ?_)); simp (maxSteps := 400000) (disch := first | decide | omega) only [get_someU, rowU, go_sem, ↓reduceIte]; try (first | with_reducible refine unhide hQQ ?_ | refine ⟨by kernel_rfl, unhide hQQ ?_⟩); clear hQQ QQ) | with_reducible first | apply then_n | apply block_n | apply then_x | apply then_r | apply nog_n | apply nog_r | apply block_r | apply block_e (by decide) | apply block_x (by decide)))
      (refine callO_S [0, 1, 2] hSi rfl rfl (by simp (disch := first | decide | omega) only [get_someU, rowU, go_sem, ↓reduceIte]; try rfl) (by simp (disch := first | decide | omega) only [get_someU, rowU, go_sem, ↓reduceIte]; try rfl) hg hgb hgn (by rfl) (by repeat' (first | trivial | apply And.intro | (simp (disch := first | decide | omega) only [get_someU, rowU, go_sem, ↓reduceIte]; first | done | rfl))) (by decide) (by decide) (by first | rfl | (simp (disch := first | decide | omega) only [get_someU, rowU, go_sem, ↓reduceIte]; try rfl)) ?_)
      (simp (maxSteps := 400000) (disch := first | decide | omega) only [get_someU, rowU, go_sem, ↓reduceIte]; (try (with_reducible refine unhide hQQ ?_; clear hQQ QQ; (repeat with_reducible first | apply then_n | apply block_n | apply then_x | apply then_r | apply nog_n | apply nog_r | apply block_r | apply block_e (by decide) | apply block_x (by decide)))))
      (repeat (first | apply aw_seq | apply aw_block | apply aw_skip | apply aw_label | apply aw_exit | ((first | refine aw_region (hideO fun QQ hQQ => ?_) | refine aw_draw mixed (hideD fun QQ hQQ => ?_)); simp (maxSteps := 400000) (disch := first | decide | omega) only [get_someU, rowU, go_sem, ↓reduceIte]; try (first | with_reducible refine unhide hQQ ?_ | refine ⟨by kernel_rfl, unhide hQQ ?_⟩); clear hQQ QQ) | with_reducible first | apply then_n | apply block_n | apply then_x | apply then_r | apply nog_n | apply nog_r | apply block_r | apply block_e (by decide) | apply block_x (by decide)))
      refine aw_cond2 (by simp (disch := first | decide | omega) only [get_someU, rowU, go_sem, ↓reduceIte]; rfl) ?_; first | refine .inl ⟨by first | rfl | exact decide_eq_true (by omega) | exact decide_eq_true (by assumption) | (simp (disch := first | decide | omega) only [if_pos_d, if_neg_d, decide_eq_true_eq, Bool.not_eq_true', decide_eq_false_iff_not]; omega), ?_⟩ | refine .inr ⟨by first | rfl | exact decide_eq_false (by omega) | exact decide_eq_false (by assumption) | (simp (disch := first | decide | omega) only [if_pos_d, if_neg_d, decide_eq_true_eq, Bool.not_eq_true', decide_eq_false_iff_not]; omega), ?_⟩
      (repeat (first | apply aw_seq | apply aw_block | apply aw_skip | apply aw_label | apply aw_exit | ((first | refine aw_region (hideO fun QQ hQQ => ?_) | refine aw_draw mixed (hideD fun QQ hQQ => ?_)); simp (maxSteps := 400000) (disch := first | decide | omega) only [get_someU, rowU, go_sem, ↓reduceIte]; try (first | with_reducible refine unhide hQQ ?_ | refine ⟨by kernel_rfl, unhide hQQ ?_⟩); clear hQQ QQ) | with_reducible first | apply then_n | apply block_n | apply then_x | apply then_r | apply nog_n | apply nog_r | apply block_r | apply block_e (by decide) | apply block_x (by decide)))
      (refine ⟨⟨i + 1, by omega, fun k hk => by
        rcases Nat.lt_succ_iff_lt_or_eq.1 hk with h | rfl
        · exact hf k h
        · exact hp⟩, ?_, weak_round (by simp only [get_someU, rowU, go_sem, ↓reduceIte]; first | done | rfl) (by first | rfl | (simp only [get_someU, rowU, go_sem, ↓reduceIte]))⟩; (simp only; omega))
    · rw [hp] at hSi
      rw [idxB_at hil hf hp]
      (repeat (first | apply aw_seq | apply aw_block | apply aw_skip | apply aw_label | apply aw_exit | ((first | refine aw_region (hideO fun QQ hQQ => ?_) | refine aw_draw mixed (hideD fun QQ hQQ => ?_)); simp (maxSteps := 400000) (disch := first | decide | omega) only [get_someU, rowU, go_sem, ↓reduceIte]; try (first | with_reducible refine unhide hQQ ?_ | refine ⟨by kernel_rfl, unhide hQQ ?_⟩); clear hQQ QQ) | with_reducible first | apply then_n | apply block_n | apply then_x | apply then_r | apply nog_n | apply nog_r | apply block_r | apply block_e (by decide) | apply block_x (by decide)))
      refine aw_cond2 (by simp (disch := first | decide | omega) only [get_someU, rowU, go_sem, ↓reduceIte]; rfl) ?_; first | refine .inl ⟨by first | rfl | exact decide_eq_true (by omega) | exact decide_eq_true (by assumption) | (simp (disch := first | decide | omega) only [if_pos_d, if_neg_d, decide_eq_true_eq, Bool.not_eq_true', decide_eq_false_iff_not]; omega), ?_⟩ | refine .inr ⟨by first | rfl | exact decide_eq_false (by omega) | exact decide_eq_false (by assumption) | (simp (disch := first | decide | omega) only [if_pos_d, if_neg_d, decide_eq_true_eq, Bool.not_eq_true', decide_eq_false_iff_not]; omega), ?_⟩
      (repeat (first | apply aw_seq | apply aw_block | apply aw_skip | apply aw_label | apply aw_exit | ((first | refine aw_region (hideO fun QQ hQQ => ?_) | refine aw_draw mixed (hideD fun QQ hQQ => ?_)); simp (maxSteps := 400000) (disch := first | decide | omega) only [get_someU, rowU, go_sem, ↓reduceIte]; try (first | with_reducible refine unhide hQQ ?_ | refine ⟨by kernel_rfl, unhide hQQ ?_⟩); clear hQQ QQ) | with_reducible first | apply then_n | apply block_n | apply then_x | apply then_r | apply nog_n | apply nog_r | apply block_r | apply block_e (by decide) | apply block_x (by decide)))
      (refine callO_S [0, 1, 2] hSi rfl rfl (by simp (disch := first | decide | omega) only [get_someU, rowU, go_sem, ↓reduceIte]; try rfl) (by simp (disch := first | decide | omega) only [get_someU, rowU, go_sem, ↓reduceIte]; try rfl) hg hgb hgn (by rfl) (by repeat' (first | trivial | apply And.intro | (simp (disch := first | decide | omega) only [get_someU, rowU, go_sem, ↓reduceIte]; first | done | rfl))) (by decide) (by decide) (by first | rfl | (simp (disch := first | decide | omega) only [get_someU, rowU, go_sem, ↓reduceIte]; try rfl)) ?_)
      (simp (maxSteps := 400000) (disch := first | decide | omega) only [get_someU, rowU, go_sem, ↓reduceIte]; (try (with_reducible refine unhide hQQ ?_; clear hQQ QQ; (repeat with_reducible first | apply then_n | apply block_n | apply then_x | apply then_r | apply nog_n | apply nog_r | apply block_r | apply block_e (by decide) | apply block_x (by decide)))))
      (repeat (first | apply aw_seq | apply aw_block | apply aw_skip | apply aw_label | apply aw_exit | ((first | refine aw_region (hideO fun QQ hQQ => ?_) | refine aw_draw mixed (hideD fun QQ hQQ => ?_)); simp (maxSteps := 400000) (disch := first | decide | omega) only [get_someU, rowU, go_sem, ↓reduceIte]; try (first | with_reducible refine unhide hQQ ?_ | refine ⟨by kernel_rfl, unhide hQQ ?_⟩); clear hQQ QQ) | with_reducible first | apply then_n | apply block_n | apply then_x | apply then_r | apply nog_n | apply nog_r | apply block_r | apply block_e (by decide) | apply block_x (by decide)))
      refine aw_cond2 (by simp (disch := first | decide | omega) only [get_someU, rowU, go_sem, ↓reduceIte]; rfl) ?_; first | refine .inl ⟨by first | rfl | exact decide_eq_true (by omega) | exact decide_eq_true (by assumption) | (simp (disch := first | decide | omega) only [if_pos_d, if_neg_d, decide_eq_true_eq, Bool.not_eq_true', decide_eq_false_iff_not]; omega), ?_⟩ | refine .inr ⟨by first | rfl | exact decide_eq_false (by omega) | exact decide_eq_false (by assumption) | (simp (disch := first | decide | omega) only [if_pos_d, if_neg_d, decide_eq_true_eq, Bool.not_eq_true', decide_eq_false_iff_not]; omega), ?_⟩
      (repeat (first | apply aw_seq | apply aw_block | apply aw_skip | apply aw_label | apply aw_exit | ((first | refine aw_region (hideO fun QQ hQQ => ?_) | refine aw_draw mixed (hideD fun QQ hQQ => ?_)); simp (maxSteps := 400000) (disch := first | decide | omega) only [get_someU, rowU, go_sem, ↓reduceIte]; try (first | with_reducible refine unhide hQQ ?_ | refine ⟨by kernel_rfl, unhide hQQ ?_⟩); clear hQQ QQ) | with_reducible first | apply then_n | apply block_n | apply then_x | apply then_r | apply nog_n | apply nog_r | apply block_r | apply block_e (by decide) | apply block_x (by decide)))
      (refine aw_ret ⟨.inr rfl, (by simp (maxSteps := 400000) (disch := first | decide | omega) only [get_someU, rowU, go_sem, ↓reduceIte]; try rfl), (by simp (maxSteps := 400000) (disch := first | decide | omega) only [get_someU, rowU, go_sem, ↓reduceIte]; try rfl), (by simp only [List.mem_cons, List.mem_nil_iff, forall_eq_or_imp, forall_eq, false_imp_iff, implies_true, or_false, and_true]; simp (maxSteps := 400000) (disch := first | decide | omega) only [get_someU, rowU, go_sem, ↓reduceIte]; try exact ⟨rfl, rfl⟩)⟩)
  · rw [idxB_none (fun k hk => hf k (by omega))]
    (repeat (first | apply aw_seq | apply aw_block | apply aw_skip | apply aw_label | apply aw_exit | ((first | refine aw_region (hideO fun QQ hQQ => ?_) | refine aw_draw mixed (hideD fun QQ hQQ => ?_)); simp (maxSteps := 400000) (disch := first | decide | omega) only [get_someU, rowU, go_sem, ↓reduceIte]; try (first | with_reducible refine unhide hQQ ?_ | refine ⟨by kernel_rfl, unhide hQQ ?_⟩); clear hQQ QQ) | with_reducible first | apply then_n | apply block_n | apply then_x | apply then_r | apply nog_n | apply nog_r | apply block_r | apply block_e (by decide) | apply block_x (by decide)))
    refine aw_cond2 (by simp (disch := first | decide | omega) only [get_someU, rowU, go_sem, ↓reduceIte]; rfl) ?_; first | refine .inl ⟨by first | rfl | exact decide_eq_true (by omega) | exact decide_eq_true (by assumption) | (simp (disch := first | decide | omega) only [if_pos_d, if_neg_d, decide_eq_true_eq, Bool.not_eq_true', decide_eq_false_iff_not]; omega), ?_⟩ | refine .inr ⟨by first | rfl | exact decide_eq_false (by omega) | exact decide_eq_false (by assumption) | (simp (disch := first | decide | omega) only [if_pos_d, if_neg_d, decide_eq_true_eq, Bool.not_eq_true', decide_eq_false_iff_not]; omega), ?_⟩
    (repeat (first | apply aw_seq | apply aw_block | apply aw_skip | apply aw_label | apply aw_exit | ((first | refine aw_region (hideO fun QQ hQQ => ?_) | refine aw_draw mixed (hideD fun QQ hQQ => ?_)); simp (maxSteps := 400000) (disch := first | decide | omega) only [get_someU, rowU, go_sem, ↓reduceIte]; try (first | with_reducible refine unhide hQQ ?_ | refine ⟨by kernel_rfl, unhide hQQ ?_⟩); clear hQQ QQ) | with_reducible first | apply then_n | apply block_n | apply then_x | apply then_r | apply nog_n | apply nog_r | apply block_r | apply block_e (by decide) | apply block_x (by decide)))
    (refine aw_ret ⟨.inr rfl, (by simp (maxSteps := 400000) (disch := first | decide | omega) only [get_someU, rowU, go_sem, ↓reduceIte]; try rfl), (by simp (maxSteps := 400000) (disch := first | decide | omega) only [get_someU, rowU, go_sem, ↓reduceIte]; try rfl), (by simp only [List.mem_cons, List.mem_nil_iff, forall_eq_or_imp, forall_eq, false_imp_iff, implies_true, or_false, and_true]; simp (maxSteps := 400000) (disch := first | decide | omega) only [get_someU, rowU, go_sem, ↓reduceIte]; try exact ⟨rfl, rfl⟩)⟩)
end
end Go.Proofs.Ytejbglbiefpagaa
