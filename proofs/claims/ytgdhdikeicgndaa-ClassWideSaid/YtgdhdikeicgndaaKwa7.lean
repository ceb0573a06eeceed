/- Kwa7: texts joined (WaF WaG WaH WaI WaJ). -/
import Derived.Test.YtgdhdikeicgndaaKwa6
import Derived.Test.YtgdhdikeicgndaaKpv1
import Derived.Test.YtgdhdikeicgndaaKpv2
import Derived.Test.YtgdhdikeicgndaaKpv3
set_option linter.all false
/- classer: the costs of the bales from an end to one, walked. -/
namespace Go.Proofs.Ytgdhdikeicgndaa
open Go Go.RowKit Go.Sh Go.Pv Go.Cl
set_option maxHeartbeats 8000000
set_option maxRecDepth 8000
theorem nilM_after (v : Value) : nilM Try.prog (.one (.p (.v (.func (.method "shearworks/classer.after") #[.iface 109 v] #[])))) = true := by kernel_rfl
theorem ifc109 (v : Value) : ifcA Try.prog 109 v = some (.iface 109 v) := ifcA_of (fs := match Try.prog.underlying 109 with | some (.struct fs) => fs | _ => #[]) (by kernel_rfl)
attribute [go_sem] nilM_after ifc109
theorem relR_step {D : Nat} {b : Nat × Nat × Nat} {tk : Bool} : ∀ (Z : Nat → Nat → Prop) (w : World), RelR Z w (.agg [iP (D : Int), iP (b.1 : Int), iP (b.2.1 : Int), iP (b.2.2 : Int), .v (.bool tk)]) (.agg #[.int .i64 (D : Int), .int .i64 (b.1 : Int), .int .i64 (b.2.1 : Int), .int .i64 (b.2.2 : Int), .bool tk]) := by
  intro Z w
  refine ⟨_, rfl, rfl, fun j c hj => ?_⟩
  rcases j with _ | _ | _ | _ | _ | j
  · simp at hj; subst hj; exact ⟨_, rfl, .v _ rfl⟩
  · simp at hj; subst hj; exact ⟨_, rfl, .v _ rfl⟩
  · simp at hj; subst hj; exact ⟨_, rfl, .v _ rfl⟩
  · simp at hj; subst hj; exact ⟨_, rfl, .v _ rfl⟩
  · simp at hj; subst hj; exact ⟨_, rfl, .v _ rfl⟩
  · simp at hj
section
variable {D M May : Nat} {bs : List (Nat × Nat × Nat)}
theorem toF_first (h : LOK bs) (tk n : Nat) (b : Bool) (h0 : (if b = true then bs.length - 1 - n else n) = 0) (hn : n < bs.length) : toF D bs tk n b = oT bs tk n := by
  cases b with
  | true =>
    have h0 : bs.length - 1 - n = 0 := h0
    show bwd D bs tk n = _
    unfold bwd
    rw [h0]
    show oT bs tk (bs.length - 1 - 0) = _
    rw [show bs.length - 1 - 0 = n by omega]
  | false =>
    have h0 : n = 0 := h0
    subst h0
    rfl
theorem toF_next_f (tk n : Nat) : toF D bs tk (n + 1) false = plusF (aft D (toF D bs tk n false)) (oT bs tk (n + 1)) := rfl
theorem toF_next_t (tk n : Nat) (hn : n + 1 < bs.length) : toF D bs tk n true = plusF (aft D (toF D bs tk (n + 1) true)) (oT bs tk n) := by
  show bwd D bs tk n = _
  unfold toF
  rw [if_pos rfl]
  unfold bwd
  rw [show bs.length - 1 - n = bs.length - 1 - (n + 1) + 1 by omega]
  show plusF _ (oT bs tk (bs.length - 1 - (bs.length - 1 - (n + 1) + 1))) = _
  rw [show bs.length - 1 - (bs.length - 1 - (n + 1) + 1) = n by omega]
theorem toF_far (h : LOK bs) (tk n : Nat) (b : Bool) (i : Nat) : toF D bs tk n b i ≤ 1000000 := by
  have : toF D bs tk n b i ≤ FAR := by
    cases b
    · exact dp_far (fun i w => oT_le h tk i w) _ _
    · exact dp_far (fun i w => oT_le h tk _ w) _ _
  exact Nat.le_trans this (by decide)
theorem s_to1 (h : LOK bs) (hD : D ≤ 30) (tk : Nat) (htk : tk < 2 ^ 63) (n : Nat) (b : Bool) (hn : n < bs.length)
    (hrec : (if b = true then bs.length - 1 - n else n) ≠ 0 → FunS Try.prog 85 [.one (.box 0 0), .agg [.p (uP tk), .p (iP ((if b = true then n + 1 else n - 1 : Nat) : Int)), .p (.v (.bool b))]] (tH D M May bs Try.prog) 2 (.one (.agg (cP (toF D bs tk (if b = true then n + 1 else n - 1) b))))) :
    FunS Try.prog 85 [.one (.box 0 0), .agg [.p (uP tk), .p (iP (n : Int)), .p (.v (.bool b))]] (tH D M May bs Try.prog) 2 (.one (.agg (cP (toF D bs tk n b)))) := by
  have hl6 := h.n6
  have hbd := h.bd n
  obtain ⟨kl, hkey⟩ := keyOf118 tk n b (by omega) (by omega)
  have hst := ok_step (M := M) (May := May) (D := D) h n tk hn (by omega)
  have hown := ok_own D (bG bs n) (tk.testBit n) hbd.1 hbd.2.1 hbd.2.2
  unfold tP at hst
  rw [show ownF (bG bs n) (tk.testBit n) = oT bs tk n from rfl] at hown
  simp only [stepP] at hst hown
  have hkI : (keepI D bs).yes (keyV tk n b) (cV (toF D bs tk n b)) := ⟨tk, n, b, rfl, hn, rfl⟩
  unfold tH tC
  refine funS_ok (nt := 69) (rs := [.cell 4 88]) Try.func85 rfl rfl rfl (by simp) fun Z w0 cap pan dk tm => ?_; simp only [initV, pins, pinOf, List.map_cons, List.map_nil]
  refine aw_memo (id := 1) (keyV tk n b) (by rfl) ?_ ?_
  · rintro v ⟨tk', n', b', e1, hn', rfl⟩
    obtain ⟨q1, q2, q3⟩ := key_inj e1
    subst q1 q2 q3
    simp only [St.upd, AL.set]
    refine tw ?_; try with_reducible intro QQ hQQ
    refine callD_look rfl rfl key118 und82 zero88 (id := 1) (I := (keepI D bs).has (keyV tk n b) (cV (toF D bs tk n b))) (by simp (disch := first | decide | omega) only [go_sem, ↓reduceIte]; try rfl) (by simp (disch := first | decide | omega) only [go_sem, ↓reduceIte]; try rfl) (kv := keyV tk n b) (by simp (disch := first | decide | omega) only [go_sem, ↓reduceIte]; try rfl) hkey (relR_cV _) (.inl ⟨rfl, ⟨_, .inr ⟨rfl, rfl⟩⟩, fun b hb => hb.2 rfl⟩) ?_
    (refine td ?_; try clear hQQ QQ)
    refine tw ?_; try with_reducible intro QQ hQQ
    refine ti ?_; try clear hQQ QQ
    refine tw ?_; try with_reducible intro QQ hQQ
    refine aw_weak (weak_memo (id := 1) (I := (keepI D bs).has (keyV tk n b) (cV (toF D bs tk n b))) (keepI D bs) (by simp (disch := first | decide | omega) only [go_sem, ↓reduceIte]; try rfl) (fun a b h => h.1) (fun a b h => h.elim)) ?_
    simp only [St.upd, AL.set]
    (refine aw_ret ⟨.inr rfl, (by simp (maxSteps := 400000) (disch := first | decide | omega) only [go_sem, ↓reduceIte]; try rfl), (by simp (maxSteps := 400000) (disch := first | decide | omega) only [go_sem, ↓reduceIte]; try rfl), (by simp only [List.mem_cons, List.mem_nil_iff, forall_eq_or_imp, forall_eq, false_imp_iff, implies_true, or_false, and_true]; simp (maxSteps := 400000) (disch := first | decide | omega) only [go_sem, ↓reduceIte]; try exact ⟨rfl, rfl⟩)⟩)
  · simp only [St.upd, AL.set]
    refine tw ?_; try with_reducible intro QQ hQQ
    refine callD_look rfl rfl key118 und82 zero88 (id := 1) (I := (keepI D bs).hasNot (keyV tk n b)) (by simp (disch := first | decide | omega) only [go_sem, ↓reduceIte]; try rfl) (by simp (disch := first | decide | omega) only [go_sem, ↓reduceIte]; try rfl) (kv := keyV tk n b) (by simp (disch := first | decide | omega) only [go_sem, ↓reduceIte]; try rfl) hkey (relR_cV _) (.inr ⟨rfl, rfl, fun b hb => hb.2 rfl⟩) ?_
    (refine td ?_; try clear hQQ QQ)
    refine tw ?_; try with_reducible intro QQ hQQ
    refine ti ?_; try clear hQQ QQ
    (refine aw_skip ?_); (repeat with_reducible first | apply then_n | apply block_n | apply then_x | apply then_r | apply nog_n | apply nog_r | apply block_r | apply block_e (by decide) | apply block_x (by decide))
    refine aw_weak (weak_memo (id := 1) (I := (keepI D bs).hasNot (keyV tk n b)) (keepI D bs) (by simp (disch := first | decide | omega) only [go_sem, ↓reduceIte]; try rfl) (fun a b h => h.1) (fun a b h => h)) ?_
    simp only [St.upd, AL.set, Nat.reduceLT, ↓reduceIte]
    refine aw_weak (weak_thr [0, 3, 4] (by simp only [go_sem, ↓reduceIte]; rfl)) ?_
    cases b with
    | false =>
      have hrec : n ≠ 0 → FunS Try.prog 85 [.one (.box 0 0), .agg [.p (uP tk), .p (iP ((n - 1 : Nat) : Int)), .p (.v (.bool false))]] (tH D M May bs Try.prog) 2 (.one (.agg (cP (toF D bs tk (n - 1) false)))) := hrec
      refine tw ?_; try with_reducible intro QQ hQQ
      refine ti ?_; try clear hQQ QQ
      refine tw ?_; try with_reducible intro QQ hQQ
      ((refine cO 78 rfl rfl rfl (hst) Try.func78 rfl ?_); refine tu ?_; try clear hQQ QQ); refine tw ?_; try with_reducible intro QQ hQQ
      ((refine cO 79 rfl rfl rfl (hown) Try.func79 rfl ?_); refine tu ?_; try clear hQQ QQ); refine tw ?_; try with_reducible intro QQ hQQ
      cases n with
      | zero =>
        have hq : toF D bs tk 0 false = oT bs tk 0 := rfl
        rw [hq] at hkI ⊢
        refine tw ?_; try with_reducible intro QQ hQQ
        refine ti ?_; try clear hQQ QQ
        (refine aw_skip ?_); (repeat with_reducible first | apply then_n | apply block_n | apply then_x | apply then_r | apply nog_n | apply nog_r | apply block_r | apply block_e (by decide) | apply block_x (by decide))
        refine tw ?_; try with_reducible intro QQ hQQ
        refine callD_turn rfl rfl [1] _ _ _ (by exact turns_update rfl rfl key118 und82 (id := 1) (I := keepI D bs) (keepI D bs) (by simp (disch := first | decide | omega) only [go_sem, ↓reduceIte]) (by simp (disch := first | decide | omega) only [go_sem, ↓reduceIte]; try rfl) (kv := keyV tk 0 false) (vv := cV (oT bs tk 0)) (by simp (disch := first | decide | omega) only [go_sem, ↓reduceIte]; try rfl) (by simp (disch := first | decide | omega) only [go_sem, ↓reduceIte]; try rfl) hkey hkI (fun _ _ _ h => h) (fun _ _ h => h.elim) (by dsimp only; omega)) ?_
        (refine td ?_; try clear hQQ QQ)
        refine tw ?_; try with_reducible intro QQ hQQ
        (refine aw_ret ⟨.inr rfl, (by simp (maxSteps := 400000) (disch := first | decide | omega) only [go_sem, ↓reduceIte]; try rfl), (by simp (maxSteps := 400000) (disch := first | decide | omega) only [go_sem, ↓reduceIte]; try rfl), (by simp only [List.mem_cons, List.mem_nil_iff, forall_eq_or_imp, forall_eq, false_imp_iff, implies_true, or_false, and_true]; simp (maxSteps := 400000) (disch := first | decide | omega) only [go_sem, ↓reduceIte]; try exact ⟨rfl, rfl⟩)⟩)
      | succ k =>
        have hrec := hrec (by omega)
        rw [show k + 1 - 1 = k by omega] at hrec
        have haf := ok_after D (bG bs (k + 1)) (tk.testBit (k + 1)) (toF D bs tk k false) hD hbd.1 hbd.2.1 hbd.2.2 (toF_far h tk k false)
        rw [show plusF (aft D (toF D bs tk k false)) (ownF (bG bs (k + 1)) (tk.testBit (k + 1))) = toF D bs tk (k + 1) false from rfl] at haf
        simp only [stepP] at haf
        have he : ((k + 1 : Nat) : Int) + -1 = (k : Int) := by omega
        (repeat (first | apply aw_seq | apply aw_block | apply aw_skip | apply aw_label | apply aw_exit | ((first | refine aw_region (hideO fun QQ hQQ => ?_) | refine aw_draw mixed (hideD fun QQ hQQ => ?_)); simp (maxSteps := 400000) (disch := first | decide | omega) only [he, go_sem, ↓reduceIte]; try (first | with_reducible refine unhide hQQ ?_ | refine ⟨by kernel_rfl, unhide hQQ ?_⟩); clear hQQ QQ) | with_reducible first | apply then_n | apply block_n | apply then_x | apply then_r | apply nog_n | apply nog_r | apply block_r | apply block_e (by decide) | apply block_x (by decide)))
        refine aw_cond2 (by simp (disch := first | decide | omega) only [he, go_sem, ↓reduceIte]; rfl) ?_; first | refine .inl ⟨by first | rfl | exact decide_eq_true (by omega) | exact decide_eq_true (by assumption) | (simp (disch := first | decide | omega) only [if_pos_d, if_neg_d, decide_eq_true_eq, Bool.not_eq_true', decide_eq_false_iff_not]; omega), ?_⟩ | refine .inr ⟨by first | rfl | exact decide_eq_false (by omega) | exact decide_eq_false (by assumption) | (simp (disch := first | decide | omega) only [if_pos_d, if_neg_d, decide_eq_true_eq, Bool.not_eq_true', decide_eq_false_iff_not]; omega), ?_⟩
        (repeat (first | apply aw_seq | apply aw_block | apply aw_skip | apply aw_label | apply aw_exit | ((first | refine aw_region (hideO fun QQ hQQ => ?_) | refine aw_draw mixed (hideD fun QQ hQQ => ?_)); simp (maxSteps := 400000) (disch := first | decide | omega) only [he, go_sem, ↓reduceIte]; try (first | with_reducible refine unhide hQQ ?_ | refine ⟨by kernel_rfl, unhide hQQ ?_⟩); clear hQQ QQ) | with_reducible first | apply then_n | apply block_n | apply then_x | apply then_r | apply nog_n | apply nog_r | apply block_r | apply block_e (by decide) | apply block_x (by decide)))
        (refine callD_S [0, 1] (hrec) rfl rfl (by simp (disch := first | decide | omega) only [he, go_sem, ↓reduceIte]; try rfl) (by simp (disch := first | decide | omega) only [he, go_sem, ↓reduceIte]; try rfl) Try.func85 rfl (by decide) (by rfl) (by repeat' (first | trivial | apply And.intro | (simp (disch := first | decide | omega) only [he, go_sem, ↓reduceIte]; first | done | rfl))) (by decide) (by decide) (by first | rfl | (simp (disch := first | decide | omega) only [he, go_sem, ↓reduceIte]; try rfl)) ?_); simp (maxSteps := 400000) (disch := first | decide | omega) only [he, go_sem, ↓reduceIte]; (try (refine ⟨by kernel_rfl, unhide hQQ ?_⟩; clear hQQ QQ; (repeat with_reducible first | apply then_n | apply block_n | apply then_x | apply then_r | apply nog_n | apply nog_r | apply block_r | apply block_e (by decide) | apply block_x (by decide))))
        (repeat (first | apply aw_seq | apply aw_block | apply aw_skip | apply aw_label | apply aw_exit | ((first | refine aw_region (hideO fun QQ hQQ => ?_) | refine aw_draw mixed (hideD fun QQ hQQ => ?_)); simp (maxSteps := 400000) (disch := first | decide | omega) only [he, go_sem, ↓reduceIte]; try (first | with_reducible refine unhide hQQ ?_ | refine ⟨by kernel_rfl, unhide hQQ ?_⟩); clear hQQ QQ) | with_reducible first | apply then_n | apply block_n | apply then_x | apply then_r | apply nog_n | apply nog_r | apply block_r | apply block_e (by decide) | apply block_x (by decide)))
        refine callD_turn rfl rfl [] _ _ _ (turns_invoke (any := true) rfl rfl (by simp (disch := first | decide | omega) only [he, go_sem, ↓reduceIte]; try rfl) 82 (fun _ => by kernel_rfl) relR_step (by simp (disch := first | decide | omega) only [he, go_sem, ↓reduceIte]; try rfl) Try.func82 rfl (by decide) (fun _ => rfl) haf) ?_
        (simp (maxSteps := 400000) (disch := first | decide | omega) only [he, go_sem, ↓reduceIte]; (try (refine ⟨by kernel_rfl, unhide hQQ ?_⟩; clear hQQ QQ; (repeat with_reducible first | apply then_n | apply block_n | apply then_x | apply then_r | apply nog_n | apply nog_r | apply block_r | apply block_e (by decide) | apply block_x (by decide)))))
        (repeat (first | apply aw_seq | apply aw_block | apply aw_skip | apply aw_label | apply aw_exit | ((first | refine aw_region (hideO fun QQ hQQ => ?_) | refine aw_draw mixed (hideD fun QQ hQQ => ?_)); simp (maxSteps := 400000) (disch := first | decide | omega) only [he, go_sem, ↓reduceIte]; try (first | with_reducible refine unhide hQQ ?_ | refine ⟨by kernel_rfl, unhide hQQ ?_⟩); clear hQQ QQ) | with_reducible first | apply then_n | apply block_n | apply then_x | apply then_r | apply nog_n | apply nog_r | apply block_r | apply block_e (by decide) | apply block_x (by decide)))
        refine callD_turn rfl rfl [1] _ _ _ (by exact turns_update rfl rfl key118 und82 (id := 1) (I := keepI D bs) (keepI D bs) (by simp (disch := first | decide | omega) only [he, go_sem, ↓reduceIte]) (by simp (disch := first | decide | omega) only [he, go_sem, ↓reduceIte]; try rfl) (kv := keyV tk (k + 1) false) (vv := cV (toF D bs tk (k + 1) false)) (by simp (disch := first | decide | omega) only [he, go_sem, ↓reduceIte]; try rfl) (by simp (disch := first | decide | omega) only [he, go_sem, ↓reduceIte]; try rfl) hkey hkI (fun _ _ _ h => h) (fun _ _ h => h.elim) (by dsimp only; omega)) ?_
        (simp (maxSteps := 400000) (disch := first | decide | omega) only [he, go_sem, ↓reduceIte]; (try (refine ⟨by kernel_rfl, unhide hQQ ?_⟩; clear hQQ QQ; (repeat with_reducible first | apply then_n | apply block_n | apply then_x | apply then_r | apply nog_n | apply nog_r | apply block_r | apply block_e (by decide) | apply block_x (by decide)))))
        (repeat (first | apply aw_seq | apply aw_block | apply aw_skip | apply aw_label | apply aw_exit | ((first | refine aw_region (hideO fun QQ hQQ => ?_) | refine aw_draw mixed (hideD fun QQ hQQ => ?_)); simp (maxSteps := 400000) (disch := first | decide | omega) only [he, go_sem, ↓reduceIte]; try (first | with_reducible refine unhide hQQ ?_ | refine ⟨by kernel_rfl, unhide hQQ ?_⟩); clear hQQ QQ) | with_reducible first | apply then_n | apply block_n | apply then_x | apply then_r | apply nog_n | apply nog_r | apply block_r | apply block_e (by decide) | apply block_x (by decide)))
        (refine aw_ret ⟨.inr rfl, (by simp (maxSteps := 400000) (disch := first | decide | omega) only [he, go_sem, ↓reduceIte]; try rfl), (by simp (maxSteps := 400000) (disch := first | decide | omega) only [he, go_sem, ↓reduceIte]; try rfl), (by simp only [List.mem_cons, List.mem_nil_iff, forall_eq_or_imp, forall_eq, false_imp_iff, implies_true, or_false, and_true]; simp (maxSteps := 400000) (disch := first | decide | omega) only [he, go_sem, ↓reduceIte]; try exact ⟨rfl, rfl⟩)⟩)
    | true =>
      have hrec : bs.length - 1 - n ≠ 0 → FunS Try.prog 85 [.one (.box 0 0), .agg [.p (uP tk), .p (iP ((n + 1 : Nat) : Int)), .p (.v (.bool true))]] (tH D M May bs Try.prog) 2 (.one (.agg (cP (toF D bs tk (n + 1) true)))) := hrec
      refine tw ?_; try with_reducible intro QQ hQQ
      refine ti ?_; try clear hQQ QQ
      refine tw ?_; try with_reducible intro QQ hQQ
      ((refine cO 78 rfl rfl rfl (hst) Try.func78 rfl ?_); refine tu ?_; try clear hQQ QQ); refine tw ?_; try with_reducible intro QQ hQQ
      ((refine cO 79 rfl rfl rfl (hown) Try.func79 rfl ?_); refine tu ?_; try clear hQQ QQ); refine tw ?_; try with_reducible intro QQ hQQ
      by_cases hf : n + 1 = bs.length
      · have hq : toF D bs tk n true = oT bs tk n := toF_first h tk n true (by simp; omega) hn
        rw [hq] at hkI ⊢
        refine tw ?_; try with_reducible intro QQ hQQ
        refine ti ?_; try clear hQQ QQ
        (refine aw_skip ?_); (repeat with_reducible first | apply then_n | apply block_n | apply then_x | apply then_r | apply nog_n | apply nog_r | apply block_r | apply block_e (by decide) | apply block_x (by decide))
        refine tw ?_; try with_reducible intro QQ hQQ
        refine callD_turn rfl rfl [1] _ _ _ (by exact turns_update rfl rfl key118 und82 (id := 1) (I := keepI D bs) (keepI D bs) (by simp (disch := first | decide | omega) only [go_sem, ↓reduceIte]) (by simp (disch := first | decide | omega) only [go_sem, ↓reduceIte]; try rfl) (kv := keyV tk n true) (vv := cV (oT bs tk n)) (by simp (disch := first | decide | omega) only [go_sem, ↓reduceIte]; try rfl) (by simp (disch := first | decide | omega) only [go_sem, ↓reduceIte]; try rfl) hkey hkI (fun _ _ _ h => h) (fun _ _ h => h.elim) (by dsimp only; omega)) ?_
        (refine td ?_; try clear hQQ QQ)
        refine tw ?_; try with_reducible intro QQ hQQ
        (refine aw_ret ⟨.inr rfl, (by simp (maxSteps := 400000) (disch := first | decide | omega) only [go_sem, ↓reduceIte]; try rfl), (by simp (maxSteps := 400000) (disch := first | decide | omega) only [go_sem, ↓reduceIte]; try rfl), (by simp only [List.mem_cons, List.mem_nil_iff, forall_eq_or_imp, forall_eq, false_imp_iff, implies_true, or_false, and_true]; simp (maxSteps := 400000) (disch := first | decide | omega) only [go_sem, ↓reduceIte]; try exact ⟨rfl, rfl⟩)⟩)
      · have hrec := hrec (by omega)
        have haf := ok_after D (bG bs n) (tk.testBit n) (toF D bs tk (n + 1) true) hD hbd.1 hbd.2.1 hbd.2.2 (toF_far h tk (n + 1) true)
        rw [show plusF (aft D (toF D bs tk (n + 1) true)) (ownF (bG bs n) (tk.testBit n)) = toF D bs tk n true from (toF_next_t tk n (by omega)).symm] at haf
        simp only [stepP] at haf
        refine tw ?_; try with_reducible intro QQ hQQ
        refine ti ?_; try clear hQQ QQ
        refine tw ?_; try with_reducible intro QQ hQQ
        (refine callD_S [0, 1] (hrec) rfl rfl (by simp (disch := first | decide | omega) only [go_sem, ↓reduceIte]; try rfl) (by simp (disch := first | decide | omega) only [go_sem, ↓reduceIte]; try rfl) Try.func85 rfl (by decide) (by rfl) (by repeat' (first | trivial | apply And.intro | (simp (disch := first | decide | omega) only [go_sem, ↓reduceIte]; first | done | rfl))) (by decide) (by decide) (by first | rfl | (simp (disch := first | decide | omega) only [go_sem, ↓reduceIte]; try rfl)) ?_); refine td ?_; try clear hQQ QQ
        refine tw ?_; try with_reducible intro QQ hQQ
        refine callD_turn rfl rfl [] _ _ _ (turns_invoke (any := true) rfl rfl (by simp (disch := first | decide | omega) only [go_sem, ↓reduceIte]; try rfl) 82 (fun _ => by kernel_rfl) relR_step (by simp (disch := first | decide | omega) only [go_sem, ↓reduceIte]; try rfl) Try.func82 rfl (by decide) (fun _ => rfl) haf) ?_
        (refine td ?_; try clear hQQ QQ)
        refine tw ?_; try with_reducible intro QQ hQQ
        refine callD_turn rfl rfl [1] _ _ _ (by exact turns_update rfl rfl key118 und82 (id := 1) (I := keepI D bs) (keepI D bs) (by simp (disch := first | decide | omega) only [go_sem, ↓reduceIte]) (by simp (disch := first | decide | omega) only [go_sem, ↓reduceIte]; try rfl) (kv := keyV tk n true) (vv := cV (toF D bs tk n true)) (by simp (disch := first | decide | omega) only [go_sem, ↓reduceIte]; try rfl) (by simp (disch := first | decide | omega) only [go_sem, ↓reduceIte]; try rfl) hkey hkI (fun _ _ _ h => h) (fun _ _ h => h.elim) (by dsimp only; omega)) ?_
        (refine td ?_; try clear hQQ QQ)
        refine tw ?_; try with_reducible intro QQ hQQ
        (refine aw_ret ⟨.inr rfl, (by simp (maxSteps := 400000) (disch := first | decide | omega) only [go_sem, ↓reduceIte]; try rfl), (by simp (maxSteps := 400000) (disch := first | decide | omega) only [go_sem, ↓reduceIte]; try rfl), (by simp only [List.mem_cons, List.mem_nil_iff, forall_eq_or_imp, forall_eq, false_imp_iff, implies_true, or_false, and_true]; simp (maxSteps := 400000) (disch := first | decide | omega) only [go_sem, ↓reduceIte]; try exact ⟨rfl, rfl⟩)⟩)
theorem s_to (h : LOK bs) (hD : D ≤ 30) (tk : Nat) (htk : tk < 2 ^ 63) : ∀ (m n : Nat) (b : Bool), (if b = true then bs.length - 1 - n else n) = m → n < bs.length →
    FunS Try.prog 85 [.one (.box 0 0), .agg [.p (uP tk), .p (iP (n : Int)), .p (.v (.bool b))]] (tH D M May bs Try.prog) 2 (.one (.agg (cP (toF D bs tk n b)))) := by
  intro m
  induction m with
  | zero => intro n b hm hn; exact s_to1 h hD tk htk n b hn fun h => absurd hm h
  | succ m ih =>
    intro n b hm hn
    refine s_to1 h hD tk htk n b hn fun _ => ?_
    cases b with
    | false => exact ih (n - 1) false (by simp at hm ⊢; omega) (by omega)
    | true => exact ih (n + 1) true (by simp at hm ⊢; omega) (by simp at hm; omega)
end
end Go.Proofs.Ytgdhdikeicgndaa
/- classer: through one bale, how many mistakes, walked. -/
namespace Go.Proofs.Ytgdhdikeicgndaa
open Go Go.RowKit Go.Sh Go.Pv Go.Cl
set_option maxHeartbeats 8000000
set_option maxRecDepth 8000
section
variable {D M May : Nat} {bs : List (Nat × Nat × Nat)}
theorem s_mist (h : LOK bs) (hD : D ≤ 30) (tk : Nat) (htk : tk < 2 ^ 63) : FunS Try.prog 62 [.one (.box 0 0), .one (.p (uP tk))] (tH D M May bs Try.prog) 2 (.one (.one (iP ((mist D bs tk : Nat) : Int)))) := by
  have h1 := h.n1
  have h6 := h.n6
  have hto := s_to (M := M) (May := May) h hD tk htk _ (bs.length - 1) false rfl (by omega)
  have hle := ok_least (toF D bs tk (bs.length - 1) false) (toF_far h tk _ _)
  rw [show minR (toF D bs tk (bs.length - 1) false) 0 30 = mist D bs tk from rfl] at hle
  have he : (bs.length : Int) - 1 = ((bs.length - 1 : Nat) : Int) := by omega
  generalize mist D bs tk = x at *
  unfold tH tC
  refine funS_ok (nt := 17) (rs := [.tmp 4]) Try.func62 rfl rfl rfl (by simp) fun Z w0 cap pan dk tm => ?_; simp only [initV, pins, pinOf, List.map_cons, List.map_nil]
  try clear hF
  have hF := he
  refine twF ?_; try with_reducible intro QQ hQQ
  (refine callO_S [0, 1] (hto) rfl rfl (by simp (disch := first | decide | omega) only [hF, go_sem, ↓reduceIte]; try rfl) (by simp (disch := first | decide | omega) only [hF, go_sem, ↓reduceIte]; try rfl) Try.func85 rfl (by decide) (by rfl) (by repeat' (first | trivial | apply And.intro | (simp (disch := first | decide | omega) only [hF, go_sem, ↓reduceIte]; first | done | rfl))) (by decide) (by decide) (by first | rfl | (simp (disch := first | decide | omega) only [hF, go_sem, ↓reduceIte]; try rfl)) ?_); refine tsF ?_; try clear hQQ QQ
  refine twF ?_; try with_reducible intro QQ hQQ
  ((refine cOF 83 rfl rfl rfl (hle) Try.func83 rfl ?_); refine tuF ?_; try clear hQQ QQ); refine twF ?_; try with_reducible intro QQ hQQ
  (refine aw_ret ⟨.inr rfl, (by simp (maxSteps := 400000) (disch := first | decide | omega) only [hF, go_sem, ↓reduceIte]; try rfl), (by simp (maxSteps := 400000) (disch := first | decide | omega) only [hF, go_sem, ↓reduceIte]; try rfl), (by simp only [List.mem_cons, List.mem_nil_iff, forall_eq_or_imp, forall_eq, false_imp_iff, implies_true, or_false, and_true]; simp (maxSteps := 400000) (disch := first | decide | omega) only [hF, go_sem, ↓reduceIte]; try exact ⟨rfl, rfl⟩)⟩)
theorem s_can (h : LOK bs) (hD : D ≤ 30) (tk : Nat) (htk : tk < 2 ^ 63) : FunS Try.prog 53 [.one (.box 0 0), .one (.p (uP tk))] (tH D M May bs Try.prog) 2 (.one (.one (.v (.bool (decide (mist D bs tk ≤ M)))))) := by
  have hm := s_mist (M := M) (May := May) h hD tk htk
  have he : decide (((mist D bs tk : Nat) : Int) ≤ (M : Int)) = decide (mist D bs tk ≤ M) := by congr 1; exact propext Int.ofNat_le
  generalize mist D bs tk = x at *
  unfold tH tC
  refine funS_ok (nt := 14) (rs := [.tmp 4]) Try.func53 rfl rfl rfl (by simp) fun Z w0 cap pan dk tm => ?_; simp only [initV, pins, pinOf, List.map_cons, List.map_nil]
  try clear hF
  have hF := he
  refine twF ?_; try with_reducible intro QQ hQQ
  (refine callD_S [0, 1] (hm) rfl rfl (by simp (disch := first | decide | omega) only [hF, go_sem, ↓reduceIte]; try rfl) (by simp (disch := first | decide | omega) only [hF, go_sem, ↓reduceIte]; try rfl) Try.func62 rfl (by decide) (by rfl) (by repeat' (first | trivial | apply And.intro | (simp (disch := first | decide | omega) only [hF, go_sem, ↓reduceIte]; first | done | rfl))) (by decide) (by decide) (by first | rfl | (simp (disch := first | decide | omega) only [hF, go_sem, ↓reduceIte]; try rfl)) ?_); refine tdF ?_; try clear hQQ QQ
  refine twF ?_; try with_reducible intro QQ hQQ
  (refine aw_ret ⟨.inr rfl, (by simp (maxSteps := 400000) (disch := first | decide | omega) only [hF, go_sem, ↓reduceIte]; try rfl), (by simp (maxSteps := 400000) (disch := first | decide | omega) only [hF, go_sem, ↓reduceIte]; try rfl), (by simp only [List.mem_cons, List.mem_nil_iff, forall_eq_or_imp, forall_eq, false_imp_iff, implies_true, or_false, and_true]; simp (maxSteps := 400000) (disch := first | decide | omega) only [hF, go_sem, ↓reduceIte]; try exact ⟨rfl, rfl⟩)⟩)
theorem s_through (h : LOK bs) (hD : D ≤ 30) (tk n : Nat) (htk : tk < 2 ^ 63) (hn : n < bs.length) : FunS Try.prog 67 [.one (.box 0 0), .one (.p (iP (n : Int))), .one (.p (uP tk))] (tH D M May bs Try.prog) 2 (.one (.agg (cP (thr D bs.length (oT bs tk) n)))) := by
  have h6 := h.n6
  have hbd := h.bd n
  have hst := ok_step (M := M) (May := May) (D := D) h n tk hn (by omega)
  have hown := ok_own D (bG bs n) (tk.testBit n) hbd.1 hbd.2.1 hbd.2.2
  unfold tP at hst
  rw [show ownF (bG bs n) (tk.testBit n) = oT bs tk n from rfl] at hown
  simp only [stepP] at hst hown
  have hf := s_to (M := M) (May := May) h hD tk htk _ n false rfl hn
  have hb := s_to (M := M) (May := May) h hD tk htk _ n true rfl hn
  have hSF : toF D bs tk n false = fwd D bs tk n := rfl
  have hB : toF D bs tk n true = bwd D bs tk n := rfl
  have fF := toF_far (D := D) h tk n false
  have fB := toF_far (D := D) h tk n true
  have hoT := fun i => oT_le h tk n i
  have hoF : ∀ i, oT bs tk n i ≤ fwd D bs tk n i := fun i => dp_own (D := D) (o := oT bs tk) n i (oT_le h tk n i)
  rw [hSF] at hf fF
  rw [hB] at hb fB
  have hthr : ∀ i, thr D bs.length (oT bs tk) n i = if FAR ≤ fwd D bs tk n i ∨ FAR ≤ bwd D bs tk n i then FAR else fwd D bs tk n i + bwd D bs tk n i - oT bs tk n i := fun i => rfl
  generalize thr D bs.length (oT bs tk) n = T at *
  generalize fwd D bs tk n = A at *
  generalize bwd D bs tk n = B at *
  generalize oT bs tk n = O at *
  unfold tH tC
  refine funS_ok (nt := 55) (rs := [.cell 6 88]) Try.func67 rfl rfl rfl (by simp) fun Z w0 cap pan dk tm => ?_; simp only [initV, pins, pinOf, List.map_cons, List.map_nil]
  refine tw ?_; try with_reducible intro QQ hQQ
  ((refine cO 78 rfl rfl rfl (hst) Try.func78 rfl ?_); refine tu ?_; try clear hQQ QQ); refine tw ?_; try with_reducible intro QQ hQQ
  ((refine cO 79 rfl rfl rfl (hown) Try.func79 rfl ?_); refine tu ?_; try clear hQQ QQ); refine tw ?_; try with_reducible intro QQ hQQ
  (refine callO_S [0, 1] (hf) rfl rfl (by simp (disch := first | decide | omega) only [go_sem, ↓reduceIte]; try rfl) (by simp (disch := first | decide | omega) only [go_sem, ↓reduceIte]; try rfl) Try.func85 rfl (by decide) (by rfl) (by repeat' (first | trivial | apply And.intro | (simp (disch := first | decide | omega) only [go_sem, ↓reduceIte]; first | done | rfl))) (by decide) (by decide) (by first | rfl | (simp (disch := first | decide | omega) only [go_sem, ↓reduceIte]; try rfl)) ?_); refine ts ?_; try clear hQQ QQ
  refine tw ?_; try with_reducible intro QQ hQQ
  (refine callO_S [0, 1] (hb) rfl rfl (by simp (disch := first | decide | omega) only [go_sem, ↓reduceIte]; try rfl) (by simp (disch := first | decide | omega) only [go_sem, ↓reduceIte]; try rfl) Try.func85 rfl (by decide) (by rfl) (by repeat' (first | trivial | apply And.intro | (simp (disch := first | decide | omega) only [go_sem, ↓reduceIte]; first | done | rfl))) (by decide) (by decide) (by first | rfl | (simp (disch := first | decide | omega) only [go_sem, ↓reduceIte]; try rfl)) ?_); refine ts ?_; try clear hQQ QQ
  refine tw ?_; try with_reducible intro QQ hQQ
  refine aw_weak (weak_restrict [6, 7, 8, 9, 26] [6, 5, 4, 3, 2, 1, 0] 7 (by simp only [go_sem, ↓reduceIte]; rfl)) ?_
  refine aw_loop_ov (ι := { i : Nat // i ≤ 31 }) (fun i => [(26, iA i.1)]) (fun i => [(5, .box (cA (mixF T A i.1)))]) (fun i => 31 - i.1) ⟨0, by omega⟩ (by first | rfl | (simp only [go_sem, ↓reduceIte]; first | done | rfl | (simp; try rfl))) ?_
  rintro ⟨i, hi⟩
  simp (disch := decide) only [ov, ovL, AL.get_nil, AL.get_eq, AL.get_ne, Option.getD_some, Option.getD_none]
  simp only [cA]
  by_cases hil : i < 31
  · have hti := hthr i
    have f1 := fF i
    have f2 := fB i
    have f3 := hoT i
    have f4 := hoF i
    unfold FAR at hti f3
    by_cases hA : (A i : Int) ≥ 65536
    · have e : ((65536 : Nat) : Int) = ((T i : Nat) : Int) := by rw [hti, if_pos (.inl (by omega))]
      have e2 : ∀ c, updF c i 65536 = updF c i ((T i : Nat) : Int) := fun c => by rw [← e]; rfl
      try clear hF
      have hF := e2
      refine twF ?_; try with_reducible intro QQ hQQ
      refine tiF ?_; try clear hQQ QQ
      refine twF ?_; try with_reducible intro QQ hQQ
      refine tiF ?_; try clear hQQ QQ
      refine twF ?_; try with_reducible intro QQ hQQ
      (refine ⟨⟨i + 1, by omega⟩, ?_, weak_round (by simp only [hF, go_sem, ↓reduceIte]; first | done | rfl) (by first | rfl | (simp only [hF, go_sem, ↓reduceIte]))⟩; (simp only; omega))
    · by_cases hB2 : (B i : Int) ≥ 65536
      · have e : ((65536 : Nat) : Int) = ((T i : Nat) : Int) := by rw [hti, if_pos (.inr (by omega))]
        have e2 : ∀ c, updF c i 65536 = updF c i ((T i : Nat) : Int) := fun c => by rw [← e]; rfl
        try clear hF
        have hF := e2
        refine twF ?_; try with_reducible intro QQ hQQ
        refine tiF ?_; try clear hQQ QQ
        refine twF ?_; try with_reducible intro QQ hQQ
        refine tiF ?_; try clear hQQ QQ
        refine twF ?_; try with_reducible intro QQ hQQ
        (refine ⟨⟨i + 1, by omega⟩, ?_, weak_round (by simp only [hF, go_sem, ↓reduceIte]; first | done | rfl) (by first | rfl | (simp only [hF, go_sem, ↓reduceIte]))⟩; (simp only; omega))
      · have e : (A i : Int) + ((B i : Int) - (O i : Int)) = ((T i : Nat) : Int) := by rw [hti, if_neg (by omega)]; omega
        try clear hF
        have hF := e
        refine twF ?_; try with_reducible intro QQ hQQ
        refine tiF ?_; try clear hQQ QQ
        refine twF ?_; try with_reducible intro QQ hQQ
        refine tiF ?_; try clear hQQ QQ
        refine twF ?_; try with_reducible intro QQ hQQ
        (refine ⟨⟨i + 1, by omega⟩, ?_, weak_round (by simp only [hF, go_sem, ↓reduceIte]; first | done | rfl) (by first | rfl | (simp only [hF, go_sem, ↓reduceIte]))⟩; (simp only; omega))
  · have : i = 31 := by omega
    subst this
    have e := mix_all T A
    simp only [cA] at e
    rw [e]
    refine tw ?_; try with_reducible intro QQ hQQ
    refine ti ?_; try clear hQQ QQ
    refine tw ?_; try with_reducible intro QQ hQQ
    (refine aw_ret ⟨.inr rfl, (by simp (maxSteps := 400000) (disch := first | decide | omega) only [go_sem, ↓reduceIte]; try rfl), (by simp (maxSteps := 400000) (disch := first | decide | omega) only [go_sem, ↓reduceIte]; try rfl), (by simp only [List.mem_cons, List.mem_nil_iff, forall_eq_or_imp, forall_eq, false_imp_iff, implies_true, or_false, and_true]; simp (maxSteps := 400000) (disch := first | decide | omega) only [go_sem, ↓reduceIte]; try exact ⟨rfl, rfl⟩)⟩)
end
end Go.Proofs.Ytgdhdikeicgndaa
/- classer: how many fleeces of a bale can be wrong, walked. -/
namespace Go.Proofs.Ytgdhdikeicgndaa
open Go Go.RowKit Go.Sh Go.Pv Go.Cl
attribute [go_sem] keepA nub
set_option maxHeartbeats 8000000
set_option maxRecDepth 8000
set_option pp.maxSteps 60000
theorem c_upTo {Z : Zn} {w0 : World} {cap : Nat → Prop} {nt : Nat} {rd : Option Nat} {pan : List PanicEntry → St → Prop} {df : Option Nat} {dk : List Nat} {rg : Bool} {fr : List (Nat × AV)} {hp : List (Nat × Obj')} {nx : Nat} (c : Nat → Nat) (m : Int) :
    CallF ⟨Try.prog, Z, w0, cap, nt, rd, pan, df, dk, rg⟩ 68 [.agg (cA c), .one (.p (iP m))] ⟨fr, hp, nx⟩ fun st' av => st' = ⟨fr, (nx + 1 + 1, .box [.p (iP m)]) :: (nx + 1, .box (cA c)) :: hp, nx + 1 + 1 + 1⟩ ∧ av = .one (.fn 89 [.box (nx + 1), .box (nx + 1 + 1)]) := by
  (refine callF_to (nt := 6) (rs := [.tmp 4]) Try.func68 rfl rfl rfl (by simp) fun hcl tm Ds => ?_); simp only [initV]
  dsimp only [Kx.calleeT]
  have hlt := hcl.lt
  dsimp only at hlt
  refine tw ?_; try with_reducible intro QQ hQQ
  refine aw_ret ⟨.inr rfl, _, by simp (disch := first | decide | omega) only [go_sem, ↓reduceIte]; try rfl, by simp (disch := first | decide | omega) only [go_sem, ↓reduceIte]; try rfl, ⟨fr, (nx + 1 + 1, .box [.p (iP m)]) :: (nx + 1, .box (cA c)) :: hp, nx + 1 + 1 + 1⟩, rfl, ?_, ?_, ?_, rfl, rfl⟩
  · have h1 := Closed.new (st := ⟨fr, hp, nx⟩) (o := .box (cA c)) (id := nx + 1) (nx' := nx + 1 + 1) hcl (by dsimp only; omega) (by omega) (fun _ _ h => by cases h) (fun i hi => by rw [show refsO (.box (cA c)) = [] from arrA_refs _ _] at hi; cases hi)
    exact Closed.new (o := .box [.p (iP m)]) (id := nx + 1 + 1) (nx' := nx + 1 + 1 + 1) h1 (by dsimp only; omega) (by omega) (fun _ _ h => by cases h) (fun i hi => by cases hi)
  · intro id o ho
    have ho : AL.get ((nx + 1 + 1, Obj'.box [.p (iP m)]) :: (nx + 1, .box (cA c)) :: hp) id = some o := ho
    by_cases e1 : id = nx + 1 + 1
    · subst e1; rw [AL.get_eq] at ho ⊢; exact ho
    · rw [AL.get_ne _ _ e1] at ho
      by_cases e2 : id = nx + 1
      · subst e2; rw [AL.get_eq] at ho; cases ho; simp (disch := first | decide | omega) only [go_sem, ↓reduceIte]
      · rw [AL.get_ne _ _ e2] at ho
        have := hlt id o ho
        simp (disch := first | decide | omega) only [go_sem, ↓reduceIte]
        exact ho
  · intro i hi
    simp only [refsV, refsC, refsCC, List.flatMap_cons, List.flatMap_nil, List.append_nil, List.mem_cons, List.mem_nil_iff, or_false, List.cons_append, List.nil_append] at hi
    rcases hi with rfl | rfl
    · exact ⟨.box (cA c), by rw [AL.get_ne _ _ (by omega)]; exact AL.get_eq _ _ _⟩
    · exact ⟨_, AL.get_eq _ _ _⟩
section
variable {D M May : Nat} {bs : List (Nat × Nat × Nat)}
theorem all_lt (h : LOK bs) : 2 ^ bs.length - 1 < 2 ^ 63 := by
  have hp2 : 2 ^ bs.length ≤ 2 ^ 6 := Nat.pow_le_pow_right (by decide) h.n6
  have : (2 : Nat) ^ 6 < 2 ^ 63 := by decide
  omega
theorem s_wrong (h : LOK bs) (hD : D ≤ 30) (hM : M ≤ 6) (n : Nat) (hn : n < bs.length) (hcan : mist D bs (2 ^ bs.length - 1) ≤ M) : FunS Try.prog 47 [.one (.box 0 0), .one (.p (iP (n : Int)))] (tH D M May bs Try.prog) 2 (.one (.agg [iP ((wrongS D M bs n).1 : Nat), iP ((wrongS D M bs n).2 : Nat)])) := by
  have hev := ok_every (D := D) (M := M) (May := May) h
  have hc := s_can (M := M) (May := May) h hD _ (all_lt h)
  rw [decide_eq_true hcan] at hc
  have ht := s_through (M := M) (May := May) h hD _ n (all_lt h) hn
  have hask := ok_ask 10
  unfold tP at hev
  unfold wrongS
  generalize thr D bs.length (oT bs (2 ^ bs.length - 1)) n = T at *
  generalize (2 ^ bs.length - 1) = E at *
  clear hcan
  unfold tH tC
  refine funS_ok (nt := 35) (rs := [.cell 4 28]) Try.func47 rfl rfl rfl (by simp) fun Z w0 cap pan dk tm => ?_; simp only [initV, pins, pinOf, List.map_cons, List.map_nil]
  refine tw ?_; try with_reducible intro QQ hQQ
  ((refine cO 54 rfl rfl rfl (hev) Try.func54 rfl ?_); refine tu ?_; try clear hQQ QQ); refine tw ?_; try with_reducible intro QQ hQQ
  (refine callO_S [0, 1] (hc) rfl rfl (by simp (disch := first | decide | omega) only [go_sem, ↓reduceIte]; try rfl) (by simp (disch := first | decide | omega) only [go_sem, ↓reduceIte]; try rfl) Try.func53 rfl (by decide) (by rfl) (by repeat' (first | trivial | apply And.intro | (simp (disch := first | decide | omega) only [go_sem, ↓reduceIte]; first | done | rfl))) (by decide) (by decide) (by first | rfl | (simp (disch := first | decide | omega) only [go_sem, ↓reduceIte]; try rfl)) ?_); refine ts ?_; try clear hQQ QQ
  refine tw ?_; try with_reducible intro QQ hQQ
  ((refine cO 52 rfl rfl rfl (hask) Try.func52 rfl ?_); refine tu ?_; try clear hQQ QQ); refine tw ?_; try with_reducible intro QQ hQQ
  (refine cD 54 rfl rfl rfl (hev) Try.func54 rfl ?_); refine td ?_; try clear hQQ QQ
  refine tw ?_; try with_reducible intro QQ hQQ
  (refine callD_S [0, 1] (ht) rfl rfl (by simp (disch := first | decide | omega) only [go_sem, ↓reduceIte]; try rfl) (by simp (disch := first | decide | omega) only [go_sem, ↓reduceIte]; try rfl) Try.func67 rfl (by decide) (by rfl) (by repeat' (first | trivial | apply And.intro | (simp (disch := first | decide | omega) only [go_sem, ↓reduceIte]; first | done | rfl))) (by decide) (by decide) (by first | rfl | (simp (disch := first | decide | omega) only [go_sem, ↓reduceIte]; try rfl)) ?_); refine td ?_; try clear hQQ QQ
  refine tw ?_; try with_reducible intro QQ hQQ
  refine callD_F [6, 7] ?_ ?_ 8 rfl rfl (by simp (disch := first | decide | omega) only [go_sem, ↓reduceIte]; try rfl) (by simp (disch := first | decide | omega) only [go_sem, ↓reduceIte]; try rfl) Try.func68 rfl (by decide) ?_ (by dsimp only; omega) (by decide) ?_ ?_; rotate_left 3; (intro fr hk; exact c_upTo T M); rotate_left; (intro id hid; simp only [List.mem_cons, List.mem_nil_iff, or_false, not_or] at hid; simp (disch := first | decide | omega) only [go_sem, ↓reduceIte]); refine td ?_; try clear hQQ QQ
  refine tw ?_; try with_reducible intro QQ hQQ
  refine aw_weak (weak_restrict [4, 5, 23] [7, 6, 4, 3, 2, 1, 0] 8 (by simp only [go_sem, ↓reduceIte]; rfl)) ?_
  refine aw_rangeFunc (nt := 19) rfl rfl (by simp (disch := first | decide | omega) only [go_sem, ↓reduceIte]; rfl) Try.func89 rfl (by decide) rfl rfl (by decide) fun r bb tm2 Ds2 hr1 hr1p hr2 hr3 hr4 hr5 hr6 hr7 => ?_
  dsimp only [Kx.iter] at hr5 hr7 ⊢
  refine aw_scope rfl ?_
  refine tw ?_; try with_reducible intro QQ hQQ
  refine aw_weak (weak_keepA [0, 2, 6, 7] (by simp only [go_sem, ↓reduceIte]; rfl)) ?_
  refine aw_loop_ov (ι := { i : Nat // i ≤ 31 }) (fun i => [(7, iA i.1)]) (fun i => [(4, .box [.p (iP ((spanF (fun k => decide (T k ≤ M)) i.1).1 : Nat)), .p (iP ((spanF (fun k => decide (T k ≤ M)) i.1).2 : Nat))])]) (fun i => 31 - i.1) ⟨0, by omega⟩ (by first | rfl | (simp only [go_sem, ↓reduceIte]; first | done | rfl | (simp; try rfl))) ?_
  rintro ⟨i, hi⟩
  simp (disch := decide) only [ov, ovL, AL.get_nil, AL.get_eq, AL.get_ne, Option.getD_some, Option.getD_none]
  by_cases hil : i < 31
  · have e1 : spanF (fun k => decide (T k ≤ M)) (i + 1) = if T i ≤ M then (min (spanF (fun k => decide (T k ≤ M)) i).1 i, max (spanF (fun k => decide (T k ≤ M)) i).2 i) else spanF (fun k => decide (T k ≤ M)) i := by
      show (if decide (T i ≤ M) = true then _ else _) = _
      simp only [decide_eq_true_eq]
    have hbd := spanF_bd (fun k => decide (T k ≤ M)) i (by omega)
    generalize spanF (fun k => decide (T k ≤ M)) i = q at *
    obtain ⟨lo, hi'⟩ := q
    dsimp only at hbd
    by_cases hc : T i ≤ M
    · rw [if_pos hc] at e1
      refine tw ?_; try with_reducible intro QQ hQQ
      refine ti ?_; try clear hQQ QQ
      refine tw ?_; try with_reducible intro QQ hQQ
      refine ti ?_; try clear hQQ QQ
      refine tw ?_; try with_reducible intro QQ hQQ
      refine ⟨rfl, .inr ⟨rfl, callS_yield (L := 9) (C := 8) (avs := [.one (.p (iP (i : Int)))]) rfl rfl (by simp (disch := first | decide | omega) only [go_sem, ↓reduceIte]; try rfl) (by simp (disch := first | decide | omega) only [go_sem, ↓reduceIte]; try rfl) (by simp (disch := first | decide | omega) only [go_sem, ↓reduceIte]; try rfl) hr1 (by simp (disch := first | decide | omega) only [go_sem, ↓reduceIte]; try rfl) hr6 (by rw [hr5]; exact fun t av ht => hr7 t av ht |> fun h => by rw [hr5] at h; exact h) (by rw [hr2]; rfl) ?_ fun Ds tmi => ?_⟩⟩
      · intro t ht
        rw [hr2] at ht
        rw [hr5]
        simp only [List.mem_cons, List.mem_nil_iff, or_false] at ht
        subst ht; decide
      obtain ⟨rB, hrB⟩ : ∃ rB, ({ r with state := .busy } : Loop) = rB := ⟨_, rfl⟩
      rw [hrB, hr2, hr3, hr4, hr5]
      have hrr : ({ rB with state := .ready, pending := none } : Loop) = r := by
        rw [← hrB]
        cases r
        dsimp only at hr1 hr1p
        subst hr1 hr1p
        rfl
      simp only [Kx.round, setPs]
      have hmin : (if (i : Int) < (lo : Int) then (i : Int) else (lo : Int)) = ((min lo i : Nat) : Int) := by split <;> omega
      have hmax : (if (i : Int) > (hi' : Int) then (i : Int) else (hi' : Int)) = ((max hi' i : Nat) : Int) := by split <;> omega
      (repeat (first | apply aw_seq | apply aw_block | apply aw_skip | apply aw_label | apply aw_exit | ((first | refine aw_region (hideO fun QQ hQQ => ?_) | refine aw_draw mixed (hideD fun QQ hQQ => ?_)); simp (maxSteps := 400000) (disch := first | decide | omega) only [hmin, hmax, go_sem, ↓reduceIte]; try (first | with_reducible refine unhide hQQ ?_ | refine ⟨by kernel_rfl, unhide hQQ ?_⟩); clear hQQ QQ) | with_reducible first | apply then_n | apply block_n | apply then_x | apply then_r | apply nog_n | apply nog_r | apply block_r | apply block_e (by decide) | apply block_x (by decide)))
      refine ⟨rfl, by simp (disch := first | decide | omega) only [hmin, hmax, go_sem, ↓reduceIte], ?_⟩
      (repeat (first | apply aw_seq | apply aw_block | apply aw_skip | apply aw_label | apply aw_exit | ((first | refine aw_region (hideO fun QQ hQQ => ?_) | refine aw_draw mixed (hideD fun QQ hQQ => ?_)); simp (maxSteps := 400000) (disch := first | decide | omega) only [hmin, hmax, go_sem, ↓reduceIte]; try (first | with_reducible refine unhide hQQ ?_ | refine ⟨by kernel_rfl, unhide hQQ ?_⟩); clear hQQ QQ) | with_reducible first | apply then_n | apply block_n | apply then_x | apply then_r | apply nog_n | apply nog_r | apply block_r | apply block_e (by decide) | apply block_x (by decide)))
      refine ⟨by simp (disch := first | decide | omega) only [hmin, hmax, go_sem, ↓reduceIte]; try rfl, none, .inl ⟨rfl, rfl⟩, rB, by simp (disch := first | decide | omega) only [hmin, hmax, go_sem, ↓reduceIte]; try rfl, ?_⟩
      (simp (maxSteps := 400000) (disch := first | decide | omega) only [hmin, hmax, Option.isNone_none, hrr, go_sem, ↓reduceIte]; (try (with_reducible refine unhide hQQ ?_; clear hQQ QQ; (repeat with_reducible first | apply then_n | apply block_n | apply then_x | apply then_r | apply nog_n | apply nog_r | apply block_r | apply block_e (by decide) | apply block_x (by decide)))))
      (repeat (first | apply aw_seq | apply aw_block | apply aw_skip | apply aw_label | apply aw_exit | ((first | refine aw_region (hideO fun QQ hQQ => ?_) | refine aw_draw mixed (hideD fun QQ hQQ => ?_)); simp (maxSteps := 400000) (disch := first | decide | omega) only [hmin, hmax, Option.isNone_none, hrr, go_sem, ↓reduceIte]; try (first | with_reducible refine unhide hQQ ?_ | refine ⟨by kernel_rfl, unhide hQQ ?_⟩); clear hQQ QQ) | with_reducible first | apply then_n | apply block_n | apply then_x | apply then_r | apply nog_n | apply nog_r | apply block_r | apply block_e (by decide) | apply block_x (by decide)))
      refine aw_cond2 (by simp (disch := first | decide | omega) only [hmin, hmax, Option.isNone_none, hrr, go_sem, ↓reduceIte]; rfl) ?_; first | refine .inl ⟨by first | rfl | exact decide_eq_true (by omega) | exact decide_eq_true (by assumption) | (simp (disch := first | decide | omega) only [if_pos_d, if_neg_d, decide_eq_true_eq, Bool.not_eq_true', decide_eq_false_iff_not]; omega), ?_⟩ | refine .inr ⟨by first | rfl | exact decide_eq_false (by omega) | exact decide_eq_false (by assumption) | (simp (disch := first | decide | omega) only [if_pos_d, if_neg_d, decide_eq_true_eq, Bool.not_eq_true', decide_eq_false_iff_not]; omega), ?_⟩
      (repeat (first | apply aw_seq | apply aw_block | apply aw_skip | apply aw_label | apply aw_exit | ((first | refine aw_region (hideO fun QQ hQQ => ?_) | refine aw_draw mixed (hideD fun QQ hQQ => ?_)); simp (maxSteps := 400000) (disch := first | decide | omega) only [hmin, hmax, Option.isNone_none, hrr, go_sem, ↓reduceIte]; try (first | with_reducible refine unhide hQQ ?_ | refine ⟨by kernel_rfl, unhide hQQ ?_⟩); clear hQQ QQ) | with_reducible first | apply then_n | apply block_n | apply then_x | apply then_r | apply nog_n | apply nog_r | apply block_r | apply block_e (by decide) | apply block_x (by decide)))
      refine ⟨⟨i + 1, by omega⟩, ?_, weak_round ?_ (by first | rfl | (simp only [hmin, hmax, Option.isNone_none, hrr, go_sem, ↓reduceIte]))⟩
      rotate_left
      · simp only [e1]
        (simp only [hmin, hmax, Option.isNone_none, hrr, go_sem, ↓reduceIte]; try rfl)
      · simp only; omega
    · rw [if_neg hc] at e1
      refine tw ?_; try with_reducible intro QQ hQQ
      refine ti ?_; try clear hQQ QQ
      refine tw ?_; try with_reducible intro QQ hQQ
      refine ti ?_; try clear hQQ QQ
      (refine aw_exit ?_); (repeat with_reducible first | apply then_n | apply block_n | apply then_x | apply then_r | apply nog_n | apply nog_r | apply block_r | apply block_e (by decide) | apply block_x (by decide))
      refine tw ?_; try with_reducible intro QQ hQQ
      refine ⟨⟨i + 1, by omega⟩, ?_, weak_round ?_ (by first | rfl | (simp only [go_sem, ↓reduceIte]))⟩
      rotate_left
      · simp only [e1]
        (simp only [go_sem, ↓reduceIte]; try rfl)
      · simp only; omega
  · have : i = 31 := by omega
    subst this
    refine tw ?_; try with_reducible intro QQ hQQ
    refine ti ?_; try clear hQQ QQ
    refine tw ?_; try with_reducible intro QQ hQQ
    refine ⟨.inl rfl, by simp (disch := first | decide | omega) only [go_sem, ↓reduceIte], r, by simp (disch := first | decide | omega) only [go_sem, ↓reduceIte], by rw [hr1]; decide, ?_⟩
    rw [hr1p]
    (repeat (first | with_reducible refine then_n ?_ | with_reducible refine block_n ?_))
    show AW _ _ _ _
    refine tw ?_; try with_reducible intro QQ hQQ
    (refine aw_ret ⟨.inr rfl, (by simp (maxSteps := 400000) (disch := first | decide | omega) only [go_sem, ↓reduceIte]; try rfl), (by simp (maxSteps := 400000) (disch := first | decide | omega) only [go_sem, ↓reduceIte]; try rfl), (by simp only [List.mem_cons, List.mem_nil_iff, forall_eq_or_imp, forall_eq, false_imp_iff, implies_true, or_false, and_true]; simp (maxSteps := 400000) (disch := first | decide | omega) only [go_sem, ↓reduceIte]; try exact ⟨rfl, rfl⟩)⟩)
end
end Go.Proofs.Ytgdhdikeicgndaa
/- classer: what is recovered is turned into an error. -/
namespace Go.Proofs.Ytgdhdikeicgndaa
open Go Go.RowKit Go.Sh Go.Pv Go.Cl
set_option maxHeartbeats 4000000
set_option maxRecDepth 8000
theorem ans43 : AnswersOK Try.prog 43 stopV := by
  have hta : ∀ c w, (Instr.typeAssert (.iface 100 (.int .i64 c)) 20 100 true).run Try.prog w = .ok (.tuple #[.int .i64 c, .bool true]) w := fun _ _ => by kernel_rfl
  refine ⟨fun p w => ?_, fun p x c w hc hz => ?_⟩
  · refine callsDIn_of_wpSIn Try.func43 rfl trivial fun c₀ cs hu => ?_
    refine wpSIn_seq ?_
    refine wpSIn_region ?_
    have e1 : recoverD (c₀ :: cs) = none := by simp [recoverD, hu]
    show wpOpsSIn _ _ _ _ _ [0, 1] _ _ _
    simp [wpOpsSIn, Region.wanted, yielded, execOp, resolve, invoke, builtin, e1, Act.put, Act.eval, Exit.thenS, Oper.about]
    refine ⟨fun _ _ => trivial, ?_⟩
    refine wpSIn_of_wpIn rfl (wpIn_wide.2 ?_)
    rw [show (#[Value.pointer (some p)] ++ ((Array.replicate 18 undef).setIfInBounds 4 Value.nilIface).setIfInBounds 1 Value.nilIface) = #[.pointer (some p), undef, .nilIface, undef, undef, .nilIface, undef, undef, undef, undef, undef, undef, undef, undef, undef, undef, undef, undef, undef] from rfl]
    go_wp2
    exact ⟨rfl, .returning, by cases c₀; simp_all, _, results_none rfl _ _ _, rfl, rfl, Below.refl _ _⟩
  · refine callsDIn_of_wpSIn Try.func43 rfl trivial fun c₀ cs hu => ?_
    refine wpSIn_seq ?_
    refine wpSIn_region ?_
    have e1 : recoverD (c₀ :: cs) = some (stopV c, { c₀ with mode := .panicking [{ v := stopV c, recovered := true }] } :: cs) := by simp [recoverD, hu]
    show wpOpsSIn _ _ _ _ _ [0, 1] _ _ _
    simp [wpOpsSIn, Region.wanted, yielded, execOp, resolve, invoke, builtin, e1, Act.put, Act.eval, Exit.thenS, Oper.about]
    refine ⟨fun _ _ => trivial, ?_⟩
    refine wpSIn_of_wpIn rfl (wpIn_wide.2 ?_)
    have hlt := World.block_lt_of_cell? _ _ hc
    have hb : ∀ ob, Below w.heap.size w (w.alloc ob) := fun ob => (Below.refl _ w).alloc (Nat.le_refl _) _
    rw [show (#[Value.pointer (some p)] ++ ((Array.replicate 18 undef).setIfInBounds 4 (stopV c)).setIfInBounds 1 (stopV c)) = #[.pointer (some p), undef, stopV c, undef, undef, stopV c, undef, undef, undef, undef, undef, undef, undef, undef, undef, undef, undef, undef, undef] from rfl]
    unfold stopV
    go_wp2
    exact ⟨rfl, _, rfl, _, results_none rfl _ _ _, rfl, rfl, w, Below.refl _ _, rfl⟩
theorem ansFid_eq : ansFid Try.prog = 43 := by kernel_rfl
end Go.Proofs.Ytgdhdikeicgndaa
/- classer: a line is opened. -/
namespace Go.Proofs.Ytgdhdikeicgndaa
open Go Go.RowKit Go.Sh Go.Pv Go.Cl
set_option maxHeartbeats 8000000
set_option maxRecDepth 20000
/-- Is a bale valid, and a line? -/
def baleB (b : Int × Int × Int) : Bool := (inB b.1 1 30 && inB b.2.1 0 b.1) && inB b.2.2 0 b.2.1
def lineB (bales : List (Int × Int × Int)) (may drift mist : Int) : Bool := (((inB (bales.length : Int) 1 6 && inB may 0 30) && inB drift 0 30) && inB mist 0 6) && bales.all baleB
def castB (b : Nat × Nat × Nat) : Int × Int × Int := ((b.1 : Int), (b.2.1 : Int), (b.2.2 : Int))
def natB (b : Int × Int × Int) : Nat × Nat × Nat := (b.1.toNat, b.2.1.toNat, b.2.2.toNat)
theorem row_cast (b : Nat × Nat × Nat) : row3 (castB b) = baleP b := rfl
theorem rows_cast (bs : List (Nat × Nat × Nat)) : (bs.map castB).map row3 = bs.map baleP := by rw [List.map_map]; rfl
theorem nat_cast (b : Nat × Nat × Nat) : natB (castB b) = b := by simp [natB, castB]
theorem nats_cast (bs : List (Nat × Nat × Nat)) : (bs.map castB).map natB = bs := by rw [List.map_map]; simp [Function.comp_def, nat_cast]
theorem all_getD {α : Type} {p : α → Bool} {l : List α} {d : α} : (l.all p = true) ↔ ∀ i, i < l.length → p (l.getD i d) = true := by
  rw [List.all_eq_true]
  refine ⟨fun h i hi => ?_, fun h x hx => ?_⟩
  · rw [List.getD_eq_getElem?_getD, List.getElem?_eq_getElem hi]
    exact h _ (List.getElem_mem hi)
  · obtain ⟨i, hi, rfl⟩ := List.getElem_of_mem hx
    have := h i hi
    rwa [List.getD_eq_getElem?_getD, List.getElem?_eq_getElem hi] at this
theorem all_getD_f {α : Type} {p : α → Bool} {l : List α} {d : α} {i : Nat} (hi : i < l.length) (h : p (l.getD i d) = false) : l.all p = false := by
  rw [List.all_eq_false]
  rw [List.getD_eq_getElem?_getD, List.getElem?_eq_getElem hi] at h
  exact ⟨_, List.getElem_mem hi, by simpa using h⟩
/-- A line that is valid, by numbers that are none below 0. -/
theorem line_of {bales : List (Int × Int × Int)} {may drift mist : Int} (h : lineB bales may drift mist = true) : ∃ (bs : List (Nat × Nat × Nat)) (May D M : Nat), bales = bs.map castB ∧ may = May ∧ drift = D ∧ mist = M ∧ LOK bs ∧ May ≤ 30 ∧ D ≤ 30 ∧ M ≤ 6 := by
  unfold lineB at h
  simp only [Bool.and_eq_true] at h
  obtain ⟨⟨⟨⟨h1, h2⟩, h3⟩, h4⟩, h5⟩ := h
  simp only [inB, Bool.and_eq_true, decide_eq_true_eq] at h1 h2 h3 h4
  have hb : ∀ b ∈ bales, 1 ≤ b.1 ∧ b.1 ≤ 30 ∧ 0 ≤ b.2.1 ∧ b.2.1 ≤ b.1 ∧ 0 ≤ b.2.2 ∧ b.2.2 ≤ b.2.1 := fun b hb => by
    have := List.all_eq_true.1 h5 b hb
    simp only [baleB, inB, Bool.and_eq_true, decide_eq_true_eq] at this
    omega
  have e : bales = (bales.map natB).map castB := by
    rw [List.map_map]
    conv => lhs; rw [← List.map_id bales]
    refine List.map_congr_left fun b hbm => ?_
    obtain ⟨x, y, z⟩ := b
    have := hb _ hbm
    dsimp only at this
    show (x, y, z) = castB (natB (x, y, z))
    unfold castB natB
    dsimp only
    rw [Int.toNat_of_nonneg (by omega), Int.toNat_of_nonneg (by omega), Int.toNat_of_nonneg (by omega)]
  refine ⟨bales.map natB, may.toNat, drift.toNat, mist.toNat, e, by omega, by omega, by omega, ⟨by rw [List.length_map]; omega, by rw [List.length_map]; omega, fun i hi => ?_⟩, by omega, by omega, by omega⟩
  rw [List.length_map] at hi
  have := hb _ (List.getElem_mem hi)
  have hg : bG (bales.map natB) i = natB bales[i] := by unfold bG; rw [List.getD_eq_getElem?_getD, List.getElem?_map, List.getElem?_eq_getElem hi]; rfl
  rw [hg]
  unfold natB
  dsimp only
  omega
theorem line_to {bs : List (Nat × Nat × Nat)} {May D M : Nat} (h : LOK bs) (h1 : May ≤ 30) (h2 : D ≤ 30) (h3 : M ≤ 6) : lineB (bs.map castB) May D M = true := by
  have hn := h.n1
  have h6 := h.n6
  unfold lineB
  simp only [Bool.and_eq_true]
  refine ⟨⟨⟨⟨by simp [inB]; omega, by simp [inB]; omega⟩, by simp [inB]; omega⟩, by simp [inB]; omega⟩, (all_getD (d := (0, 0, 0))).2 fun i hi => ?_⟩
  rw [List.length_map] at hi
  have hb := h.ba i hi
  have hg : (bs.map castB).getD i (0, 0, 0) = castB (bG bs i) := by unfold bG; rw [List.getD_eq_getElem?_getD, List.getD_eq_getElem?_getD, List.getElem?_map, List.getElem?_eq_getElem hi]; rfl
  rw [hg]
  generalize bG bs i = q at hb
  obtain ⟨x, y, z⟩ := q
  dsimp only at hb
  simp only [baleB, castB, inB, Bool.and_eq_true, decide_eq_true_eq]
  refine ⟨⟨⟨?_, ?_⟩, ?_, ?_⟩, ?_, ?_⟩ <;> exact decide_eq_true (by omega)
end Go.Proofs.Ytgdhdikeicgndaa
