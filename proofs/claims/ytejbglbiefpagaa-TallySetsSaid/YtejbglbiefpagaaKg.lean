/- Kg: texts joined (TzA TzB TzC). -/
import Derived.Test.YtejbglbiefpagaaTyD
import Derived.Test.YtejbglbiefpagaaTvO
import Derived.Test.YtejbglbiefpagaaTyS
import Derived.Test.YtejbglbiefpagaaKd
import Derived.Test.YtejbglbiefpagaaPvQ
import Derived.Test.YtejbglbiefpagaaTxC
import Derived.Test.YtejbglbiefpagaaTxD
import Derived.Test.YtejbglbiefpagaaTyB
import Derived.Test.YtejbglbiefpagaaTxF
set_option linter.all false
/- tally, the document's functions: all lists with a number of each span. -/
namespace Go.Proofs.Ytejbglbiefpagaa
open Go Go.RowKit Go.Sh Go.Pv
set_option maxHeartbeats 8000000
set_option maxRecDepth 8000
set_option pp.maxSteps 60000
def ranF {α : Type} (f : Int → List α) (lo : Int) : Nat → List α
  | 0 => []
  | m + 1 => ranF f lo m ++ f (lo + m)
/-- All lists that go on from one with a number of each span. -/
def listsF (l : List (Int × Int)) : Nat → List Int → List (List Int)
  | 0, pre => [pre]
  | n + 1, pre => ranF (fun k => listsF l n (pre ++ [k])) (l.getD pre.length (0, 0)).1 ((l.getD pre.length (0, 0)).2 - (l.getD pre.length (0, 0)).1 + 1).toNat
theorem ran_len {α : Type} (f : Int → List α) (lo : Int) : ∀ m k, k ≤ m → (ranF f lo k).length ≤ (ranF f lo m).length
  | 0, k, h => by rw [show k = 0 by omega]; exact Nat.le_refl _
  | m + 1, k, h => by
    by_cases hk : k = m + 1
    · rw [hk]; exact Nat.le_refl _
    · have := ran_len f lo m k (by omega)
      show _ ≤ (ranF f lo m ++ f (lo + m)).length
      rw [List.length_append]; omega
def rowL (x : List Int) : List PV := [.sl (x.map row1)]
theorem rowsK_rL (l : List (List Int)) : rowsK 1 (l.map rowL) = True := eq_true fun i r h => by rw [List.getElem?_map] at h; obtain ⟨x, _, rfl⟩ := Option.map_eq_some_iff.1 h; rfl
section
attribute [local go_sem] row4 get_some4 rowsK_r4 rowsK_r1 rowsK_r2 rowsK_rL rowsK_nil' rowsK_cons' not_isEmpty_nil Bool.false_or
/-- The caller's objects, of which one slice is turned. -/
def LF (hp : List (Nat × Obj')) (nx t : Nat) (o : List (List Int)) (hpX : List (Nat × Obj')) (nxX : Nat) : Prop :=
  nx ≤ nxX ∧ AL.get hpX t = some (.arr 52 1 (o.map rowL) true) ∧ ∀ id x, id < nx → id ≠ t → AL.get hp id = some x → AL.get hpX id = some x
def ListsOK (l : List (Int × Int)) (n : Nat) : Prop := ∀ (Z : Zn) (w0 : World) (cap : Nat → Prop) (pan : List PanicEntry → St → Prop) (dk : List Nat) (pre : List Int) (out : List (List Int)) (hp : List (Nat × Obj')) (nx t : Nat),
  l.length = pre.length + n → (out ++ listsF l n pre).length ≤ 100000 → t < nx → AL.get hp t = some (.arr 52 1 (out.map rowL) true) →
  AW ⟨Try.prog, Z, w0, cap, 43, none, pan, none, dk, true⟩ (fnCode Try.f108) (fun e st' => (e = .normal ∨ e = .ret) ∧ resV Try.prog st' [.tmp 6] = some (.one (.own t (out ++ listsF l n pre).length)) ∧ LF hp nx t (out ++ listsF l n pre) st'.hp st'.nx)
    ⟨[(0, .one (.p (.sl (l.map row2)))), (1, .one (.p (.sl (pre.map row1)))), (2, .one (.own t out.length))], hp, nx⟩
theorem lf_append {hp : List (Nat × Obj')} {nx t : Nat} {o o' : List (List Int)} {hpX : List (Nat × Obj')} {nxX : Nat} (h : LF hp nx t o hpX nxX) : LF hp nx t o' ((t, .arr 52 1 (o'.map rowL) true) :: hpX) nxX :=
  ⟨h.1, AL.get_eq _ _ _, fun id x h1 h2 h3 => by rw [AL.get_ne _ _ h2]; exact h.2.2 id x h1 h2 h3⟩
theorem lf_refl {hp : List (Nat × Obj')} {nx t : Nat} {o : List (List Int)} (h : AL.get hp t = some (.arr 52 1 (o.map rowL) true)) : LF hp nx t o hp nx := ⟨Nat.le_refl _, h, fun _ _ _ _ h => h⟩
theorem lf_new {hp : List (Nat × Obj')} {nx t : Nat} {o : List (List Int)} {hpX : List (Nat × Obj')} {nxX : Nat} {x : Obj'} (htn : t < nx) (h : LF hp nx t o hpX nxX) : LF hp nx t o ((nxX, x) :: hpX) (nxX + 1) := by
  have h0 := h.1
  exact ⟨by omega, by rw [AL.get_ne _ _ (by omega)]; exact h.2.1, fun id x h1 h2 h3 => by rw [AL.get_ne _ _ (by omega)]; exact h.2.2 id x h1 h2 h3⟩
theorem lists_zero (l : List (Int × Int)) (h5 : l.length ≤ 10) : ListsOK l 0 := by
  intro Z w0 cap pan dk pre out hp nx t hl hlen htn ht
  conv => arg 2; whnf
  simp only [List.length_append, listsF, List.length_cons, List.length_nil] at hlen
  have hpl : pre.length = l.length := by omega
  (repeat (first | apply aw_seq | apply aw_block | apply aw_skip | apply aw_label | apply aw_exit | ((first | refine aw_region (hideO fun QQ hQQ => ?_) | refine aw_draw mixed (hideD fun QQ hQQ => ?_)); simp (maxSteps := 400000) (disch := first | decide | omega) only [ht, go_sem, ↓reduceIte]; try (first | with_reducible refine unhide hQQ ?_ | refine ⟨by kernel_rfl, unhide hQQ ?_⟩); clear hQQ QQ) | with_reducible first | apply then_n | apply block_n | apply then_x | apply then_r | apply nog_n | apply nog_r | apply block_r | apply block_e (by decide) | apply block_x (by decide)))
  refine aw_cond2 (by simp (disch := first | decide | omega) only [ht, go_sem, ↓reduceIte]; rfl) ?_; first | refine .inl ⟨by first | rfl | exact decide_eq_true (by omega) | exact decide_eq_true (by assumption) | (simp (disch := first | decide | omega) only [if_pos_d, if_neg_d, decide_eq_true_eq, Bool.not_eq_true', decide_eq_false_iff_not]; omega), ?_⟩ | refine .inr ⟨by first | rfl | exact decide_eq_false (by omega) | exact decide_eq_false (by assumption) | (simp (disch := first | decide | omega) only [if_pos_d, if_neg_d, decide_eq_true_eq, Bool.not_eq_true', decide_eq_false_iff_not]; omega), ?_⟩
  (repeat (first | apply aw_seq | apply aw_block | apply aw_skip | apply aw_label | apply aw_exit | ((first | refine aw_region (hideO fun QQ hQQ => ?_) | refine aw_draw mixed (hideD fun QQ hQQ => ?_)); simp (maxSteps := 400000) (disch := first | decide | omega) only [ht, go_sem, ↓reduceIte]; try (first | with_reducible refine unhide hQQ ?_ | refine ⟨by kernel_rfl, unhide hQQ ?_⟩); clear hQQ QQ) | with_reducible first | apply then_n | apply block_n | apply then_x | apply then_r | apply nog_n | apply nog_r | apply block_r | apply block_e (by decide) | apply block_x (by decide)))
  refine aw_ret ⟨.inr rfl, ?_, ?_⟩
  · simp (disch := first | decide | omega) only [ht, go_sem, ↓reduceIte]
    simp [listsF]
  · have := lf_append (o' := out ++ [pre]) (lf_new (x := .arr 52 1 [[PV.sl (List.map row1 pre)]] true) (by omega) (lf_refl (nx := nx) ht))
    simpa [listsF, rowL] using this
theorem c_rec {l : List (Int × Int)} {n : Nat} (H : ListsOK l n) {Z : Zn} {w0 : World} {cap : Nat → Prop} {nt : Nat} {rd : Option Nat} {pan : List PanicEntry → St → Prop} {df : Option Nat} {dk : List Nat} {rg : Bool} {fr : List (Nat × AV)} {hp : List (Nat × Obj')} {nx b t : Nat} {pre : List Int} {out : List (List Int)} {sh : Bool}
    (hl : l.length = pre.length + n) (hlen : (out ++ listsF l n pre).length ≤ 100000) (hb : AL.get hp b = some (.arr 3 1 (pre.map row1) sh)) (ht : AL.get hp t = some (.arr 52 1 (out.map rowL) true)) :
    CallF ⟨Try.prog, Z, w0, cap, nt, rd, pan, df, dk, rg⟩ 108 [.one (.p (.sl (l.map row2))), .one (.own b pre.length), .one (.own t out.length)] ⟨fr, hp, nx⟩ fun st' av => st' = ⟨fr, AL.set (AL.set hp b (.arr 3 1 (pre.map row1) true)) t (.arr 52 1 ((out ++ listsF l n pre).map rowL) true), nx⟩ ∧ av = .one (.own t (out ++ listsF l n pre).length) := by
  (refine callF_to (nt := 43) (rs := [.tmp 6]) Try.func108 rfl rfl rfl (by simp) fun hcl tm Ds => ?_); simp only [initV]
  have htn := hcl.lt t _ ht
  have hbn := hcl.lt b _ hb
  dsimp only at htn hbn
  have hbt : b ≠ t := by
    rintro rfl
    rw [hb] at ht
    cases ht
  dsimp only [Kx.calleeT]
  refine aw_weak (weak_share b (E := 3) (k := 1) (rows := pre.map row1) (sh := sh) (by rw [AL.get_ne _ _ (by omega)]; exact hb)) ?_
  refine aw_weak (weak_dataS 1 (t := b) (n := pre.length) (E := 3) (k := 1) (rows := pre.map row1) rfl (by dsimp only; rw [AL.get_set, if_pos rfl])) ?_
  rw [List.take_of_length_le (by simp)]
  refine aw_weak (weak_fr [0, 1, 2] rfl) ?_
  refine (H Z w0 cap _ _ pre out _ (nx + 1) t hl hlen (by omega) (by
    show AL.get ((b, _) :: (nx, _) :: hp) t = _
    rw [AL.get_ne _ _ (Ne.symm hbt), AL.get_ne _ _ (by omega)]; exact ht)).mono fun e st' hq => ?_
  obtain ⟨h1, h2, h3, h4, h5⟩ := hq
  refine ⟨h1, _, h2, h5 nx _ (by omega) (by omega) (by
    show AL.get ((b, _) :: (nx, _) :: hp) nx = _
    rw [AL.get_ne _ _ (by omega), AL.get_eq]), ⟨fr, AL.set (AL.set hp b (.arr 3 1 (pre.map row1) true)) t (.arr 52 1 ((out ++ listsF l n pre).map rowL) true), nx⟩, rfl, ?_, fun id o ho => ?_, fun i hi => ?_, rfl, rfl⟩
  · refine Closed.set (st := ⟨fr, AL.set hp b (.arr 3 1 (pre.map row1) true), nx⟩) (b := t) (o := .arr 52 1 (out.map rowL) true) (hcl.set hb (fun _ _ h => by cases h) fun i hi => by simp [refsO] at hi) ?_ (fun _ _ h => by cases h) fun i hi => by simp [refsO] at hi
    show AL.get (AL.set hp b _) t = _
    rw [AL.get_set, if_neg (Ne.symm hbt)]; exact ht
  · have ho : AL.get (AL.set (AL.set hp b (.arr 3 1 (pre.map row1) true)) t (.arr 52 1 ((out ++ listsF l n pre).map rowL) true)) id = some o := ho
    rw [AL.get_set] at ho
    split at ho
    · rename_i e; rw [e, ← ho]; exact h4
    · rename_i e
      have hid : id < nx := by
        rw [AL.get_set] at ho
        split at ho
        · rename_i e2; rw [e2]; exact hbn
        · exact hcl.lt id o ho
      refine h5 id o (by omega) e ?_
      rw [AL.get_set] at ho
      show AL.get ((b, _) :: (nx, _) :: hp) id = _
      split at ho
      · rename_i e2; rw [e2, AL.get_eq]; exact ho
      · rename_i e2; rw [AL.get_ne _ _ e2, AL.get_ne _ _ (by omega)]; exact ho
  · simp [refsV, refsC] at hi
    subst hi
    exact ⟨_, by show AL.get (AL.set (AL.set hp b _) _ _) _ = _; rw [AL.get_set, if_pos rfl]⟩
def kF (lo : Int) : Nat → Int
  | 0 => lo
  | j + 1 => kF lo j + 1
theorem kF_eq (lo : Int) : ∀ j : Nat, kF lo j = lo + j
  | 0 => by simp [kF]
  | j + 1 => by unfold kF; rw [kF_eq lo j]; omega
theorem lists_succ {l : List (Int × Int)} (h5 : l.length ≤ 10) (hsp : ∀ i, i < l.length → -1000 ≤ (l.getD i (0, 0)).1 ∧ (l.getD i (0, 0)).1 ≤ (l.getD i (0, 0)).2 ∧ (l.getD i (0, 0)).2 ≤ 1000) {n : Nat} (IH : ListsOK l n) : ListsOK l (n + 1) := by
  intro Z w0 cap pan dk pre out hp nx t hl hlen htn ht
  have hs := hsp pre.length (by omega)
  obtain ⟨⟨lo, hi⟩, hg⟩ : ∃ x, l.getD pre.length (0, 0) = x := ⟨_, rfl⟩
  rw [hg] at hs
  dsimp only at hs
  obtain ⟨m, hm⟩ : ∃ m, (hi - lo + 1).toNat = m := ⟨_, rfl⟩
  obtain ⟨G, hG⟩ : ∃ G : Int → List (List Int), (fun k => listsF l n (pre ++ [k])) = G := ⟨_, rfl⟩
  have hL : listsF l (n + 1) pre = ranF G lo m := by unfold listsF; rw [hg, hG, hm]
  rw [hL] at hlen ⊢
  rw [List.length_append] at hlen
  conv => arg 2; whnf
  (repeat (first | apply aw_seq | apply aw_block | apply aw_skip | apply aw_label | apply aw_exit | ((first | refine aw_region (hideO fun QQ hQQ => ?_) | refine aw_draw mixed (hideD fun QQ hQQ => ?_)); simp (maxSteps := 400000) (disch := first | decide | omega) only [ht, hg, go_sem, ↓reduceIte]; try (first | with_reducible refine unhide hQQ ?_ | refine ⟨by kernel_rfl, unhide hQQ ?_⟩); clear hQQ QQ) | with_reducible first | apply then_n | apply block_n | apply then_x | apply then_r | apply nog_n | apply nog_r | apply block_r | apply block_e (by decide) | apply block_x (by decide)))
  refine aw_cond2 (by simp (disch := first | decide | omega) only [ht, hg, go_sem, ↓reduceIte]; rfl) ?_; first | refine .inl ⟨by first | rfl | exact decide_eq_true (by omega) | exact decide_eq_true (by assumption) | (simp (disch := first | decide | omega) only [if_pos_d, if_neg_d, decide_eq_true_eq, Bool.not_eq_true', decide_eq_false_iff_not]; omega), ?_⟩ | refine .inr ⟨by first | rfl | exact decide_eq_false (by omega) | exact decide_eq_false (by assumption) | (simp (disch := first | decide | omega) only [if_pos_d, if_neg_d, decide_eq_true_eq, Bool.not_eq_true', decide_eq_false_iff_not]; omega), ?_⟩
  (repeat (first | apply aw_seq | apply aw_block | apply aw_skip | apply aw_label | apply aw_exit | ((first | refine aw_region (hideO fun QQ hQQ => ?_) | refine aw_draw mixed (hideD fun QQ hQQ => ?_)); simp (maxSteps := 400000) (disch := first | decide | omega) only [ht, hg, go_sem, ↓reduceIte]; try (first | with_reducible refine unhide hQQ ?_ | refine ⟨by kernel_rfl, unhide hQQ ?_⟩); clear hQQ QQ) | with_reducible first | apply then_n | apply block_n | apply then_x | apply then_r | apply nog_n | apply nog_r | apply block_r | apply block_e (by decide) | apply block_x (by decide)))
  refine aw_weak (weak_thr [0, 1, 2, 7, 8] (by simp only [ht, hg, go_sem, ↓reduceIte]; rfl)) ?_
  refine aw_loop_hp (ι := { j : Nat // j ≤ m }) (fun j => [(8, .one (.p (.v (.int .i64 (kF lo j.1))))), (2, .one (.own t (out.length + (ranF G lo j.1).length)))]) (fun j => LF hp nx t (out ++ ranF G lo j.1)) (fun j => m - j.1) ⟨0, by omega⟩ (by first | rfl | (simp only [ht, hg, go_sem, ↓reduceIte]; rfl)) (by
    have := lf_refl (nx := nx) ht
    simpa [ranF] using this) ?_
  rintro ⟨j, hj⟩ hpX nxX hF
  simp (disch := decide) only [ov, ovL, AL.get_nil, AL.get_eq, AL.get_ne, Option.getD_some, Option.getD_none]
  obtain ⟨f0, f1, f2⟩ := id hF
  have hr := ran_len G lo m j hj
  dsimp only at f1 hr
  obtain ⟨k, hk⟩ : ∃ k, kF lo j = k := ⟨_, rfl⟩
  have hk' := kF_eq lo j
  rw [hk] at hk' ⊢
  have htX : t < nxX := by omega
  by_cases hjm : j < m
  · have hr1 := ran_len G lo m (j + 1) hjm
    have e1 : ranF G lo (j + 1) = ranF G lo j ++ listsF l n (pre ++ [k]) := by
      show ranF G lo j ++ G (lo + j) = _
      rw [← hG, hk']
    have hll : (out ++ ranF G lo j).length = out.length + (ranF G lo j).length := List.length_append
    have hpl : (pre ++ [k]).length = pre.length + 1 := by simp
    (repeat (first | apply aw_seq | apply aw_block | apply aw_skip | apply aw_label | apply aw_exit | ((first | refine aw_region (hideO fun QQ hQQ => ?_) | refine aw_draw mixed (hideD fun QQ hQQ => ?_)); simp (maxSteps := 400000) (disch := first | decide | omega) only [f1, hg, go_sem, ↓reduceIte]; try (first | with_reducible refine unhide hQQ ?_ | refine ⟨by kernel_rfl, unhide hQQ ?_⟩); clear hQQ QQ) | with_reducible first | apply then_n | apply block_n | apply then_x | apply then_r | apply nog_n | apply nog_r | apply block_r | apply block_e (by decide) | apply block_x (by decide)))
    refine aw_cond2 (by simp (disch := first | decide | omega) only [f1, hg, go_sem, ↓reduceIte]; rfl) ?_; first | refine .inl ⟨by first | rfl | exact decide_eq_true (by omega) | exact decide_eq_true (by assumption) | (simp (disch := first | decide | omega) only [if_pos_d, if_neg_d, decide_eq_true_eq, Bool.not_eq_true', decide_eq_false_iff_not]; omega), ?_⟩ | refine .inr ⟨by first | rfl | exact decide_eq_false (by omega) | exact decide_eq_false (by assumption) | (simp (disch := first | decide | omega) only [if_pos_d, if_neg_d, decide_eq_true_eq, Bool.not_eq_true', decide_eq_false_iff_not]; omega), ?_⟩
    (repeat (first | apply aw_seq | apply aw_block | apply aw_skip | apply aw_label | apply aw_exit | ((first | refine aw_region (hideO fun QQ hQQ => ?_) | refine aw_draw mixed (hideD fun QQ hQQ => ?_)); simp (maxSteps := 400000) (disch := first | decide | omega) only [f1, hg, go_sem, ↓reduceIte]; try (first | with_reducible refine unhide hQQ ?_ | refine ⟨by kernel_rfl, unhide hQQ ?_⟩); clear hQQ QQ) | with_reducible first | apply then_n | apply block_n | apply then_x | apply then_r | apply nog_n | apply nog_r | apply block_r | apply block_e (by decide) | apply block_x (by decide)))
    refine callS_ok rfl rfl 108 (by simp (disch := first | decide | omega) only [f1, hg, go_sem, ↓reduceIte]; try rfl) (by simp (disch := first | decide | omega) only [f1, hg, go_sem, ↓reduceIte]; rw [← hll, ← hpl]) Try.func108 rfl (by decide) ((c_rec IH (b := nxX) (t := t) (pre := pre ++ [k]) (out := out ++ ranF G lo j) (sh := !(pre.map row1).isEmpty) ?_ ?_ ?_ ?_).mono ?_)
    · rw [hpl]; omega
    · rw [List.append_assoc, ← e1, List.length_append]; omega
    · simp (disch := first | decide | omega) only [f1, hg, go_sem, ↓reduceIte]
      simp [row1]
    · simp (disch := first | decide | omega) only [f1, hg, go_sem, ↓reduceIte]
    rintro _ _ ⟨rfl, rfl⟩
    (simp (maxSteps := 400000) (disch := first | decide | omega) only [f1, hg, go_sem, ↓reduceIte]; (try (with_reducible refine unhide hQQ ?_; clear hQQ QQ; (repeat with_reducible first | apply then_n | apply block_n | apply then_x | apply then_r | apply nog_n | apply nog_r | apply block_r | apply block_e (by decide) | apply block_x (by decide)))))
    (repeat (first | apply aw_seq | apply aw_block | apply aw_skip | apply aw_label | apply aw_exit | ((first | refine aw_region (hideO fun QQ hQQ => ?_) | refine aw_draw mixed (hideD fun QQ hQQ => ?_)); simp (maxSteps := 400000) (disch := first | decide | omega) only [f1, hg, go_sem, ↓reduceIte]; try (first | with_reducible refine unhide hQQ ?_ | refine ⟨by kernel_rfl, unhide hQQ ?_⟩); clear hQQ QQ) | with_reducible first | apply then_n | apply block_n | apply then_x | apply then_r | apply nog_n | apply nog_r | apply block_r | apply block_e (by decide) | apply block_x (by decide)))
    have hk2 : kF lo (j + 1) = k + 1 := by unfold kF; rw [hk]
    have hl2 : out.length + (ranF G lo (j + 1)).length = (out ++ ranF G lo j ++ listsF l n (pre ++ [k])).length := by rw [e1]; simp [Nat.add_assoc]
    refine ⟨⟨j + 1, by omega⟩, by dsimp only; omega, ⟨by dsimp only; omega, ?_, fun id x h1 h2 h3 => ?_⟩, ?_⟩
    · rw [AL.get_eq, e1, ← List.append_assoc]
    · repeat rw [AL.get_ne _ _ (by omega)]
      exact f2 id x h1 h2 h3
    · dsimp only
      rw [hk2, hl2]
      first | rfl | (simp only [f1, hg, go_sem, ↓reduceIte]; rfl)
  · have hjm : j = m := by omega
    subst hjm
    (repeat (first | apply aw_seq | apply aw_block | apply aw_skip | apply aw_label | apply aw_exit | ((first | refine aw_region (hideO fun QQ hQQ => ?_) | refine aw_draw mixed (hideD fun QQ hQQ => ?_)); simp (maxSteps := 400000) (disch := first | decide | omega) only [f1, hg, go_sem, ↓reduceIte]; try (first | with_reducible refine unhide hQQ ?_ | refine ⟨by kernel_rfl, unhide hQQ ?_⟩); clear hQQ QQ) | with_reducible first | apply then_n | apply block_n | apply then_x | apply then_r | apply nog_n | apply nog_r | apply block_r | apply block_e (by decide) | apply block_x (by decide)))
    refine aw_cond2 (by simp (disch := first | decide | omega) only [f1, hg, go_sem, ↓reduceIte]; rfl) ?_; first | refine .inl ⟨by first | rfl | exact decide_eq_true (by omega) | exact decide_eq_true (by assumption) | (simp (disch := first | decide | omega) only [if_pos_d, if_neg_d, decide_eq_true_eq, Bool.not_eq_true', decide_eq_false_iff_not]; omega), ?_⟩ | refine .inr ⟨by first | rfl | exact decide_eq_false (by omega) | exact decide_eq_false (by assumption) | (simp (disch := first | decide | omega) only [if_pos_d, if_neg_d, decide_eq_true_eq, Bool.not_eq_true', decide_eq_false_iff_not]; omega), ?_⟩
    (repeat (first | apply aw_seq | apply aw_block | apply aw_skip | apply aw_label | apply aw_exit | ((first | refine aw_region (hideO fun QQ hQQ => ?_) | refine aw_draw mixed (hideD fun QQ hQQ => ?_)); simp (maxSteps := 400000) (disch := first | decide | omega) only [f1, hg, go_sem, ↓reduceIte]; try (first | with_reducible refine unhide hQQ ?_ | refine ⟨by kernel_rfl, unhide hQQ ?_⟩); clear hQQ QQ) | with_reducible first | apply then_n | apply block_n | apply then_x | apply then_r | apply nog_n | apply nog_r | apply block_r | apply block_e (by decide) | apply block_x (by decide)))
    refine aw_ret ⟨.inr rfl, ?_, hF⟩
    rw [List.length_append]
    simp (disch := first | decide | omega) only [f1, hg, go_sem, ↓reduceIte]
theorem c_lists_core {l : List (Int × Int)} (h5 : l.length ≤ 10) (hsp : ∀ i, i < l.length → -1000 ≤ (l.getD i (0, 0)).1 ∧ (l.getD i (0, 0)).1 ≤ (l.getD i (0, 0)).2 ∧ (l.getD i (0, 0)).2 ≤ 1000) : ∀ n, ListsOK l n
  | 0 => lists_zero l h5
  | n + 1 => lists_succ h5 hsp (c_lists_core h5 hsp n)
theorem closed_new {fr : List (Nat × AV)} {hp : List (Nat × Obj')} {nx nx' id : Nat} {o : Obj'} (h : Closed ⟨fr, hp, nx⟩) (hid : nx ≤ id) (hn : id < nx') (ho : ∀ fr tm, o ≠ .kept fr tm) (hr : There (AL.get hp) (refsO o)) : Closed ⟨fr, (id, o) :: hp, nx'⟩ := by
  have up : ∀ {l : List Nat}, There (AL.get hp) l → There (AL.get ((id, o) :: hp)) l := fun hl i hi => by
    obtain ⟨x, hx⟩ := hl i hi
    have := h.lt i x hx
    dsimp only at this
    exact ⟨x, by rw [AL.get_ne _ _ (by omega)]; exact hx⟩
  have cases' : ∀ {k : Nat} {x : Obj'}, AL.get ((id, o) :: hp) k = some x → (k = id ∧ x = o) ∨ (k ≠ id ∧ AL.get hp k = some x) := fun {k x} hk => by
    by_cases e : k = id
    · subst e; rw [AL.get_eq] at hk; exact .inl ⟨rfl, (Option.some.inj hk).symm⟩
    · rw [AL.get_ne _ _ e] at hk; exact .inr ⟨e, hk⟩
  refine ⟨fun k x hk => ?_, fun t av ht => up (h.fr t av ht), fun k x hk hx => ?_, fun k f t' hk t av ht => ?_⟩
  · show k < nx'
    rcases cases' hk with ⟨rfl, rfl⟩ | ⟨_, hk⟩
    · exact hn
    · have := h.lt k x hk
      dsimp only at this
      omega
  · rcases cases' hk with ⟨rfl, rfl⟩ | ⟨_, hk⟩
    · exact up hr
    · exact up (h.obj k x hk hx)
  · rcases cases' hk with ⟨rfl, e⟩ | ⟨_, hk⟩
    · exact absurd e.symm (ho _ _)
    · exact up (h.kept k f t' hk t av ht)
/-- All lists with a number of each span. -/
def listsA (l : List (Int × Int)) : List (List Int) := listsF l l.length []
theorem c_lists {l : List (Int × Int)} (h5 : l.length ≤ 10) (hsp : ∀ i, i < l.length → -1000 ≤ (l.getD i (0, 0)).1 ∧ (l.getD i (0, 0)).1 ≤ (l.getD i (0, 0)).2 ∧ (l.getD i (0, 0)).2 ≤ 1000) (hlen : (listsA l).length ≤ 100000) {Z : Zn} {w0 : World} {cap : Nat → Prop} {nt : Nat} {rd : Option Nat} {pan : List PanicEntry → St → Prop} {df : Option Nat} {dk : List Nat} {rg : Bool} {fr : List (Nat × AV)} {hp : List (Nat × Obj')} {nx : Nat} :
    CallF ⟨Try.prog, Z, w0, cap, nt, rd, pan, df, dk, rg⟩ 108 [.one (.p (.sl (l.map row2))), .one .nil, .one .nil] ⟨fr, hp, nx⟩ fun st' av => st' = ⟨fr, (nx + 2, .arr 52 1 ((listsA l).map rowL) true) :: hp, nx + 3⟩ ∧ av = .one (.own (nx + 2) (listsA l).length) := by
  (refine callF_to (nt := 43) (rs := [.tmp 6]) Try.func108 rfl rfl rfl (by simp) fun hcl tm Ds => ?_); simp only [initV]
  dsimp only [Kx.calleeT]
  refine aw_weak (weak_own 1 3 1 rfl) ?_
  refine aw_weak (weak_own 2 52 1 rfl) ?_
  refine aw_weak (weak_dataS 1 (t := nx + 1) (n := 0) (E := 3) (k := 1) (rows := []) rfl (by dsimp only; rw [AL.get_set, if_neg (by omega), AL.get_set, if_pos rfl])) ?_
  refine aw_weak (weak_fr [0, 1, 2] rfl) ?_
  refine (c_lists_core h5 hsp l.length Z w0 cap _ _ [] [] _ (nx + 3) (nx + 2) (by simp) (by simpa [listsA] using hlen) (by omega) (by
    show AL.get (AL.set (AL.set ((nx, _) :: hp) (nx + 1) _) (nx + 1 + 1) _) (nx + 2) = _
    rw [AL.get_set, if_pos rfl]; rfl)).mono fun e st' hq => ?_
  obtain ⟨h1, h2, h3, h4, h5'⟩ := hq
  have hold : ∀ id x, id < nx + 1 → AL.get ((nx, Obj'.kept fr tm) :: hp) id = some x → AL.get st'.hp id = some x := fun id x hid hx => h5' id x (by omega) (by omega) (by
    show AL.get (AL.set (AL.set ((nx, _) :: hp) (nx + 1) _) (nx + 1 + 1) _) id = _
    rw [AL.get_set, if_neg (by omega), AL.get_set, if_neg (by omega)]; exact hx)
  rw [List.nil_append] at h2 h4
  refine ⟨h1, _, h2, hold nx _ (by omega) (by rw [AL.get_eq]), ⟨fr, (nx + 2, .arr 52 1 ((listsA l).map rowL) true) :: hp, nx + 3⟩, rfl, ?_, fun id o ho => ?_, fun i hi => ?_, rfl, rfl⟩
  · exact closed_new hcl (by omega) (by omega) (fun _ _ h => by cases h) fun i hi => by simp [refsO] at hi
  · have ho : AL.get ((nx + 2, Obj'.arr 52 1 ((listsA l).map rowL) true) :: hp) id = some o := ho
    by_cases e : id = nx + 2
    · subst e
      rw [AL.get_eq] at ho
      rw [← ho]; exact h4
    · rw [AL.get_ne _ _ e] at ho
      have := hcl.lt id o ho
      dsimp only at this
      exact hold id o (by omega) (by rw [AL.get_ne _ _ (by omega)]; exact ho)
  · simp [refsV, refsC] at hi
    subst hi
    exact ⟨_, AL.get_eq _ _ _⟩
end
end Go.Proofs.Ytejbglbiefpagaa
/- tally, the document's functions: powers, sets, sums, what a call counts, what is right. -/
namespace Go.Proofs.Ytejbglbiefpagaa
open Go Go.RowKit Go.Sh Go.Pv
set_option maxHeartbeats 8000000
set_option maxRecDepth 8000
set_option pp.maxSteps 60000
theorem pow_le40 {n : Nat} (h : n ≤ 40) : 2 ^ n ≤ 2 ^ 40 := Nat.pow_le_pow_right (by decide) h
theorem ok_power87 {n : Nat} (hn : n ≤ 40) : FunOK Try.prog 87 [.one (iP n)] (.one (.one (iP ((2 ^ n : Nat) : Int)))) := by
  refine fun_ok (nt := 13) (rs := [.tmp 2]) Try.func87 rfl rfl rfl (by simp) fun Z w0 => ?_; simp only [initFr, avR, List.map_cons, List.map_nil]
  refine tw ?_; try with_reducible intro QQ hQQ
  refine aw_weak (weak_keep [0, 3, 4] (by simp only [go_sem, ↓reduceIte]; rfl)) ?_
  refine aw_loop_ov (ι := { i : Nat // i ≤ n }) (fun i => [(4, iA i.1), (3, .one (.p (.v (.int .i64 ((2 ^ i.1 : Nat) : Int)))))]) (fun _ => []) (fun i => n - i.1) ⟨0, by omega⟩ (by first | rfl | (simp only [go_sem, ↓reduceIte]; first | done | rfl | (simp; try rfl))) ?_
  rintro ⟨i, hi⟩
  simp (disch := decide) only [ov, ovL, AL.get_nil, AL.get_eq, AL.get_ne, Option.getD_some, Option.getD_none]
  have hp := pow_le40 (n := i) (by omega)
  have e1 : 2 ^ (i + 1) = 2 * 2 ^ i := by rw [Nat.pow_succ]; omega
  by_cases hin : i < n
  · generalize hx : 2 ^ i = x at *
    refine tw ?_; try with_reducible intro QQ hQQ
    refine ti ?_; try clear hQQ QQ
    refine tw ?_; try with_reducible intro QQ hQQ
    refine ⟨⟨i + 1, by omega⟩, ?_, weak_round ?_ (by first | rfl | (simp only [go_sem, ↓reduceIte]))⟩
    rotate_left
    · simp only [e1]
      (simp only [go_sem, ↓reduceIte]; try rfl)
      try simp
    · simp only; omega
  · have : i = n := by omega
    subst this
    refine tw ?_; try with_reducible intro QQ hQQ
    refine ti ?_; try clear hQQ QQ
    refine tw ?_; try with_reducible intro QQ hQQ
    refine aw_ret ?_; refine ⟨.inr rfl, ?_⟩; simp only [resA, res1, go_sem, ↓reduceIte]
theorem div_pow_bit (s n : Nat) : (s / 2 ^ n) % 2 = (s.testBit n).toNat := by
  rw [← Nat.shiftRight_eq_div_pow, sh_bits]
theorem ok_Has86 {s n : Nat} (hs : s < 256) (hn : n ≤ 40) : FunOK Try.prog 86 [.one (iP s), .one (iP n)] (.one (.one (.v (.bool (s.testBit n))))) := by
  have hp := ok_power87 hn
  have h0 : 0 < 2 ^ n := Nat.two_pow_pos n
  have hq : ((s : Int).tdiv ((2 ^ n : Nat) : Int)) = ((s / 2 ^ n : Nat) : Int) := by rw [Int.tdiv_eq_ediv_of_nonneg (by omega)]; rfl
  have hb := div_pow_bit s n
  have hle : s / 2 ^ n ≤ s := Nat.div_le_self _ _
  generalize 2 ^ n = x at *
  generalize hy : s / x = y at *
  have hqq : ∀ (T : TypeId) (a b : Operand), binA Try.prog .quo T a b (.int .i64 (s : Int)) (.int .i64 (x : Int)) = some (.int .i64 (y : Int)) := fun T a b => by
    rw [bin_quo _ _ _ _ _ _ (by omega), hq, wrap_nat (by omega)]
  have hm : ((y : Int).tmod 2) = ((y % 2 : Nat) : Int) := by rw [Int.tmod_eq_emod_of_nonneg (by omega)]; rfl
  have hmm : ∀ (T : TypeId) (a b : Operand), binA Try.prog .rem T a b (.int .i64 (y : Int)) (.int .i64 2) = some (.int .i64 ((y % 2 : Nat) : Int)) := fun T a b => by rw [bin_rem _ _ _ _ _ _ (by decide), hm]
  refine fun_ok (nt := 11) (rs := [.tmp 4]) Try.func86 rfl rfl rfl (by simp) fun Z w0 => ?_; simp only [initFr, avR, List.map_cons, List.map_nil]
  (repeat (first | apply aw_seq | apply aw_block | apply aw_skip | apply aw_label | apply aw_exit | ((first | refine aw_region (hideO fun QQ hQQ => ?_) | refine aw_draw mixed (hideD fun QQ hQQ => ?_)); simp (maxSteps := 400000) (disch := first | decide | omega) only [hqq, hmm, go_sem, ↓reduceIte]; try (first | with_reducible refine unhide hQQ ?_ | refine ⟨by kernel_rfl, unhide hQQ ?_⟩); clear hQQ QQ) | with_reducible first | apply then_n | apply block_n | apply then_x | apply then_r | apply nog_n | apply nog_r | apply block_r | apply block_e (by decide) | apply block_x (by decide)))
  ((refine callO_ok rfl rfl 87 true rfl (by simp (disch := first | decide | omega) only [hqq, hmm, go_sem, ↓reduceIte]; try rfl) (fun _ => rfl) (hp) Try.func87 rfl (by decide) ?_); simp (maxSteps := 400000) (disch := first | decide | omega) only [hqq, hmm, go_sem, ↓reduceIte]; try (with_reducible refine unhide hQQ ?_; clear hQQ QQ)); (repeat (first | apply aw_seq | apply aw_block | apply aw_skip | apply aw_label | apply aw_exit | ((first | refine aw_region (hideO fun QQ hQQ => ?_) | refine aw_draw mixed (hideD fun QQ hQQ => ?_)); simp (maxSteps := 400000) (disch := first | decide | omega) only [hqq, hmm, go_sem, ↓reduceIte]; try (first | with_reducible refine unhide hQQ ?_ | refine ⟨by kernel_rfl, unhide hQQ ?_⟩); clear hQQ QQ) | with_reducible first | apply then_n | apply block_n | apply then_x | apply then_r | apply nog_n | apply nog_r | apply block_r | apply block_e (by decide) | apply block_x (by decide)))
  refine aw_ret ?_; refine ⟨.inr rfl, ?_⟩; simp only [resA, res1, go_sem, ↓reduceIte]
  rw [hb]
  cases s.testBit n <;> rfl
end Go.Proofs.Ytejbglbiefpagaa
/- tally, the document's functions: sums, what a call counts, what is right. -/
namespace Go.Proofs.Ytejbglbiefpagaa
open Go Go.RowKit Go.Sh Go.Pv
set_option maxHeartbeats 1000000
set_option maxRecDepth 8000
set_option pp.maxSteps 60000
/-- The numbers of a list. -/
def fX (X : List Int) (i : Nat) : Int := X.getD i 0
/-- A truth of the document: what each has shorn, and what strayed, within bounds. -/
structure GoodT (N : Nat) (t : List Int × List Int) : Prop where
  xl : t.1.length = N
  yl : t.2.length + 1 = N
  xb : ∀ i, 0 ≤ fX t.1 i ∧ fX t.1 i ≤ 60
  yb : ∀ i, -3 ≤ fX t.2 i ∧ fX t.2 i ≤ 3
def rowT (t : List Int × List Int) : List PV := [.sl (t.1.map row1), .sl (t.2.map row1)]
theorem rowsK_rT (l : List (List Int × List Int)) : rowsK 2 (l.map rowT) = True := eq_true fun i r h => by rw [List.getElem?_map] at h; obtain ⟨x, _, rfl⟩ := Option.map_eq_some_iff.1 h; rfl
theorem get_someT {l : List (List Int × List Int)} {k : Nat} (h : k < l.length) : l[k]? = some (l.getD k ([], [])) := by simp [List.getD, h]
theorem get_someL {l : List (List Int)} {k : Nat} (h : k < l.length) : l[k]? = some (l.getD k []) := by simp [List.getD, h]
abbrev penG (N : Nat) (t : List Int × List Int) (p : Nat) : Int := penT N (fX t.1) (fX t.2) p
abbrev cntG (N : Nat) (t : List Int × List Int) (c : Int × Int × Int × Int) : Int := cntT N (fX t.1) (fX t.2) c
theorem ok_In57 {N : Nat} {t : List Int × List Int} (h : GoodT N t) (h5 : N ≤ 5) {p : Nat} (hp : p < N) : FunOK Try.prog 57 [.agg (rowT t), .one (iP p)] (.one (.one (iP (penG N t p)))) := by
  obtain ⟨X, Y⟩ := t
  obtain ⟨xl, yl, xb, yb⟩ := h
  dsimp only at xl yl xb yb
  have b1 := xb p
  have b2 := yb p
  have b3 := yb (p - 1)
  clear xb yb
  have hX : p < X.length := by omega
  have hv : penG N (X, Y) p = fX X p + (if p = 0 then 0 else fX Y (p - 1)) - (if p + 1 = N then 0 else fX Y p) := rfl
  rw [hv]
  unfold fX at b1 b2 b3 ⊢
  simp only [rowT]
  obtain ⟨x0, hx0⟩ : ∃ x, X.getD p 0 = x := ⟨_, rfl⟩
  obtain ⟨y0, hy0⟩ : ∃ x, Y.getD p 0 = x := ⟨_, rfl⟩
  rw [hx0] at b1 ⊢
  rw [hy0] at b2 ⊢
  by_cases h0 : p = 0
  · clear b3 hv
    rw [if_pos h0]
    by_cases h1 : p < Y.length
    · rw [if_neg (by omega), show x0 + 0 - y0 = x0 - y0 by omega]
      refine fun_ok (nt := 34) (rs := [.tmp 4]) Try.func57 rfl rfl rfl (by simp) fun Z w0 => ?_; simp only [initFr, avR, List.map_cons, List.map_nil]
      (repeat (first | apply aw_seq | apply aw_block | apply aw_skip | apply aw_label | apply aw_exit | ((first | refine aw_region (hideO fun QQ hQQ => ?_) | refine aw_draw mixed (hideD fun QQ hQQ => ?_)); simp (maxSteps := 400000) (disch := first | decide | omega) only [hx0, hy0, go_sem, ↓reduceIte]; try (first | with_reducible refine unhide hQQ ?_ | refine ⟨by kernel_rfl, unhide hQQ ?_⟩); clear hQQ QQ) | with_reducible first | apply then_n | apply block_n | apply then_x | apply then_r | apply nog_n | apply nog_r | apply block_r | apply block_e (by decide) | apply block_x (by decide)))
      refine aw_cond2 (by simp (disch := first | decide | omega) only [hx0, hy0, go_sem, ↓reduceIte]; rfl) ?_; first | refine .inl ⟨by first | rfl | exact decide_eq_true (by omega) | exact decide_eq_true (by assumption) | (simp (disch := first | decide | omega) only [if_pos_d, if_neg_d, decide_eq_true_eq, Bool.not_eq_true', decide_eq_false_iff_not]; omega), ?_⟩ | refine .inr ⟨by first | rfl | exact decide_eq_false (by omega) | exact decide_eq_false (by assumption) | (simp (disch := first | decide | omega) only [if_pos_d, if_neg_d, decide_eq_true_eq, Bool.not_eq_true', decide_eq_false_iff_not]; omega), ?_⟩
      (repeat (first | apply aw_seq | apply aw_block | apply aw_skip | apply aw_label | apply aw_exit | ((first | refine aw_region (hideO fun QQ hQQ => ?_) | refine aw_draw mixed (hideD fun QQ hQQ => ?_)); simp (maxSteps := 400000) (disch := first | decide | omega) only [hx0, hy0, go_sem, ↓reduceIte]; try (first | with_reducible refine unhide hQQ ?_ | refine ⟨by kernel_rfl, unhide hQQ ?_⟩); clear hQQ QQ) | with_reducible first | apply then_n | apply block_n | apply then_x | apply then_r | apply nog_n | apply nog_r | apply block_r | apply block_e (by decide) | apply block_x (by decide)))
      refine aw_cond2 (by simp (disch := first | decide | omega) only [hx0, hy0, go_sem, ↓reduceIte]; rfl) ?_; first | refine .inl ⟨by first | rfl | exact decide_eq_true (by omega) | exact decide_eq_true (by assumption) | (simp (disch := first | decide | omega) only [if_pos_d, if_neg_d, decide_eq_true_eq, Bool.not_eq_true', decide_eq_false_iff_not]; omega), ?_⟩ | refine .inr ⟨by first | rfl | exact decide_eq_false (by omega) | exact decide_eq_false (by assumption) | (simp (disch := first | decide | omega) only [if_pos_d, if_neg_d, decide_eq_true_eq, Bool.not_eq_true', decide_eq_false_iff_not]; omega), ?_⟩
      (repeat (first | apply aw_seq | apply aw_block | apply aw_skip | apply aw_label | apply aw_exit | ((first | refine aw_region (hideO fun QQ hQQ => ?_) | refine aw_draw mixed (hideD fun QQ hQQ => ?_)); simp (maxSteps := 400000) (disch := first | decide | omega) only [hx0, hy0, go_sem, ↓reduceIte]; try (first | with_reducible refine unhide hQQ ?_ | refine ⟨by kernel_rfl, unhide hQQ ?_⟩); clear hQQ QQ) | with_reducible first | apply then_n | apply block_n | apply then_x | apply then_r | apply nog_n | apply nog_r | apply block_r | apply block_e (by decide) | apply block_x (by decide)))
      refine aw_ret ?_; refine ⟨.inr rfl, ?_⟩; simp only [resA, res1, go_sem, ↓reduceIte]
    · rw [if_pos (by omega), show x0 + 0 - 0 = x0 by omega]
      refine fun_ok (nt := 34) (rs := [.tmp 4]) Try.func57 rfl rfl rfl (by simp) fun Z w0 => ?_; simp only [initFr, avR, List.map_cons, List.map_nil]
      (repeat (first | apply aw_seq | apply aw_block | apply aw_skip | apply aw_label | apply aw_exit | ((first | refine aw_region (hideO fun QQ hQQ => ?_) | refine aw_draw mixed (hideD fun QQ hQQ => ?_)); simp (maxSteps := 400000) (disch := first | decide | omega) only [hx0, hy0, go_sem, ↓reduceIte]; try (first | with_reducible refine unhide hQQ ?_ | refine ⟨by kernel_rfl, unhide hQQ ?_⟩); clear hQQ QQ) | with_reducible first | apply then_n | apply block_n | apply then_x | apply then_r | apply nog_n | apply nog_r | apply block_r | apply block_e (by decide) | apply block_x (by decide)))
      refine aw_cond2 (by simp (disch := first | decide | omega) only [hx0, hy0, go_sem, ↓reduceIte]; rfl) ?_; first | refine .inl ⟨by first | rfl | exact decide_eq_true (by omega) | exact decide_eq_true (by assumption) | (simp (disch := first | decide | omega) only [if_pos_d, if_neg_d, decide_eq_true_eq, Bool.not_eq_true', decide_eq_false_iff_not]; omega), ?_⟩ | refine .inr ⟨by first | rfl | exact decide_eq_false (by omega) | exact decide_eq_false (by assumption) | (simp (disch := first | decide | omega) only [if_pos_d, if_neg_d, decide_eq_true_eq, Bool.not_eq_true', decide_eq_false_iff_not]; omega), ?_⟩
      (repeat (first | apply aw_seq | apply aw_block | apply aw_skip | apply aw_label | apply aw_exit | ((first | refine aw_region (hideO fun QQ hQQ => ?_) | refine aw_draw mixed (hideD fun QQ hQQ => ?_)); simp (maxSteps := 400000) (disch := first | decide | omega) only [hx0, hy0, go_sem, ↓reduceIte]; try (first | with_reducible refine unhide hQQ ?_ | refine ⟨by kernel_rfl, unhide hQQ ?_⟩); clear hQQ QQ) | with_reducible first | apply then_n | apply block_n | apply then_x | apply then_r | apply nog_n | apply nog_r | apply block_r | apply block_e (by decide) | apply block_x (by decide)))
      refine aw_cond2 (by simp (disch := first | decide | omega) only [hx0, hy0, go_sem, ↓reduceIte]; rfl) ?_; first | refine .inl ⟨by first | rfl | exact decide_eq_true (by omega) | exact decide_eq_true (by assumption) | (simp (disch := first | decide | omega) only [if_pos_d, if_neg_d, decide_eq_true_eq, Bool.not_eq_true', decide_eq_false_iff_not]; omega), ?_⟩ | refine .inr ⟨by first | rfl | exact decide_eq_false (by omega) | exact decide_eq_false (by assumption) | (simp (disch := first | decide | omega) only [if_pos_d, if_neg_d, decide_eq_true_eq, Bool.not_eq_true', decide_eq_false_iff_not]; omega), ?_⟩
      (repeat (first | apply aw_seq | apply aw_block | apply aw_skip | apply aw_label | apply aw_exit | ((first | refine aw_region (hideO fun QQ hQQ => ?_) | refine aw_draw mixed (hideD fun QQ hQQ => ?_)); simp (maxSteps := 400000) (disch := first | decide | omega) only [hx0, hy0, go_sem, ↓reduceIte]; try (first | with_reducible refine unhide hQQ ?_ | refine ⟨by kernel_rfl, unhide hQQ ?_⟩); clear hQQ QQ) | with_reducible first | apply then_n | apply block_n | apply then_x | apply then_r | apply nog_n | apply nog_r | apply block_r | apply block_e (by decide) | apply block_x (by decide)))
      refine aw_ret ?_; refine ⟨.inr rfl, ?_⟩; simp only [resA, res1, go_sem, ↓reduceIte]
  · clear hv
    obtain ⟨y1, hy1⟩ : ∃ x, Y.getD (p - 1) 0 = x := ⟨_, rfl⟩
    rw [hy1] at b3 ⊢
    have hYj : p - 1 < Y.length := by omega
    have hp1 : 1 ≤ p := by omega
    rw [if_neg h0]
    by_cases h1 : p < Y.length
    · rw [if_neg (by omega)]
      refine fun_ok (nt := 34) (rs := [.tmp 4]) Try.func57 rfl rfl rfl (by simp) fun Z w0 => ?_; simp only [initFr, avR, List.map_cons, List.map_nil]
      (repeat (first | apply aw_seq | apply aw_block | apply aw_skip | apply aw_label | apply aw_exit | ((first | refine aw_region (hideO fun QQ hQQ => ?_) | refine aw_draw mixed (hideD fun QQ hQQ => ?_)); simp (maxSteps := 400000) (disch := first | decide | omega) only [hx0, hy0, hy1, go_sem, ↓reduceIte]; try (first | with_reducible refine unhide hQQ ?_ | refine ⟨by kernel_rfl, unhide hQQ ?_⟩); clear hQQ QQ) | with_reducible first | apply then_n | apply block_n | apply then_x | apply then_r | apply nog_n | apply nog_r | apply block_r | apply block_e (by decide) | apply block_x (by decide)))
      refine aw_cond2 (by simp (disch := first | decide | omega) only [hx0, hy0, hy1, go_sem, ↓reduceIte]; rfl) ?_; first | refine .inl ⟨by first | rfl | exact decide_eq_true (by omega) | exact decide_eq_true (by assumption) | (simp (disch := first | decide | omega) only [if_pos_d, if_neg_d, decide_eq_true_eq, Bool.not_eq_true', decide_eq_false_iff_not]; omega), ?_⟩ | refine .inr ⟨by first | rfl | exact decide_eq_false (by omega) | exact decide_eq_false (by assumption) | (simp (disch := first | decide | omega) only [if_pos_d, if_neg_d, decide_eq_true_eq, Bool.not_eq_true', decide_eq_false_iff_not]; omega), ?_⟩
      (repeat (first | apply aw_seq | apply aw_block | apply aw_skip | apply aw_label | apply aw_exit | ((first | refine aw_region (hideO fun QQ hQQ => ?_) | refine aw_draw mixed (hideD fun QQ hQQ => ?_)); simp (maxSteps := 400000) (disch := first | decide | omega) only [hx0, hy0, hy1, go_sem, ↓reduceIte]; try (first | with_reducible refine unhide hQQ ?_ | refine ⟨by kernel_rfl, unhide hQQ ?_⟩); clear hQQ QQ) | with_reducible first | apply then_n | apply block_n | apply then_x | apply then_r | apply nog_n | apply nog_r | apply block_r | apply block_e (by decide) | apply block_x (by decide)))
      refine aw_cond2 (by simp (disch := first | decide | omega) only [hx0, hy0, hy1, go_sem, ↓reduceIte]; rfl) ?_; first | refine .inl ⟨by first | rfl | exact decide_eq_true (by omega) | exact decide_eq_true (by assumption) | (simp (disch := first | decide | omega) only [if_pos_d, if_neg_d, decide_eq_true_eq, Bool.not_eq_true', decide_eq_false_iff_not]; omega), ?_⟩ | refine .inr ⟨by first | rfl | exact decide_eq_false (by omega) | exact decide_eq_false (by assumption) | (simp (disch := first | decide | omega) only [if_pos_d, if_neg_d, decide_eq_true_eq, Bool.not_eq_true', decide_eq_false_iff_not]; omega), ?_⟩
      (repeat (first | apply aw_seq | apply aw_block | apply aw_skip | apply aw_label | apply aw_exit | ((first | refine aw_region (hideO fun QQ hQQ => ?_) | refine aw_draw mixed (hideD fun QQ hQQ => ?_)); simp (maxSteps := 400000) (disch := first | decide | omega) only [hx0, hy0, hy1, go_sem, ↓reduceIte]; try (first | with_reducible refine unhide hQQ ?_ | refine ⟨by kernel_rfl, unhide hQQ ?_⟩); clear hQQ QQ) | with_reducible first | apply then_n | apply block_n | apply then_x | apply then_r | apply nog_n | apply nog_r | apply block_r | apply block_e (by decide) | apply block_x (by decide)))
      refine aw_ret ?_; refine ⟨.inr rfl, ?_⟩; simp only [resA, res1, go_sem, ↓reduceIte]
    · rw [if_pos (by omega), show x0 + y1 - 0 = x0 + y1 by omega]
      refine fun_ok (nt := 34) (rs := [.tmp 4]) Try.func57 rfl rfl rfl (by simp) fun Z w0 => ?_; simp only [initFr, avR, List.map_cons, List.map_nil]
      (repeat (first | apply aw_seq | apply aw_block | apply aw_skip | apply aw_label | apply aw_exit | ((first | refine aw_region (hideO fun QQ hQQ => ?_) | refine aw_draw mixed (hideD fun QQ hQQ => ?_)); simp (maxSteps := 400000) (disch := first | decide | omega) only [hx0, hy0, hy1, go_sem, ↓reduceIte]; try (first | with_reducible refine unhide hQQ ?_ | refine ⟨by kernel_rfl, unhide hQQ ?_⟩); clear hQQ QQ) | with_reducible first | apply then_n | apply block_n | apply then_x | apply then_r | apply nog_n | apply nog_r | apply block_r | apply block_e (by decide) | apply block_x (by decide)))
      refine aw_cond2 (by simp (disch := first | decide | omega) only [hx0, hy0, hy1, go_sem, ↓reduceIte]; rfl) ?_; first | refine .inl ⟨by first | rfl | exact decide_eq_true (by omega) | exact decide_eq_true (by assumption) | (simp (disch := first | decide | omega) only [if_pos_d, if_neg_d, decide_eq_true_eq, Bool.not_eq_true', decide_eq_false_iff_not]; omega), ?_⟩ | refine .inr ⟨by first | rfl | exact decide_eq_false (by omega) | exact decide_eq_false (by assumption) | (simp (disch := first | decide | omega) only [if_pos_d, if_neg_d, decide_eq_true_eq, Bool.not_eq_true', decide_eq_false_iff_not]; omega), ?_⟩
      (repeat (first | apply aw_seq | apply aw_block | apply aw_skip | apply aw_label | apply aw_exit | ((first | refine aw_region (hideO fun QQ hQQ => ?_) | refine aw_draw mixed (hideD fun QQ hQQ => ?_)); simp (maxSteps := 400000) (disch := first | decide | omega) only [hx0, hy0, hy1, go_sem, ↓reduceIte]; try (first | with_reducible refine unhide hQQ ?_ | refine ⟨by kernel_rfl, unhide hQQ ?_⟩); clear hQQ QQ) | with_reducible first | apply then_n | apply block_n | apply then_x | apply then_r | apply nog_n | apply nog_r | apply block_r | apply block_e (by decide) | apply block_x (by decide)))
      refine aw_cond2 (by simp (disch := first | decide | omega) only [hx0, hy0, hy1, go_sem, ↓reduceIte]; rfl) ?_; first | refine .inl ⟨by first | rfl | exact decide_eq_true (by omega) | exact decide_eq_true (by assumption) | (simp (disch := first | decide | omega) only [if_pos_d, if_neg_d, decide_eq_true_eq, Bool.not_eq_true', decide_eq_false_iff_not]; omega), ?_⟩ | refine .inr ⟨by first | rfl | exact decide_eq_false (by omega) | exact decide_eq_false (by assumption) | (simp (disch := first | decide | omega) only [if_pos_d, if_neg_d, decide_eq_true_eq, Bool.not_eq_true', decide_eq_false_iff_not]; omega), ?_⟩
      (repeat (first | apply aw_seq | apply aw_block | apply aw_skip | apply aw_label | apply aw_exit | ((first | refine aw_region (hideO fun QQ hQQ => ?_) | refine aw_draw mixed (hideD fun QQ hQQ => ?_)); simp (maxSteps := 400000) (disch := first | decide | omega) only [hx0, hy0, hy1, go_sem, ↓reduceIte]; try (first | with_reducible refine unhide hQQ ?_ | refine ⟨by kernel_rfl, unhide hQQ ?_⟩); clear hQQ QQ) | with_reducible first | apply then_n | apply block_n | apply then_x | apply then_r | apply nog_n | apply nog_r | apply block_r | apply block_e (by decide) | apply block_x (by decide)))
      refine aw_ret ?_; refine ⟨.inr rfl, ?_⟩; simp only [resA, res1, go_sem, ↓reduceIte]
theorem sumG_bd {X : List Int} (xb : ∀ i, 0 ≤ fX X i ∧ fX X i ≤ 60) (k : Nat) : 0 ≤ sumT (fX X) k ∧ sumT (fX X) k ≤ k * 60 := sum_bd (most := 60) fun i _ => xb i
theorem ok_Sum67 {N : Nat} {t : List Int × List Int} (h : GoodT N t) (h5 : N ≤ 5) {a b : Nat} (hab : a ≤ b) (hb : b < N) : FunOK Try.prog 67 [.agg (rowT t), .one (iP a), .one (iP b)] (.one (.one (iP (sumT (fX t.1) (b + 1) - sumT (fX t.1) a)))) := by
  obtain ⟨X, Y⟩ := t
  obtain ⟨xl, yl, xb, yb⟩ := h
  dsimp only at xl yl xb yb
  simp only [rowT]
  refine fun_ok (nt := 23) (rs := [.tmp 6]) Try.func67 rfl rfl rfl (by simp) fun Z w0 => ?_; simp only [initFr, avR, List.map_cons, List.map_nil]
  refine tw ?_; try with_reducible intro QQ hQQ
  have s0 := sumG_bd xb a
  refine aw_weak (weak_keep [2, 3, 7, 8] (by simp only [go_sem, ↓reduceIte]; rfl)) ?_
  refine aw_loop_ov (ι := { i : Nat // a ≤ i ∧ i ≤ b + 1 }) (fun i => [(8, iA i.1), (7, iA (sumT (fX X) i.1 - sumT (fX X) a))]) (fun _ => []) (fun i => b + 1 - i.1) ⟨a, by omega⟩ (by first | rfl | (simp only [go_sem, ↓reduceIte]; first | done | rfl | (simp; try rfl))) ?_
  rintro ⟨i, hi1, hi2⟩
  simp (disch := decide) only [ov, ovL, AL.get_nil, AL.get_eq, AL.get_ne, Option.getD_some, Option.getD_none]
  have s1 := sumG_bd xb i
  by_cases hib : i ≤ b
  · have b1 := xb i
    have e1 : sumT (fX X) (i + 1) - sumT (fX X) a = sumT (fX X) i - sumT (fX X) a + X.getD i 0 := by
      rw [sum_step]; show _ = _ + fX X i; omega
    have hX : i < X.length := by omega
    unfold fX at b1
    generalize sumT (fX X) i = si at *
    generalize sumT (fX X) a = sa at *
    refine tw ?_; try with_reducible intro QQ hQQ
    refine ti ?_; try clear hQQ QQ
    refine tw ?_; try with_reducible intro QQ hQQ
    refine ⟨⟨i + 1, by omega⟩, ?_, weak_round ?_ (by first | rfl | (simp only [go_sem, ↓reduceIte]))⟩
    rotate_left
    · simp only [e1]
      (simp only [go_sem, ↓reduceIte]; try rfl)
    · simp only; omega
  · have : i = b + 1 := by omega
    subst this
    refine tw ?_; try with_reducible intro QQ hQQ
    refine ti ?_; try clear hQQ QQ
    refine tw ?_; try with_reducible intro QQ hQQ
    refine aw_ret ?_; refine ⟨.inr rfl, ?_⟩; simp only [resA, res1, go_sem, ↓reduceIte]
theorem ok_Counts74 {N : Nat} {t : List Int × List Int} (h : GoodT N t) (h1 : 1 ≤ N) (h5 : N ≤ 5) {c : Int × Int × Int × Int} (hc : isCallB N c = true) : FunOK Try.prog 74 [.agg (rowT t), .agg (row4 c)] (.one (.one (iP (cntG N t c)))) := by
  have hcc := (call_of hc).1
  have hsum := ok_Sum67 h h5 (a := 0) (b := N - 1) (by omega) (by omega)
  have hIn := fun p (hp : p < N) => ok_In57 h h5 hp
  obtain ⟨X, Y⟩ := t
  obtain ⟨xl, yl, xb, yb⟩ := h
  dsimp only at xl yl xb yb
  obtain ⟨ck, cat, clo, chi⟩ := c
  dsimp only at hcc
  simp only [rowT, row4] at hsum hIn ⊢
  unfold cntG cntT
  dsimp only
  by_cases k2 : ck = 2
  · subst k2
    rw [if_neg (by decide), if_neg (by decide)]
    have eN : ((N : Int)) - 1 = ((N - 1 : Nat) : Int) := by omega
    have eX : ((X.length : Nat) : Int) = (N : Int) := by rw [xl]
    rw [show N - 1 + 1 = N by omega, show sumT (fX X) N - sumT (fX X) 0 = sumT (fX X) N by simp [sumT]] at hsum
    refine fun_ok (nt := 27) (rs := [.tmp 4]) Try.func74 rfl rfl rfl (by simp) fun Z w0 => ?_; simp only [initFr, avR, List.map_cons, List.map_nil]
    (repeat (first | apply aw_seq | apply aw_block | apply aw_skip | apply aw_label | apply aw_exit | ((first | refine aw_region (hideO fun QQ hQQ => ?_) | refine aw_draw mixed (hideD fun QQ hQQ => ?_)); simp (maxSteps := 400000) (disch := first | decide | omega) only [eX, eN, go_sem, ↓reduceIte]; try (first | with_reducible refine unhide hQQ ?_ | refine ⟨by kernel_rfl, unhide hQQ ?_⟩); clear hQQ QQ) | with_reducible first | apply then_n | apply block_n | apply then_x | apply then_r | apply nog_n | apply nog_r | apply block_r | apply block_e (by decide) | apply block_x (by decide)))
    refine aw_cond2 (by simp (disch := first | decide | omega) only [eX, eN, go_sem, ↓reduceIte]; rfl) ?_; first | refine .inl ⟨by first | rfl | exact decide_eq_true (by omega) | exact decide_eq_true (by assumption) | (simp (disch := first | decide | omega) only [if_pos_d, if_neg_d, decide_eq_true_eq, Bool.not_eq_true', decide_eq_false_iff_not]; omega), ?_⟩ | refine .inr ⟨by first | rfl | exact decide_eq_false (by omega) | exact decide_eq_false (by assumption) | (simp (disch := first | decide | omega) only [if_pos_d, if_neg_d, decide_eq_true_eq, Bool.not_eq_true', decide_eq_false_iff_not]; omega), ?_⟩
    (repeat (first | apply aw_seq | apply aw_block | apply aw_skip | apply aw_label | apply aw_exit | ((first | refine aw_region (hideO fun QQ hQQ => ?_) | refine aw_draw mixed (hideD fun QQ hQQ => ?_)); simp (maxSteps := 400000) (disch := first | decide | omega) only [eX, eN, go_sem, ↓reduceIte]; try (first | with_reducible refine unhide hQQ ?_ | refine ⟨by kernel_rfl, unhide hQQ ?_⟩); clear hQQ QQ) | with_reducible first | apply then_n | apply block_n | apply then_x | apply then_r | apply nog_n | apply nog_r | apply block_r | apply block_e (by decide) | apply block_x (by decide)))
    refine aw_cond2 (by simp (disch := first | decide | omega) only [eX, eN, go_sem, ↓reduceIte]; rfl) ?_; first | refine .inl ⟨by first | rfl | exact decide_eq_true (by omega) | exact decide_eq_true (by assumption) | (simp (disch := first | decide | omega) only [if_pos_d, if_neg_d, decide_eq_true_eq, Bool.not_eq_true', decide_eq_false_iff_not]; omega), ?_⟩ | refine .inr ⟨by first | rfl | exact decide_eq_false (by omega) | exact decide_eq_false (by assumption) | (simp (disch := first | decide | omega) only [if_pos_d, if_neg_d, decide_eq_true_eq, Bool.not_eq_true', decide_eq_false_iff_not]; omega), ?_⟩
    (repeat (first | apply aw_seq | apply aw_block | apply aw_skip | apply aw_label | apply aw_exit | ((first | refine aw_region (hideO fun QQ hQQ => ?_) | refine aw_draw mixed (hideD fun QQ hQQ => ?_)); simp (maxSteps := 400000) (disch := first | decide | omega) only [eX, eN, go_sem, ↓reduceIte]; try (first | with_reducible refine unhide hQQ ?_ | refine ⟨by kernel_rfl, unhide hQQ ?_⟩); clear hQQ QQ) | with_reducible first | apply then_n | apply block_n | apply then_x | apply then_r | apply nog_n | apply nog_r | apply block_r | apply block_e (by decide) | apply block_x (by decide)))
    ((refine callO_ok rfl rfl 67 true rfl (by simp (disch := first | decide | omega) only [eX, eN, go_sem, ↓reduceIte]; try rfl) (fun _ => rfl) (hsum) Try.func67 rfl (by decide) ?_); simp (maxSteps := 400000) (disch := first | decide | omega) only [eX, eN, go_sem, ↓reduceIte]; try (with_reducible refine unhide hQQ ?_; clear hQQ QQ)); (repeat (first | apply aw_seq | apply aw_block | apply aw_skip | apply aw_label | apply aw_exit | ((first | refine aw_region (hideO fun QQ hQQ => ?_) | refine aw_draw mixed (hideD fun QQ hQQ => ?_)); simp (maxSteps := 400000) (disch := first | decide | omega) only [eX, eN, go_sem, ↓reduceIte]; try (first | with_reducible refine unhide hQQ ?_ | refine ⟨by kernel_rfl, unhide hQQ ?_⟩); clear hQQ QQ) | with_reducible first | apply then_n | apply block_n | apply then_x | apply then_r | apply nog_n | apply nog_r | apply block_r | apply block_e (by decide) | apply block_x (by decide)))
    refine aw_ret ?_; refine ⟨.inr rfl, ?_⟩; simp only [resA, res1, go_sem, ↓reduceIte]
  · have h3 := hcc.resolve_left k2
    obtain ⟨p, rfl⟩ : ∃ p : Nat, cat = p := ⟨cat.toNat, by omega⟩
    have hpX : p < X.length := by omega
    have hpN : p < N := by omega
    have hI := hIn p hpN
    rcases h3.1 with k0 | k1
    · subst k0
      rw [if_pos rfl]
      refine fun_ok (nt := 27) (rs := [.tmp 4]) Try.func74 rfl rfl rfl (by simp) fun Z w0 => ?_; simp only [initFr, avR, List.map_cons, List.map_nil]
      refine tw ?_; try with_reducible intro QQ hQQ
      refine ti ?_; try clear hQQ QQ
      refine tw ?_; try with_reducible intro QQ hQQ
      refine aw_ret ?_; refine ⟨.inr rfl, ?_⟩; simp only [resA, res1, go_sem, ↓reduceIte]
      rfl
    · subst k1
      rw [if_neg (by decide), if_pos rfl]
      refine fun_ok (nt := 27) (rs := [.tmp 4]) Try.func74 rfl rfl rfl (by simp) fun Z w0 => ?_; simp only [initFr, avR, List.map_cons, List.map_nil]
      refine tw ?_; try with_reducible intro QQ hQQ
      refine ti ?_; try clear hQQ QQ
      refine tw ?_; try with_reducible intro QQ hQQ
      refine ti ?_; try clear hQQ QQ
      refine tw ?_; try with_reducible intro QQ hQQ
      ((refine cO 57 rfl rfl rfl (hI) Try.func57 rfl ?_); refine tu ?_; try clear hQQ QQ); refine tw ?_; try with_reducible intro QQ hQQ
      refine aw_ret ?_; refine ⟨.inr rfl, ?_⟩; simp only [resA, res1, go_sem, ↓reduceIte]
end Go.Proofs.Ytejbglbiefpagaa
