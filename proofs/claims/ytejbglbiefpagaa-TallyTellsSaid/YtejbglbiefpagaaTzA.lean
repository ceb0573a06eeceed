/- tally, the document's functions: all lists with a number of each span. -/
import Derived.Test.YtejbglbiefpagaaTyD
import Derived.Test.YtejbglbiefpagaaTvO
import Derived.Test.YtejbglbiefpagaaTyS
import Derived.Test.YtejbglbiefpagaaKd
import Derived.Test.YtejbglbiefpagaaPvQ
set_option linter.all false
namespace Go.Proofs.Ytejbglbiefpagaa
open Go Go.RowKit Go.Sh Go.Pv
set_option maxHeartbeats 8000000
set_option maxRecDepth 8000
set_option pp.maxSteps 60000
def ranF {α : Type} (f : Int → List α) (lo : Int) : Nat → List α
  | 0 => []
  | m + 1 => ranF f lo m ++ f (lo + m)
/-- All lists that go on from one with a number of each span. -/
def listsF (l : List (Int × Int)) : Nat → List Int → List (List Int)
  | 0, pre => [pre]
  | n + 1, pre => ranF (fun k => listsF l n (pre ++ [k])) (l.getD pre.length (0, 0)).1 ((l.getD pre.length (0, 0)).2 - (l.getD pre.length (0, 0)).1 + 1).toNat
theorem ran_len {α : Type} (f : Int → List α) (lo : Int) : ∀ m k, k ≤ m → (ranF f lo k).length ≤ (ranF f lo m).length
  | 0, k, h => by rw [show k = 0 by omega]; exact Nat.le_refl _
  | m + 1, k, h => by
    by_cases hk : k = m + 1
    · rw [hk]; exact Nat.le_refl _
    · have := ran_len f lo m k (by omega)
      show _ ≤ (ranF f lo m ++ f (lo + m)).length
      rw [List.length_append]; omega
def rowL (x : List Int) : List PV := [.sl (x.map row1)]
theorem rowsK_rL (l : List (List Int)) : rowsK 1 (l.map rowL) = True := eq_true fun i r h => by rw [List.getElem?_map] at h; obtain ⟨x, _, rfl⟩ := Option.map_eq_some_iff.1 h; rfl
section
attribute [local go_sem] row4 get_some4 rowsK_r4 rowsK_r1 rowsK_r2 rowsK_rL rowsK_nil' rowsK_cons' not_isEmpty_nil Bool.false_or
/-- The caller's objects, of which one slice is turned. -/
def LF (hp : List (Nat × Obj')) (nx t : Nat) (o : List (List Int)) (hpX : List (Nat × Obj')) (nxX : Nat) : Prop :=
  nx ≤ nxX ∧ AL.get hpX t = some (.arr 52 1 (o.map rowL) true) ∧ ∀ id x, id < nx → id ≠ t → AL.get hp id = some x → AL.get hpX id = some x
def ListsOK (l : List (Int × Int)) (n : Nat) : Prop := ∀ (Z : Zn) (w0 : World) (cap : Nat → Prop) (pan : List PanicEntry → St → Prop) (dk : List Nat) (pre : List Int) (out : List (List Int)) (hp : List (Nat × Obj')) (nx t : Nat),
  l.length = pre.length + n → (out ++ listsF l n pre).length ≤ 100000 → t < nx → AL.get hp t = some (.arr 52 1 (out.map rowL) true) →
  AW ⟨Try.prog, Z, w0, cap, 43, none, pan, none, dk, true⟩ (fnCode Try.f108) (fun e st' => (e = .normal ∨ e = .ret) ∧ resV Try.prog st' [.tmp 6] = some (.one (.own t (out ++ listsF l n pre).length)) ∧ LF hp nx t (out ++ listsF l n pre) st'.hp st'.nx)
    ⟨[(0, .one (.p (.sl (l.map row2)))), (1, .one (.p (.sl (pre.map row1)))), (2, .one (.own t out.length))], hp, nx⟩
theorem lf_append {hp : List (Nat × Obj')} {nx t : Nat} {o o' : List (List Int)} {hpX : List (Nat × Obj')} {nxX : Nat} (h : LF hp nx t o hpX nxX) : LF hp nx t o' ((t, .arr 52 1 (o'.map rowL) true) :: hpX) nxX :=
  ⟨h.1, AL.get_eq _ _ _, fun id x h1 h2 h3 => by rw [AL.get_ne _ _ h2]; exact h.2.2 id x h1 h2 h3⟩
theorem lf_refl {hp : List (Nat × Obj')} {nx t : Nat} {o : List (List Int)} (h : AL.get hp t = some (.arr 52 1 (o.map rowL) true)) : LF hp nx t o hp nx := ⟨Nat.le_refl _, h, fun _ _ _ _ h => h⟩
theorem lf_new {hp : List (Nat × Obj')} {nx t : Nat} {o : List (List Int)} {hpX : List (Nat × Obj')} {nxX : Nat} {x : Obj'} (htn : t < nx) (h : LF hp nx t o hpX nxX) : LF hp nx t o ((nxX, x) :: hpX) (nxX + 1) := by
  have h0 := h.1
  exact ⟨by omega, by rw [AL.get_ne _ _ (by omega)]; exact h.2.1, fun id x h1 h2 h3 => by rw [AL.get_ne _ _ (by omega)]; exact h.2.2 id x h1 h2 h3⟩
theorem lists_zero (l : List (Int × Int)) (h5 : l.length ≤ 10) : ListsOK l 0 := by
  intro Z w0 cap pan dk pre out hp nx t hl hlen htn ht
  conv => arg 2; whnf
  simp only [List.length_append, listsF, List.length_cons, List.length_nil] at hlen
  have hpl : pre.length = l.length := by omega
  (repeat (first | apply aw_seq | apply aw_block | apply aw_skip | apply aw_label | apply aw_exit | ((first | refine aw_region (hideO fun QQ hQQ => ?_) | refine aw_draw mixed (hideD fun QQ hQQ => ?_)); simp (maxSteps := 400000) (disch := first | decide | omega) only [ht, go_sem, ↓reduceIte]; try (first | with_reducible refine unhide hQQ ?_ | refine ⟨by kernel_rfl, unhide hQQ ?_⟩); clear hQQ QQ) | with_reducible first | apply then_n | apply block_n | apply then_x | apply then_r | apply nog_n | apply nog_r | apply block_r | apply block_e (by decide) | apply block_x (by decide)))
  refine aw_cond2 (by simp (disch := first | decide | omega) only [ht, go_sem, ↓reduceIte]; rfl) ?_; first | refine .inl ⟨by first | rfl | exact decide_eq_true (by omega) | exact decide_eq_true (by assumption) | (simp (disch := first | decide | omega) only [if_pos_d, if_neg_d, decide_eq_true_eq, Bool.not_eq_true', decide_eq_false_iff_not]; omega), ?_⟩ | refine .inr ⟨by first | rfl | exact decide_eq_false (by omega) | exact decide_eq_false (by assumption) | (simp (disch := first | decide | omega) only [if_pos_d, if_neg_d, decide_eq_true_eq, Bool.not_eq_true', decide_eq_false_iff_not]; omega), ?_⟩
  (repeat (first | apply aw_seq | apply aw_block | apply aw_skip | apply aw_label | apply aw_exit | ((first | refine aw_region (hideO fun QQ hQQ => ?_) | refine aw_draw mixed (hideD fun QQ hQQ => ?_)); simp (maxSteps := 400000) (disch := first | decide | omega) only [ht, go_sem, ↓reduceIte]; try (first | with_reducible refine unhide hQQ ?_ | refine ⟨by kernel_rfl, unhide hQQ ?_⟩); clear hQQ QQ) | with_reducible first | apply then_n | apply block_n | apply then_x | apply then_r | apply nog_n | apply nog_r | apply block_r | apply block_e (by decide) | apply block_x (by decide)))
  refine aw_ret ⟨.inr rfl, ?_, ?_⟩
  · simp (disch := first | decide | omega) only [ht, go_sem, ↓reduceIte]
    simp [listsF]
  · have := lf_append (o' := out ++ [pre]) (lf_new (x := .arr 52 1 [[PV.sl (List.map row1 pre)]] true) (by omega) (lf_refl (nx := nx) ht))
    simpa [listsF, rowL] using this
theorem c_rec {l : List (Int × Int)} {n : Nat} (H : ListsOK l n) {Z : Zn} {w0 : World} {cap : Nat → Prop} {nt : Nat} {rd : Option Nat} {pan : List PanicEntry → St → Prop} {df : Option Nat} {dk : List Nat} {rg : Bool} {fr : List (Nat × AV)} {hp : List (Nat × Obj')} {nx b t : Nat} {pre : List Int} {out : List (List Int)} {sh : Bool}
    (hl : l.length = pre.length + n) (hlen : (out ++ listsF l n pre).length ≤ 100000) (hb : AL.get hp b = some (.arr 3 1 (pre.map row1) sh)) (ht : AL.get hp t = some (.arr 52 1 (out.map rowL) true)) :
    CallF ⟨Try.prog, Z, w0, cap, nt, rd, pan, df, dk, rg⟩ 108 [.one (.p (.sl (l.map row2))), .one (.own b pre.length), .one (.own t out.length)] ⟨fr, hp, nx⟩ fun st' av => st' = ⟨fr, AL.set (AL.set hp b (.arr 3 1 (pre.map row1) true)) t (.arr 52 1 ((out ++ listsF l n pre).map rowL) true), nx⟩ ∧ av = .one (.own t (out ++ listsF l n pre).length) := by
  (refine callF_to (nt := 43) (rs := [.tmp 6]) Try.func108 rfl rfl rfl (by simp) fun hcl tm Ds => ?_); simp only [initV]
  have htn := hcl.lt t _ ht
  have hbn := hcl.lt b _ hb
  dsimp only at htn hbn
  have hbt : b ≠ t := by
    rintro rfl
    rw [hb] at ht
    cases ht
  dsimp only [Kx.calleeT]
  refine aw_weak (weak_share b (E := 3) (k := 1) (rows := pre.map row1) (sh := sh) (by rw [AL.get_ne _ _ (by omega)]; exact hb)) ?_
  refine aw_weak (weak_dataS 1 (t := b) (n := pre.length) (E := 3) (k := 1) (rows := pre.map row1) rfl (by dsimp only; rw [AL.get_set, if_pos rfl])) ?_
  rw [List.take_of_length_le (by simp)]
  refine aw_weak (weak_fr [0, 1, 2] rfl) ?_
  refine (H Z w0 cap _ _ pre out _ (nx + 1) t hl hlen (by omega) (by
    show AL.get ((b, _) :: (nx, _) :: hp) t = _
    rw [AL.get_ne _ _ (Ne.symm hbt), AL.get_ne _ _ (by omega)]; exact ht)).mono fun e st' hq => ?_
  obtain ⟨h1, h2, h3, h4, h5⟩ := hq
  refine ⟨h1, _, h2, h5 nx _ (by omega) (by omega) (by
    show AL.get ((b, _) :: (nx, _) :: hp) nx = _
    rw [AL.get_ne _ _ (by omega), AL.get_eq]), ⟨fr, AL.set (AL.set hp b (.arr 3 1 (pre.map row1) true)) t (.arr 52 1 ((out ++ listsF l n pre).map rowL) true), nx⟩, rfl, ?_, fun id o ho => ?_, fun i hi => ?_, rfl, rfl⟩
  · refine Closed.set (st := ⟨fr, AL.set hp b (.arr 3 1 (pre.map row1) true), nx⟩) (b := t) (o := .arr 52 1 (out.map rowL) true) (hcl.set hb (fun _ _ h => by cases h) fun i hi => by simp [refsO] at hi) ?_ (fun _ _ h => by cases h) fun i hi => by simp [refsO] at hi
    show AL.get (AL.set hp b _) t = _
    rw [AL.get_set, if_neg (Ne.symm hbt)]; exact ht
  · have ho : AL.get (AL.set (AL.set hp b (.arr 3 1 (pre.map row1) true)) t (.arr 52 1 ((out ++ listsF l n pre).map rowL) true)) id = some o := ho
    rw [AL.get_set] at ho
    split at ho
    · rename_i e; rw [e, ← ho]; exact h4
    · rename_i e
      have hid : id < nx := by
        rw [AL.get_set] at ho
        split at ho
        · rename_i e2; rw [e2]; exact hbn
        · exact hcl.lt id o ho
      refine h5 id o (by omega) e ?_
      rw [AL.get_set] at ho
      show AL.get ((b, _) :: (nx, _) :: hp) id = _
      split at ho
      · rename_i e2; rw [e2, AL.get_eq]; exact ho
      · rename_i e2; rw [AL.get_ne _ _ e2, AL.get_ne _ _ (by omega)]; exact ho
  · simp [refsV, refsC] at hi
    subst hi
    exact ⟨_, by show AL.get (AL.set (AL.set hp b _) _ _) _ = _; rw [AL.get_set, if_pos rfl]⟩
def kF (lo : Int) : Nat → Int
  | 0 => lo
  | j + 1 => kF lo j + 1
theorem kF_eq (lo : Int) : ∀ j : Nat, kF lo j = lo + j
  | 0 => by simp [kF]
  | j + 1 => by unfold kF; rw [kF_eq lo j]; omega
theorem lists_succ {l : List (Int × Int)} (h5 : l.length ≤ 10) (hsp : ∀ i, i < l.length → -1000 ≤ (l.getD i (0, 0)).1 ∧ (l.getD i (0, 0)).1 ≤ (l.getD i (0, 0)).2 ∧ (l.getD i (0, 0)).2 ≤ 1000) {n : Nat} (IH : ListsOK l n) : ListsOK l (n + 1) := by
  intro Z w0 cap pan dk pre out hp nx t hl hlen htn ht
  have hs := hsp pre.length (by omega)
  obtain ⟨⟨lo, hi⟩, hg⟩ : ∃ x, l.getD pre.length (0, 0) = x := ⟨_, rfl⟩
  rw [hg] at hs
  dsimp only at hs
  obtain ⟨m, hm⟩ : ∃ m, (hi - lo + 1).toNat = m := ⟨_, rfl⟩
  obtain ⟨G, hG⟩ : ∃ G : Int → List (List Int), (fun k => listsF l n (pre ++ [k])) = G := ⟨_, rfl⟩
  have hL : listsF l (n + 1) pre = ranF G lo m := by unfold listsF; rw [hg, hG, hm]
  rw [hL] at hlen ⊢
  rw [List.length_append] at hlen
  conv => arg 2; whnf
  (repeat (first | apply aw_seq | apply aw_block | apply aw_skip | apply aw_label | apply aw_exit | ((first | refine aw_region (hideO fun QQ hQQ => ?_) | refine aw_draw mixed (hideD fun QQ hQQ => ?_)); simp (maxSteps := 400000) (disch := first | decide | omega) only [ht, hg, go_sem, ↓reduceIte]; try (first | with_reducible refine unhide hQQ ?_ | refine ⟨by kernel_rfl, unhide hQQ ?_⟩); clear hQQ QQ) | with_reducible first | apply then_n | apply block_n | apply then_x | apply then_r | apply nog_n | apply nog_r | apply block_r | apply block_e (by decide) | apply block_x (by decide)))
  refine aw_cond2 (by simp (disch := first | decide | omega) only [ht, hg, go_sem, ↓reduceIte]; rfl) ?_; first | refine .inl ⟨by first | rfl | exact decide_eq_true (by omega) | exact decide_eq_true (by assumption) | (simp (disch := first | decide | omega) only [if_pos_d, if_neg_d, decide_eq_true_eq, Bool.not_eq_true', decide_eq_false_iff_not]; omega), ?_⟩ | refine .inr ⟨by first | rfl | exact decide_eq_false (by omega) | exact decide_eq_false (by assumption) | (simp (disch := first | decide | omega) only [if_pos_d, if_neg_d, decide_eq_true_eq, Bool.not_eq_true', decide_eq_false_iff_not]; omega), ?_⟩
  (repeat (first | apply aw_seq | apply aw_block | apply aw_skip | apply aw_label | apply aw_exit | ((first | refine aw_region (hideO fun QQ hQQ => ?_) | refine aw_draw mixed (hideD fun QQ hQQ => ?_)); simp (maxSteps := 400000) (disch := first | decide | omega) only [ht, hg, go_sem, ↓reduceIte]; try (first | with_reducible refine unhide hQQ ?_ | refine ⟨by kernel_rfl, unhide hQQ ?_⟩); clear hQQ QQ) | with_reducible first | apply then_n | apply block_n | apply then_x | apply then_r | apply nog_n | apply nog_r | apply block_r | apply block_e (by decide) | apply block_x (by decide)))
  refine aw_weak (weak_thr [0, 1, 2, 7, 8] (by simp only [ht, hg, go_sem, ↓reduceIte]; rfl)) ?_
  refine aw_loop_hp (ι := { j : Nat // j ≤ m }) (fun j => [(8, .one (.p (.v (.int .i64 (kF lo j.1))))), (2, .one (.own t (out.length + (ranF G lo j.1).length)))]) (fun j => LF hp nx t (out ++ ranF G lo j.1)) (fun j => m - j.1) ⟨0, by omega⟩ (by first | rfl | (simp only [ht, hg, go_sem, ↓reduceIte]; rfl)) (by
    have := lf_refl (nx := nx) ht
    simpa [ranF] using this) ?_
  rintro ⟨j, hj⟩ hpX nxX hF
  simp (disch := decide) only [ov, ovL, AL.get_nil, AL.get_eq, AL.get_ne, Option.getD_some, Option.getD_none]
  obtain ⟨f0, f1, f2⟩ := id hF
  have hr := ran_len G lo m j hj
  dsimp only at f1 hr
  obtain ⟨k, hk⟩ : ∃ k, kF lo j = k := ⟨_, rfl⟩
  have hk' := kF_eq lo j
  rw [hk] at hk' ⊢
  have htX : t < nxX := by omega
  by_cases hjm : j < m
  · have hr1 := ran_len G lo m (j + 1) hjm
    have e1 : ranF G lo (j + 1) = ranF G lo j ++ listsF l n (pre ++ [k]) := by
      show ranF G lo j ++ G (lo + j) = _
      rw [← hG, hk']
    have hll : (out ++ ranF G lo j).length = out.length + (ranF G lo j).length := List.length_append
    have hpl : (pre ++ [k]).length = pre.length + 1 := by simp
    (repeat (first | apply aw_seq | apply aw_block | apply aw_skip | apply aw_label | apply aw_exit | ((first | refine aw_region (hideO fun QQ hQQ => ?_) | refine aw_draw mixed (hideD fun QQ hQQ => ?_)); simp (maxSteps := 400000) (disch := first | decide | omega) only [f1, hg, go_sem, ↓reduceIte]; try (first | with_reducible refine unhide hQQ ?_ | refine ⟨by kernel_rfl, unhide hQQ ?_⟩); clear hQQ QQ) | with_reducible first | apply then_n | apply block_n | apply then_x | apply then_r | apply nog_n | apply nog_r | apply block_r | apply block_e (by decide) | apply block_x (by decide)))
    refine aw_cond2 (by simp (disch := first | decide | omega) only [f1, hg, go_sem, ↓reduceIte]; rfl) ?_; first | refine .inl ⟨by first | rfl | exact decide_eq_true (by omega) | exact decide_eq_true (by assumption) | (simp (disch := first | decide | omega) only [if_pos_d, if_neg_d, decide_eq_true_eq, Bool.not_eq_true', decide_eq_false_iff_not]; omega), ?_⟩ | refine .inr ⟨by first | rfl | exact decide_eq_false (by omega) | exact decide_eq_false (by assumption) | (simp (disch := first | decide | omega) only [if_pos_d, if_neg_d, decide_eq_true_eq, Bool.not_eq_true', decide_eq_false_iff_not]; omega), ?_⟩
    (repeat (first | apply aw_seq | apply aw_block | apply aw_skip | apply aw_label | apply aw_exit | ((first | refine aw_region (hideO fun QQ hQQ => ?_) | refine aw_draw mixed (hideD fun QQ hQQ => ?_)); simp (maxSteps := 400000) (disch := first | decide | omega) only [f1, hg, go_sem, ↓reduceIte]; try (first | with_reducible refine unhide hQQ ?_ | refine ⟨by kernel_rfl, unhide hQQ ?_⟩); clear hQQ QQ) | with_reducible first | apply then_n | apply block_n | apply then_x | apply then_r | apply nog_n | apply nog_r | apply block_r | apply block_e (by decide) | apply block_x (by decide)))
    refine callS_ok rfl rfl 108 (by simp (disch := first | decide | omega) only [f1, hg, go_sem, ↓reduceIte]; try rfl) (by simp (disch := first | decide | omega) only [f1, hg, go_sem, ↓reduceIte]; rw [← hll, ← hpl]) Try.func108 rfl (by decide) ((c_rec IH (b := nxX) (t := t) (pre := pre ++ [k]) (out := out ++ ranF G lo j) (sh := !(pre.map row1).isEmpty) ?_ ?_ ?_ ?_).mono ?_)
    · rw [hpl]; omega
    · rw [List.append_assoc, ← e1, List.length_append]; omega
    · simp (disch := first | decide | omega) only [f1, hg, go_sem, ↓reduceIte]
      simp [row1]
    · simp (disch := first | decide | omega) only [f1, hg, go_sem, ↓reduceIte]
    rintro _ _ ⟨rfl, rfl⟩
    (simp (maxSteps := 400000) (disch := first | decide | omega) only [f1, hg, go_sem, ↓reduceIte]; (try (with_reducible refine unhide hQQ ?_; clear hQQ QQ; (repeat with_reducible first | apply then_n | apply block_n | apply then_x | apply then_r | apply nog_n | apply nog_r | apply block_r | apply block_e (by decide) | apply block_x (by decide)))))
    (repeat (first | apply aw_seq | apply aw_block | apply aw_skip | apply aw_label | apply aw_exit | ((first | refine aw_region (hideO fun QQ hQQ => ?_) | refine aw_draw mixed (hideD fun QQ hQQ => ?_)); simp (maxSteps := 400000) (disch := first | decide | omega) only [f1, hg, go_sem, ↓reduceIte]; try (first | with_reducible refine unhide hQQ ?_ | refine ⟨by kernel_rfl, unhide hQQ ?_⟩); clear hQQ QQ) | with_reducible first | apply then_n | apply block_n | apply then_x | apply then_r | apply nog_n | apply nog_r | apply block_r | apply block_e (by decide) | apply block_x (by decide)))
    have hk2 : kF lo (j + 1) = k + 1 := by unfold kF; rw [hk]
    have hl2 : out.length + (ranF G lo (j + 1)).length = (out ++ ranF G lo j ++ listsF l n (pre ++ [k])).length := by rw [e1]; simp [Nat.add_assoc]
    refine ⟨⟨j + 1, by omega⟩, by dsimp only; omega, ⟨by dsimp only; omega, ?_, fun id x h1 h2 h3 => ?_⟩, ?_⟩
    · rw [AL.get_eq, e1, ← List.append_assoc]
    · repeat rw [AL.get_ne _ _ (by omega)]
      exact f2 id x h1 h2 h3
    · dsimp only
      rw [hk2, hl2]
      first | rfl | (simp only [f1, hg, go_sem, ↓reduceIte]; rfl)
  · have hjm : j = m := by omega
    subst hjm
    (repeat (first | apply aw_seq | apply aw_block | apply aw_skip | apply aw_label | apply aw_exit | ((first | refine aw_region (hideO fun QQ hQQ => ?_) | refine aw_draw mixed (hideD fun QQ hQQ => ?_)); simp (maxSteps := 400000) (disch := first | decide | omega) only [f1, hg, go_sem, ↓reduceIte]; try (first | with_reducible refine unhide hQQ ?_ | refine ⟨by kernel_rfl, unhide hQQ ?_⟩); clear hQQ QQ) | with_reducible first | apply then_n | apply block_n | apply then_x | apply then_r | apply nog_n | apply nog_r | apply block_r | apply block_e (by decide) | apply block_x (by decide)))
    refine aw_cond2 (by simp (disch := first | decide | omega) only [f1, hg, go_sem, ↓reduceIte]; rfl) ?_; first | refine .inl ⟨by first | rfl | exact decide_eq_true (by omega) | exact decide_eq_true (by assumption) | (simp (disch := first | decide | omega) only [if_pos_d, if_neg_d, decide_eq_true_eq, Bool.not_eq_true', decide_eq_false_iff_not]; omega), ?_⟩ | refine .inr ⟨by first | rfl | exact decide_eq_false (by omega) | exact decide_eq_false (by assumption) | (simp (disch := first | decide | omega) only [if_pos_d, if_neg_d, decide_eq_true_eq, Bool.not_eq_true', decide_eq_false_iff_not]; omega), ?_⟩
    (repeat (first | apply aw_seq | apply aw_block | apply aw_skip | apply aw_label | apply aw_exit | ((first | refine aw_region (hideO fun QQ hQQ => ?_) | refine aw_draw mixed (hideD fun QQ hQQ => ?_)); simp (maxSteps := 400000) (disch := first | decide | omega) only [f1, hg, go_sem, ↓reduceIte]; try (first | with_reducible refine unhide hQQ ?_ | refine ⟨by kernel_rfl, unhide hQQ ?_⟩); clear hQQ QQ) | with_reducible first | apply then_n | apply block_n | apply then_x | apply then_r | apply nog_n | apply nog_r | apply block_r | apply block_e (by decide) | apply block_x (by decide)))
    refine aw_ret ⟨.inr rfl, ?_, hF⟩
    rw [List.length_append]
    simp (disch := first | decide | omega) only [f1, hg, go_sem, ↓reduceIte]
theorem c_lists_core {l : List (Int × Int)} (h5 : l.length ≤ 10) (hsp : ∀ i, i < l.length → -1000 ≤ (l.getD i (0, 0)).1 ∧ (l.getD i (0, 0)).1 ≤ (l.getD i (0, 0)).2 ∧ (l.getD i (0, 0)).2 ≤ 1000) : ∀ n, ListsOK l n
  | 0 => lists_zero l h5
  | n + 1 => lists_succ h5 hsp (c_lists_core h5 hsp n)
theorem closed_new {fr : List (Nat × AV)} {hp : List (Nat × Obj')} {nx nx' id : Nat} {o : Obj'} (h : Closed ⟨fr, hp, nx⟩) (hid : nx ≤ id) (hn : id < nx') (ho : ∀ fr tm, o ≠ .kept fr tm) (hr : There (AL.get hp) (refsO o)) : Closed ⟨fr, (id, o) :: hp, nx'⟩ := by
  have up : ∀ {l : List Nat}, There (AL.get hp) l → There (AL.get ((id, o) :: hp)) l := fun hl i hi => by
    obtain ⟨x, hx⟩ := hl i hi
    have := h.lt i x hx
    dsimp only at this
    exact ⟨x, by rw [AL.get_ne _ _ (by omega)]; exact hx⟩
  have cases' : ∀ {k : Nat} {x : Obj'}, AL.get ((id, o) :: hp) k = some x → (k = id ∧ x = o) ∨ (k ≠ id ∧ AL.get hp k = some x) := fun {k x} hk => by
    by_cases e : k = id
    · subst e; rw [AL.get_eq] at hk; exact .inl ⟨rfl, (Option.some.inj hk).symm⟩
    · rw [AL.get_ne _ _ e] at hk; exact .inr ⟨e, hk⟩
  refine ⟨fun k x hk => ?_, fun t av ht => up (h.fr t av ht), fun k x hk hx => ?_, fun k f t' hk t av ht => ?_⟩
  · show k < nx'
    rcases cases' hk with ⟨rfl, rfl⟩ | ⟨_, hk⟩
    · exact hn
    · have := h.lt k x hk
      dsimp only at this
      omega
  · rcases cases' hk with ⟨rfl, rfl⟩ | ⟨_, hk⟩
    · exact up hr
    · exact up (h.obj k x hk hx)
  · rcases cases' hk with ⟨rfl, e⟩ | ⟨_, hk⟩
    · exact absurd e.symm (ho _ _)
    · exact up (h.kept k f t' hk t av ht)
/-- All lists with a number of each span. -/
def listsA (l : List (Int × Int)) : List (List Int) := listsF l l.length []
theorem c_lists {l : List (Int × Int)} (h5 : l.length ≤ 10) (hsp : ∀ i, i < l.length → -1000 ≤ (l.getD i (0, 0)).1 ∧ (l.getD i (0, 0)).1 ≤ (l.getD i (0, 0)).2 ∧ (l.getD i (0, 0)).2 ≤ 1000) (hlen : (listsA l).length ≤ 100000) {Z : Zn} {w0 : World} {cap : Nat → Prop} {nt : Nat} {rd : Option Nat} {pan : List PanicEntry → St → Prop} {df : Option Nat} {dk : List Nat} {rg : Bool} {fr : List (Nat × AV)} {hp : List (Nat × Obj')} {nx : Nat} :
    CallF ⟨Try.prog, Z, w0, cap, nt, rd, pan, df, dk, rg⟩ 108 [.one (.p (.sl (l.map row2))), .one .nil, .one .nil] ⟨fr, hp, nx⟩ fun st' av => st' = ⟨fr, (nx + 2, .arr 52 1 ((listsA l).map rowL) true) :: hp, nx + 3⟩ ∧ av = .one (.own (nx + 2) (listsA l).length) := by
  (refine callF_to (nt := 43) (rs := [.tmp 6]) Try.func108 rfl rfl rfl (by simp) fun hcl tm Ds => ?_); simp only [initV]
  dsimp only [Kx.calleeT]
  refine aw_weak (weak_own 1 3 1 rfl) ?_
  refine aw_weak (weak_own 2 52 1 rfl) ?_
  refine aw_weak (weak_dataS 1 (t := nx + 1) (n := 0) (E := 3) (k := 1) (rows := []) rfl (by dsimp only; rw [AL.get_set, if_neg (by omega), AL.get_set, if_pos rfl])) ?_
  refine aw_weak (weak_fr [0, 1, 2] rfl) ?_
  refine (c_lists_core h5 hsp l.length Z w0 cap _ _ [] [] _ (nx + 3) (nx + 2) (by simp) (by simpa [listsA] using hlen) (by omega) (by
    show AL.get (AL.set (AL.set ((nx, _) :: hp) (nx + 1) _) (nx + 1 + 1) _) (nx + 2) = _
    rw [AL.get_set, if_pos rfl]; rfl)).mono fun e st' hq => ?_
  obtain ⟨h1, h2, h3, h4, h5'⟩ := hq
  have hold : ∀ id x, id < nx + 1 → AL.get ((nx, Obj'.kept fr tm) :: hp) id = some x → AL.get st'.hp id = some x := fun id x hid hx => h5' id x (by omega) (by omega) (by
    show AL.get (AL.set (AL.set ((nx, _) :: hp) (nx + 1) _) (nx + 1 + 1) _) id = _
    rw [AL.get_set, if_neg (by omega), AL.get_set, if_neg (by omega)]; exact hx)
  rw [List.nil_append] at h2 h4
  refine ⟨h1, _, h2, hold nx _ (by omega) (by rw [AL.get_eq]), ⟨fr, (nx + 2, .arr 52 1 ((listsA l).map rowL) true) :: hp, nx + 3⟩, rfl, ?_, fun id o ho => ?_, fun i hi => ?_, rfl, rfl⟩
  · exact closed_new hcl (by omega) (by omega) (fun _ _ h => by cases h) fun i hi => by simp [refsO] at hi
  · have ho : AL.get ((nx + 2, Obj'.arr 52 1 ((listsA l).map rowL) true) :: hp) id = some o := ho
    by_cases e : id = nx + 2
    · subst e
      rw [AL.get_eq] at ho
      rw [← ho]; exact h4
    · rw [AL.get_ne _ _ e] at ho
      have := hcl.lt id o ho
      dsimp only at this
      exact hold id o (by omega) (by rw [AL.get_ne _ _ (by omega)]; exact ho)
  · simp [refsV, refsC] at hi
    subst hi
    exact ⟨_, AL.get_eq _ _ _⟩
end
end Go.Proofs.Ytejbglbiefpagaa
