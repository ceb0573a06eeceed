/- classer: the stable sort, walked: merges. -/
import Derived.Test.YtgdhdikeicgndaaKwb15
set_option linter.all false
namespace Go.Proofs.Ytgdhdikeicgndaa
open Go Go.RowKit Go.Sh Go.Pv
set_option maxHeartbeats 2000000
set_option maxRecDepth 8000
theorem blt_t {a b : Nat} (h : a < b) : Nat.blt a b = true := by rw [Nat.blt_eq]; exact h
theorem blt_f {a b : Nat} (h : ¬ a < b) : Nat.blt a b = false := by rw [← Bool.not_eq_true, Nat.blt_eq]; exact h
theorem nbeq_t {a b : Nat} (h : a = b) : Nat.beq a b = true := by rw [Nat.beq_eq]; exact h
theorem nbeq_f {a b : Nat} (h : a ≠ b) : Nat.beq a b = false := by rw [← Bool.not_eq_true, Nat.beq_eq]; exact h
theorem bsr_end (p : Nat → Bool) (f : Nat) {i j : Nat} (h : ¬ i < j) : bsr p f i j = i := by
  cases f with
  | zero => rfl
  | succ f => unfold bsr; rw [blt_f h]; rfl
theorem bsr_t {p : Nat → Bool} {f i j : Nat} (h : i < j) (hp : p ((i + j) / 2) = true) : bsr p (f + 1) i j = bsr p f ((i + j) / 2 + 1) j := by
  conv => lhs; unfold bsr
  rw [blt_t h, hp]; rfl
theorem bsr_f {p : Nat → Bool} {f i j : Nat} (h : i < j) (hp : p ((i + j) / 2) = false) : bsr p (f + 1) i j = bsr p f i ((i + j) / 2) := by
  conv => lhs; unfold bsr
  rw [blt_t h, hp]; rfl
theorem bsr_le (p : Nat → Bool) : ∀ (f i j : Nat), i ≤ j → i ≤ bsr p f i j ∧ bsr p f i j ≤ j
  | 0, i, j, h => ⟨Nat.le_refl _, h⟩
  | f + 1, i, j, h => by
    by_cases hl : i < j
    · cases hp : p ((i + j) / 2)
      · rw [bsr_f hl hp]
        have := bsr_le p f i ((i + j) / 2) (by omega)
        omega
      · rw [bsr_t hl hp]
        have := bsr_le p f ((i + j) / 2 + 1) j (by omega)
        omega
    · rw [bsr_end _ _ hl]; exact ⟨Nat.le_refl _, h⟩
theorem shr1 (a : Nat) : a >>> 1 = a / 2 := by rw [Nat.shiftRight_eq_div_pow]
theorem conv71_3' (a : Nat) (h : a < 2 ^ 63) : convA Try.prog 71 3 (.int .u64 (a : Int)) = some (.int .i64 (a : Int)) := conv71_3 a h
attribute [local go_sem] shr1 conv3_71 conv71_3 shr_1
section
variable {Z : Zn} {w0 : World} {cap : Nat → Prop} {nt : Nat} {rd : Option Nat} {pan : List PanicEntry → St → Prop} {df : Option Nat} {dk : List Nat} {rg : Bool} {fr : List (Nat × AV)} {hp : List (Nat × Obj')} {nx t len : Nat}
theorem c_sym1 (hl : len ≤ 256) (f a m b s : Nat) (ht : AL.get hp t = some (arrS s len)) (ham : a + 1 = m) (hmb : m < b) (hb : b ≤ len) :
    CallF ⟨Try.prog, Z, w0, cap, nt, rd, pan, df, dk, rg⟩ 102 [.one (.own t len), iA a, iA m, iA b, .one (.fn 70 [])] ⟨fr, hp, nx⟩ fun st' av => st' = ⟨fr, AL.set hp t (arrS (symN (f + 1) a m b s) len), nx⟩ ∧ av = .tup [] := by
  (refine callF_to (nt := 220) (rs := []) Try.func102 rfl rfl rfl (by simp) fun hcl tm Ds => ?_); simp only [initV]
  have htn := hcl.lt t _ ht
  dsimp only [Kx.calleeT] at htn ⊢
  have hsym : symN (f + 1) a m b s = shUp (bsr (fun h => Nat.blt (popc (gt s h)) (popc (gt s a))) (b - a) m b - 1 - a) a s := by
    show cond _ _ _ = _
    rw [nbeq_t (show m - a = 1 by omega), cond_true, force_eq]
  rw [hsym]
  have hble := bsr_le (fun h => Nat.blt (popc (gt s h)) (popc (gt s a))) (b - a) m b (by omega)
  generalize hB : bsr (fun h => Nat.blt (popc (gt s h)) (popc (gt s a))) (b - a) m b = B at hble
  have hmae : m - a = 1 := by omega
  try clear hF
  have hF := hmae
  refine twF ?_; try with_reducible intro QQ hQQ
  refine tiF ?_; try clear hQQ QQ
  refine twF ?_; try with_reducible intro QQ hQQ
  refine aw_weak (weak_thr [0, 1, 4, 10, 11] (by simp only [hF, go_sem, ↓reduceIte]; rfl)) ?_
  refine aw_loop_hp (ι := { p : Nat × Nat × Nat // (m ≤ p.2.1 ∧ p.2.1 ≤ p.2.2 ∧ p.2.2 ≤ b ∧ p.2.2 - p.2.1 ≤ p.1) ∧ bsr (fun h => Nat.blt (popc (gt s h)) (popc (gt s a))) p.1 p.2.1 p.2.2 = B }) (fun p => [(10, iA p.1.2.1), (11, iA p.1.2.2)]) (fun p => SF fr tm hp nx t len s) (fun p => p.1.2.2 - p.1.2.1) ⟨(b - a, m, b), by dsimp only; omega, hB⟩ (by first | rfl | (simp only [hF, go_sem, ↓reduceIte]; rfl)) (sf_start hcl ht) ?_
  rintro ⟨⟨g, i, j⟩, hij, hq⟩ hpX nxX hSF
  simp (disch := decide) only [ov, ovL, AL.get_nil, AL.get_eq, AL.get_ne, Option.getD_some, Option.getD_none]
  obtain ⟨f0, f1, f2, f3⟩ := id hSF
  dsimp only at hij hq f2 hSF
  unfold arrS at f2
  try clear hF
  have hF := And.intro f1 (f2)
  by_cases hlt : i < j
  · obtain ⟨g, rfl⟩ : ∃ g', g = g' + 1 := ⟨g - 1, by omega⟩
    have hcmp := ok_cmp (gt s ((i + j) / 2)) (gt s a) (gt_lt _ _) (gt_lt _ _)
    skip
    by_cases hpp : popc (gt s ((i + j) / 2)) < popc (gt s a)
    · rw [bsr_t (p := fun h => Nat.blt (popc (gt s h)) (popc (gt s a))) (f := g) hlt (blt_t hpp)] at hq
      refine twF ?_; try with_reducible intro QQ hQQ
      refine tiF ?_; try clear hQQ QQ
      refine twF ?_; try with_reducible intro QQ hQQ
      (refine cDF 70 rfl rfl rfl (hcmp) Try.func70 rfl ?_); refine tdF ?_; try clear hQQ QQ
      refine twF ?_; try with_reducible intro QQ hQQ
      refine tiF ?_; try clear hQQ QQ
      refine twF ?_; try with_reducible intro QQ hQQ
      exact ⟨⟨(g, (i + j) / 2 + 1, j), by dsimp only; omega, hq⟩, by dsimp only; omega, hSF, by first | rfl | (simp only [hF, go_sem, ↓reduceIte]; rfl)⟩
    · rw [bsr_f (p := fun h => Nat.blt (popc (gt s h)) (popc (gt s a))) (f := g) hlt (blt_f hpp)] at hq
      refine twF ?_; try with_reducible intro QQ hQQ
      refine tiF ?_; try clear hQQ QQ
      refine twF ?_; try with_reducible intro QQ hQQ
      (refine cDF 70 rfl rfl rfl (hcmp) Try.func70 rfl ?_); refine tdF ?_; try clear hQQ QQ
      refine twF ?_; try with_reducible intro QQ hQQ
      refine tiF ?_; try clear hQQ QQ
      refine twF ?_; try with_reducible intro QQ hQQ
      exact ⟨⟨(g, i, (i + j) / 2), by dsimp only; omega, hq⟩, by dsimp only; omega, hSF, by first | rfl | (simp only [hF, go_sem, ↓reduceIte]; rfl)⟩
  · rw [bsr_end _ _ hlt] at hq
    subst hq
    refine twF ?_; try with_reducible intro QQ hQQ
    refine tiF ?_; try clear hQQ QQ
    refine twF ?_; try with_reducible intro QQ hQQ
    generalize hR : shUp (i - 1 - a) a s = R
    refine aw_weak (weak_thr [0, 10, 13] (by simp only [hF, go_sem, ↓reduceIte]; rfl)) ?_
    refine aw_loop_hp (ι := { p : Nat × Nat // (a ≤ p.1 ∧ p.1 ≤ i - 1) ∧ shUp (i - 1 - p.1) p.1 p.2 = R }) (fun p => [(13, iA p.1.1)]) (fun p => SF fr tm hp nx t len p.1.2) (fun p => i - 1 - p.1.1) ⟨(a, s), by dsimp only; omega, hR⟩ (by first | rfl | (simp only [hF, go_sem, ↓reduceIte]; rfl)) hSF ?_
    clear hSF f0 f1 f2 f3
    rintro ⟨⟨k, s⟩, hk, hq⟩ hpX nxX hSF
    simp (disch := decide) only [ov, ovL, AL.get_nil, AL.get_eq, AL.get_ne, Option.getD_some, Option.getD_none]
    obtain ⟨f0, f1, f2, f3⟩ := id hSF
    dsimp only at hk hq f2 hSF
    unfold arrS at f2
    try clear hF
    have hF := And.intro f1 (f2)
    by_cases hki : k < i - 1
    · rw [show i - 1 - k = (i - 1 - (k + 1)) + 1 by omega] at hq
      have hq : force (swp s k (k + 1)) (shUp (i - 1 - (k + 1)) (k + 1)) = R := hq
      rw [force_eq] at hq
      refine twF ?_; try with_reducible intro QQ hQQ
      refine tiF ?_; try clear hQQ QQ
      refine twF ?_; try with_reducible intro QQ hQQ
      exact ⟨⟨(k + 1, swp s k (k + 1)), by dsimp only; omega, hq⟩, by dsimp only; omega, sf_set2 _ _ htn hSF, by first | rfl | (simp only [hF, go_sem, ↓reduceIte]; rfl)⟩
    · have hsR : s = R := by rw [← hq, show i - 1 - k = 0 by omega]; rfl
      refine twF ?_; try with_reducible intro QQ hQQ
      refine tiF ?_; try clear hQQ QQ
      refine twF ?_; try with_reducible intro QQ hQQ
      exact aw_ret ⟨.inr rfl, sf_end hcl ht (by rw [← hsR]; exact hSF) ⟨rfl, rfl⟩⟩
theorem c_sym2 (hl : len ≤ 256) (f a m b s : Nat) (ht : AL.get hp t = some (arrS s len)) (ham : a + 1 < m) (hmb : m + 1 = b) (hb : b ≤ len) :
    CallF ⟨Try.prog, Z, w0, cap, nt, rd, pan, df, dk, rg⟩ 102 [.one (.own t len), iA a, iA m, iA b, .one (.fn 70 [])] ⟨fr, hp, nx⟩ fun st' av => st' = ⟨fr, AL.set hp t (arrS (symN (f + 1) a m b s) len), nx⟩ ∧ av = .tup [] := by
  (refine callF_to (nt := 220) (rs := []) Try.func102 rfl rfl rfl (by simp) fun hcl tm Ds => ?_); simp only [initV]
  have htn := hcl.lt t _ ht
  dsimp only [Kx.calleeT] at htn ⊢
  have hsym : symN (f + 1) a m b s = shDn (m - bsr (fun h => !Nat.blt (popc (gt s m)) (popc (gt s h))) (b - a) a m) m s := by
    show cond _ _ _ = _
    rw [nbeq_f (show m - a ≠ 1 by omega), cond_false, nbeq_t (show b - m = 1 by omega), cond_true, force_eq]
  rw [hsym]
  have hble := bsr_le (fun h => !Nat.blt (popc (gt s m)) (popc (gt s h))) (b - a) a m (by omega)
  generalize hB : bsr (fun h => !Nat.blt (popc (gt s m)) (popc (gt s h))) (b - a) a m = B at hble
  have hbme : b - m = 1 := by omega
  try clear hF
  have hF := hbme
  refine twF ?_; try with_reducible intro QQ hQQ
  refine tiF ?_; try clear hQQ QQ
  refine twF ?_; try with_reducible intro QQ hQQ
  refine tiF ?_; try clear hQQ QQ
  refine twF ?_; try with_reducible intro QQ hQQ
  refine aw_weak (weak_thr [0, 2, 4, 14, 15] (by simp only [hF, go_sem, ↓reduceIte]; rfl)) ?_
  refine aw_loop_hp (ι := { p : Nat × Nat × Nat // (a ≤ p.2.1 ∧ p.2.1 ≤ p.2.2 ∧ p.2.2 ≤ m ∧ p.2.2 - p.2.1 ≤ p.1) ∧ bsr (fun h => !Nat.blt (popc (gt s m)) (popc (gt s h))) p.1 p.2.1 p.2.2 = B }) (fun p => [(14, iA p.1.2.1), (15, iA p.1.2.2)]) (fun p => SF fr tm hp nx t len s) (fun p => p.1.2.2 - p.1.2.1) ⟨(b - a, a, m), by dsimp only; omega, hB⟩ (by first | rfl | (simp only [hF, go_sem, ↓reduceIte]; rfl)) (sf_start hcl ht) ?_
  rintro ⟨⟨g, i, j⟩, hij, hq⟩ hpX nxX hSF
  simp (disch := decide) only [ov, ovL, AL.get_nil, AL.get_eq, AL.get_ne, Option.getD_some, Option.getD_none]
  obtain ⟨f0, f1, f2, f3⟩ := id hSF
  dsimp only at hij hq f2 hSF
  unfold arrS at f2
  try clear hF
  have hF := And.intro f1 (f2)
  by_cases hlt : i < j
  · obtain ⟨g, rfl⟩ : ∃ g', g = g' + 1 := ⟨g - 1, by omega⟩
    have hcmp := ok_cmp (gt s m) (gt s ((i + j) / 2)) (gt_lt _ _) (gt_lt _ _)
    skip
    by_cases hpp : popc (gt s m) < popc (gt s ((i + j) / 2))
    · rw [bsr_f (p := fun h => !Nat.blt (popc (gt s m)) (popc (gt s h))) (f := g) hlt (by rw [blt_t hpp]; rfl)] at hq
      refine twF ?_; try with_reducible intro QQ hQQ
      refine tiF ?_; try clear hQQ QQ
      refine twF ?_; try with_reducible intro QQ hQQ
      (refine cDF 70 rfl rfl rfl (hcmp) Try.func70 rfl ?_); refine tdF ?_; try clear hQQ QQ
      refine twF ?_; try with_reducible intro QQ hQQ
      refine tiF ?_; try clear hQQ QQ
      refine twF ?_; try with_reducible intro QQ hQQ
      exact ⟨⟨(g, i, (i + j) / 2), by dsimp only; omega, hq⟩, by dsimp only; omega, hSF, by first | rfl | (simp only [hF, go_sem, ↓reduceIte]; rfl)⟩
    · rw [bsr_t (p := fun h => !Nat.blt (popc (gt s m)) (popc (gt s h))) (f := g) hlt (by rw [blt_f hpp]; rfl)] at hq
      refine twF ?_; try with_reducible intro QQ hQQ
      refine tiF ?_; try clear hQQ QQ
      refine twF ?_; try with_reducible intro QQ hQQ
      (refine cDF 70 rfl rfl rfl (hcmp) Try.func70 rfl ?_); refine tdF ?_; try clear hQQ QQ
      refine twF ?_; try with_reducible intro QQ hQQ
      refine tiF ?_; try clear hQQ QQ
      refine twF ?_; try with_reducible intro QQ hQQ
      exact ⟨⟨(g, (i + j) / 2 + 1, j), by dsimp only; omega, hq⟩, by dsimp only; omega, hSF, by first | rfl | (simp only [hF, go_sem, ↓reduceIte]; rfl)⟩
  · rw [bsr_end _ _ hlt] at hq
    subst hq
    refine twF ?_; try with_reducible intro QQ hQQ
    refine tiF ?_; try clear hQQ QQ
    refine twF ?_; try with_reducible intro QQ hQQ
    generalize hR : shDn (m - i) m s = R
    refine aw_weak (weak_thr [0, 14, 17] (by simp only [hF, go_sem, ↓reduceIte]; rfl)) ?_
    refine aw_loop_hp (ι := { p : Nat × Nat // (i ≤ p.1 ∧ p.1 ≤ m) ∧ shDn (p.1 - i) p.1 p.2 = R }) (fun p => [(17, iA p.1.1)]) (fun p => SF fr tm hp nx t len p.1.2) (fun p => p.1.1 - i) ⟨(m, s), by dsimp only; omega, hR⟩ (by first | rfl | (simp only [hF, go_sem, ↓reduceIte]; rfl)) hSF ?_
    clear hSF f0 f1 f2 f3
    rintro ⟨⟨k, s⟩, hk, hq⟩ hpX nxX hSF
    simp (disch := decide) only [ov, ovL, AL.get_nil, AL.get_eq, AL.get_ne, Option.getD_some, Option.getD_none]
    obtain ⟨f0, f1, f2, f3⟩ := id hSF
    dsimp only at hk hq f2 hSF
    unfold arrS at f2
    try clear hF
    have hF := And.intro f1 (f2)
    by_cases hki : i < k
    · rw [show k - i = (k - 1 - i) + 1 by omega] at hq
      have hq : force (swp s k (k - 1)) (shDn (k - 1 - i) (k - 1)) = R := hq
      rw [force_eq] at hq
      refine twF ?_; try with_reducible intro QQ hQQ
      refine tiF ?_; try clear hQQ QQ
      refine twF ?_; try with_reducible intro QQ hQQ
      exact ⟨⟨(k - 1, swp s k (k - 1)), by dsimp only; omega, hq⟩, by dsimp only; omega, sf_set2 _ _ htn hSF, by first | rfl | (simp only [hF, go_sem, ↓reduceIte]; rfl)⟩
    · have hsR : s = R := by rw [← hq, show k - i = 0 by omega]; rfl
      refine twF ?_; try with_reducible intro QQ hQQ
      refine tiF ?_; try clear hQQ QQ
      refine twF ?_; try with_reducible intro QQ hQQ
      exact aw_ret ⟨.inr rfl, sf_end hcl ht (by rw [← hsR]; exact hSF) ⟨rfl, rfl⟩⟩
end
end Go.Proofs.Ytgdhdikeicgndaa
