/- burr: bales that are valid are opened. -/
import Derived.Test.YtknikcpeacmpmaaBvF
set_option linter.all false
namespace Go.Proofs.Ytknikcpeacmpmaa
open Go Go.RowKit Go.Sh Go.Pv
set_option maxHeartbeats 8000000
set_option maxRecDepth 8000
set_option pp.maxSteps 60000
/-- The box of bales that were opened. -/
def buC (n lo hi top : Int) (bales : List (Int × Int)) (tests : List (Int × Bool)) : List AC := [.p (iP n), .p (iP lo), .p (iP hi), .p (.sl (bales.map row2)), .p (iP top), .p (.sl (tests.map rowB))]
theorem burrB_of {n lo hi top : Int} {bales : List (Int × Int)} {tests : List (Int × Bool)} (h : burrB n lo hi top bales tests = true) : headB n lo hi top bales tests = true ∧ (∀ i, i < bales.length → baleB n (bales.getD i (0, 0)) = true) ∧ ∀ i, i < tests.length → inB (tests.getD i (0, false)).1 0 ((bales.length : Int) - 1) = true := by
  unfold burrB at h
  simp only [Bool.and_eq_true] at h
  exact ⟨h.1, all_get.1 h.2.1, all_get.1 h.2.2⟩
theorem closed_box {fr : List (Nat × AV)} {hp : List (Nat × Obj')} {nx : Nat} (hcl : Closed ⟨fr, hp, nx⟩) (tm : Nat → Value) (fr' : List (Nat × AV)) (cs : List AC) (hcs : cs.flatMap refsC = []) (hf : ∀ t av, AL.get fr' t = some av → refsV av = [] ∨ refsV av = [nx + 1]) :
    Closed ⟨fr', (nx + 1, .box cs) :: (nx, .kept fr tm) :: hp, nx + 1 + 1⟩ := by
  have hg : ∀ id o, AL.get ((nx + 1, Obj'.box cs) :: (nx, .kept fr tm) :: hp) id = some o → (id = nx + 1 ∧ o = .box cs) ∨ (id = nx ∧ o = .kept fr tm) ∨ AL.get hp id = some o := by
    intro id o h
    by_cases e1 : id = nx + 1
    · subst e1; rw [AL.get_eq] at h; cases h; exact .inl ⟨rfl, rfl⟩
    · rw [AL.get_ne _ _ e1] at h
      by_cases e2 : id = nx
      · subst e2; rw [AL.get_eq] at h; cases h; exact .inr (.inl ⟨rfl, rfl⟩)
      · rw [AL.get_ne _ _ e2] at h; exact .inr (.inr h)
  have hd : ∀ {l : List Nat}, There (AL.get hp) l → There (AL.get ((nx + 1, Obj'.box cs) :: (nx, .kept fr tm) :: hp)) l := by
    intro l hl i hi
    obtain ⟨o, ho⟩ := hl i hi
    have := hcl.lt i o ho
    dsimp only at this
    exact ⟨o, by rw [AL.get_ne _ _ (by omega), AL.get_ne _ _ (by omega)]; exact ho⟩
  refine ⟨fun id o h => ?_, fun t av ht => ?_, fun id o h hk => ?_, fun id fr0 tm0 h t av ht => ?_⟩
  · rcases hg id o h with ⟨rfl, _⟩ | ⟨rfl, _⟩ | h
    · dsimp only; omega
    · dsimp only; omega
    · have := hcl.lt id o h; dsimp only at this ⊢; omega
  · rcases hf t av ht with h | h
    · rw [h]; intro i hi; cases hi
    · rw [h]; intro i hi; simp at hi; subst hi; exact ⟨_, AL.get_eq _ _ _⟩
  · rcases hg id o h with ⟨_, rfl⟩ | ⟨_, rfl⟩ | h
    · simp only [refsO, hcs]; intro i hi; cases hi
    · exact absurd rfl (hk _ _)
    · exact hd (hcl.obj id o h hk)
  · rcases hg id _ h with ⟨_, h⟩ | ⟨_, h⟩ | h
    · cases h
    · cases h; exact hd (hcl.fr t av ht)
    · exact hd (hcl.kept id fr0 tm0 h t av ht)
section
variable {n lo hi top : Int} {bales : List (Int × Int)} {tests : List (Int × Bool)}
attribute [local go_sem] rowB get_someB
theorem c_open {Z : Zn} {w0 : World} {cap : Nat → Prop} {nt : Nat} {rd : Option Nat} {pan : List PanicEntry → St → Prop} {df : Option Nat} {dk : List Nat} {rg : Bool} {fr : List (Nat × AV)} {hp : List (Nat × Obj')} {nx : Nat} (h : burrB n lo hi top bales tests = true) :
    CallF ⟨Try.prog, Z, w0, cap, nt, rd, pan, df, dk, rg⟩ 48 [.agg [.p (iP n), .p (iP lo), .p (iP hi), .p (.sl (bales.map row2)), .p (iP top), .p (.sl (tests.map rowB))]] ⟨fr, hp, nx⟩ fun st' av => st' = ⟨fr, (nx + 1 + 1, .box (buC n lo hi top bales tests)) :: hp, nx + 1 + 1 + 1⟩ ∧ av = .one (.box (nx + 1 + 1) 0) := by
  obtain ⟨hh, hbg, htg⟩ := burrB_of h
  obtain ⟨⟨b1, b2, b3, b4⟩, b5, b6, b7⟩ := head_of hh
  clear h hh
  have hp6 := pow64 b5
  have hp0 := Nat.two_pow_pos bales.length
  have hsh : ∀ (T : TypeId) (p q : Operand), binA Try.prog .shl T p q (.int .i64 1) (.int .i64 (bales.length : Int)) = some (.int .i64 ((2 ^ bales.length : Nat) : Int)) := fun T p q => bin_shl_one .i64 T p q (by omega)
  have w1 := ok_within n 1 5
  rw [show inB n 1 5 = true by simp [inB]; omega] at w1
  have w2 := ok_within top 0 ((2 ^ bales.length - 1 : Nat) : Int)
  rw [show inB top 0 ((2 ^ bales.length - 1 : Nat) : Int) = true by simp only [inB, Bool.and_eq_true, decide_eq_true_eq]; exact b6] at w2
  have ecast : ((2 ^ bales.length : Nat) : Int) - 1 = ((2 ^ bales.length - 1 : Nat) : Int) := by omega
  have hm := ok_must 1
  obtain ⟨N, rfl⟩ : ∃ N : Nat, n = N := ⟨n.toNat, by omega⟩
  have hq := pow32 (N := N) (by omega)
  have hq0 := Nat.two_pow_pos N
  have hsh2 : ∀ (T : TypeId) (p q : Operand), binA Try.prog .shl T p q (.int .i64 1) (.int .i64 (N : Int)) = some (.int .i64 ((2 ^ N : Nat) : Int)) := fun T p q => bin_shl_one .i64 T p q (by omega)
  have ecast2 : ((2 ^ N : Nat) : Int) - 1 = ((2 ^ N - 1 : Nat) : Int) := by omega
  have hbal : ∀ x, baleB (N : Int) x = ((inB x.1 0 ((2 ^ N - 1 : Nat) : Int) && inB x.2 0 ((2 ^ N - 1 : Nat) : Int)) && decide (diffN x.1.toNat x.2.toNat = 0)) := fun x => by unfold baleB; rw [Int.toNat_natCast]
  generalize 2 ^ N = y at *
  obtain ⟨x, hx⟩ : ∃ x, 2 ^ bales.length = x := ⟨_, rfl⟩
  rw [hx] at *
  (refine callF_to (nt := 107) (rs := [.tmp 2]) Try.func48 rfl rfl rfl (by simp) fun hcl tm Ds => ?_); simp only [initV]
  dsimp only [Kx.calleeT]
  have hlt := hcl.lt
  dsimp only at hlt
  try simp only [List.append_eq, List.cons_append, List.nil_append]
  (repeat (first | apply aw_seq | apply aw_block | apply aw_skip | apply aw_label | apply aw_exit | ((first | refine aw_region (hideO fun QQ hQQ => ?_) | refine aw_draw mixed (hideD fun QQ hQQ => ?_)); simp (maxSteps := 400000) (disch := first | decide | omega) only [hsh, ecast, hsh2, ecast2, go_sem, ↓reduceIte]; try (first | with_reducible refine unhide hQQ ?_ | refine ⟨by kernel_rfl, unhide hQQ ?_⟩); clear hQQ QQ) | with_reducible first | apply then_n | apply block_n | apply then_x | apply then_r | apply nog_n | apply nog_r | apply block_r | apply block_e (by decide) | apply block_x (by decide)))
  (refine callD_ok rfl rfl 86 true rfl (by simp (disch := first | decide | omega) only [hsh, ecast, hsh2, ecast2, go_sem, ↓reduceIte]; try rfl) (fun _ => rfl) (w1) Try.func86 rfl (by decide) ?_); simp (maxSteps := 400000) (disch := first | decide | omega) only [hsh, ecast, hsh2, ecast2, go_sem, ↓reduceIte]; (try (refine ⟨by kernel_rfl, unhide hQQ ?_⟩; clear hQQ QQ; (repeat with_reducible first | apply then_n | apply block_n | apply then_x | apply then_r | apply nog_n | apply nog_r | apply block_r | apply block_e (by decide) | apply block_x (by decide))))
  (refine callD_ok rfl rfl 86 true rfl (by simp (disch := first | decide | omega) only [hsh, ecast, hsh2, ecast2, go_sem, ↓reduceIte]; try rfl) (fun _ => rfl) (w2) Try.func86 rfl (by decide) ?_); simp (maxSteps := 400000) (disch := first | decide | omega) only [hsh, ecast, hsh2, ecast2, go_sem, ↓reduceIte]; (try (refine ⟨by kernel_rfl, unhide hQQ ?_⟩; clear hQQ QQ; (repeat with_reducible first | apply then_n | apply block_n | apply then_x | apply then_r | apply nog_n | apply nog_r | apply block_r | apply block_e (by decide) | apply block_x (by decide))))
  (refine callD_ok rfl rfl 76 true rfl (by simp (disch := first | decide | omega) only [hsh, ecast, hsh2, ecast2, go_sem, ↓reduceIte]; try rfl) (fun _ => rfl) (hm) Try.func76 rfl (by decide) ?_); simp (maxSteps := 400000) (disch := first | decide | omega) only [hsh, ecast, hsh2, ecast2, go_sem, ↓reduceIte]; (try (refine ⟨by kernel_rfl, unhide hQQ ?_⟩; clear hQQ QQ; (repeat with_reducible first | apply then_n | apply block_n | apply then_x | apply then_r | apply nog_n | apply nog_r | apply block_r | apply block_e (by decide) | apply block_x (by decide))))
  (repeat (first | apply aw_seq | apply aw_block | apply aw_skip | apply aw_label | apply aw_exit | ((first | refine aw_region (hideO fun QQ hQQ => ?_) | refine aw_draw mixed (hideD fun QQ hQQ => ?_)); simp (maxSteps := 400000) (disch := first | decide | omega) only [hsh, ecast, hsh2, ecast2, go_sem, ↓reduceIte]; try (first | with_reducible refine unhide hQQ ?_ | refine ⟨by kernel_rfl, unhide hQQ ?_⟩); clear hQQ QQ) | with_reducible first | apply then_n | apply block_n | apply then_x | apply then_r | apply nog_n | apply nog_r | apply block_r | apply block_e (by decide) | apply block_x (by decide)))
  refine aw_weak (weak_thr [1, 3, 62, 63, 64] (by simp only [go_sem, ↓reduceIte]; rfl)) ?_
  let FX : List (Nat × Obj') → Nat → Prop := fun hpX nxX => nx + 1 < nxX ∧ AL.get hpX nx = some (.kept fr tm) ∧ AL.get hpX (nx + 1) = some (.box (buC N lo hi top bales tests)) ∧ ∀ id o, id < nx → AL.get hp id = some o → AL.get hpX id = some o
  refine aw_loop_hp (ι := { i : Nat // i ≤ bales.length }) (fun i => [(64, iA i.1)]) (fun _ => FX) (fun i => bales.length - i.1) ⟨0, by omega⟩ (by first | rfl | (simp only [go_sem, ↓reduceIte]; rfl)) ?_ ?_
  · exact ⟨by dsimp only; omega, by simp (disch := first | decide | omega) only [go_sem, ↓reduceIte]; try rfl, by simp (disch := first | decide | omega) only [go_sem, ↓reduceIte]; try rfl, fun id o hl h => by simp (disch := first | decide | omega) only [go_sem, ↓reduceIte]; exact h⟩
  rintro ⟨i, hiB⟩ hpX nxX ⟨f0, f1, f2, f5⟩
  simp (disch := decide) only [ov, ovL, AL.get_nil, AL.get_eq, AL.get_ne, Option.getD_some, Option.getD_none]
  simp only [buC] at f2
  by_cases hil : i < bales.length
  · have hbi := hbal (bales.getD i (0, 0))
    rw [hbg i hil] at hbi
    obtain ⟨⟨s, p⟩, hsp⟩ : ∃ q, bales.getD i (0, 0) = q := ⟨_, rfl⟩
    rw [hsp] at hbi
    dsimp only at hbi
    have v1 := ok_within s 0 ((y - 1 : Nat) : Int)
    have v2 := ok_within p 0 ((y - 1 : Nat) : Int)
    have hbi := hbi.symm
    rw [Bool.and_eq_true, Bool.and_eq_true, decide_eq_true_iff] at hbi
    obtain ⟨⟨c1, c2⟩, c3⟩ := hbi
    rw [c1] at v1
    rw [c2] at v2
    simp only [inB, Bool.and_eq_true, decide_eq_true_eq] at c1 c2
    obtain ⟨s, rfl⟩ : ∃ k : Nat, s = k := ⟨s.toNat, by omega⟩
    obtain ⟨p, rfl⟩ : ∃ k : Nat, p = k := ⟨p.toNat, by omega⟩
    rw [Int.toNat_natCast, Int.toNat_natCast] at c3
    have hd : ∀ (T : TypeId) (p' q : Operand), binA Try.prog .andNot T p' q (.int .i64 (s : Int)) (.int .i64 (p : Int)) = some (.int .i64 ((diffN s p : Nat) : Int)) := fun T p' q => bin_andNot_nat T p' q (by omega) (by omega)
    (repeat (first | apply aw_seq | apply aw_block | apply aw_skip | apply aw_label | apply aw_exit | ((first | refine aw_region (hideO fun QQ hQQ => ?_) | refine aw_draw mixed (hideD fun QQ hQQ => ?_)); simp (maxSteps := 400000) (disch := first | decide | omega) only [hsp, hd, c3, f1, f2, go_sem, ↓reduceIte]; try (first | with_reducible refine unhide hQQ ?_ | refine ⟨by kernel_rfl, unhide hQQ ?_⟩); clear hQQ QQ) | with_reducible first | apply then_n | apply block_n | apply then_x | apply then_r | apply nog_n | apply nog_r | apply block_r | apply block_e (by decide) | apply block_x (by decide)))
    refine aw_cond2 (by simp (disch := first | decide | omega) only [hsp, hd, c3, f1, f2, go_sem, ↓reduceIte]; rfl) ?_; first | refine .inl ⟨by first | rfl | exact decide_eq_true (by omega) | exact decide_eq_true (by assumption) | (simp (disch := first | decide | omega) only [if_pos_d, if_neg_d, decide_eq_true_eq, Bool.not_eq_true', decide_eq_false_iff_not]; omega), ?_⟩ | refine .inr ⟨by first | rfl | exact decide_eq_false (by omega) | exact decide_eq_false (by assumption) | (simp (disch := first | decide | omega) only [if_pos_d, if_neg_d, decide_eq_true_eq, Bool.not_eq_true', decide_eq_false_iff_not]; omega), ?_⟩
    (repeat (first | apply aw_seq | apply aw_block | apply aw_skip | apply aw_label | apply aw_exit | ((first | refine aw_region (hideO fun QQ hQQ => ?_) | refine aw_draw mixed (hideD fun QQ hQQ => ?_)); simp (maxSteps := 400000) (disch := first | decide | omega) only [hsp, hd, c3, f1, f2, go_sem, ↓reduceIte]; try (first | with_reducible refine unhide hQQ ?_ | refine ⟨by kernel_rfl, unhide hQQ ?_⟩); clear hQQ QQ) | with_reducible first | apply then_n | apply block_n | apply then_x | apply then_r | apply nog_n | apply nog_r | apply block_r | apply block_e (by decide) | apply block_x (by decide)))
    (refine callO_ok rfl rfl 86 true rfl (by simp (disch := first | decide | omega) only [hsp, hd, c3, f1, f2, go_sem, ↓reduceIte]; try rfl) (fun _ => rfl) (v1) Try.func86 rfl (by decide) ?_); simp (maxSteps := 400000) (disch := first | decide | omega) only [hsp, hd, c3, f1, f2, go_sem, ↓reduceIte]; (try (with_reducible refine unhide hQQ ?_; clear hQQ QQ; (repeat with_reducible first | apply then_n | apply block_n | apply then_x | apply then_r | apply nog_n | apply nog_r | apply block_r | apply block_e (by decide) | apply block_x (by decide))))
    (refine callO_ok rfl rfl 86 true rfl (by simp (disch := first | decide | omega) only [hsp, hd, c3, f1, f2, go_sem, ↓reduceIte]; try rfl) (fun _ => rfl) (v2) Try.func86 rfl (by decide) ?_); simp (maxSteps := 400000) (disch := first | decide | omega) only [hsp, hd, c3, f1, f2, go_sem, ↓reduceIte]; (try (with_reducible refine unhide hQQ ?_; clear hQQ QQ; (repeat with_reducible first | apply then_n | apply block_n | apply then_x | apply then_r | apply nog_n | apply nog_r | apply block_r | apply block_e (by decide) | apply block_x (by decide))))
    ((refine callO_ok rfl rfl 76 true rfl (by simp (disch := first | decide | omega) only [hsp, hd, c3, f1, f2, go_sem, ↓reduceIte]; try rfl) (fun _ => rfl) (hm) Try.func76 rfl (by decide) ?_); simp (maxSteps := 400000) (disch := first | decide | omega) only [hsp, hd, c3, f1, f2, go_sem, ↓reduceIte]; try (with_reducible refine unhide hQQ ?_; clear hQQ QQ)); (repeat (first | apply aw_seq | apply aw_block | apply aw_skip | apply aw_label | apply aw_exit | ((first | refine aw_region (hideO fun QQ hQQ => ?_) | refine aw_draw mixed (hideD fun QQ hQQ => ?_)); simp (maxSteps := 400000) (disch := first | decide | omega) only [hsp, hd, c3, f1, f2, go_sem, ↓reduceIte]; try (first | with_reducible refine unhide hQQ ?_ | refine ⟨by kernel_rfl, unhide hQQ ?_⟩); clear hQQ QQ) | with_reducible first | apply then_n | apply block_n | apply then_x | apply then_r | apply nog_n | apply nog_r | apply block_r | apply block_e (by decide) | apply block_x (by decide)))
    refine ⟨⟨i + 1, by omega⟩, ?_, ?_, ?_⟩
    · simp only; omega
    · exact ⟨by dsimp only; omega, by simp (disch := first | decide | omega) only [hsp, hd, c3, f1, f2, go_sem, ↓reduceIte], by simp (disch := first | decide | omega) only [hsp, hd, c3, f1, f2, go_sem, ↓reduceIte]; rfl, fun id o hl h => by simp (disch := first | decide | omega) only [hsp, hd, c3, f1, f2, go_sem, ↓reduceIte]; exact f5 id o hl h⟩
    · first | rfl | (simp only [hsp, hd, c3, f1, f2, go_sem, ↓reduceIte]; rfl)
  · have hie : i = bales.length := by omega
    subst hie
    clear hbal
    (repeat (first | apply aw_seq | apply aw_block | apply aw_skip | apply aw_label | apply aw_exit | ((first | refine aw_region (hideO fun QQ hQQ => ?_) | refine aw_draw mixed (hideD fun QQ hQQ => ?_)); simp (maxSteps := 400000) (disch := first | decide | omega) only [f1, f2, go_sem, ↓reduceIte]; try (first | with_reducible refine unhide hQQ ?_ | refine ⟨by kernel_rfl, unhide hQQ ?_⟩); clear hQQ QQ) | with_reducible first | apply then_n | apply block_n | apply then_x | apply then_r | apply nog_n | apply nog_r | apply block_r | apply block_e (by decide) | apply block_x (by decide)))
    refine aw_cond2 (by simp (disch := first | decide | omega) only [f1, f2, go_sem, ↓reduceIte]; rfl) ?_; first | refine .inl ⟨by first | rfl | exact decide_eq_true (by omega) | exact decide_eq_true (by assumption) | (simp (disch := first | decide | omega) only [if_pos_d, if_neg_d, decide_eq_true_eq, Bool.not_eq_true', decide_eq_false_iff_not]; omega), ?_⟩ | refine .inr ⟨by first | rfl | exact decide_eq_false (by omega) | exact decide_eq_false (by assumption) | (simp (disch := first | decide | omega) only [if_pos_d, if_neg_d, decide_eq_true_eq, Bool.not_eq_true', decide_eq_false_iff_not]; omega), ?_⟩
    (repeat (first | apply aw_seq | apply aw_block | apply aw_skip | apply aw_label | apply aw_exit | ((first | refine aw_region (hideO fun QQ hQQ => ?_) | refine aw_draw mixed (hideD fun QQ hQQ => ?_)); simp (maxSteps := 400000) (disch := first | decide | omega) only [f1, f2, go_sem, ↓reduceIte]; try (first | with_reducible refine unhide hQQ ?_ | refine ⟨by kernel_rfl, unhide hQQ ?_⟩); clear hQQ QQ) | with_reducible first | apply then_n | apply block_n | apply then_x | apply then_r | apply nog_n | apply nog_r | apply block_r | apply block_e (by decide) | apply block_x (by decide)))
    refine aw_weak (weak_thr [1, 89, 90, 91] (by simp only [f1, f2, go_sem, ↓reduceIte]; rfl)) ?_
    refine aw_loop_hp (ι := { i : Nat // i ≤ tests.length }) (fun i => [(91, iA i.1)]) (fun _ => FX) (fun i => tests.length - i.1) ⟨0, by omega⟩ (by first | rfl | (simp only [f1, f2, go_sem, ↓reduceIte]; rfl)) ?_ ?_
    · exact ⟨by dsimp only; omega, by simp (disch := first | decide | omega) only [f1, f2, go_sem, ↓reduceIte]; try rfl, by simp (disch := first | decide | omega) only [f1, f2, go_sem, ↓reduceIte]; try rfl, fun id o hl h => by simp (disch := first | decide | omega) only [f1, f2, go_sem, ↓reduceIte]; exact f5 id o hl h⟩
    clear f0 f1 f2 f5
    rintro ⟨k, hk⟩ hpY nxY ⟨f0, f1, f2, f5⟩
    simp (disch := decide) only [ov, ovL, AL.get_nil, AL.get_eq, AL.get_ne, Option.getD_some, Option.getD_none]
    simp only [buC] at f2
    by_cases hkl : k < tests.length
    · have hck := htg k hkl
      obtain ⟨⟨c, fb⟩, hc⟩ : ∃ t, tests.getD k (0, false) = t := ⟨_, rfl⟩
      rw [hc] at hck
      dsimp only at hck
      have v1 := ok_within c 0 ((bales.length : Int) - 1)
      rw [hck] at v1
      (repeat (first | apply aw_seq | apply aw_block | apply aw_skip | apply aw_label | apply aw_exit | ((first | refine aw_region (hideO fun QQ hQQ => ?_) | refine aw_draw mixed (hideD fun QQ hQQ => ?_)); simp (maxSteps := 400000) (disch := first | decide | omega) only [hc, f1, f2, go_sem, ↓reduceIte]; try (first | with_reducible refine unhide hQQ ?_ | refine ⟨by kernel_rfl, unhide hQQ ?_⟩); clear hQQ QQ) | with_reducible first | apply then_n | apply block_n | apply then_x | apply then_r | apply nog_n | apply nog_r | apply block_r | apply block_e (by decide) | apply block_x (by decide)))
      refine aw_cond2 (by simp (disch := first | decide | omega) only [hc, f1, f2, go_sem, ↓reduceIte]; rfl) ?_; first | refine .inl ⟨by first | rfl | exact decide_eq_true (by omega) | exact decide_eq_true (by assumption) | (simp (disch := first | decide | omega) only [if_pos_d, if_neg_d, decide_eq_true_eq, Bool.not_eq_true', decide_eq_false_iff_not]; omega), ?_⟩ | refine .inr ⟨by first | rfl | exact decide_eq_false (by omega) | exact decide_eq_false (by assumption) | (simp (disch := first | decide | omega) only [if_pos_d, if_neg_d, decide_eq_true_eq, Bool.not_eq_true', decide_eq_false_iff_not]; omega), ?_⟩
      (repeat (first | apply aw_seq | apply aw_block | apply aw_skip | apply aw_label | apply aw_exit | ((first | refine aw_region (hideO fun QQ hQQ => ?_) | refine aw_draw mixed (hideD fun QQ hQQ => ?_)); simp (maxSteps := 400000) (disch := first | decide | omega) only [hc, f1, f2, go_sem, ↓reduceIte]; try (first | with_reducible refine unhide hQQ ?_ | refine ⟨by kernel_rfl, unhide hQQ ?_⟩); clear hQQ QQ) | with_reducible first | apply then_n | apply block_n | apply then_x | apply then_r | apply nog_n | apply nog_r | apply block_r | apply block_e (by decide) | apply block_x (by decide)))
      (refine callO_ok rfl rfl 86 true rfl (by simp (disch := first | decide | omega) only [hc, f1, f2, go_sem, ↓reduceIte]; try rfl) (fun _ => rfl) (v1) Try.func86 rfl (by decide) ?_); simp (maxSteps := 400000) (disch := first | decide | omega) only [hc, f1, f2, go_sem, ↓reduceIte]; (try (with_reducible refine unhide hQQ ?_; clear hQQ QQ; (repeat with_reducible first | apply then_n | apply block_n | apply then_x | apply then_r | apply nog_n | apply nog_r | apply block_r | apply block_e (by decide) | apply block_x (by decide))))
      ((refine callO_ok rfl rfl 76 true rfl (by simp (disch := first | decide | omega) only [hc, f1, f2, go_sem, ↓reduceIte]; try rfl) (fun _ => rfl) (hm) Try.func76 rfl (by decide) ?_); simp (maxSteps := 400000) (disch := first | decide | omega) only [hc, f1, f2, go_sem, ↓reduceIte]; try (with_reducible refine unhide hQQ ?_; clear hQQ QQ)); (repeat (first | apply aw_seq | apply aw_block | apply aw_skip | apply aw_label | apply aw_exit | ((first | refine aw_region (hideO fun QQ hQQ => ?_) | refine aw_draw mixed (hideD fun QQ hQQ => ?_)); simp (maxSteps := 400000) (disch := first | decide | omega) only [hc, f1, f2, go_sem, ↓reduceIte]; try (first | with_reducible refine unhide hQQ ?_ | refine ⟨by kernel_rfl, unhide hQQ ?_⟩); clear hQQ QQ) | with_reducible first | apply then_n | apply block_n | apply then_x | apply then_r | apply nog_n | apply nog_r | apply block_r | apply block_e (by decide) | apply block_x (by decide)))
      refine ⟨⟨k + 1, by omega⟩, ?_, ?_, ?_⟩
      · simp only; omega
      · exact ⟨by dsimp only; omega, by simp (disch := first | decide | omega) only [hc, f1, f2, go_sem, ↓reduceIte], by simp (disch := first | decide | omega) only [hc, f1, f2, go_sem, ↓reduceIte]; rfl, fun id o hl h => by simp (disch := first | decide | omega) only [hc, f1, f2, go_sem, ↓reduceIte]; exact f5 id o hl h⟩
      · first | rfl | (simp only [hc, f1, f2, go_sem, ↓reduceIte]; rfl)
    · have hke : k = tests.length := by omega
      subst hke
      (repeat (first | apply aw_seq | apply aw_block | apply aw_skip | apply aw_label | apply aw_exit | ((first | refine aw_region (hideO fun QQ hQQ => ?_) | refine aw_draw mixed (hideD fun QQ hQQ => ?_)); simp (maxSteps := 400000) (disch := first | decide | omega) only [f1, f2, go_sem, ↓reduceIte]; try (first | with_reducible refine unhide hQQ ?_ | refine ⟨by kernel_rfl, unhide hQQ ?_⟩); clear hQQ QQ) | with_reducible first | apply then_n | apply block_n | apply then_x | apply then_r | apply nog_n | apply nog_r | apply block_r | apply block_e (by decide) | apply block_x (by decide)))
      refine aw_cond2 (by simp (disch := first | decide | omega) only [f1, f2, go_sem, ↓reduceIte]; rfl) ?_; first | refine .inl ⟨by first | rfl | exact decide_eq_true (by omega) | exact decide_eq_true (by assumption) | (simp (disch := first | decide | omega) only [if_pos_d, if_neg_d, decide_eq_true_eq, Bool.not_eq_true', decide_eq_false_iff_not]; omega), ?_⟩ | refine .inr ⟨by first | rfl | exact decide_eq_false (by omega) | exact decide_eq_false (by assumption) | (simp (disch := first | decide | omega) only [if_pos_d, if_neg_d, decide_eq_true_eq, Bool.not_eq_true', decide_eq_false_iff_not]; omega), ?_⟩
      (repeat (first | with_reducible refine then_n ?_ | with_reducible refine block_n ?_))
      refine aw_exit ?_
      (repeat (first | with_reducible refine then_n ?_ | with_reducible refine block_x rfl ?_ | with_reducible refine block_n ?_))
      refine aw_weak (weak_sub (T := ⟨[(1, .one (.box (nx + 1) 0))], (nx + 1, .box (buC N lo hi top bales tests)) :: (nx, .kept fr tm) :: hp, nx + 1 + 1⟩) ?_ ?_ (closed_box hcl tm _ _ rfl ?_)) ?_
      rotate_left 3
      · simp only [buC]
        refine tw ?_; try with_reducible intro QQ hQQ
        refine aw_ret ⟨.inr rfl, _, by simp (disch := first | decide | omega) only [go_sem, ↓reduceIte]; try rfl, by simp (disch := first | decide | omega) only [go_sem, ↓reduceIte]; try rfl, ⟨fr, (nx + 1 + 1, .box (buC N lo hi top bales tests)) :: hp, nx + 1 + 1 + 1⟩, rfl, ?_, ?_, ?_, rfl, rfl⟩
        · have hh := Closed.new (o := .box (buC N lo hi top bales tests)) (id := nx + 1 + 1) (nx' := nx + 1 + 1 + 1) hcl (by dsimp only; omega) (by omega) (fun _ _ h => by cases h) (fun i hi => by cases hi)
          exact hh
        · intro id o ho
          have ho : AL.get ((nx + 1 + 1, Obj'.box (buC N lo hi top bales tests)) :: hp) id = some o := ho
          by_cases e3 : id = nx + 1 + 1
          · subst e3
            rw [AL.get_eq] at ho
            cases ho
            exact AL.get_eq _ _ _
          · rw [AL.get_ne _ _ e3] at ho
            have := hlt id o ho
            simp (disch := first | decide | omega) only [go_sem, ↓reduceIte]
            exact ho
        · intro i hi
          simp only [refsV, refsC, List.mem_singleton] at hi
          subst hi
          exact ⟨_, AL.get_eq _ _ _⟩
      · intro t av ht
        by_cases e1 : t = 1
        · subst e1
          rw [AL.get_eq] at ht
          cases ht
          rfl
        · rw [AL.get_ne _ _ e1] at ht
          cases ht
      · intro id o ho
        by_cases e1 : id = nx + 1
        · subst e1
          rw [AL.get_eq] at ho
          cases ho
          exact f2
        · rw [AL.get_ne _ _ e1] at ho
          by_cases e2 : id = nx
          · subst e2
            rw [AL.get_eq] at ho
            cases ho
            exact f1
          · rw [AL.get_ne _ _ e2] at ho
            exact f5 id o (hlt id o ho) ho
      · intro t av ht
        by_cases e1 : t = 1
        · subst e1
          rw [AL.get_eq] at ht
          cases ht
          exact .inr rfl
        · rw [AL.get_ne _ _ e1] at ht
          cases ht
end
end Go.Proofs.Ytknikcpeacmpmaa
