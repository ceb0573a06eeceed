/- tally: a tally is opened. -/
import Derived.Test.YtejbglbiefpagaaTvG
set_option linter.all false
namespace Go.Proofs.Ytejbglbiefpagaa
open Go Go.RowKit Go.Sh Go.Pv
set_option maxHeartbeats 8000000
set_option maxRecDepth 20000
attribute [local go_sem] row4 get_some4
/-- A tally that is valid. -/
def validB (n most : Int) (strays : List (Int × Int)) (calls : List (Int × Int × Int × Int)) : Bool :=
  (((inB n 1 5 && inB most 0 60) && decide ((strays.length : Int) = n - 1)) && decide ((calls.length : Int) ≤ 8)) && (strays.all fun s => spanB s.1 s.2 (-3) 3) && calls.all fun c => isCallB n c
theorem all_getD {α : Type} {p : α → Bool} {l : List α} {d : α} : (l.all p = true) ↔ ∀ i, i < l.length → p (l.getD i d) = true := by
  rw [List.all_eq_true]
  refine ⟨fun h i hi => ?_, fun h x hx => ?_⟩
  · rw [List.getD_eq_getElem?_getD, List.getElem?_eq_getElem hi]
    exact h _ (List.getElem_mem hi)
  · obtain ⟨i, hi, rfl⟩ := List.getElem_of_mem hx
    have := h i hi
    rwa [List.getD_eq_getElem?_getD, List.getElem?_eq_getElem hi] at this
theorem all_getD_f {α : Type} {p : α → Bool} {l : List α} {d : α} {i : Nat} (hi : i < l.length) (h : p (l.getD i d) = false) : l.all p = false := by
  rw [List.all_eq_false]
  rw [List.getD_eq_getElem?_getD, List.getElem?_eq_getElem hi] at h
  exact ⟨_, List.getElem_mem hi, by simpa using h⟩
theorem tok_of {n most : Int} {strays : List (Int × Int)} {calls : List (Int × Int × Int × Int)} (h : validB n most strays calls = true) : n = n.toNat ∧ TOK n.toNat most strays calls := by
  simp only [validB, inB, Bool.and_eq_true, decide_eq_true_eq] at h
  obtain ⟨⟨⟨⟨⟨h1, h2⟩, h3⟩, h4⟩, h5⟩, h6⟩ := h
  have hn : n = n.toNat := by omega
  refine ⟨hn, by omega, by omega, by omega, by omega, by omega, by omega, all_getD.1 h5, fun i hi => ?_⟩
  have := (all_getD (d := (0, 0, 0, 0))).1 h6 i hi
  rw [hn] at this
  exact this
theorem tok_to {N : Nat} {most : Int} {strays : List (Int × Int)} {calls : List (Int × Int × Int × Int)} (h : TOK N most strays calls) : validB N most strays calls = true := by
  simp only [validB, inB, Bool.and_eq_true, decide_eq_true_eq]
  have := h.n1; have := h.n5; have := h.m0; have := h.m60; have := h.sl; have := h.cl
  refine ⟨⟨⟨⟨⟨?_, ?_⟩, ?_⟩, ?_⟩, all_getD.2 h.st⟩, all_getD.2 h.ca⟩ <;> omega
section
variable {n most : Int} {strays : List (Int × Int)} {calls : List (Int × Int × Int × Int)}
theorem c_open {Z : Zn} {w0 : World} {cap : Nat → Prop} {nt : Nat} {rd : Option Nat} {pan : List PanicEntry → St → Prop} {df : Option Nat} {dk : List Nat} {rg : Bool} {fr : List (Nat × AV)} {hp : List (Nat × Obj')} {nx : Nat} {g : FuncId} {caps : List CC} {gn : Func}
    (hg : Try.prog.funcs[g]? = some gn) (hgb : gn.body.isSome = true) (hgn : gn.name ≠ "runtime.NumGoroutine") (b : Bool)
    (hIS : validB n most strays calls = true → ∀ (K : Kx) (hpX : List (Nat × Obj')) (nxX : Nat) (fr : List (Nat × AV)), K.P = Try.prog → AL.get hpX (nx + 1 + 1 + 1) = some (.box (ydC n most strays calls (nx + 1 + 1))) → AL.get hpX (nx + 1 + 1) = some (.memo Try.prog 135 (keepI (tabF n.toNat most strays calls))) →
      (∀ id o, id < nx → AL.get hp id = some o → AL.get hpX id = some o) → CallF K g ([.one (.box (nx + 1 + 1 + 1) 0)] ++ caps.map capV) ⟨fr, hpX, nxX⟩ fun st' av => st' = ⟨fr, hpX, nxX⟩ ∧ av = .one (.p (.v (.bool b))))
    {Q : St → AV → Prop} (hok : validB n most strays calls = true → b = true → Q ⟨fr, (nx + 1 + 1 + 1, .box (ydC n most strays calls (nx + 1 + 1))) :: (nx + 1 + 1, .memo Try.prog 135 (keepI (tabF n.toNat most strays calls))) :: hp, nx + 1 + 1 + 1 + 1⟩ (.one (.box (nx + 1 + 1 + 1) 0)))
    (harg : validB n most strays calls = false → pan [{ v := stopV 1, recovered := false }] ⟨fr, hp, nx⟩) (hran : validB n most strays calls = true → b = false → pan [{ v := stopV 2, recovered := false }] ⟨fr, hp, nx⟩) :
    CallF ⟨Try.prog, Z, w0, cap, nt, rd, pan, df, dk, rg⟩ 48 [.agg [.p (iP n), .p (iP most), .p (.sl (strays.map row2)), .p (.sl (calls.map row4))], .one (.fn g caps)] ⟨fr, hp, nx⟩ Q := by
  (refine callF_to (nt := 66) (rs := [.tmp 4]) Try.func48 rfl rfl rfl (by simp) fun hcl tm Ds => ?_); simp only [initV]
  dsimp only [Kx.calleeT]
  have hlt := hcl.lt
  dsimp only at hlt
  have hback : ∀ {hpZ : List (Nat × Obj')} {v : Value}, pan [{ v := v, recovered := false }] ⟨fr, hp, nx⟩ → AL.get hpZ nx = some (.kept fr tm) → (∀ id o, id < nx → AL.get hp id = some o → AL.get hpZ id = some o) →
      AL.get hpZ nx = some (.kept fr tm) ∧ ∃ T : St, Go.Pv.Left ⟨fr, hp, nx⟩ ⟨[], hpZ, 0⟩ T ∧ pan [{ v := v, recovered := false }] T :=
    fun h1 h2 h3 => ⟨h2, ⟨fr, hp, nx⟩, ⟨rfl, hcl, fun id o ho => h3 id o (hlt id o ho) ho⟩, h1⟩
  have w1 := ok_within n 1 5
  have w2 := ok_within most 0 60
  refine tw ?_; try with_reducible intro QQ hQQ
  refine ⟨rfl, .inr ⟨rfl, callS_makeMap rfl rfl 135 (keepI (tabF n.toNat most strays calls)) ?_⟩⟩
  (refine ts ?_; try clear hQQ QQ)
  refine tw ?_; try with_reducible intro QQ hQQ
  cases b1 : inB n 1 5
  · rw [b1] at w1
    (refine cO 60 rfl rfl rfl (w1) Try.func60 rfl ?_); refine ts ?_; try clear hQQ QQ
    (refine ⟨rfl, .inr ⟨rfl, callS_x rfl 96 ⟨by simp (disch := first | decide | omega) only [go_sem, ↓reduceIte]; try rfl, by simp (disch := first | decide | omega) only [go_sem, ↓reduceIte]; try rfl⟩ Try.func96 rfl (by decide) (x_must 1) ?_⟩⟩)
    exact hback (harg (by simp [validB, b1])) (by simp (disch := first | decide | omega) only [go_sem, ↓reduceIte]; try rfl) (by intro id o hl h; simp (disch := first | decide | omega) only [go_sem, ↓reduceIte]; exact h)
  have hn1 : 1 ≤ n ∧ n ≤ 5 := by simpa [inB] using b1
  rw [b1] at w1
  cases b2 : inB most 0 60
  · rw [b2] at w2
    (refine cO 60 rfl rfl rfl (w1) Try.func60 rfl ?_); refine ts ?_; try clear hQQ QQ
    (refine cO 60 rfl rfl rfl (w2) Try.func60 rfl ?_); refine ts ?_; try clear hQQ QQ
    (refine ⟨rfl, .inr ⟨rfl, callS_x rfl 96 ⟨by simp (disch := first | decide | omega) only [go_sem, ↓reduceIte]; try rfl, by simp (disch := first | decide | omega) only [go_sem, ↓reduceIte]; try rfl⟩ Try.func96 rfl (by decide) (x_must 1) ?_⟩⟩)
    exact hback (harg (by simp [validB, b1, b2])) (by simp (disch := first | decide | omega) only [go_sem, ↓reduceIte]; try rfl) (by intro id o hl h; simp (disch := first | decide | omega) only [go_sem, ↓reduceIte]; exact h)
  rw [b2] at w2
  by_cases b3 : (strays.length : Int) = n - 1
  rotate_left
  · (refine cO 60 rfl rfl rfl (w1) Try.func60 rfl ?_); refine ts ?_; try clear hQQ QQ
    (refine cO 60 rfl rfl rfl (w2) Try.func60 rfl ?_); refine ts ?_; try clear hQQ QQ
    (refine ⟨rfl, .inr ⟨rfl, callS_x rfl 96 ⟨by simp (disch := first | decide | omega) only [go_sem, ↓reduceIte]; try rfl, by simp (disch := first | decide | omega) only [go_sem, ↓reduceIte]; try rfl⟩ Try.func96 rfl (by decide) (x_must 1) ?_⟩⟩)
    exact hback (harg (by simp [validB, b1, b2, b3])) (by simp (disch := first | decide | omega) only [go_sem, ↓reduceIte]; try rfl) (by intro id o hl h; simp (disch := first | decide | omega) only [go_sem, ↓reduceIte]; exact h)
  by_cases b4 : (calls.length : Int) ≤ 8
  rotate_left
  · (refine cO 60 rfl rfl rfl (w1) Try.func60 rfl ?_); refine ts ?_; try clear hQQ QQ
    (refine cO 60 rfl rfl rfl (w2) Try.func60 rfl ?_); refine ts ?_; try clear hQQ QQ
    (refine ⟨rfl, .inr ⟨rfl, callS_x rfl 96 ⟨by simp (disch := first | decide | omega) only [go_sem, ↓reduceIte]; try rfl, by simp (disch := first | decide | omega) only [go_sem, ↓reduceIte]; try rfl⟩ Try.func96 rfl (by decide) (x_must 1) ?_⟩⟩)
    exact hback (harg (by simp [validB, b1, b2, b3, b4])) (by simp (disch := first | decide | omega) only [go_sem, ↓reduceIte]; try rfl) (by intro id o hl h; simp (disch := first | decide | omega) only [go_sem, ↓reduceIte]; exact h)
  (refine cO 60 rfl rfl rfl (w1) Try.func60 rfl ?_); refine ts ?_; try clear hQQ QQ
  (refine cO 60 rfl rfl rfl (w2) Try.func60 rfl ?_); refine ts ?_; try clear hQQ QQ
  ((refine cO 96 rfl rfl rfl (ok_must 1) Try.func96 rfl ?_); refine tu ?_; try clear hQQ QQ); refine tw ?_; try with_reducible intro QQ hQQ
  refine aw_weak (weak_thr [1, 2, 5, 39, 40, 41] (by simp only [go_sem, ↓reduceIte]; rfl)) ?_
  let FX : List (Nat × Obj') → Nat → Prop := fun hpX nxX => nx + 1 + 1 + 1 < nxX ∧ AL.get hpX nx = some (.kept fr tm) ∧ AL.get hpX (nx + 1) = some (.box [.p (iP n), .p (iP most), .p (.sl (strays.map row2)), .p (.sl (calls.map row4))]) ∧ AL.get hpX (nx + 1 + 1) = some (.memo Try.prog 135 (keepI (tabF n.toNat most strays calls))) ∧
    AL.get hpX (nx + 1 + 1 + 1) = some (.box (ydC n most strays calls (nx + 1 + 1))) ∧ ∀ id o, id < nx → AL.get hp id = some o → AL.get hpX id = some o
  refine aw_loop_hp (ι := { i : Nat // i ≤ strays.length ∧ ∀ k, k < i → spanB (strays.getD k (0, 0)).1 (strays.getD k (0, 0)).2 (-3) 3 = true }) (fun i => [(41, iA i.1)]) (fun _ => FX) (fun i => strays.length - i.1) ⟨0, by omega, fun k hk => by omega⟩ (by first | rfl | (simp only [go_sem, ↓reduceIte]; rfl)) ?_ ?_
  · exact ⟨by dsimp only; omega, by simp (disch := first | decide | omega) only [go_sem, ↓reduceIte]; try rfl, by simp (disch := first | decide | omega) only [go_sem, ↓reduceIte]; try rfl, by simp (disch := first | decide | omega) only [go_sem, ↓reduceIte]; try rfl, by simp (disch := first | decide | omega) only [go_sem, ↓reduceIte]; try rfl, fun id o hl h => by simp (disch := first | decide | omega) only [go_sem, ↓reduceIte]; exact h⟩
  rintro ⟨i, hi, hv⟩ hpX nxX ⟨f0, f1, f2, f3, f4, f5⟩
  simp (disch := decide) only [ov, ovL, AL.get_nil, AL.get_eq, AL.get_ne, Option.getD_some, Option.getD_none]
  by_cases hil : i < strays.length
  · have hsp := ok_isSpan (strays.getD i (0, 0)).1 (strays.getD i (0, 0)).2 (-3) 3
    (repeat (first | apply aw_seq | apply aw_block | apply aw_skip | apply aw_label | apply aw_exit | ((first | refine aw_region (hideO fun QQ hQQ => ?_) | refine aw_draw mixed (hideD fun QQ hQQ => ?_)); simp (maxSteps := 400000) (disch := first | decide | omega) only [f1, f2, f3, f4, go_sem, ↓reduceIte]; try (first | with_reducible refine unhide hQQ ?_ | refine ⟨by kernel_rfl, unhide hQQ ?_⟩); clear hQQ QQ) | with_reducible first | apply then_n | apply block_n | apply then_x | apply then_r | apply nog_n | apply nog_r | apply block_r | apply block_e (by decide) | apply block_x (by decide)))
    refine aw_cond2 (by simp (disch := first | decide | omega) only [f1, f2, f3, f4, go_sem, ↓reduceIte]; rfl) ?_; first | refine .inl ⟨by first | rfl | exact decide_eq_true (by omega) | exact decide_eq_true (by assumption) | (simp (disch := first | decide | omega) only [if_pos_d, if_neg_d, decide_eq_true_eq, Bool.not_eq_true', decide_eq_false_iff_not]; omega), ?_⟩ | refine .inr ⟨by first | rfl | exact decide_eq_false (by omega) | exact decide_eq_false (by assumption) | (simp (disch := first | decide | omega) only [if_pos_d, if_neg_d, decide_eq_true_eq, Bool.not_eq_true', decide_eq_false_iff_not]; omega), ?_⟩
    (repeat (first | apply aw_seq | apply aw_block | apply aw_skip | apply aw_label | apply aw_exit | ((first | refine aw_region (hideO fun QQ hQQ => ?_) | refine aw_draw mixed (hideD fun QQ hQQ => ?_)); simp (maxSteps := 400000) (disch := first | decide | omega) only [f1, f2, f3, f4, go_sem, ↓reduceIte]; try (first | with_reducible refine unhide hQQ ?_ | refine ⟨by kernel_rfl, unhide hQQ ?_⟩); clear hQQ QQ) | with_reducible first | apply then_n | apply block_n | apply then_x | apply then_r | apply nog_n | apply nog_r | apply block_r | apply block_e (by decide) | apply block_x (by decide)))
    cases bs : spanB (strays.getD i (0, 0)).1 (strays.getD i (0, 0)).2 (-3) 3
    · rw [bs] at hsp
      (refine callO_ok rfl rfl 97 true rfl (by simp (disch := first | decide | omega) only [f1, f2, f3, f4, go_sem, ↓reduceIte]; try rfl) (fun _ => rfl) (hsp) Try.func97 rfl (by decide) ?_); simp (maxSteps := 400000) (disch := first | decide | omega) only [f1, f2, f3, f4, go_sem, ↓reduceIte]; (try (with_reducible refine unhide hQQ ?_; clear hQQ QQ; (repeat with_reducible first | apply then_n | apply block_n | apply then_x | apply then_r | apply nog_n | apply nog_r | apply block_r | apply block_e (by decide) | apply block_x (by decide))))
      (refine ⟨rfl, .inr ⟨rfl, callS_x rfl 96 ⟨by simp (disch := first | decide | omega) only [f1, f2, f3, f4, go_sem, ↓reduceIte]; try rfl, by simp (disch := first | decide | omega) only [f1, f2, f3, f4, go_sem, ↓reduceIte]; try rfl⟩ Try.func96 rfl (by decide) (x_must 1) ?_⟩⟩)
      refine hback (harg ?_) (by simp (disch := first | decide | omega) only [f1, f2, f3, f4, go_sem, ↓reduceIte]; try rfl) (by intro id o hl h; simp (disch := first | decide | omega) only [f1, f2, f3, f4, go_sem, ↓reduceIte]; exact f5 id o hl h)
      have : (strays.all fun s => spanB s.1 s.2 (-3) 3) = false := all_getD_f hil bs
      simp [validB, this]
    · rw [bs] at hsp
      (refine callO_ok rfl rfl 97 true rfl (by simp (disch := first | decide | omega) only [f1, f2, f3, f4, go_sem, ↓reduceIte]; try rfl) (fun _ => rfl) (hsp) Try.func97 rfl (by decide) ?_); simp (maxSteps := 400000) (disch := first | decide | omega) only [f1, f2, f3, f4, go_sem, ↓reduceIte]; (try (with_reducible refine unhide hQQ ?_; clear hQQ QQ; (repeat with_reducible first | apply then_n | apply block_n | apply then_x | apply then_r | apply nog_n | apply nog_r | apply block_r | apply block_e (by decide) | apply block_x (by decide))))
      ((refine callO_ok rfl rfl 96 true rfl (by simp (disch := first | decide | omega) only [f1, f2, f3, f4, go_sem, ↓reduceIte]; try rfl) (fun _ => rfl) (ok_must 1) Try.func96 rfl (by decide) ?_); simp (maxSteps := 400000) (disch := first | decide | omega) only [f1, f2, f3, f4, go_sem, ↓reduceIte]; try (with_reducible refine unhide hQQ ?_; clear hQQ QQ)); (repeat (first | apply aw_seq | apply aw_block | apply aw_skip | apply aw_label | apply aw_exit | ((first | refine aw_region (hideO fun QQ hQQ => ?_) | refine aw_draw mixed (hideD fun QQ hQQ => ?_)); simp (maxSteps := 400000) (disch := first | decide | omega) only [f1, f2, f3, f4, go_sem, ↓reduceIte]; try (first | with_reducible refine unhide hQQ ?_ | refine ⟨by kernel_rfl, unhide hQQ ?_⟩); clear hQQ QQ) | with_reducible first | apply then_n | apply block_n | apply then_x | apply then_r | apply nog_n | apply nog_r | apply block_r | apply block_e (by decide) | apply block_x (by decide)))
      refine ⟨⟨i + 1, by omega, fun k hk => ?_⟩, ?_, ?_, ?_⟩
      · rcases Nat.lt_succ_iff_lt_or_eq.1 hk with h | rfl
        · exact hv k h
        · exact bs
      · simp only; omega
      · exact ⟨by dsimp only; omega, by simp (disch := first | decide | omega) only [f1, f2, f3, f4, go_sem, ↓reduceIte], by simp (disch := first | decide | omega) only [f1, f2, f3, f4, go_sem, ↓reduceIte], by simp (disch := first | decide | omega) only [f1, f2, f3, f4, go_sem, ↓reduceIte], by simp (disch := first | decide | omega) only [f1, f2, f3, f4, go_sem, ↓reduceIte], fun id o hl h => by simp (disch := first | decide | omega) only [f1, f2, f3, f4, go_sem, ↓reduceIte]; exact f5 id o hl h⟩
      · first | rfl | (simp only [f1, f2, f3, f4, go_sem, ↓reduceIte]; rfl)
  · have hiN : i = strays.length := by omega
    subst hiN
    (repeat (first | apply aw_seq | apply aw_block | apply aw_skip | apply aw_label | apply aw_exit | ((first | refine aw_region (hideO fun QQ hQQ => ?_) | refine aw_draw mixed (hideD fun QQ hQQ => ?_)); simp (maxSteps := 400000) (disch := first | decide | omega) only [f1, f2, f3, f4, go_sem, ↓reduceIte]; try (first | with_reducible refine unhide hQQ ?_ | refine ⟨by kernel_rfl, unhide hQQ ?_⟩); clear hQQ QQ) | with_reducible first | apply then_n | apply block_n | apply then_x | apply then_r | apply nog_n | apply nog_r | apply block_r | apply block_e (by decide) | apply block_x (by decide)))
    refine aw_cond2 (by simp (disch := first | decide | omega) only [f1, f2, f3, f4, go_sem, ↓reduceIte]; rfl) ?_; first | refine .inl ⟨by first | rfl | exact decide_eq_true (by omega) | exact decide_eq_true (by assumption) | (simp (disch := first | decide | omega) only [if_pos_d, if_neg_d, decide_eq_true_eq, Bool.not_eq_true', decide_eq_false_iff_not]; omega), ?_⟩ | refine .inr ⟨by first | rfl | exact decide_eq_false (by omega) | exact decide_eq_false (by assumption) | (simp (disch := first | decide | omega) only [if_pos_d, if_neg_d, decide_eq_true_eq, Bool.not_eq_true', decide_eq_false_iff_not]; omega), ?_⟩
    (repeat (first | apply aw_seq | apply aw_block | apply aw_skip | apply aw_label | apply aw_exit | ((first | refine aw_region (hideO fun QQ hQQ => ?_) | refine aw_draw mixed (hideD fun QQ hQQ => ?_)); simp (maxSteps := 400000) (disch := first | decide | omega) only [f1, f2, f3, f4, go_sem, ↓reduceIte]; try (first | with_reducible refine unhide hQQ ?_ | refine ⟨by kernel_rfl, unhide hQQ ?_⟩); clear hQQ QQ) | with_reducible first | apply then_n | apply block_n | apply then_x | apply then_r | apply nog_n | apply nog_r | apply block_r | apply block_e (by decide) | apply block_x (by decide)))
    refine aw_weak (weak_thr [1, 5, 50, 51, 52] (by simp only [f1, f2, f3, f4, go_sem, ↓reduceIte]; rfl)) ?_
    have hvs : (strays.all fun s => spanB s.1 s.2 (-3) 3) = true := all_getD.2 hv
    refine aw_loop_hp (ι := { i : Nat // i ≤ calls.length ∧ ∀ k, k < i → isCallB n (calls.getD k (0, 0, 0, 0)) = true }) (fun i => [(52, iA i.1)]) (fun _ => FX) (fun i => calls.length - i.1) ⟨0, by omega, fun k hk => by omega⟩ (by first | rfl | (simp only [f1, f2, f3, f4, go_sem, ↓reduceIte]; rfl)) ?_ ?_
    · exact ⟨f0, f1, f2, f3, f4, f5⟩
    clear f0 f1 f2 f3 f4 f5
    rintro ⟨j, hj, hw⟩ hpX2 nxX2 ⟨f0, f1, f2, f3, f4, f5⟩
    simp (disch := decide) only [ov, ovL, AL.get_nil, AL.get_eq, AL.get_ne, Option.getD_some, Option.getD_none]
    simp only [ydC] at f4
    by_cases hjl : j < calls.length
    · have hic := ok_isCall n most strays calls (calls.getD j (0, 0, 0, 0)) (by omega)
      simp only [ydP, row4] at hic
      (repeat (first | apply aw_seq | apply aw_block | apply aw_skip | apply aw_label | apply aw_exit | ((first | refine aw_region (hideO fun QQ hQQ => ?_) | refine aw_draw mixed (hideD fun QQ hQQ => ?_)); simp (maxSteps := 400000) (disch := first | decide | omega) only [f1, f2, f3, f4, go_sem, ↓reduceIte]; try (first | with_reducible refine unhide hQQ ?_ | refine ⟨by kernel_rfl, unhide hQQ ?_⟩); clear hQQ QQ) | with_reducible first | apply then_n | apply block_n | apply then_x | apply then_r | apply nog_n | apply nog_r | apply block_r | apply block_e (by decide) | apply block_x (by decide)))
      refine aw_cond2 (by simp (disch := first | decide | omega) only [f1, f2, f3, f4, go_sem, ↓reduceIte]; rfl) ?_; first | refine .inl ⟨by first | rfl | exact decide_eq_true (by omega) | exact decide_eq_true (by assumption) | (simp (disch := first | decide | omega) only [if_pos_d, if_neg_d, decide_eq_true_eq, Bool.not_eq_true', decide_eq_false_iff_not]; omega), ?_⟩ | refine .inr ⟨by first | rfl | exact decide_eq_false (by omega) | exact decide_eq_false (by assumption) | (simp (disch := first | decide | omega) only [if_pos_d, if_neg_d, decide_eq_true_eq, Bool.not_eq_true', decide_eq_false_iff_not]; omega), ?_⟩
      (repeat (first | apply aw_seq | apply aw_block | apply aw_skip | apply aw_label | apply aw_exit | ((first | refine aw_region (hideO fun QQ hQQ => ?_) | refine aw_draw mixed (hideD fun QQ hQQ => ?_)); simp (maxSteps := 400000) (disch := first | decide | omega) only [f1, f2, f3, f4, go_sem, ↓reduceIte]; try (first | with_reducible refine unhide hQQ ?_ | refine ⟨by kernel_rfl, unhide hQQ ?_⟩); clear hQQ QQ) | with_reducible first | apply then_n | apply block_n | apply then_x | apply then_r | apply nog_n | apply nog_r | apply block_r | apply block_e (by decide) | apply block_x (by decide)))
      cases bc : isCallB n (calls.getD j (0, 0, 0, 0))
      · rw [bc] at hic
        (refine callO_ok rfl rfl 70 true rfl (by simp (disch := first | decide | omega) only [f1, f2, f3, f4, go_sem, ↓reduceIte]; try rfl) (fun _ => rfl) (hic) Try.func70 rfl (by decide) ?_); simp (maxSteps := 400000) (disch := first | decide | omega) only [f1, f2, f3, f4, go_sem, ↓reduceIte]; (try (with_reducible refine unhide hQQ ?_; clear hQQ QQ; (repeat with_reducible first | apply then_n | apply block_n | apply then_x | apply then_r | apply nog_n | apply nog_r | apply block_r | apply block_e (by decide) | apply block_x (by decide))))
        (refine ⟨rfl, .inr ⟨rfl, callS_x rfl 96 ⟨by simp (disch := first | decide | omega) only [f1, f2, f3, f4, go_sem, ↓reduceIte]; try rfl, by simp (disch := first | decide | omega) only [f1, f2, f3, f4, go_sem, ↓reduceIte]; try rfl⟩ Try.func96 rfl (by decide) (x_must 1) ?_⟩⟩)
        refine hback (harg ?_) (by simp (disch := first | decide | omega) only [f1, f2, f3, f4, go_sem, ↓reduceIte]; try rfl) (by intro id o hl h; simp (disch := first | decide | omega) only [f1, f2, f3, f4, go_sem, ↓reduceIte]; exact f5 id o hl h)
        have : (calls.all fun c => isCallB n c) = false := all_getD_f hjl bc
        simp [validB, this]
      · rw [bc] at hic
        (refine callO_ok rfl rfl 70 true rfl (by simp (disch := first | decide | omega) only [f1, f2, f3, f4, go_sem, ↓reduceIte]; try rfl) (fun _ => rfl) (hic) Try.func70 rfl (by decide) ?_); simp (maxSteps := 400000) (disch := first | decide | omega) only [f1, f2, f3, f4, go_sem, ↓reduceIte]; (try (with_reducible refine unhide hQQ ?_; clear hQQ QQ; (repeat with_reducible first | apply then_n | apply block_n | apply then_x | apply then_r | apply nog_n | apply nog_r | apply block_r | apply block_e (by decide) | apply block_x (by decide))))
        ((refine callO_ok rfl rfl 96 true rfl (by simp (disch := first | decide | omega) only [f1, f2, f3, f4, go_sem, ↓reduceIte]; try rfl) (fun _ => rfl) (ok_must 1) Try.func96 rfl (by decide) ?_); simp (maxSteps := 400000) (disch := first | decide | omega) only [f1, f2, f3, f4, go_sem, ↓reduceIte]; try (with_reducible refine unhide hQQ ?_; clear hQQ QQ)); (repeat (first | apply aw_seq | apply aw_block | apply aw_skip | apply aw_label | apply aw_exit | ((first | refine aw_region (hideO fun QQ hQQ => ?_) | refine aw_draw mixed (hideD fun QQ hQQ => ?_)); simp (maxSteps := 400000) (disch := first | decide | omega) only [f1, f2, f3, f4, go_sem, ↓reduceIte]; try (first | with_reducible refine unhide hQQ ?_ | refine ⟨by kernel_rfl, unhide hQQ ?_⟩); clear hQQ QQ) | with_reducible first | apply then_n | apply block_n | apply then_x | apply then_r | apply nog_n | apply nog_r | apply block_r | apply block_e (by decide) | apply block_x (by decide)))
        refine ⟨⟨j + 1, by omega, fun k hk => ?_⟩, ?_, ?_, ?_⟩
        · rcases Nat.lt_succ_iff_lt_or_eq.1 hk with h | rfl
          · exact hw k h
          · exact bc
        · simp only; omega
        · exact ⟨by dsimp only; omega, by simp (disch := first | decide | omega) only [f1, f2, f3, f4, go_sem, ↓reduceIte], by simp (disch := first | decide | omega) only [f1, f2, f3, f4, go_sem, ↓reduceIte], by simp (disch := first | decide | omega) only [f1, f2, f3, f4, go_sem, ↓reduceIte], by simp (disch := first | decide | omega) only [f1, f2, f3, f4, go_sem, ↓reduceIte]; rfl, fun id o hl h => by simp (disch := first | decide | omega) only [f1, f2, f3, f4, go_sem, ↓reduceIte]; exact f5 id o hl h⟩
        · first | rfl | (simp only [f1, f2, f3, f4, go_sem, ↓reduceIte]; rfl)
    · have hjN : j = calls.length := by omega
      subst hjN
      have hvc : (calls.all fun c => isCallB n c) = true := all_getD.2 hw
      have hval : validB n most strays calls = true := by simp [validB, b1, b2, b3, b4, hvs, hvc]
      (repeat (first | apply aw_seq | apply aw_block | apply aw_skip | apply aw_label | apply aw_exit | ((first | refine aw_region (hideO fun QQ hQQ => ?_) | refine aw_draw mixed (hideD fun QQ hQQ => ?_)); simp (maxSteps := 400000) (disch := first | decide | omega) only [f1, f2, f3, f4, go_sem, ↓reduceIte]; try (first | with_reducible refine unhide hQQ ?_ | refine ⟨by kernel_rfl, unhide hQQ ?_⟩); clear hQQ QQ) | with_reducible first | apply then_n | apply block_n | apply then_x | apply then_r | apply nog_n | apply nog_r | apply block_r | apply block_e (by decide) | apply block_x (by decide)))
      refine aw_cond2 (by simp (disch := first | decide | omega) only [f1, f2, f3, f4, go_sem, ↓reduceIte]; rfl) ?_; first | refine .inl ⟨by first | rfl | exact decide_eq_true (by omega) | exact decide_eq_true (by assumption) | (simp (disch := first | decide | omega) only [if_pos_d, if_neg_d, decide_eq_true_eq, Bool.not_eq_true', decide_eq_false_iff_not]; omega), ?_⟩ | refine .inr ⟨by first | rfl | exact decide_eq_false (by omega) | exact decide_eq_false (by assumption) | (simp (disch := first | decide | omega) only [if_pos_d, if_neg_d, decide_eq_true_eq, Bool.not_eq_true', decide_eq_false_iff_not]; omega), ?_⟩
      (repeat (first | apply aw_seq | apply aw_block | apply aw_skip | apply aw_label | apply aw_exit | ((first | refine aw_region (hideO fun QQ hQQ => ?_) | refine aw_draw mixed (hideD fun QQ hQQ => ?_)); simp (maxSteps := 400000) (disch := first | decide | omega) only [f1, f2, f3, f4, go_sem, ↓reduceIte]; try (first | with_reducible refine unhide hQQ ?_ | refine ⟨by kernel_rfl, unhide hQQ ?_⟩); clear hQQ QQ) | with_reducible first | apply then_n | apply block_n | apply then_x | apply then_r | apply nog_n | apply nog_r | apply block_r | apply block_e (by decide) | apply block_x (by decide)))
      refine callS_ok rfl rfl g (by simp (disch := first | decide | omega) only [f1, f2, f3, f4, go_sem, ↓reduceIte]; try rfl) (by simp (disch := first | decide | omega) only [f1, f2, f3, f4, go_sem, ↓reduceIte]; try rfl) hg hgb hgn ((hIS hval _ _ _ _ rfl f4 f3 f5).mono ?_)
      rintro _ _ ⟨rfl, rfl⟩
      (simp (maxSteps := 400000) (disch := first | decide | omega) only [f1, f2, f3, f4, go_sem, ↓reduceIte]; (try (with_reducible refine unhide hQQ ?_; clear hQQ QQ; (repeat with_reducible first | apply then_n | apply block_n | apply then_x | apply then_r | apply nog_n | apply nog_r | apply block_r | apply block_e (by decide) | apply block_x (by decide)))))
      cases b
      · (refine ⟨rfl, .inr ⟨rfl, callS_x rfl 96 ⟨by simp (disch := first | decide | omega) only [f1, f2, f3, f4, go_sem, ↓reduceIte]; try rfl, by simp (disch := first | decide | omega) only [f1, f2, f3, f4, go_sem, ↓reduceIte]; try rfl⟩ Try.func96 rfl (by decide) (x_must 2) ?_⟩⟩)
        exact hback (hran hval rfl) (by simp (disch := first | decide | omega) only [f1, f2, f3, f4, go_sem, ↓reduceIte]; try rfl) (by intro id o hl h; simp (disch := first | decide | omega) only [f1, f2, f3, f4, go_sem, ↓reduceIte]; exact f5 id o hl h)
      · ((refine callO_ok rfl rfl 96 true rfl (by simp (disch := first | decide | omega) only [f1, f2, f3, f4, go_sem, ↓reduceIte]; try rfl) (fun _ => rfl) (ok_must 2) Try.func96 rfl (by decide) ?_); simp (maxSteps := 400000) (disch := first | decide | omega) only [f1, f2, f3, f4, go_sem, ↓reduceIte]; try (with_reducible refine unhide hQQ ?_; clear hQQ QQ)); (repeat (first | apply aw_seq | apply aw_block | apply aw_skip | apply aw_label | apply aw_exit | ((first | refine aw_region (hideO fun QQ hQQ => ?_) | refine aw_draw mixed (hideD fun QQ hQQ => ?_)); simp (maxSteps := 400000) (disch := first | decide | omega) only [f1, f2, f3, f4, go_sem, ↓reduceIte]; try (first | with_reducible refine unhide hQQ ?_ | refine ⟨by kernel_rfl, unhide hQQ ?_⟩); clear hQQ QQ) | with_reducible first | apply then_n | apply block_n | apply then_x | apply then_r | apply nog_n | apply nog_r | apply block_r | apply block_e (by decide) | apply block_x (by decide)))
        refine aw_ret ⟨.inr rfl, _, by simp (disch := first | decide | omega) only [f1, f2, f3, f4, go_sem, ↓reduceIte]; try rfl, by simp (disch := first | decide | omega) only [f1, f2, f3, f4, go_sem, ↓reduceIte]; try rfl, ⟨fr, (nx + 1 + 1 + 1, .box (ydC n most strays calls (nx + 1 + 1))) :: (nx + 1 + 1, .memo Try.prog 135 (keepI (tabF n.toNat most strays calls))) :: hp, nx + 1 + 1 + 1 + 1⟩, rfl, ?_, ?_, ?_, hok hval rfl⟩
        · refine Closed.new (st := ⟨fr, (nx + 1 + 1, .memo Try.prog 135 (keepI (tabF n.toNat most strays calls))) :: hp, nx + 1 + 1 + 1⟩) (Closed.new hcl (by dsimp only; omega) (by omega) (fun _ _ h => by cases h) (fun i hi => by cases hi)) (by dsimp only; omega) (by omega) (fun _ _ h => by cases h) ?_
          intro i hi
          simp only [refsO, ydC, List.flatMap_cons, List.flatMap_nil, refsC, List.nil_append, List.append_nil, List.mem_singleton] at hi
          subst hi
          exact ⟨_, AL.get_eq _ _ _⟩
        · intro id o ho
          have ho : AL.get ((nx + 1 + 1 + 1, Obj'.box (ydC n most strays calls (nx + 1 + 1))) :: (nx + 1 + 1, Obj'.memo Try.prog 135 (keepI (tabF n.toNat most strays calls))) :: hp) id = some o := ho
          by_cases e3 : id = nx + 1 + 1 + 1
          · subst e3
            rw [AL.get_eq] at ho
            cases ho
            exact f4
          · rw [AL.get_ne _ _ e3] at ho
            by_cases e2 : id = nx + 1 + 1
            · subst e2
              rw [AL.get_eq] at ho
              cases ho
              exact f3
            · rw [AL.get_ne _ _ e2] at ho
              exact f5 id o (hlt id o ho) ho
        · intro i hi
          simp only [refsV, refsC, List.mem_singleton] at hi
          subst hi
          exact ⟨_, AL.get_eq _ _ _⟩
end
end Go.Proofs.Ytejbglbiefpagaa
