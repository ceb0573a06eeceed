/- burr, the law: every truth is handed to a callback, walked. -/
import Derived.Test.YtknikcpeacmpmaaBwV
set_option linter.all false
namespace Go.Proofs.Ytknikcpeacmpmaa
open Go Go.RowKit Go.Sh Go.Pv
set_option maxHeartbeats 8000000
set_option maxRecDepth 8000
set_option pp.maxSteps 60000
attribute [local go_sem] rowB get_someB
theorem closed_ob {ob : List (Nat × Nat) → List (Nat × Obj')} {ids : List Nat} {fr : List (Nat × AV)} {hp : List (Nat × Obj')} {nx : Nat} (hcl : Closed ⟨fr, hp, nx⟩) (hcb : CbOK ob ids hp) (P : List (Nat × Nat)) : Closed ⟨fr, ob P ++ hp, nx⟩ := by
  have hd : ∀ {l : List Nat}, There (AL.get hp) l → There (AL.get (ob P ++ hp)) l := by
    intro l hl i hi
    obtain ⟨o, ho⟩ := hl i hi
    rw [AL_append]
    cases hq : AL.get (ob P) i with
    | some o' => exact ⟨o', rfl⟩
    | none => exact ⟨o, ho⟩
  have hg : ∀ {id o}, AL.get (ob P ++ hp) id = some o → AL.get (ob P) id = some o ∨ AL.get hp id = some o := by
    intro id o h
    rw [AL_append] at h
    cases hq : AL.get (ob P) id with
    | some o' => rw [hq] at h; cases h; exact .inl rfl
    | none => rw [hq] at h; exact .inr h
  refine ⟨fun id o h => ?_, fun t av ht => hd (hcl.fr t av ht), fun id o h hk => ?_, fun id fr0 tm0 h t av ht => ?_⟩
  · rcases hg h with h | h
    · obtain ⟨o', ho'⟩ := hcb.here id (hcb.idm _ _ _ h)
      exact hcl.lt id o' ho'
    · exact hcl.lt id o h
  · rcases hg h with h | h
    · rw [(hcb.plain _ _ _ h).1]; intro i hi; cases hi
    · exact hd (hcl.obj id o h hk)
  · rcases hg h with h | h
    · exact absurd rfl ((hcb.plain _ _ _ h).2 _ _)
    · exact hd (hcl.kept id fr0 tm0 h t av ht)
section
variable {N L U T : Nat} {bales : List (Int × Int)} {tests : List (Int × Bool)}
theorem c_every {Z : Zn} {w0 : World} {cap : Nat → Prop} {nt : Nat} {rd : Option Nat} {pan : List PanicEntry → St → Prop} {df : Option Nat} {dk : List Nat} {rg : Bool} {fr : List (Nat × AV)} {hp : List (Nat × Obj')} {nx : Nat} {g : FuncId} {gn : Func} {caps : List CC}
    (hB : BOK N L U T bales tests) (h5 : Try.prog.funcs[g]? = some gn) (h6 : gn.body.isSome = true) (h7 : gn.name ≠ "runtime.NumGoroutine") (ob : List (Nat × Nat) → List (Nat × Obj')) (ids : List Nat) (hcb : CbOK ob ids hp) (h0 : ∀ id o, AL.get (ob []) id = some o → AL.get hp id = some o)
    (hstep : ∀ (K : Kx) (st : St) (P : List (Nat × Nat)) (m h : Nat), K.P = Try.prog → (P ++ [(m, h)]) <+: TR N L U bales tests → HPof ob ids hp nx P st.hp → CallF K g ([.one (.p (iP m)), .one (.p (iP h))] ++ caps.map capV) st fun st' av => av = .tup [] ∧ st'.fr = st.fr ∧ st'.nx = st.nx ∧ (∀ id o, AL.get (ob (P ++ [(m, h)])) id = some o → AL.get st'.hp id = some o) ∧ ∀ id, id ∉ ids → AL.get st'.hp id = AL.get st.hp id) :
    CallF ⟨Try.prog, Z, w0, cap, nt, rd, pan, df, dk, rg⟩ 39 [.agg [.p (iP N), .p (iP L), .p (iP U), .p (.sl (bales.map row2)), .p (iP T), .p (.sl (tests.map rowB))], .one (.fn g caps)] ⟨fr, hp, nx⟩ fun st' av => st' = ⟨fr, ob (TR N L U bales tests) ++ hp, nx⟩ ∧ av = .tup [] := by
  have hq := pow32 hB.n5
  have hq0 := Nat.two_pow_pos N
  have hX6 := pow64 hB.b6
  have hX0 := Nat.two_pow_pos bales.length
  have hb6 := hB.b6
  have ht6 := hB.t6
  have hsh : ∀ (T' : TypeId) (p q : Operand), binA Try.prog .shl T' p q (.int .i64 1) (.int .i64 (N : Int)) = some (.int .i64 ((2 ^ N : Nat) : Int)) := fun T' p q => bin_shl_one .i64 T' p q (by have := hB.n5; omega)
  have hsh2 : ∀ (T' : TypeId) (p q : Operand), binA Try.prog .shl T' p q (.int .i64 1) (.int .i64 (bales.length : Int)) = some (.int .i64 ((2 ^ bales.length : Nat) : Int)) := fun T' p q => bin_shl_one .i64 T' p q (by omega)
  have hpre : ∀ m h, m < 2 ^ N → h < 2 ^ bales.length → rtB L U bales tests m h = true → TRp L U bales tests m h ++ [(m, h)] <+: TRp L U bales tests (2 ^ N) 0 := fun m h a b c => by rw [TRp_end]; exact TRp_prefix a b c
  have htm := TRp_m (L := L) (U := U) (bales := bales) (us := tests)
  have hth := TRp_h (L := L) (U := U) (bales := bales) (us := tests)
  rw [← TRp_end]
  rw [← TRp_end] at hstep
  generalize hYN : 2 ^ N = Y at *
  generalize hXB : 2 ^ bales.length = X at *
  (refine callF_to (nt := 82) (rs := []) Try.func39 rfl rfl rfl (by simp) fun hcl tm Ds => ?_); simp only [initV]
  dsimp only [Kx.calleeT]
  have hlt := hcl.lt
  dsimp only at hlt
  have hidn : ∀ id, id ∈ ids → id < nx := fun id hi => let ⟨o, ho⟩ := hcb.here id hi; hlt id o ho
  (repeat (first | apply aw_seq | apply aw_block | apply aw_skip | apply aw_label | apply aw_exit | ((first | refine aw_region (hideO fun QQ hQQ => ?_) | refine aw_draw mixed (hideD fun QQ hQQ => ?_)); simp (maxSteps := 400000) (disch := first | decide | omega) only [hsh, go_sem, ↓reduceIte]; try (first | with_reducible refine unhide hQQ ?_ | refine ⟨by kernel_rfl, unhide hQQ ?_⟩); clear hQQ QQ) | with_reducible first | apply then_n | apply block_n | apply then_x | apply then_r | apply nog_n | apply nog_r | apply block_r | apply block_e (by decide) | apply block_x (by decide)))
  refine aw_weak (weak_thr [1, 2, 14, 15] (by simp only [go_sem, ↓reduceIte]; rfl)) ?_
  let FX : List (Nat × Nat) → List (Nat × Obj') → Nat → Prop := fun P hpX nxX => nx + 1 < nxX ∧ AL.get hpX nx = some (.kept fr tm) ∧ AL.get hpX (nx + 1) = some (.box [.p (iP N), .p (iP L), .p (iP U), .p (.sl (bales.map row2)), .p (iP T), .p (.sl (tests.map rowB))]) ∧ HPof ob ids hp nx P hpX
  refine aw_loop_hp (ι := { m : Nat // m ≤ Y }) (fun m => [(15, iA m.1)]) (fun m => FX (TRp L U bales tests m.1 0)) (fun m => Y - m.1) ⟨0, by omega⟩ (by first | rfl | (simp only [go_sem, ↓reduceIte]; rfl)) ?_ ?_
  · refine ⟨by dsimp only; omega, by simp (disch := first | decide | omega) only [go_sem, ↓reduceIte]; try rfl, by simp (disch := first | decide | omega) only [go_sem, ↓reduceIte]; try rfl, fun id o ho => ?_, fun id o hl hi h => ?_⟩
    · have hlt2 := hidn id (hcb.idm _ _ _ ho)
      simp (disch := first | decide | omega) only [go_sem, ↓reduceIte]
      exact h0 id o ho
    · simp (disch := first | decide | omega) only [go_sem, ↓reduceIte]
      exact h
  rintro ⟨m, hm⟩ hpX nxX ⟨f0, f1, f2, f3⟩
  simp (disch := decide) only [ov, ovL, AL.get_nil, AL.get_eq, AL.get_ne, Option.getD_some, Option.getD_none]
  by_cases hml : m < Y
  · have hz := ok_size37 m (by omega)
    have hho := ok_holds (n := N) (lo := L) (hi := U) (top := T) (tests := tests) (m := m) (by omega) hB.b6 hB.b32
    have hlA := Nat.lt_of_lt_of_le (hitF_lt (sN bales) m bales.length) (pow64 hB.b6)
    have hlB := Nat.lt_of_lt_of_le (hitF_lt (pN bales) m bales.length) (pow64 hB.b6)
    simp only [buR] at hho
    by_cases hpr : L ≤ popc m ∧ popc m ≤ U
    · have hrend := fun h => rK_end (L := L) (U := U) (bales := bales) (tests := tests) m h hpr
      generalize hitF (sN bales) m bales.length = A at *
      generalize hitF (pN bales) m bales.length = B at *
      generalize popc m = pm at *
      (repeat (first | apply aw_seq | apply aw_block | apply aw_skip | apply aw_label | apply aw_exit | ((first | refine aw_region (hideO fun QQ hQQ => ?_) | refine aw_draw mixed (hideD fun QQ hQQ => ?_)); simp (maxSteps := 400000) (disch := first | decide | omega) only [f1, f2, hsh2, go_sem, ↓reduceIte]; try (first | with_reducible refine unhide hQQ ?_ | refine ⟨by kernel_rfl, unhide hQQ ?_⟩); clear hQQ QQ) | with_reducible first | apply then_n | apply block_n | apply then_x | apply then_r | apply nog_n | apply nog_r | apply block_r | apply block_e (by decide) | apply block_x (by decide)))
      refine aw_cond2 (by simp (disch := first | decide | omega) only [f1, f2, hsh2, go_sem, ↓reduceIte]; rfl) ?_; first | refine .inl ⟨by first | rfl | exact decide_eq_true (by omega) | exact decide_eq_true (by assumption) | (simp (disch := first | decide | omega) only [if_pos_d, if_neg_d, decide_eq_true_eq, Bool.not_eq_true', decide_eq_false_iff_not]; omega), ?_⟩ | refine .inr ⟨by first | rfl | exact decide_eq_false (by omega) | exact decide_eq_false (by assumption) | (simp (disch := first | decide | omega) only [if_pos_d, if_neg_d, decide_eq_true_eq, Bool.not_eq_true', decide_eq_false_iff_not]; omega), ?_⟩
      (repeat (first | apply aw_seq | apply aw_block | apply aw_skip | apply aw_label | apply aw_exit | ((first | refine aw_region (hideO fun QQ hQQ => ?_) | refine aw_draw mixed (hideD fun QQ hQQ => ?_)); simp (maxSteps := 400000) (disch := first | decide | omega) only [f1, f2, hsh2, go_sem, ↓reduceIte]; try (first | with_reducible refine unhide hQQ ?_ | refine ⟨by kernel_rfl, unhide hQQ ?_⟩); clear hQQ QQ) | with_reducible first | apply then_n | apply block_n | apply then_x | apply then_r | apply nog_n | apply nog_r | apply block_r | apply block_e (by decide) | apply block_x (by decide)))
      ((refine callO_ok rfl rfl 37 true rfl (by simp (disch := first | decide | omega) only [f1, f2, hsh2, go_sem, ↓reduceIte]; try rfl) (fun _ => rfl) (hz) Try.func37 rfl (by decide) ?_); simp (maxSteps := 400000) (disch := first | decide | omega) only [f1, f2, hsh2, go_sem, ↓reduceIte]; try (with_reducible refine unhide hQQ ?_; clear hQQ QQ)); (repeat (first | apply aw_seq | apply aw_block | apply aw_skip | apply aw_label | apply aw_exit | ((first | refine aw_region (hideO fun QQ hQQ => ?_) | refine aw_draw mixed (hideD fun QQ hQQ => ?_)); simp (maxSteps := 400000) (disch := first | decide | omega) only [f1, f2, hsh2, go_sem, ↓reduceIte]; try (first | with_reducible refine unhide hQQ ?_ | refine ⟨by kernel_rfl, unhide hQQ ?_⟩); clear hQQ QQ) | with_reducible first | apply then_n | apply block_n | apply then_x | apply then_r | apply nog_n | apply nog_r | apply block_r | apply block_e (by decide) | apply block_x (by decide)))
      refine aw_cond2 (by simp (disch := first | decide | omega) only [f1, f2, hsh2, go_sem, ↓reduceIte]; rfl) ?_; first | refine .inl ⟨by first | rfl | exact decide_eq_true (by omega) | exact decide_eq_true (by assumption) | (simp (disch := first | decide | omega) only [if_pos_d, if_neg_d, decide_eq_true_eq, Bool.not_eq_true', decide_eq_false_iff_not]; omega), ?_⟩ | refine .inr ⟨by first | rfl | exact decide_eq_false (by omega) | exact decide_eq_false (by assumption) | (simp (disch := first | decide | omega) only [if_pos_d, if_neg_d, decide_eq_true_eq, Bool.not_eq_true', decide_eq_false_iff_not]; omega), ?_⟩
      (repeat (first | apply aw_seq | apply aw_block | apply aw_skip | apply aw_label | apply aw_exit | ((first | refine aw_region (hideO fun QQ hQQ => ?_) | refine aw_draw mixed (hideD fun QQ hQQ => ?_)); simp (maxSteps := 400000) (disch := first | decide | omega) only [f1, f2, hsh2, go_sem, ↓reduceIte]; try (first | with_reducible refine unhide hQQ ?_ | refine ⟨by kernel_rfl, unhide hQQ ?_⟩); clear hQQ QQ) | with_reducible first | apply then_n | apply block_n | apply then_x | apply then_r | apply nog_n | apply nog_r | apply block_r | apply block_e (by decide) | apply block_x (by decide)))
      ((refine callO_ok rfl rfl 85 true rfl (by simp (disch := first | decide | omega) only [f1, f2, hsh2, go_sem, ↓reduceIte]; try rfl) (fun _ => rfl) (hho) Try.func85 rfl (by decide) ?_); simp (maxSteps := 400000) (disch := first | decide | omega) only [f1, f2, hsh2, go_sem, ↓reduceIte]; try (with_reducible refine unhide hQQ ?_; clear hQQ QQ)); (repeat (first | apply aw_seq | apply aw_block | apply aw_skip | apply aw_label | apply aw_exit | ((first | refine aw_region (hideO fun QQ hQQ => ?_) | refine aw_draw mixed (hideD fun QQ hQQ => ?_)); simp (maxSteps := 400000) (disch := first | decide | omega) only [f1, f2, hsh2, go_sem, ↓reduceIte]; try (first | with_reducible refine unhide hQQ ?_ | refine ⟨by kernel_rfl, unhide hQQ ?_⟩); clear hQQ QQ) | with_reducible first | apply then_n | apply block_n | apply then_x | apply then_r | apply nog_n | apply nog_r | apply block_r | apply block_e (by decide) | apply block_x (by decide)))
      refine aw_weak (weak_thr [1, 2, 4, 6, 7, 14, 15, 41, 42] (by simp only [go_sem, ↓reduceIte]; rfl)) ?_
      refine aw_loop_hp (ι := { h : Nat // h ≤ X }) (fun h => [(42, iA h.1)]) (fun h => FX (TRp L U bales tests m h.1)) (fun h => X - h.1) ⟨0, by omega⟩ (by first | rfl | (simp only [go_sem, ↓reduceIte]; rfl)) ?_ ?_
      · refine ⟨by dsimp only; omega, by simp (disch := first | decide | omega) only [go_sem, ↓reduceIte]; exact f1, by simp (disch := first | decide | omega) only [go_sem, ↓reduceIte]; exact f2, fun id o ho => ?_, fun id o hl hi h => ?_⟩
        · have hlt2 := hidn id (hcb.idm _ _ _ ho)
          simp (disch := first | decide | omega) only [go_sem, ↓reduceIte]
          exact f3.1 id o ho
        · simp (disch := first | decide | omega) only [go_sem, ↓reduceIte]
          exact f3.2 id o hl hi h
      clear f0 f1 f2 f3
      rintro ⟨h, hh⟩ hpY nxY ⟨f0, f1, f2, f3⟩
      simp (disch := decide) only [ov, ovL, AL.get_nil, AL.get_eq, AL.get_ne, Option.getD_some, Option.getD_none]
      by_cases hhl : h < X
      · have hre := hrend h
        have hpf := hpre m h hml hhl
        have hts := hth m h
        have hx64 : h < 64 := by omega
        have hd1 : ∀ (T : TypeId) (x y : Operand), binA Try.prog .andNot T x y (.int .i64 (A : Int)) (.int .i64 (h : Int)) = some (.int .i64 ((diffN A h : Nat) : Int)) := fun T x y => bin_andNot_nat T x y (by omega) (by omega)
        have hd2 : ∀ (T : TypeId) (x y : Operand), binA Try.prog .andNot T x y (.int .i64 (h : Int)) (.int .i64 (B : Int)) = some (.int .i64 ((diffN h B : Nat) : Int)) := fun T x y => bin_andNot_nat T x y (by omega) (by omega)
        generalize diffN A h = D1 at *
        generalize diffN h B = D2 at *
        by_cases ha : D1 = 0
        · by_cases hb : D2 = 0
          · rw [decide_eq_true ha, decide_eq_true hb, Bool.true_and] at hre
            (repeat (first | apply aw_seq | apply aw_block | apply aw_skip | apply aw_label | apply aw_exit | ((first | refine aw_region (hideO fun QQ hQQ => ?_) | refine aw_draw mixed (hideD fun QQ hQQ => ?_)); simp (maxSteps := 400000) (disch := first | decide | omega) only [f1, f2, hd1, hd2, go_sem, ↓reduceIte]; try (first | with_reducible refine unhide hQQ ?_ | refine ⟨by kernel_rfl, unhide hQQ ?_⟩); clear hQQ QQ) | with_reducible first | apply then_n | apply block_n | apply then_x | apply then_r | apply nog_n | apply nog_r | apply block_r | apply block_e (by decide) | apply block_x (by decide)))
            refine aw_cond2 (by simp (disch := first | decide | omega) only [f1, f2, hd1, hd2, go_sem, ↓reduceIte]; rfl) ?_; first | refine .inl ⟨by first | rfl | exact decide_eq_true (by omega) | exact decide_eq_true (by assumption) | (simp (disch := first | decide | omega) only [if_pos_d, if_neg_d, decide_eq_true_eq, Bool.not_eq_true', decide_eq_false_iff_not]; omega), ?_⟩ | refine .inr ⟨by first | rfl | exact decide_eq_false (by omega) | exact decide_eq_false (by assumption) | (simp (disch := first | decide | omega) only [if_pos_d, if_neg_d, decide_eq_true_eq, Bool.not_eq_true', decide_eq_false_iff_not]; omega), ?_⟩
            (repeat (first | apply aw_seq | apply aw_block | apply aw_skip | apply aw_label | apply aw_exit | ((first | refine aw_region (hideO fun QQ hQQ => ?_) | refine aw_draw mixed (hideD fun QQ hQQ => ?_)); simp (maxSteps := 400000) (disch := first | decide | omega) only [f1, f2, hd1, hd2, go_sem, ↓reduceIte]; try (first | with_reducible refine unhide hQQ ?_ | refine ⟨by kernel_rfl, unhide hQQ ?_⟩); clear hQQ QQ) | with_reducible first | apply then_n | apply block_n | apply then_x | apply then_r | apply nog_n | apply nog_r | apply block_r | apply block_e (by decide) | apply block_x (by decide)))
            refine aw_weak (weak_thr [1, 2, 4, 6, 7, 8, 9, 14, 15, 41, 42, 56, 57, 58] (by simp only [go_sem, ↓reduceIte]; rfl)) ?_
            refine aw_loop_hp (ι := { k : Nat // k ≤ tests.length }) (fun k => [(58, iA k.1), (9, .one (.p (.v (.bool (rK true tests h k.1)))))]) (fun _ => FX (TRp L U bales tests m h)) (fun k => tests.length - k.1) ⟨0, by omega⟩ (by first | rfl | (simp only [go_sem, ↓reduceIte]; rfl)) ?_ ?_
            · refine ⟨by dsimp only; omega, by simp (disch := first | decide | omega) only [go_sem, ↓reduceIte]; exact f1, by simp (disch := first | decide | omega) only [go_sem, ↓reduceIte]; exact f2, fun id o ho => ?_, fun id o hl hi h => ?_⟩
              · have hlt2 := hidn id (hcb.idm _ _ _ ho)
                simp (disch := first | decide | omega) only [go_sem, ↓reduceIte]
                exact f3.1 id o ho
              · simp (disch := first | decide | omega) only [go_sem, ↓reduceIte]
                exact f3.2 id o hl hi h
            clear f0 f1 f2 f3
            rintro ⟨k, hk⟩ hpZ nxZ ⟨f0, f1, f2, f3⟩
            simp (disch := decide) only [ov, ovL, AL.get_nil, AL.get_eq, AL.get_ne, Option.getD_some, Option.getD_none]
            by_cases hkl : k < tests.length
            · have ers := rK_succ (r0 := true) (h := h) hkl
              have htk := hB.te _ (mem_of_getD (d := (0, false)) hkl)
              obtain ⟨⟨c, fb⟩, hc⟩ : ∃ t, tests.getD k (0, false) = t := ⟨_, rfl⟩
              rw [hc] at ers htk
              dsimp only at ers htk
              obtain ⟨c, rfl⟩ : ∃ k : Nat, c = k := ⟨c.toNat, by omega⟩
              rw [Int.toNat_natCast] at ers
              have hsr : ∀ (T : TypeId) (p q : Operand), binA Try.prog .shr T p q (.int .i64 (h : Int)) (.int .i64 (c : Int)) = some (.int .i64 ((h >>> c : Nat) : Int)) := fun T p q => bin_shr_nat .i64 T p q (by omega) (by omega)
              have hle : h >>> c ≤ h := Nat.shiftRight_le h c
              have han : ∀ (T : TypeId) (p q : Operand), binA Try.prog .and T p q (.int .i64 ((h >>> c : Nat) : Int)) (.int .i64 1) = some (.int .i64 ((h >>> c &&& 1 : Nat) : Int)) := fun T p q => bin_and_nat T p q (a := h >>> c) (b := 1) (by omega) (by omega)
              have hbit := bit_and1 h c
              generalize h >>> c &&& 1 = b1' at *
              generalize h >>> c = x1 at *
              cases hrk : rK true tests h k
              · rw [hrk, Bool.false_and] at ers
                (repeat (first | apply aw_seq | apply aw_block | apply aw_skip | apply aw_label | apply aw_exit | ((first | refine aw_region (hideO fun QQ hQQ => ?_) | refine aw_draw mixed (hideD fun QQ hQQ => ?_)); simp (maxSteps := 400000) (disch := first | decide | omega) only [hc, f1, f2, hsr, han, go_sem, ↓reduceIte]; try (first | with_reducible refine unhide hQQ ?_ | refine ⟨by kernel_rfl, unhide hQQ ?_⟩); clear hQQ QQ) | with_reducible first | apply then_n | apply block_n | apply then_x | apply then_r | apply nog_n | apply nog_r | apply block_r | apply block_e (by decide) | apply block_x (by decide)))
                refine aw_cond2 (by simp (disch := first | decide | omega) only [hc, f1, f2, hsr, han, go_sem, ↓reduceIte]; rfl) ?_; first | refine .inl ⟨by first | rfl | exact decide_eq_true (by omega) | exact decide_eq_true (by assumption) | (simp (disch := first | decide | omega) only [if_pos_d, if_neg_d, decide_eq_true_eq, Bool.not_eq_true', decide_eq_false_iff_not]; omega), ?_⟩ | refine .inr ⟨by first | rfl | exact decide_eq_false (by omega) | exact decide_eq_false (by assumption) | (simp (disch := first | decide | omega) only [if_pos_d, if_neg_d, decide_eq_true_eq, Bool.not_eq_true', decide_eq_false_iff_not]; omega), ?_⟩
                (repeat (first | apply aw_seq | apply aw_block | apply aw_skip | apply aw_label | apply aw_exit | ((first | refine aw_region (hideO fun QQ hQQ => ?_) | refine aw_draw mixed (hideD fun QQ hQQ => ?_)); simp (maxSteps := 400000) (disch := first | decide | omega) only [hc, f1, f2, hsr, han, go_sem, ↓reduceIte]; try (first | with_reducible refine unhide hQQ ?_ | refine ⟨by kernel_rfl, unhide hQQ ?_⟩); clear hQQ QQ) | with_reducible first | apply then_n | apply block_n | apply then_x | apply then_r | apply nog_n | apply nog_r | apply block_r | apply block_e (by decide) | apply block_x (by decide)))
                refine ⟨⟨k + 1, by omega⟩, ?_, ?_, ?_⟩
                · simp only; omega
                · refine ⟨by dsimp only; omega, by simp (disch := first | decide | omega) only [go_sem, ↓reduceIte]; exact f1, by simp (disch := first | decide | omega) only [go_sem, ↓reduceIte]; exact f2, fun id o ho => ?_, fun id o hl hi h => ?_⟩
                  · have hlt2 := hidn id (hcb.idm _ _ _ ho)
                    simp (disch := first | decide | omega) only [go_sem, ↓reduceIte]
                    exact f3.1 id o ho
                  · simp (disch := first | decide | omega) only [go_sem, ↓reduceIte]
                    exact f3.2 id o hl hi h
                · simp only [ers]; first | rfl | (simp only [go_sem, ↓reduceIte]; rfl)
              · rw [hrk, Bool.true_and] at ers
                cases htb : h.testBit c
                · rw [htb, if_neg (by decide)] at hbit
                  rw [htb] at ers
                  subst hbit
                  cases fb
                  · rw [show (false == false) = true from rfl] at ers
                    (repeat (first | apply aw_seq | apply aw_block | apply aw_skip | apply aw_label | apply aw_exit | ((first | refine aw_region (hideO fun QQ hQQ => ?_) | refine aw_draw mixed (hideD fun QQ hQQ => ?_)); simp (maxSteps := 400000) (disch := first | decide | omega) only [hc, f1, f2, hsr, han, go_sem, ↓reduceIte]; try (first | with_reducible refine unhide hQQ ?_ | refine ⟨by kernel_rfl, unhide hQQ ?_⟩); clear hQQ QQ) | with_reducible first | apply then_n | apply block_n | apply then_x | apply then_r | apply nog_n | apply nog_r | apply block_r | apply block_e (by decide) | apply block_x (by decide)))
                    refine aw_cond2 (by simp (disch := first | decide | omega) only [hc, f1, f2, hsr, han, go_sem, ↓reduceIte]; rfl) ?_; first | refine .inl ⟨by first | rfl | exact decide_eq_true (by omega) | exact decide_eq_true (by assumption) | (simp (disch := first | decide | omega) only [if_pos_d, if_neg_d, decide_eq_true_eq, Bool.not_eq_true', decide_eq_false_iff_not]; omega), ?_⟩ | refine .inr ⟨by first | rfl | exact decide_eq_false (by omega) | exact decide_eq_false (by assumption) | (simp (disch := first | decide | omega) only [if_pos_d, if_neg_d, decide_eq_true_eq, Bool.not_eq_true', decide_eq_false_iff_not]; omega), ?_⟩
                    (repeat (first | apply aw_seq | apply aw_block | apply aw_skip | apply aw_label | apply aw_exit | ((first | refine aw_region (hideO fun QQ hQQ => ?_) | refine aw_draw mixed (hideD fun QQ hQQ => ?_)); simp (maxSteps := 400000) (disch := first | decide | omega) only [hc, f1, f2, hsr, han, go_sem, ↓reduceIte]; try (first | with_reducible refine unhide hQQ ?_ | refine ⟨by kernel_rfl, unhide hQQ ?_⟩); clear hQQ QQ) | with_reducible first | apply then_n | apply block_n | apply then_x | apply then_r | apply nog_n | apply nog_r | apply block_r | apply block_e (by decide) | apply block_x (by decide)))
                    refine ⟨⟨k + 1, by omega⟩, ?_, ?_, ?_⟩
                    · simp only; omega
                    · refine ⟨by dsimp only; omega, by simp (disch := first | decide | omega) only [go_sem, ↓reduceIte]; exact f1, by simp (disch := first | decide | omega) only [go_sem, ↓reduceIte]; exact f2, fun id o ho => ?_, fun id o hl hi h => ?_⟩
                      · have hlt2 := hidn id (hcb.idm _ _ _ ho)
                        simp (disch := first | decide | omega) only [go_sem, ↓reduceIte]
                        exact f3.1 id o ho
                      · simp (disch := first | decide | omega) only [go_sem, ↓reduceIte]
                        exact f3.2 id o hl hi h
                    · simp only [ers]; first | rfl | (simp only [go_sem, ↓reduceIte]; rfl)
                  · rw [show (false == true) = false from rfl] at ers
                    (repeat (first | apply aw_seq | apply aw_block | apply aw_skip | apply aw_label | apply aw_exit | ((first | refine aw_region (hideO fun QQ hQQ => ?_) | refine aw_draw mixed (hideD fun QQ hQQ => ?_)); simp (maxSteps := 400000) (disch := first | decide | omega) only [hc, f1, f2, hsr, han, go_sem, ↓reduceIte]; try (first | with_reducible refine unhide hQQ ?_ | refine ⟨by kernel_rfl, unhide hQQ ?_⟩); clear hQQ QQ) | with_reducible first | apply then_n | apply block_n | apply then_x | apply then_r | apply nog_n | apply nog_r | apply block_r | apply block_e (by decide) | apply block_x (by decide)))
                    refine aw_cond2 (by simp (disch := first | decide | omega) only [hc, f1, f2, hsr, han, go_sem, ↓reduceIte]; rfl) ?_; first | refine .inl ⟨by first | rfl | exact decide_eq_true (by omega) | exact decide_eq_true (by assumption) | (simp (disch := first | decide | omega) only [if_pos_d, if_neg_d, decide_eq_true_eq, Bool.not_eq_true', decide_eq_false_iff_not]; omega), ?_⟩ | refine .inr ⟨by first | rfl | exact decide_eq_false (by omega) | exact decide_eq_false (by assumption) | (simp (disch := first | decide | omega) only [if_pos_d, if_neg_d, decide_eq_true_eq, Bool.not_eq_true', decide_eq_false_iff_not]; omega), ?_⟩
                    (repeat (first | apply aw_seq | apply aw_block | apply aw_skip | apply aw_label | apply aw_exit | ((first | refine aw_region (hideO fun QQ hQQ => ?_) | refine aw_draw mixed (hideD fun QQ hQQ => ?_)); simp (maxSteps := 400000) (disch := first | decide | omega) only [hc, f1, f2, hsr, han, go_sem, ↓reduceIte]; try (first | with_reducible refine unhide hQQ ?_ | refine ⟨by kernel_rfl, unhide hQQ ?_⟩); clear hQQ QQ) | with_reducible first | apply then_n | apply block_n | apply then_x | apply then_r | apply nog_n | apply nog_r | apply block_r | apply block_e (by decide) | apply block_x (by decide)))
                    refine ⟨⟨k + 1, by omega⟩, ?_, ?_, ?_⟩
                    · simp only; omega
                    · refine ⟨by dsimp only; omega, by simp (disch := first | decide | omega) only [go_sem, ↓reduceIte]; exact f1, by simp (disch := first | decide | omega) only [go_sem, ↓reduceIte]; exact f2, fun id o ho => ?_, fun id o hl hi h => ?_⟩
                      · have hlt2 := hidn id (hcb.idm _ _ _ ho)
                        simp (disch := first | decide | omega) only [go_sem, ↓reduceIte]
                        exact f3.1 id o ho
                      · simp (disch := first | decide | omega) only [go_sem, ↓reduceIte]
                        exact f3.2 id o hl hi h
                    · simp only [ers]; first | rfl | (simp only [go_sem, ↓reduceIte]; rfl)
                · rw [htb, if_pos rfl] at hbit
                  rw [htb] at ers
                  subst hbit
                  cases fb
                  · rw [show (true == false) = false from rfl] at ers
                    (repeat (first | apply aw_seq | apply aw_block | apply aw_skip | apply aw_label | apply aw_exit | ((first | refine aw_region (hideO fun QQ hQQ => ?_) | refine aw_draw mixed (hideD fun QQ hQQ => ?_)); simp (maxSteps := 400000) (disch := first | decide | omega) only [hc, f1, f2, hsr, han, go_sem, ↓reduceIte]; try (first | with_reducible refine unhide hQQ ?_ | refine ⟨by kernel_rfl, unhide hQQ ?_⟩); clear hQQ QQ) | with_reducible first | apply then_n | apply block_n | apply then_x | apply then_r | apply nog_n | apply nog_r | apply block_r | apply block_e (by decide) | apply block_x (by decide)))
                    refine aw_cond2 (by simp (disch := first | decide | omega) only [hc, f1, f2, hsr, han, go_sem, ↓reduceIte]; rfl) ?_; first | refine .inl ⟨by first | rfl | exact decide_eq_true (by omega) | exact decide_eq_true (by assumption) | (simp (disch := first | decide | omega) only [if_pos_d, if_neg_d, decide_eq_true_eq, Bool.not_eq_true', decide_eq_false_iff_not]; omega), ?_⟩ | refine .inr ⟨by first | rfl | exact decide_eq_false (by omega) | exact decide_eq_false (by assumption) | (simp (disch := first | decide | omega) only [if_pos_d, if_neg_d, decide_eq_true_eq, Bool.not_eq_true', decide_eq_false_iff_not]; omega), ?_⟩
                    (repeat (first | apply aw_seq | apply aw_block | apply aw_skip | apply aw_label | apply aw_exit | ((first | refine aw_region (hideO fun QQ hQQ => ?_) | refine aw_draw mixed (hideD fun QQ hQQ => ?_)); simp (maxSteps := 400000) (disch := first | decide | omega) only [hc, f1, f2, hsr, han, go_sem, ↓reduceIte]; try (first | with_reducible refine unhide hQQ ?_ | refine ⟨by kernel_rfl, unhide hQQ ?_⟩); clear hQQ QQ) | with_reducible first | apply then_n | apply block_n | apply then_x | apply then_r | apply nog_n | apply nog_r | apply block_r | apply block_e (by decide) | apply block_x (by decide)))
                    refine ⟨⟨k + 1, by omega⟩, ?_, ?_, ?_⟩
                    · simp only; omega
                    · refine ⟨by dsimp only; omega, by simp (disch := first | decide | omega) only [go_sem, ↓reduceIte]; exact f1, by simp (disch := first | decide | omega) only [go_sem, ↓reduceIte]; exact f2, fun id o ho => ?_, fun id o hl hi h => ?_⟩
                      · have hlt2 := hidn id (hcb.idm _ _ _ ho)
                        simp (disch := first | decide | omega) only [go_sem, ↓reduceIte]
                        exact f3.1 id o ho
                      · simp (disch := first | decide | omega) only [go_sem, ↓reduceIte]
                        exact f3.2 id o hl hi h
                    · simp only [ers]; first | rfl | (simp only [go_sem, ↓reduceIte]; rfl)
                  · rw [show (true == true) = true from rfl] at ers
                    (repeat (first | apply aw_seq | apply aw_block | apply aw_skip | apply aw_label | apply aw_exit | ((first | refine aw_region (hideO fun QQ hQQ => ?_) | refine aw_draw mixed (hideD fun QQ hQQ => ?_)); simp (maxSteps := 400000) (disch := first | decide | omega) only [hc, f1, f2, hsr, han, go_sem, ↓reduceIte]; try (first | with_reducible refine unhide hQQ ?_ | refine ⟨by kernel_rfl, unhide hQQ ?_⟩); clear hQQ QQ) | with_reducible first | apply then_n | apply block_n | apply then_x | apply then_r | apply nog_n | apply nog_r | apply block_r | apply block_e (by decide) | apply block_x (by decide)))
                    refine aw_cond2 (by simp (disch := first | decide | omega) only [hc, f1, f2, hsr, han, go_sem, ↓reduceIte]; rfl) ?_; first | refine .inl ⟨by first | rfl | exact decide_eq_true (by omega) | exact decide_eq_true (by assumption) | (simp (disch := first | decide | omega) only [if_pos_d, if_neg_d, decide_eq_true_eq, Bool.not_eq_true', decide_eq_false_iff_not]; omega), ?_⟩ | refine .inr ⟨by first | rfl | exact decide_eq_false (by omega) | exact decide_eq_false (by assumption) | (simp (disch := first | decide | omega) only [if_pos_d, if_neg_d, decide_eq_true_eq, Bool.not_eq_true', decide_eq_false_iff_not]; omega), ?_⟩
                    (repeat (first | apply aw_seq | apply aw_block | apply aw_skip | apply aw_label | apply aw_exit | ((first | refine aw_region (hideO fun QQ hQQ => ?_) | refine aw_draw mixed (hideD fun QQ hQQ => ?_)); simp (maxSteps := 400000) (disch := first | decide | omega) only [hc, f1, f2, hsr, han, go_sem, ↓reduceIte]; try (first | with_reducible refine unhide hQQ ?_ | refine ⟨by kernel_rfl, unhide hQQ ?_⟩); clear hQQ QQ) | with_reducible first | apply then_n | apply block_n | apply then_x | apply then_r | apply nog_n | apply nog_r | apply block_r | apply block_e (by decide) | apply block_x (by decide)))
                    refine ⟨⟨k + 1, by omega⟩, ?_, ?_, ?_⟩
                    · simp only; omega
                    · refine ⟨by dsimp only; omega, by simp (disch := first | decide | omega) only [go_sem, ↓reduceIte]; exact f1, by simp (disch := first | decide | omega) only [go_sem, ↓reduceIte]; exact f2, fun id o ho => ?_, fun id o hl hi h => ?_⟩
                      · have hlt2 := hidn id (hcb.idm _ _ _ ho)
                        simp (disch := first | decide | omega) only [go_sem, ↓reduceIte]
                        exact f3.1 id o ho
                      · simp (disch := first | decide | omega) only [go_sem, ↓reduceIte]
                        exact f3.2 id o hl hi h
                    · simp only [ers]; first | rfl | (simp only [go_sem, ↓reduceIte]; rfl)
            · have : k = tests.length := by omega
              subst this
              rw [hre]
              cases hrt : rtB L U bales tests m h
              · rw [hrt, if_neg (by decide), List.append_nil] at hts
                (repeat (first | apply aw_seq | apply aw_block | apply aw_skip | apply aw_label | apply aw_exit | ((first | refine aw_region (hideO fun QQ hQQ => ?_) | refine aw_draw mixed (hideD fun QQ hQQ => ?_)); simp (maxSteps := 400000) (disch := first | decide | omega) only [f1, f2, go_sem, ↓reduceIte]; try (first | with_reducible refine unhide hQQ ?_ | refine ⟨by kernel_rfl, unhide hQQ ?_⟩); clear hQQ QQ) | with_reducible first | apply then_n | apply block_n | apply then_x | apply then_r | apply nog_n | apply nog_r | apply block_r | apply block_e (by decide) | apply block_x (by decide)))
                refine aw_cond2 (by simp (disch := first | decide | omega) only [f1, f2, go_sem, ↓reduceIte]; rfl) ?_; first | refine .inl ⟨by first | rfl | exact decide_eq_true (by omega) | exact decide_eq_true (by assumption) | (simp (disch := first | decide | omega) only [if_pos_d, if_neg_d, decide_eq_true_eq, Bool.not_eq_true', decide_eq_false_iff_not]; omega), ?_⟩ | refine .inr ⟨by first | rfl | exact decide_eq_false (by omega) | exact decide_eq_false (by assumption) | (simp (disch := first | decide | omega) only [if_pos_d, if_neg_d, decide_eq_true_eq, Bool.not_eq_true', decide_eq_false_iff_not]; omega), ?_⟩
                (repeat (first | apply aw_seq | apply aw_block | apply aw_skip | apply aw_label | apply aw_exit | ((first | refine aw_region (hideO fun QQ hQQ => ?_) | refine aw_draw mixed (hideD fun QQ hQQ => ?_)); simp (maxSteps := 400000) (disch := first | decide | omega) only [f1, f2, go_sem, ↓reduceIte]; try (first | with_reducible refine unhide hQQ ?_ | refine ⟨by kernel_rfl, unhide hQQ ?_⟩); clear hQQ QQ) | with_reducible first | apply then_n | apply block_n | apply then_x | apply then_r | apply nog_n | apply nog_r | apply block_r | apply block_e (by decide) | apply block_x (by decide)))
                refine aw_cond2 (by simp (disch := first | decide | omega) only [f1, f2, go_sem, ↓reduceIte]; rfl) ?_; first | refine .inl ⟨by first | rfl | exact decide_eq_true (by omega) | exact decide_eq_true (by assumption) | (simp (disch := first | decide | omega) only [if_pos_d, if_neg_d, decide_eq_true_eq, Bool.not_eq_true', decide_eq_false_iff_not]; omega), ?_⟩ | refine .inr ⟨by first | rfl | exact decide_eq_false (by omega) | exact decide_eq_false (by assumption) | (simp (disch := first | decide | omega) only [if_pos_d, if_neg_d, decide_eq_true_eq, Bool.not_eq_true', decide_eq_false_iff_not]; omega), ?_⟩
                (repeat (first | apply aw_seq | apply aw_block | apply aw_skip | apply aw_label | apply aw_exit | ((first | refine aw_region (hideO fun QQ hQQ => ?_) | refine aw_draw mixed (hideD fun QQ hQQ => ?_)); simp (maxSteps := 400000) (disch := first | decide | omega) only [f1, f2, go_sem, ↓reduceIte]; try (first | with_reducible refine unhide hQQ ?_ | refine ⟨by kernel_rfl, unhide hQQ ?_⟩); clear hQQ QQ) | with_reducible first | apply then_n | apply block_n | apply then_x | apply then_r | apply nog_n | apply nog_r | apply block_r | apply block_e (by decide) | apply block_x (by decide)))
                refine ⟨⟨h + 1, by omega⟩, ?_, ?_, ?_⟩
                · simp only; omega
                · refine ⟨by dsimp only; omega, by simp (disch := first | decide | omega) only [go_sem, ↓reduceIte]; exact f1, by simp (disch := first | decide | omega) only [go_sem, ↓reduceIte]; exact f2, fun id o ho => ?_, fun id o hl hi h => ?_⟩
                  · rw [hts] at ho
                    have hlt2 := hidn id (hcb.idm _ _ _ ho)
                    simp (disch := first | decide | omega) only [go_sem, ↓reduceIte]
                    exact f3.1 id o ho
                  · simp (disch := first | decide | omega) only [go_sem, ↓reduceIte]
                    exact f3.2 id o hl hi h
                · first | rfl | (simp only [go_sem, ↓reduceIte]; rfl)
              · rw [hrt, if_pos rfl] at hts
                (repeat (first | apply aw_seq | apply aw_block | apply aw_skip | apply aw_label | apply aw_exit | ((first | refine aw_region (hideO fun QQ hQQ => ?_) | refine aw_draw mixed (hideD fun QQ hQQ => ?_)); simp (maxSteps := 400000) (disch := first | decide | omega) only [f1, f2, go_sem, ↓reduceIte]; try (first | with_reducible refine unhide hQQ ?_ | refine ⟨by kernel_rfl, unhide hQQ ?_⟩); clear hQQ QQ) | with_reducible first | apply then_n | apply block_n | apply then_x | apply then_r | apply nog_n | apply nog_r | apply block_r | apply block_e (by decide) | apply block_x (by decide)))
                refine aw_cond2 (by simp (disch := first | decide | omega) only [f1, f2, go_sem, ↓reduceIte]; rfl) ?_; first | refine .inl ⟨by first | rfl | exact decide_eq_true (by omega) | exact decide_eq_true (by assumption) | (simp (disch := first | decide | omega) only [if_pos_d, if_neg_d, decide_eq_true_eq, Bool.not_eq_true', decide_eq_false_iff_not]; omega), ?_⟩ | refine .inr ⟨by first | rfl | exact decide_eq_false (by omega) | exact decide_eq_false (by assumption) | (simp (disch := first | decide | omega) only [if_pos_d, if_neg_d, decide_eq_true_eq, Bool.not_eq_true', decide_eq_false_iff_not]; omega), ?_⟩
                (repeat (first | apply aw_seq | apply aw_block | apply aw_skip | apply aw_label | apply aw_exit | ((first | refine aw_region (hideO fun QQ hQQ => ?_) | refine aw_draw mixed (hideD fun QQ hQQ => ?_)); simp (maxSteps := 400000) (disch := first | decide | omega) only [f1, f2, go_sem, ↓reduceIte]; try (first | with_reducible refine unhide hQQ ?_ | refine ⟨by kernel_rfl, unhide hQQ ?_⟩); clear hQQ QQ) | with_reducible first | apply then_n | apply block_n | apply then_x | apply then_r | apply nog_n | apply nog_r | apply block_r | apply block_e (by decide) | apply block_x (by decide)))
                refine aw_cond2 (by simp (disch := first | decide | omega) only [f1, f2, go_sem, ↓reduceIte]; rfl) ?_; first | refine .inl ⟨by first | rfl | exact decide_eq_true (by omega) | exact decide_eq_true (by assumption) | (simp (disch := first | decide | omega) only [if_pos_d, if_neg_d, decide_eq_true_eq, Bool.not_eq_true', decide_eq_false_iff_not]; omega), ?_⟩ | refine .inr ⟨by first | rfl | exact decide_eq_false (by omega) | exact decide_eq_false (by assumption) | (simp (disch := first | decide | omega) only [if_pos_d, if_neg_d, decide_eq_true_eq, Bool.not_eq_true', decide_eq_false_iff_not]; omega), ?_⟩
                (repeat (first | apply aw_seq | apply aw_block | apply aw_skip | apply aw_label | apply aw_exit | ((first | refine aw_region (hideO fun QQ hQQ => ?_) | refine aw_draw mixed (hideD fun QQ hQQ => ?_)); simp (maxSteps := 400000) (disch := first | decide | omega) only [f1, f2, go_sem, ↓reduceIte]; try (first | with_reducible refine unhide hQQ ?_ | refine ⟨by kernel_rfl, unhide hQQ ?_⟩); clear hQQ QQ) | with_reducible first | apply then_n | apply block_n | apply then_x | apply then_r | apply nog_n | apply nog_r | apply block_r | apply block_e (by decide) | apply block_x (by decide)))
                refine callS_ok rfl rfl g (by simp (disch := first | decide | omega) only [f1, f2, go_sem, ↓reduceIte]; try rfl) (by simp (disch := first | decide | omega) only [f1, f2, go_sem, ↓reduceIte]; try rfl) h5 h6 h7 (CallF.mono (hstep _ _ (TRp L U bales tests m h) m h rfl (hpf hrt) f3) ?_)
                rintro ⟨fr', hpW, nxW⟩ av ⟨rfl, hfr, hnx, hob, hot⟩
                dsimp only at hfr hnx hob hot
                subst hfr hnx
                have k1 := (hot nx (fun hi => by have := hidn _ hi; omega)).trans f1
                have k2 := (hot (nx + 1) (fun hi => by have := hidn _ hi; omega)).trans f2
                (simp (maxSteps := 400000) (disch := first | decide | omega) only [f1, f2, go_sem, ↓reduceIte]; (try (with_reducible refine unhide hQQ ?_; clear hQQ QQ; (repeat with_reducible first | apply then_n | apply block_n | apply then_x | apply then_r | apply nog_n | apply nog_r | apply block_r | apply block_e (by decide) | apply block_x (by decide)))))
                (repeat (first | apply aw_seq | apply aw_block | apply aw_skip | apply aw_label | apply aw_exit | ((first | refine aw_region (hideO fun QQ hQQ => ?_) | refine aw_draw mixed (hideD fun QQ hQQ => ?_)); simp (maxSteps := 400000) (disch := first | decide | omega) only [f1, f2, go_sem, ↓reduceIte]; try (first | with_reducible refine unhide hQQ ?_ | refine ⟨by kernel_rfl, unhide hQQ ?_⟩); clear hQQ QQ) | with_reducible first | apply then_n | apply block_n | apply then_x | apply then_r | apply nog_n | apply nog_r | apply block_r | apply block_e (by decide) | apply block_x (by decide)))
                refine ⟨⟨h + 1, by omega⟩, ?_, ?_, ?_⟩
                · simp only; omega
                · refine ⟨by dsimp only; omega, by simp (disch := first | decide | omega) only [go_sem, ↓reduceIte]; exact k1, by simp (disch := first | decide | omega) only [go_sem, ↓reduceIte]; exact k2, fun id o ho => ?_, fun id o hl hi h => ?_⟩
                  · rw [hts] at ho
                    exact hob id o ho
                  · exact (hot id hi).trans (f3.2 id o hl hi h)
                · first | rfl | (simp only [go_sem, ↓reduceIte]; rfl)
          · rw [decide_eq_true ha, decide_eq_false hb, Bool.true_and] at hre
            (repeat (first | apply aw_seq | apply aw_block | apply aw_skip | apply aw_label | apply aw_exit | ((first | refine aw_region (hideO fun QQ hQQ => ?_) | refine aw_draw mixed (hideD fun QQ hQQ => ?_)); simp (maxSteps := 400000) (disch := first | decide | omega) only [f1, f2, hd1, hd2, go_sem, ↓reduceIte]; try (first | with_reducible refine unhide hQQ ?_ | refine ⟨by kernel_rfl, unhide hQQ ?_⟩); clear hQQ QQ) | with_reducible first | apply then_n | apply block_n | apply then_x | apply then_r | apply nog_n | apply nog_r | apply block_r | apply block_e (by decide) | apply block_x (by decide)))
            refine aw_cond2 (by simp (disch := first | decide | omega) only [f1, f2, hd1, hd2, go_sem, ↓reduceIte]; rfl) ?_; first | refine .inl ⟨by first | rfl | exact decide_eq_true (by omega) | exact decide_eq_true (by assumption) | (simp (disch := first | decide | omega) only [if_pos_d, if_neg_d, decide_eq_true_eq, Bool.not_eq_true', decide_eq_false_iff_not]; omega), ?_⟩ | refine .inr ⟨by first | rfl | exact decide_eq_false (by omega) | exact decide_eq_false (by assumption) | (simp (disch := first | decide | omega) only [if_pos_d, if_neg_d, decide_eq_true_eq, Bool.not_eq_true', decide_eq_false_iff_not]; omega), ?_⟩
            (repeat (first | apply aw_seq | apply aw_block | apply aw_skip | apply aw_label | apply aw_exit | ((first | refine aw_region (hideO fun QQ hQQ => ?_) | refine aw_draw mixed (hideD fun QQ hQQ => ?_)); simp (maxSteps := 400000) (disch := first | decide | omega) only [f1, f2, hd1, hd2, go_sem, ↓reduceIte]; try (first | with_reducible refine unhide hQQ ?_ | refine ⟨by kernel_rfl, unhide hQQ ?_⟩); clear hQQ QQ) | with_reducible first | apply then_n | apply block_n | apply then_x | apply then_r | apply nog_n | apply nog_r | apply block_r | apply block_e (by decide) | apply block_x (by decide)))
            refine aw_weak (weak_thr [1, 2, 4, 6, 7, 8, 9, 14, 15, 41, 42, 56, 57, 58] (by simp only [go_sem, ↓reduceIte]; rfl)) ?_
            refine aw_loop_hp (ι := { k : Nat // k ≤ tests.length }) (fun k => [(58, iA k.1)]) (fun _ => FX (TRp L U bales tests m h)) (fun k => tests.length - k.1) ⟨0, by omega⟩ (by first | rfl | (simp only [go_sem, ↓reduceIte]; rfl)) ?_ ?_
            · refine ⟨by dsimp only; omega, by simp (disch := first | decide | omega) only [go_sem, ↓reduceIte]; exact f1, by simp (disch := first | decide | omega) only [go_sem, ↓reduceIte]; exact f2, fun id o ho => ?_, fun id o hl hi h => ?_⟩
              · have hlt2 := hidn id (hcb.idm _ _ _ ho)
                simp (disch := first | decide | omega) only [go_sem, ↓reduceIte]
                exact f3.1 id o ho
              · simp (disch := first | decide | omega) only [go_sem, ↓reduceIte]
                exact f3.2 id o hl hi h
            clear f0 f1 f2 f3
            rintro ⟨k, hk⟩ hpZ nxZ ⟨f0, f1, f2, f3⟩
            simp (disch := decide) only [ov, ovL, AL.get_nil, AL.get_eq, AL.get_ne, Option.getD_some, Option.getD_none]
            by_cases hkl : k < tests.length
            · obtain ⟨⟨c, fb⟩, hc⟩ : ∃ t, tests.getD k (0, false) = t := ⟨_, rfl⟩
              (repeat (first | apply aw_seq | apply aw_block | apply aw_skip | apply aw_label | apply aw_exit | ((first | refine aw_region (hideO fun QQ hQQ => ?_) | refine aw_draw mixed (hideD fun QQ hQQ => ?_)); simp (maxSteps := 400000) (disch := first | decide | omega) only [hc, f1, f2, go_sem, ↓reduceIte]; try (first | with_reducible refine unhide hQQ ?_ | refine ⟨by kernel_rfl, unhide hQQ ?_⟩); clear hQQ QQ) | with_reducible first | apply then_n | apply block_n | apply then_x | apply then_r | apply nog_n | apply nog_r | apply block_r | apply block_e (by decide) | apply block_x (by decide)))
              refine aw_cond2 (by simp (disch := first | decide | omega) only [hc, f1, f2, go_sem, ↓reduceIte]; rfl) ?_; first | refine .inl ⟨by first | rfl | exact decide_eq_true (by omega) | exact decide_eq_true (by assumption) | (simp (disch := first | decide | omega) only [if_pos_d, if_neg_d, decide_eq_true_eq, Bool.not_eq_true', decide_eq_false_iff_not]; omega), ?_⟩ | refine .inr ⟨by first | rfl | exact decide_eq_false (by omega) | exact decide_eq_false (by assumption) | (simp (disch := first | decide | omega) only [if_pos_d, if_neg_d, decide_eq_true_eq, Bool.not_eq_true', decide_eq_false_iff_not]; omega), ?_⟩
              (repeat (first | apply aw_seq | apply aw_block | apply aw_skip | apply aw_label | apply aw_exit | ((first | refine aw_region (hideO fun QQ hQQ => ?_) | refine aw_draw mixed (hideD fun QQ hQQ => ?_)); simp (maxSteps := 400000) (disch := first | decide | omega) only [hc, f1, f2, go_sem, ↓reduceIte]; try (first | with_reducible refine unhide hQQ ?_ | refine ⟨by kernel_rfl, unhide hQQ ?_⟩); clear hQQ QQ) | with_reducible first | apply then_n | apply block_n | apply then_x | apply then_r | apply nog_n | apply nog_r | apply block_r | apply block_e (by decide) | apply block_x (by decide)))
              refine ⟨⟨k + 1, by omega⟩, ?_, ?_, ?_⟩
              · simp only; omega
              · refine ⟨by dsimp only; omega, by simp (disch := first | decide | omega) only [go_sem, ↓reduceIte]; exact f1, by simp (disch := first | decide | omega) only [go_sem, ↓reduceIte]; exact f2, fun id o ho => ?_, fun id o hl hi h => ?_⟩
                · have hlt2 := hidn id (hcb.idm _ _ _ ho)
                  simp (disch := first | decide | omega) only [go_sem, ↓reduceIte]
                  exact f3.1 id o ho
                · simp (disch := first | decide | omega) only [go_sem, ↓reduceIte]
                  exact f3.2 id o hl hi h
              · first | rfl | (simp only [go_sem, ↓reduceIte]; rfl)
            · have : k = tests.length := by omega
              subst this
              have hrf : rtB L U bales tests m h = false := by rw [← hre]; rfl
              rw [hrf, if_neg (by decide), List.append_nil] at hts
              (repeat (first | apply aw_seq | apply aw_block | apply aw_skip | apply aw_label | apply aw_exit | ((first | refine aw_region (hideO fun QQ hQQ => ?_) | refine aw_draw mixed (hideD fun QQ hQQ => ?_)); simp (maxSteps := 400000) (disch := first | decide | omega) only [f1, f2, go_sem, ↓reduceIte]; try (first | with_reducible refine unhide hQQ ?_ | refine ⟨by kernel_rfl, unhide hQQ ?_⟩); clear hQQ QQ) | with_reducible first | apply then_n | apply block_n | apply then_x | apply then_r | apply nog_n | apply nog_r | apply block_r | apply block_e (by decide) | apply block_x (by decide)))
              refine aw_cond2 (by simp (disch := first | decide | omega) only [f1, f2, go_sem, ↓reduceIte]; rfl) ?_; first | refine .inl ⟨by first | rfl | exact decide_eq_true (by omega) | exact decide_eq_true (by assumption) | (simp (disch := first | decide | omega) only [if_pos_d, if_neg_d, decide_eq_true_eq, Bool.not_eq_true', decide_eq_false_iff_not]; omega), ?_⟩ | refine .inr ⟨by first | rfl | exact decide_eq_false (by omega) | exact decide_eq_false (by assumption) | (simp (disch := first | decide | omega) only [if_pos_d, if_neg_d, decide_eq_true_eq, Bool.not_eq_true', decide_eq_false_iff_not]; omega), ?_⟩
              (repeat (first | apply aw_seq | apply aw_block | apply aw_skip | apply aw_label | apply aw_exit | ((first | refine aw_region (hideO fun QQ hQQ => ?_) | refine aw_draw mixed (hideD fun QQ hQQ => ?_)); simp (maxSteps := 400000) (disch := first | decide | omega) only [f1, f2, go_sem, ↓reduceIte]; try (first | with_reducible refine unhide hQQ ?_ | refine ⟨by kernel_rfl, unhide hQQ ?_⟩); clear hQQ QQ) | with_reducible first | apply then_n | apply block_n | apply then_x | apply then_r | apply nog_n | apply nog_r | apply block_r | apply block_e (by decide) | apply block_x (by decide)))
              refine aw_cond2 (by simp (disch := first | decide | omega) only [f1, f2, go_sem, ↓reduceIte]; rfl) ?_; first | refine .inl ⟨by first | rfl | exact decide_eq_true (by omega) | exact decide_eq_true (by assumption) | (simp (disch := first | decide | omega) only [if_pos_d, if_neg_d, decide_eq_true_eq, Bool.not_eq_true', decide_eq_false_iff_not]; omega), ?_⟩ | refine .inr ⟨by first | rfl | exact decide_eq_false (by omega) | exact decide_eq_false (by assumption) | (simp (disch := first | decide | omega) only [if_pos_d, if_neg_d, decide_eq_true_eq, Bool.not_eq_true', decide_eq_false_iff_not]; omega), ?_⟩
              (repeat (first | apply aw_seq | apply aw_block | apply aw_skip | apply aw_label | apply aw_exit | ((first | refine aw_region (hideO fun QQ hQQ => ?_) | refine aw_draw mixed (hideD fun QQ hQQ => ?_)); simp (maxSteps := 400000) (disch := first | decide | omega) only [f1, f2, go_sem, ↓reduceIte]; try (first | with_reducible refine unhide hQQ ?_ | refine ⟨by kernel_rfl, unhide hQQ ?_⟩); clear hQQ QQ) | with_reducible first | apply then_n | apply block_n | apply then_x | apply then_r | apply nog_n | apply nog_r | apply block_r | apply block_e (by decide) | apply block_x (by decide)))
              refine ⟨⟨h + 1, by omega⟩, ?_, ?_, ?_⟩
              · simp only; omega
              · refine ⟨by dsimp only; omega, by simp (disch := first | decide | omega) only [go_sem, ↓reduceIte]; exact f1, by simp (disch := first | decide | omega) only [go_sem, ↓reduceIte]; exact f2, fun id o ho => ?_, fun id o hl hi h => ?_⟩
                · rw [hts] at ho
                  have hlt2 := hidn id (hcb.idm _ _ _ ho)
                  simp (disch := first | decide | omega) only [go_sem, ↓reduceIte]
                  exact f3.1 id o ho
                · simp (disch := first | decide | omega) only [go_sem, ↓reduceIte]
                  exact f3.2 id o hl hi h
              · first | rfl | (simp only [go_sem, ↓reduceIte]; rfl)
        · rw [decide_eq_false ha, Bool.false_and] at hre
          (repeat (first | apply aw_seq | apply aw_block | apply aw_skip | apply aw_label | apply aw_exit | ((first | refine aw_region (hideO fun QQ hQQ => ?_) | refine aw_draw mixed (hideD fun QQ hQQ => ?_)); simp (maxSteps := 400000) (disch := first | decide | omega) only [f1, f2, hd1, hd2, go_sem, ↓reduceIte]; try (first | with_reducible refine unhide hQQ ?_ | refine ⟨by kernel_rfl, unhide hQQ ?_⟩); clear hQQ QQ) | with_reducible first | apply then_n | apply block_n | apply then_x | apply then_r | apply nog_n | apply nog_r | apply block_r | apply block_e (by decide) | apply block_x (by decide)))
          refine aw_cond2 (by simp (disch := first | decide | omega) only [f1, f2, hd1, hd2, go_sem, ↓reduceIte]; rfl) ?_; first | refine .inl ⟨by first | rfl | exact decide_eq_true (by omega) | exact decide_eq_true (by assumption) | (simp (disch := first | decide | omega) only [if_pos_d, if_neg_d, decide_eq_true_eq, Bool.not_eq_true', decide_eq_false_iff_not]; omega), ?_⟩ | refine .inr ⟨by first | rfl | exact decide_eq_false (by omega) | exact decide_eq_false (by assumption) | (simp (disch := first | decide | omega) only [if_pos_d, if_neg_d, decide_eq_true_eq, Bool.not_eq_true', decide_eq_false_iff_not]; omega), ?_⟩
          (repeat (first | apply aw_seq | apply aw_block | apply aw_skip | apply aw_label | apply aw_exit | ((first | refine aw_region (hideO fun QQ hQQ => ?_) | refine aw_draw mixed (hideD fun QQ hQQ => ?_)); simp (maxSteps := 400000) (disch := first | decide | omega) only [f1, f2, hd1, hd2, go_sem, ↓reduceIte]; try (first | with_reducible refine unhide hQQ ?_ | refine ⟨by kernel_rfl, unhide hQQ ?_⟩); clear hQQ QQ) | with_reducible first | apply then_n | apply block_n | apply then_x | apply then_r | apply nog_n | apply nog_r | apply block_r | apply block_e (by decide) | apply block_x (by decide)))
          refine aw_weak (weak_thr [1, 2, 4, 6, 7, 8, 9, 14, 15, 41, 42, 56, 57, 58] (by simp only [go_sem, ↓reduceIte]; rfl)) ?_
          refine aw_loop_hp (ι := { k : Nat // k ≤ tests.length }) (fun k => [(58, iA k.1)]) (fun _ => FX (TRp L U bales tests m h)) (fun k => tests.length - k.1) ⟨0, by omega⟩ (by first | rfl | (simp only [go_sem, ↓reduceIte]; rfl)) ?_ ?_
          · refine ⟨by dsimp only; omega, by simp (disch := first | decide | omega) only [go_sem, ↓reduceIte]; exact f1, by simp (disch := first | decide | omega) only [go_sem, ↓reduceIte]; exact f2, fun id o ho => ?_, fun id o hl hi h => ?_⟩
            · have hlt2 := hidn id (hcb.idm _ _ _ ho)
              simp (disch := first | decide | omega) only [go_sem, ↓reduceIte]
              exact f3.1 id o ho
            · simp (disch := first | decide | omega) only [go_sem, ↓reduceIte]
              exact f3.2 id o hl hi h
          clear f0 f1 f2 f3
          rintro ⟨k, hk⟩ hpZ nxZ ⟨f0, f1, f2, f3⟩
          simp (disch := decide) only [ov, ovL, AL.get_nil, AL.get_eq, AL.get_ne, Option.getD_some, Option.getD_none]
          by_cases hkl : k < tests.length
          · obtain ⟨⟨c, fb⟩, hc⟩ : ∃ t, tests.getD k (0, false) = t := ⟨_, rfl⟩
            (repeat (first | apply aw_seq | apply aw_block | apply aw_skip | apply aw_label | apply aw_exit | ((first | refine aw_region (hideO fun QQ hQQ => ?_) | refine aw_draw mixed (hideD fun QQ hQQ => ?_)); simp (maxSteps := 400000) (disch := first | decide | omega) only [hc, f1, f2, go_sem, ↓reduceIte]; try (first | with_reducible refine unhide hQQ ?_ | refine ⟨by kernel_rfl, unhide hQQ ?_⟩); clear hQQ QQ) | with_reducible first | apply then_n | apply block_n | apply then_x | apply then_r | apply nog_n | apply nog_r | apply block_r | apply block_e (by decide) | apply block_x (by decide)))
            refine aw_cond2 (by simp (disch := first | decide | omega) only [hc, f1, f2, go_sem, ↓reduceIte]; rfl) ?_; first | refine .inl ⟨by first | rfl | exact decide_eq_true (by omega) | exact decide_eq_true (by assumption) | (simp (disch := first | decide | omega) only [if_pos_d, if_neg_d, decide_eq_true_eq, Bool.not_eq_true', decide_eq_false_iff_not]; omega), ?_⟩ | refine .inr ⟨by first | rfl | exact decide_eq_false (by omega) | exact decide_eq_false (by assumption) | (simp (disch := first | decide | omega) only [if_pos_d, if_neg_d, decide_eq_true_eq, Bool.not_eq_true', decide_eq_false_iff_not]; omega), ?_⟩
            (repeat (first | apply aw_seq | apply aw_block | apply aw_skip | apply aw_label | apply aw_exit | ((first | refine aw_region (hideO fun QQ hQQ => ?_) | refine aw_draw mixed (hideD fun QQ hQQ => ?_)); simp (maxSteps := 400000) (disch := first | decide | omega) only [hc, f1, f2, go_sem, ↓reduceIte]; try (first | with_reducible refine unhide hQQ ?_ | refine ⟨by kernel_rfl, unhide hQQ ?_⟩); clear hQQ QQ) | with_reducible first | apply then_n | apply block_n | apply then_x | apply then_r | apply nog_n | apply nog_r | apply block_r | apply block_e (by decide) | apply block_x (by decide)))
            refine ⟨⟨k + 1, by omega⟩, ?_, ?_, ?_⟩
            · simp only; omega
            · refine ⟨by dsimp only; omega, by simp (disch := first | decide | omega) only [go_sem, ↓reduceIte]; exact f1, by simp (disch := first | decide | omega) only [go_sem, ↓reduceIte]; exact f2, fun id o ho => ?_, fun id o hl hi h => ?_⟩
              · have hlt2 := hidn id (hcb.idm _ _ _ ho)
                simp (disch := first | decide | omega) only [go_sem, ↓reduceIte]
                exact f3.1 id o ho
              · simp (disch := first | decide | omega) only [go_sem, ↓reduceIte]
                exact f3.2 id o hl hi h
            · first | rfl | (simp only [go_sem, ↓reduceIte]; rfl)
          · have : k = tests.length := by omega
            subst this
            have hrf : rtB L U bales tests m h = false := by rw [← hre]; rfl
            rw [hrf, if_neg (by decide), List.append_nil] at hts
            (repeat (first | apply aw_seq | apply aw_block | apply aw_skip | apply aw_label | apply aw_exit | ((first | refine aw_region (hideO fun QQ hQQ => ?_) | refine aw_draw mixed (hideD fun QQ hQQ => ?_)); simp (maxSteps := 400000) (disch := first | decide | omega) only [f1, f2, go_sem, ↓reduceIte]; try (first | with_reducible refine unhide hQQ ?_ | refine ⟨by kernel_rfl, unhide hQQ ?_⟩); clear hQQ QQ) | with_reducible first | apply then_n | apply block_n | apply then_x | apply then_r | apply nog_n | apply nog_r | apply block_r | apply block_e (by decide) | apply block_x (by decide)))
            refine aw_cond2 (by simp (disch := first | decide | omega) only [f1, f2, go_sem, ↓reduceIte]; rfl) ?_; first | refine .inl ⟨by first | rfl | exact decide_eq_true (by omega) | exact decide_eq_true (by assumption) | (simp (disch := first | decide | omega) only [if_pos_d, if_neg_d, decide_eq_true_eq, Bool.not_eq_true', decide_eq_false_iff_not]; omega), ?_⟩ | refine .inr ⟨by first | rfl | exact decide_eq_false (by omega) | exact decide_eq_false (by assumption) | (simp (disch := first | decide | omega) only [if_pos_d, if_neg_d, decide_eq_true_eq, Bool.not_eq_true', decide_eq_false_iff_not]; omega), ?_⟩
            (repeat (first | apply aw_seq | apply aw_block | apply aw_skip | apply aw_label | apply aw_exit | ((first | refine aw_region (hideO fun QQ hQQ => ?_) | refine aw_draw mixed (hideD fun QQ hQQ => ?_)); simp (maxSteps := 400000) (disch := first | decide | omega) only [f1, f2, go_sem, ↓reduceIte]; try (first | with_reducible refine unhide hQQ ?_ | refine ⟨by kernel_rfl, unhide hQQ ?_⟩); clear hQQ QQ) | with_reducible first | apply then_n | apply block_n | apply then_x | apply then_r | apply nog_n | apply nog_r | apply block_r | apply block_e (by decide) | apply block_x (by decide)))
            refine aw_cond2 (by simp (disch := first | decide | omega) only [f1, f2, go_sem, ↓reduceIte]; rfl) ?_; first | refine .inl ⟨by first | rfl | exact decide_eq_true (by omega) | exact decide_eq_true (by assumption) | (simp (disch := first | decide | omega) only [if_pos_d, if_neg_d, decide_eq_true_eq, Bool.not_eq_true', decide_eq_false_iff_not]; omega), ?_⟩ | refine .inr ⟨by first | rfl | exact decide_eq_false (by omega) | exact decide_eq_false (by assumption) | (simp (disch := first | decide | omega) only [if_pos_d, if_neg_d, decide_eq_true_eq, Bool.not_eq_true', decide_eq_false_iff_not]; omega), ?_⟩
            (repeat (first | apply aw_seq | apply aw_block | apply aw_skip | apply aw_label | apply aw_exit | ((first | refine aw_region (hideO fun QQ hQQ => ?_) | refine aw_draw mixed (hideD fun QQ hQQ => ?_)); simp (maxSteps := 400000) (disch := first | decide | omega) only [f1, f2, go_sem, ↓reduceIte]; try (first | with_reducible refine unhide hQQ ?_ | refine ⟨by kernel_rfl, unhide hQQ ?_⟩); clear hQQ QQ) | with_reducible first | apply then_n | apply block_n | apply then_x | apply then_r | apply nog_n | apply nog_r | apply block_r | apply block_e (by decide) | apply block_x (by decide)))
            refine ⟨⟨h + 1, by omega⟩, ?_, ?_, ?_⟩
            · simp only; omega
            · refine ⟨by dsimp only; omega, by simp (disch := first | decide | omega) only [go_sem, ↓reduceIte]; exact f1, by simp (disch := first | decide | omega) only [go_sem, ↓reduceIte]; exact f2, fun id o ho => ?_, fun id o hl hi h => ?_⟩
              · rw [hts] at ho
                have hlt2 := hidn id (hcb.idm _ _ _ ho)
                simp (disch := first | decide | omega) only [go_sem, ↓reduceIte]
                exact f3.1 id o ho
              · simp (disch := first | decide | omega) only [go_sem, ↓reduceIte]
                exact f3.2 id o hl hi h
            · first | rfl | (simp only [go_sem, ↓reduceIte]; rfl)
      · have : h = X := by omega
        subst this
        have hmn := htm m
        (repeat (first | apply aw_seq | apply aw_block | apply aw_skip | apply aw_label | apply aw_exit | ((first | refine aw_region (hideO fun QQ hQQ => ?_) | refine aw_draw mixed (hideD fun QQ hQQ => ?_)); simp (maxSteps := 400000) (disch := first | decide | omega) only [f1, f2, go_sem, ↓reduceIte]; try (first | with_reducible refine unhide hQQ ?_ | refine ⟨by kernel_rfl, unhide hQQ ?_⟩); clear hQQ QQ) | with_reducible first | apply then_n | apply block_n | apply then_x | apply then_r | apply nog_n | apply nog_r | apply block_r | apply block_e (by decide) | apply block_x (by decide)))
        refine aw_cond2 (by simp (disch := first | decide | omega) only [f1, f2, go_sem, ↓reduceIte]; rfl) ?_; first | refine .inl ⟨by first | rfl | exact decide_eq_true (by omega) | exact decide_eq_true (by assumption) | (simp (disch := first | decide | omega) only [if_pos_d, if_neg_d, decide_eq_true_eq, Bool.not_eq_true', decide_eq_false_iff_not]; omega), ?_⟩ | refine .inr ⟨by first | rfl | exact decide_eq_false (by omega) | exact decide_eq_false (by assumption) | (simp (disch := first | decide | omega) only [if_pos_d, if_neg_d, decide_eq_true_eq, Bool.not_eq_true', decide_eq_false_iff_not]; omega), ?_⟩
        (repeat (first | apply aw_seq | apply aw_block | apply aw_skip | apply aw_label | apply aw_exit | ((first | refine aw_region (hideO fun QQ hQQ => ?_) | refine aw_draw mixed (hideD fun QQ hQQ => ?_)); simp (maxSteps := 400000) (disch := first | decide | omega) only [f1, f2, go_sem, ↓reduceIte]; try (first | with_reducible refine unhide hQQ ?_ | refine ⟨by kernel_rfl, unhide hQQ ?_⟩); clear hQQ QQ) | with_reducible first | apply then_n | apply block_n | apply then_x | apply then_r | apply nog_n | apply nog_r | apply block_r | apply block_e (by decide) | apply block_x (by decide)))
        refine ⟨⟨m + 1, by omega⟩, ?_, ?_, ?_⟩
        · simp only; omega
        · refine ⟨by dsimp only; omega, by simp (disch := first | decide | omega) only [go_sem, ↓reduceIte]; exact f1, by simp (disch := first | decide | omega) only [go_sem, ↓reduceIte]; exact f2, fun id o ho => ?_, fun id o hl hi h => ?_⟩
          · rw [hmn] at ho
            have hlt2 := hidn id (hcb.idm _ _ _ ho)
            simp (disch := first | decide | omega) only [go_sem, ↓reduceIte]
            exact f3.1 id o ho
          · simp (disch := first | decide | omega) only [go_sem, ↓reduceIte]
            exact f3.2 id o hl hi h
        · first | rfl | (simp only [go_sem, ↓reduceIte]; rfl)
    · have hbad := TRp_bad (L := L) (U := U) (bales := bales) (tests := tests) hpr
      generalize popc m = pm at *
      by_cases hlo : pm < L
      · skip
        (repeat (first | apply aw_seq | apply aw_block | apply aw_skip | apply aw_label | apply aw_exit | ((first | refine aw_region (hideO fun QQ hQQ => ?_) | refine aw_draw mixed (hideD fun QQ hQQ => ?_)); simp (maxSteps := 400000) (disch := first | decide | omega) only [f1, f2, hsh2, go_sem, ↓reduceIte]; try (first | with_reducible refine unhide hQQ ?_ | refine ⟨by kernel_rfl, unhide hQQ ?_⟩); clear hQQ QQ) | with_reducible first | apply then_n | apply block_n | apply then_x | apply then_r | apply nog_n | apply nog_r | apply block_r | apply block_e (by decide) | apply block_x (by decide)))
        refine aw_cond2 (by simp (disch := first | decide | omega) only [f1, f2, hsh2, go_sem, ↓reduceIte]; rfl) ?_; first | refine .inl ⟨by first | rfl | exact decide_eq_true (by omega) | exact decide_eq_true (by assumption) | (simp (disch := first | decide | omega) only [if_pos_d, if_neg_d, decide_eq_true_eq, Bool.not_eq_true', decide_eq_false_iff_not]; omega), ?_⟩ | refine .inr ⟨by first | rfl | exact decide_eq_false (by omega) | exact decide_eq_false (by assumption) | (simp (disch := first | decide | omega) only [if_pos_d, if_neg_d, decide_eq_true_eq, Bool.not_eq_true', decide_eq_false_iff_not]; omega), ?_⟩
        (repeat (first | apply aw_seq | apply aw_block | apply aw_skip | apply aw_label | apply aw_exit | ((first | refine aw_region (hideO fun QQ hQQ => ?_) | refine aw_draw mixed (hideD fun QQ hQQ => ?_)); simp (maxSteps := 400000) (disch := first | decide | omega) only [f1, f2, hsh2, go_sem, ↓reduceIte]; try (first | with_reducible refine unhide hQQ ?_ | refine ⟨by kernel_rfl, unhide hQQ ?_⟩); clear hQQ QQ) | with_reducible first | apply then_n | apply block_n | apply then_x | apply then_r | apply nog_n | apply nog_r | apply block_r | apply block_e (by decide) | apply block_x (by decide)))
        ((refine callO_ok rfl rfl 37 true rfl (by simp (disch := first | decide | omega) only [f1, f2, hsh2, go_sem, ↓reduceIte]; try rfl) (fun _ => rfl) (hz) Try.func37 rfl (by decide) ?_); simp (maxSteps := 400000) (disch := first | decide | omega) only [f1, f2, hsh2, go_sem, ↓reduceIte]; try (with_reducible refine unhide hQQ ?_; clear hQQ QQ)); (repeat (first | apply aw_seq | apply aw_block | apply aw_skip | apply aw_label | apply aw_exit | ((first | refine aw_region (hideO fun QQ hQQ => ?_) | refine aw_draw mixed (hideD fun QQ hQQ => ?_)); simp (maxSteps := 400000) (disch := first | decide | omega) only [f1, f2, hsh2, go_sem, ↓reduceIte]; try (first | with_reducible refine unhide hQQ ?_ | refine ⟨by kernel_rfl, unhide hQQ ?_⟩); clear hQQ QQ) | with_reducible first | apply then_n | apply block_n | apply then_x | apply then_r | apply nog_n | apply nog_r | apply block_r | apply block_e (by decide) | apply block_x (by decide)))
        refine aw_cond2 (by simp (disch := first | decide | omega) only [f1, f2, hsh2, go_sem, ↓reduceIte]; rfl) ?_; first | refine .inl ⟨by first | rfl | exact decide_eq_true (by omega) | exact decide_eq_true (by assumption) | (simp (disch := first | decide | omega) only [if_pos_d, if_neg_d, decide_eq_true_eq, Bool.not_eq_true', decide_eq_false_iff_not]; omega), ?_⟩ | refine .inr ⟨by first | rfl | exact decide_eq_false (by omega) | exact decide_eq_false (by assumption) | (simp (disch := first | decide | omega) only [if_pos_d, if_neg_d, decide_eq_true_eq, Bool.not_eq_true', decide_eq_false_iff_not]; omega), ?_⟩
        (refine aw_exit ?_); (repeat with_reducible first | apply then_n | apply block_n | apply then_x | apply then_r | apply nog_n | apply nog_r | apply block_r | apply block_e (by decide) | apply block_x (by decide))
        (repeat (first | apply aw_seq | apply aw_block | apply aw_skip | apply aw_label | apply aw_exit | ((first | refine aw_region (hideO fun QQ hQQ => ?_) | refine aw_draw mixed (hideD fun QQ hQQ => ?_)); simp (maxSteps := 400000) (disch := first | decide | omega) only [f1, f2, hsh2, go_sem, ↓reduceIte]; try (first | with_reducible refine unhide hQQ ?_ | refine ⟨by kernel_rfl, unhide hQQ ?_⟩); clear hQQ QQ) | with_reducible first | apply then_n | apply block_n | apply then_x | apply then_r | apply nog_n | apply nog_r | apply block_r | apply block_e (by decide) | apply block_x (by decide)))
        refine ⟨⟨m + 1, by omega⟩, ?_, ?_, ?_⟩
        · simp only; omega
        · refine ⟨by dsimp only; omega, by simp (disch := first | decide | omega) only [go_sem, ↓reduceIte]; exact f1, by simp (disch := first | decide | omega) only [go_sem, ↓reduceIte]; exact f2, fun id o ho => ?_, fun id o hl hi h => ?_⟩
          · rw [hbad] at ho
            have hlt2 := hidn id (hcb.idm _ _ _ ho)
            simp (disch := first | decide | omega) only [go_sem, ↓reduceIte]
            exact f3.1 id o ho
          · simp (disch := first | decide | omega) only [go_sem, ↓reduceIte]
            exact f3.2 id o hl hi h
        · first | rfl | (simp only [go_sem, ↓reduceIte]; rfl)
      · have hup : U < pm := by omega
        (repeat (first | apply aw_seq | apply aw_block | apply aw_skip | apply aw_label | apply aw_exit | ((first | refine aw_region (hideO fun QQ hQQ => ?_) | refine aw_draw mixed (hideD fun QQ hQQ => ?_)); simp (maxSteps := 400000) (disch := first | decide | omega) only [f1, f2, hsh2, go_sem, ↓reduceIte]; try (first | with_reducible refine unhide hQQ ?_ | refine ⟨by kernel_rfl, unhide hQQ ?_⟩); clear hQQ QQ) | with_reducible first | apply then_n | apply block_n | apply then_x | apply then_r | apply nog_n | apply nog_r | apply block_r | apply block_e (by decide) | apply block_x (by decide)))
        refine aw_cond2 (by simp (disch := first | decide | omega) only [f1, f2, hsh2, go_sem, ↓reduceIte]; rfl) ?_; first | refine .inl ⟨by first | rfl | exact decide_eq_true (by omega) | exact decide_eq_true (by assumption) | (simp (disch := first | decide | omega) only [if_pos_d, if_neg_d, decide_eq_true_eq, Bool.not_eq_true', decide_eq_false_iff_not]; omega), ?_⟩ | refine .inr ⟨by first | rfl | exact decide_eq_false (by omega) | exact decide_eq_false (by assumption) | (simp (disch := first | decide | omega) only [if_pos_d, if_neg_d, decide_eq_true_eq, Bool.not_eq_true', decide_eq_false_iff_not]; omega), ?_⟩
        (repeat (first | apply aw_seq | apply aw_block | apply aw_skip | apply aw_label | apply aw_exit | ((first | refine aw_region (hideO fun QQ hQQ => ?_) | refine aw_draw mixed (hideD fun QQ hQQ => ?_)); simp (maxSteps := 400000) (disch := first | decide | omega) only [f1, f2, hsh2, go_sem, ↓reduceIte]; try (first | with_reducible refine unhide hQQ ?_ | refine ⟨by kernel_rfl, unhide hQQ ?_⟩); clear hQQ QQ) | with_reducible first | apply then_n | apply block_n | apply then_x | apply then_r | apply nog_n | apply nog_r | apply block_r | apply block_e (by decide) | apply block_x (by decide)))
        ((refine callO_ok rfl rfl 37 true rfl (by simp (disch := first | decide | omega) only [f1, f2, hsh2, go_sem, ↓reduceIte]; try rfl) (fun _ => rfl) (hz) Try.func37 rfl (by decide) ?_); simp (maxSteps := 400000) (disch := first | decide | omega) only [f1, f2, hsh2, go_sem, ↓reduceIte]; try (with_reducible refine unhide hQQ ?_; clear hQQ QQ)); (repeat (first | apply aw_seq | apply aw_block | apply aw_skip | apply aw_label | apply aw_exit | ((first | refine aw_region (hideO fun QQ hQQ => ?_) | refine aw_draw mixed (hideD fun QQ hQQ => ?_)); simp (maxSteps := 400000) (disch := first | decide | omega) only [f1, f2, hsh2, go_sem, ↓reduceIte]; try (first | with_reducible refine unhide hQQ ?_ | refine ⟨by kernel_rfl, unhide hQQ ?_⟩); clear hQQ QQ) | with_reducible first | apply then_n | apply block_n | apply then_x | apply then_r | apply nog_n | apply nog_r | apply block_r | apply block_e (by decide) | apply block_x (by decide)))
        refine aw_cond2 (by simp (disch := first | decide | omega) only [f1, f2, hsh2, go_sem, ↓reduceIte]; rfl) ?_; first | refine .inl ⟨by first | rfl | exact decide_eq_true (by omega) | exact decide_eq_true (by assumption) | (simp (disch := first | decide | omega) only [if_pos_d, if_neg_d, decide_eq_true_eq, Bool.not_eq_true', decide_eq_false_iff_not]; omega), ?_⟩ | refine .inr ⟨by first | rfl | exact decide_eq_false (by omega) | exact decide_eq_false (by assumption) | (simp (disch := first | decide | omega) only [if_pos_d, if_neg_d, decide_eq_true_eq, Bool.not_eq_true', decide_eq_false_iff_not]; omega), ?_⟩
        (refine aw_exit ?_); (repeat with_reducible first | apply then_n | apply block_n | apply then_x | apply then_r | apply nog_n | apply nog_r | apply block_r | apply block_e (by decide) | apply block_x (by decide))
        (repeat (first | apply aw_seq | apply aw_block | apply aw_skip | apply aw_label | apply aw_exit | ((first | refine aw_region (hideO fun QQ hQQ => ?_) | refine aw_draw mixed (hideD fun QQ hQQ => ?_)); simp (maxSteps := 400000) (disch := first | decide | omega) only [f1, f2, hsh2, go_sem, ↓reduceIte]; try (first | with_reducible refine unhide hQQ ?_ | refine ⟨by kernel_rfl, unhide hQQ ?_⟩); clear hQQ QQ) | with_reducible first | apply then_n | apply block_n | apply then_x | apply then_r | apply nog_n | apply nog_r | apply block_r | apply block_e (by decide) | apply block_x (by decide)))
        refine ⟨⟨m + 1, by omega⟩, ?_, ?_, ?_⟩
        · simp only; omega
        · refine ⟨by dsimp only; omega, by simp (disch := first | decide | omega) only [go_sem, ↓reduceIte]; exact f1, by simp (disch := first | decide | omega) only [go_sem, ↓reduceIte]; exact f2, fun id o ho => ?_, fun id o hl hi h => ?_⟩
          · rw [hbad] at ho
            have hlt2 := hidn id (hcb.idm _ _ _ ho)
            simp (disch := first | decide | omega) only [go_sem, ↓reduceIte]
            exact f3.1 id o ho
          · simp (disch := first | decide | omega) only [go_sem, ↓reduceIte]
            exact f3.2 id o hl hi h
        · first | rfl | (simp only [go_sem, ↓reduceIte]; rfl)
  · have : m = Y := by omega
    subst this
    (repeat (first | apply aw_seq | apply aw_block | apply aw_skip | apply aw_label | apply aw_exit | ((first | refine aw_region (hideO fun QQ hQQ => ?_) | refine aw_draw mixed (hideD fun QQ hQQ => ?_)); simp (maxSteps := 400000) (disch := first | decide | omega) only [f1, f2, go_sem, ↓reduceIte]; try (first | with_reducible refine unhide hQQ ?_ | refine ⟨by kernel_rfl, unhide hQQ ?_⟩); clear hQQ QQ) | with_reducible first | apply then_n | apply block_n | apply then_x | apply then_r | apply nog_n | apply nog_r | apply block_r | apply block_e (by decide) | apply block_x (by decide)))
    refine aw_cond2 (by simp (disch := first | decide | omega) only [f1, f2, go_sem, ↓reduceIte]; rfl) ?_; first | refine .inl ⟨by first | rfl | exact decide_eq_true (by omega) | exact decide_eq_true (by assumption) | (simp (disch := first | decide | omega) only [if_pos_d, if_neg_d, decide_eq_true_eq, Bool.not_eq_true', decide_eq_false_iff_not]; omega), ?_⟩ | refine .inr ⟨by first | rfl | exact decide_eq_false (by omega) | exact decide_eq_false (by assumption) | (simp (disch := first | decide | omega) only [if_pos_d, if_neg_d, decide_eq_true_eq, Bool.not_eq_true', decide_eq_false_iff_not]; omega), ?_⟩
    (repeat (first | apply aw_seq | apply aw_block | apply aw_skip | apply aw_label | apply aw_exit | ((first | refine aw_region (hideO fun QQ hQQ => ?_) | refine aw_draw mixed (hideD fun QQ hQQ => ?_)); simp (maxSteps := 400000) (disch := first | decide | omega) only [f1, f2, go_sem, ↓reduceIte]; try (first | with_reducible refine unhide hQQ ?_ | refine ⟨by kernel_rfl, unhide hQQ ?_⟩); clear hQQ QQ) | with_reducible first | apply then_n | apply block_n | apply then_x | apply then_r | apply nog_n | apply nog_r | apply block_r | apply block_e (by decide) | apply block_x (by decide)))
    refine ⟨.inl rfl, _, by simp (disch := first | decide | omega) only [go_sem, ↓reduceIte]; try rfl, f1, ⟨fr, ob (TRp L U bales tests m 0) ++ hp, nx⟩, rfl, closed_ob hcl hcb _, fun id o ho => ?_, fun i hi => (by cases hi), rfl, rfl⟩
    have ho : AL.get (ob (TRp L U bales tests m 0) ++ hp) id = some o := ho
    rw [AL_append] at ho
    cases hq : AL.get (ob (TRp L U bales tests m 0)) id with
    | some o' => rw [hq] at ho; cases ho; exact f3.1 _ _ hq
    | none =>
      rw [hq] at ho
      refine f3.2 id o (hlt id o ho) (fun hi => ?_) ho
      obtain ⟨o', ho'⟩ := hcb.cov (TRp L U bales tests m 0) id hi
      rw [ho'] at hq; cases hq
end
end Go.Proofs.Ytknikcpeacmpmaa
