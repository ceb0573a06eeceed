/- burr: whether some bales tell of the top line, walked. -/
import Derived.Test.YtknikcpeacmpmaaKn
import Derived.DeepKeys4
set_option linter.all false
namespace Go.Proofs.Ytknikcpeacmpmaa
open Go Go.RowKit Go.Sh Go.Pv
set_option maxHeartbeats 8000000
set_option maxRecDepth 8000
set_option pp.maxSteps 60000
theorem Try.laidOut : laidOutB Try.prog = true := by kernel_rfl
theorem key118 : WideMaps.KeyLaw Try.prog 118 := deep_law_laid Try.laidOut (m := 5) (by omega) (of_decide_eq_true (by kernel_rfl)) (by kernel_rfl) (by kernel_rfl)
theorem und116 : Try.prog.underlying 116 = some (.map 118 3) := by kernel_rfl
theorem cells118 : Try.prog.cellsOf 118 = 1 := by kernel_rfl
theorem cells3 : Try.prog.cellsOf 3 = 1 := by kernel_rfl
theorem types_size : Try.prog.types.size = 145 := by kernel_rfl
theorem keyOf118 (s : Int) (hs : 0 ≤ s ∧ s < 256) : ∃ l, keyOf Try.prog 118 (.agg #[.int .i64 s]) = some l := by
  have hw : (Lit.int .i64 s).wf = true := by
    have : IntKind.min .i64 = -9223372036854775808 ∧ IntKind.max .i64 = 9223372036854775807 := by decide
    simp only [Lit.wf, Bool.and_eq_true, decide_eq_true_eq]; omega
  have h1 : Try.prog.keyType 118 = true := by kernel_rfl
  have i0 : ∀ d, Try.prog.keyLits (d + 1) 3 [.int .i64 s] = some [.int .i64 s] := fun d => by
    unfold Program.keyLits; simp [Try.underlying3, hw]
  have i2 : ∀ d, Try.prog.keyLits (d + 1 + 1) 118 [.int .i64 s] = some [.int .i64 s] := fun d => by
    unfold Program.keyLits; simp [Try.underlying118, cells118, cells3, i0]
  unfold keyOf
  simp only [Try.underlying118, h1, types_size, Value.formed, Value.cells, cells118]
  exact ⟨_, by rw [show (145 + 1 : Nat) = 144 + 1 + 1 from rfl, i2 144]; rfl⟩
theorem zero3 : ∀ w, (zeroValue 3).run Try.prog w = .ok (.int .i64 0) w := fun w => by kernel_rfl
/-- What the map holds once some sets of bales were seen. -/
def tellI (S T : Nat) (P : List Nat) : MI := ⟨fun a b => ∃ h ∈ P, a = .agg #[.int .i64 ((h &&& S : Nat) : Int)] ∧ b = .int .i64 ((h &&& T : Nat) : Int), fun a b => ∃ h ∈ P, a = .agg #[.int .i64 ((h &&& S : Nat) : Int)] ∧ b = .int .i64 ((h &&& T : Nat) : Int)⟩
/-- What is found in a set tells of the top line. -/
def Tells (S T : Nat) (P : List Nat) : Prop := ∀ h ∈ P, ∀ h' ∈ P, h &&& S = h' &&& S → h &&& T = h' &&& T
instance (S T : Nat) (P : List Nat) : Decidable (Tells S T P) := by unfold Tells; exact inferInstance
theorem key_inj {a b : Nat} (h : Value.agg #[.int .i64 (a : Int)] = Value.agg #[.int .i64 (b : Int)]) : a = b := by
  simp only [Value.agg.injEq, Array.mk.injEq, List.cons.injEq, Value.int.injEq, and_true, true_and] at h
  omega
theorem val_inj {a b : Nat} (h : Value.int .i64 (a : Int) = Value.int .i64 (b : Int)) : a = b := by
  simp only [Value.int.injEq, true_and] at h
  omega
theorem relR_int (i : Int) : ∀ Z w, RelR Z w (.one (iP i)) (.int .i64 i) := fun _ _ => .v _ rfl
theorem tells_add {S T x : Nat} {P : List Nat} (h : Tells S T P) (hx : ∀ h ∈ P, h &&& S = x &&& S → h &&& T = x &&& T) : Tells S T (P ++ [x]) := by
  intro a ha b hb e
  simp only [List.mem_append, List.mem_singleton] at ha hb
  rcases ha with ha | rfl <;> rcases hb with hb | rfl
  · exact h a ha b hb e
  · exact hx a ha e
  · exact (hx b hb e.symm).symm
  · rfl
theorem tell_yes (S T : Nat) (P Q : List Nat) {x : Nat} : (tellI S T (P ++ (Q ++ [x]))).yes (.agg #[.int .i64 ((x &&& S : Nat) : Int)]) (.int .i64 ((x &&& T : Nat) : Int)) := ⟨x, by simp, rfl, rfl⟩
theorem tell_old (S T : Nat) (P Q : List Nat) {x : Nat} {kv : Value} : ∀ a b, a ≠ kv → (tellI S T (P ++ Q)).yes a b → (tellI S T (P ++ (Q ++ [x]))).yes a b := by
  rintro a b _ ⟨h, hh, e1, e2⟩
  refine ⟨h, ?_, e1, e2⟩
  simp only [List.mem_append] at hh ⊢
  rcases hh with hh | hh
  · exact .inl hh
  · exact .inr (.inl hh)
theorem tell_all {S T : Nat} {P Q : List Nat} {x : Nat} (hT : Tells S T (P ++ (Q ++ [x]))) : ∀ a b, (tellI S T (P ++ (Q ++ [x]))).all a b → (a = .agg #[.int .i64 ((x &&& S : Nat) : Int)] ∧ b = .int .i64 ((x &&& T : Nat) : Int)) ∨ (a ≠ .agg #[.int .i64 ((x &&& S : Nat) : Int)] ∧ (tellI S T (P ++ Q)).all a b) := by
  rintro a b ⟨h, hh, rfl, rfl⟩
  by_cases hk : h &&& S = x &&& S
  · left
    rw [hk, hT h hh x (by simp) hk]
    exact ⟨rfl, rfl⟩
  · right
    refine ⟨fun e => hk (key_inj e), h, ?_, rfl, rfl⟩
    simp only [List.mem_append, List.mem_singleton] at hh ⊢
    rcases hh with hh | hh | rfl
    · exact .inl hh
    · exact .inr hh
    · exact absurd rfl hk
section
variable {bales : List (Int × Int)}
theorem walkL_mono {lo up : Nat} {tests : List (Int × Bool)} {i j : Nat} (h : i ≤ j) {x : Nat} (hx : x ∈ walkL lo up bales tests i) : x ∈ walkL lo up bales tests j := by
  obtain ⟨m, hm, hx⟩ := List.mem_flatMap.1 hx
  exact List.mem_flatMap.2 ⟨m, List.mem_range.2 (by have := List.mem_range.1 hm; omega), hx⟩
theorem ok_tells {N lo up T S : Nat} {tests : List (Int × Bool)} (hN : N ≤ 5) (hup : up ≤ 5) (hT : T < 64) (hSl : S < 64) (hb6 : bales.length ≤ 6) (hb : ∀ i, i < bales.length → (0 ≤ (bales.getD i (0, 0)).1 ∧ (bales.getD i (0, 0)).1 < 32) ∧ (0 ≤ (bales.getD i (0, 0)).2 ∧ (bales.getD i (0, 0)).2 < 32)) (htl : tests.length ≤ 100) (ht : ∀ t ∈ tests, 0 ≤ t.1 ∧ t.1 < 6) :
    FunOK Try.prog 70 [.one (shP N lo up T bales tests), .one (iP S)] (.one (.one (.v (.bool (decide (Tells S T (walkL lo up bales tests (2 ^ N)))))))) := by
  have hsh : ∀ (T : TypeId) (p q : Operand), binA Try.prog .shl T p q (.int .i64 1) (.int .i64 (N : Int)) = some (.int .i64 ((2 ^ N : Nat) : Int)) := fun T p q => bin_shl_one .i64 T p q (by omega)
  have hp := pow32 hN
  have hp0 := Nat.two_pow_pos N
  refine fun_ok (nt := 56) (rs := [.cell 4 4]) Try.func70 rfl rfl rfl (by simp) fun Z w0 => ?_; simp only [initFr, avR, List.map_cons, List.map_nil]
  simp only [shP]
  refine tw ?_; try with_reducible intro QQ hQQ
  refine ⟨rfl, .inr ⟨rfl, callS_makeMap rfl rfl 118 (tellI S T []) (fun a b h => by obtain ⟨_, h, _⟩ := h; cases h) ?_⟩⟩
  (refine ts ?_; try clear hQQ QQ)
  refine tw ?_; try with_reducible intro QQ hQQ
  (refine callS_ok rfl rfl 50 (by simp (maxSteps := 400000) (disch := first | decide | omega) only [go_sem, ↓reduceIte]; try rfl) (by simp (maxSteps := 400000) (disch := first | decide | omega) only [go_sem, ↓reduceIte]; try rfl) Try.func50 rfl (by decide) ?_); (refine callF_in (nt := 4) (rs := [.tmp 2]) Try.func50 rfl rfl rfl (by simp) fun tm Ds => ?_); simp only [initV, capV, List.map_cons, List.map_nil, List.cons_append, List.nil_append]
  refine tw ?_; try with_reducible intro QQ hQQ
  (refine aw_ret ⟨.inr rfl, _, by (simp (maxSteps := 400000) (disch := first | decide | omega) only [go_sem, ↓reduceIte]; try rfl), by (simp (maxSteps := 400000) (disch := first | decide | omega) only [go_sem, ↓reduceIte]; try rfl), ?_⟩); refine ts ?_; try clear hQQ QQ
  refine tw ?_; try with_reducible intro QQ hQQ
  refine aw_weak (weak_thr [2, 3, 4, 5, 6, 7, 13, 14, 24] (by simp only [go_sem, ↓reduceIte]; rfl)) ?_
  refine aw_rangeFunc (nt := 34) rfl rfl (by simp (disch := first | decide | omega) only [go_sem, ↓reduceIte]; rfl) Try.func87 rfl (by decide) rfl rfl (by decide) fun r bb tm2 Ds2 hr1 hr1p hr2 hr3 hr4 hr5 hr6 hr7 => ?_
  dsimp only [Kx.iter] at hr5 hr7 ⊢
  refine aw_scope rfl ?_
  (repeat (first | apply aw_seq | apply aw_block | apply aw_skip | apply aw_label | apply aw_exit | ((first | refine aw_region (hideO fun QQ hQQ => ?_) | refine aw_draw mixed (hideD fun QQ hQQ => ?_)); simp (maxSteps := 400000) (disch := first | decide | omega) only [hsh, go_sem, ↓reduceIte]; try (first | with_reducible refine unhide hQQ ?_ | refine ⟨by kernel_rfl, unhide hQQ ?_⟩); clear hQQ QQ) | with_reducible first | apply then_n | apply block_n | apply then_x | apply then_r | apply nog_n | apply nog_r | apply block_r | apply block_e (by decide) | apply block_x (by decide)))
  refine aw_weak (weak_keepA [0, 1, 9, 10] (by simp only [go_sem, ↓reduceIte]; rfl)) ?_
  refine aw_loop_ov (ι := { i : Nat // i ≤ 2 ^ N ∧ Tells S T (walkL lo up bales tests i) }) (fun i => [(10, iA i.1)]) (fun i => [(3, .memo Try.prog 118 (tellI S T (walkL lo up bales tests i.1)))]) (fun i => 2 ^ N - i.1) ⟨0, by omega, fun h hh => by cases hh⟩ (by first | rfl | (simp only [go_sem, ↓reduceIte]; first | done | rfl | (simp; try rfl))) ?_
  rintro ⟨i, hi, hiT⟩
  simp (disch := decide) only [ov, ovL, AL.get_nil, AL.get_eq, AL.get_ne, Option.getD_some, Option.getD_none]
  by_cases hil : i < 2 ^ N
  · have hs := ok_size i (by omega)
    have hw := ok_within (popc i) lo up
    have e1 := walkL_succ (lo := lo) (up := up) (bales := bales) (tests := tests) i
    have hLl := walkL_len (lo := lo) (up := up) (bales := bales) (tests := tests) i
    generalize walkL lo up bales tests i = LL at *
    by_cases hin : lo ≤ popc i ∧ popc i ≤ up
    · rw [show inB (popc i) lo up = true by simp [inB]; omega] at hw
      refine tw ?_; try with_reducible intro QQ hQQ
      refine ti ?_; try clear hQQ QQ
      refine tw ?_; try with_reducible intro QQ hQQ
      (refine cD 71 rfl rfl rfl (hs) Try.func71 rfl ?_); refine td ?_; try clear hQQ QQ
      (refine cD 86 rfl rfl rfl (hw) Try.func86 rfl ?_); refine td ?_; try clear hQQ QQ
      refine tw ?_; try with_reducible intro QQ hQQ
      refine ti ?_; try clear hQQ QQ
      refine tw ?_; try with_reducible intro QQ hQQ
      refine ⟨rfl, .inr ⟨rfl, callS_yield (L := 8) (C := 7) (avs := [.one (.p (iP (i : Int)))]) rfl rfl (by simp (disch := first | decide | omega) only [go_sem, ↓reduceIte]; try rfl) (by simp (disch := first | decide | omega) only [go_sem, ↓reduceIte]; try rfl) (by simp (disch := first | decide | omega) only [go_sem, ↓reduceIte]; try rfl) hr1 (by simp (disch := first | decide | omega) only [go_sem, ↓reduceIte]; try rfl) hr6 (by rw [hr5]; exact fun t av ht => hr7 t av ht |> fun h => by rw [hr5] at h; exact h) (by rw [hr2]; rfl) ?_ fun Ds tmi => ?_⟩⟩
      · intro t ht
        rw [hr2] at ht
        rw [hr5]
        simp only [List.mem_cons, List.mem_nil_iff, or_false] at ht
        subst ht; decide
      obtain ⟨rB, hrB⟩ : ∃ rB, ({ r with state := .busy } : Loop) = rB := ⟨_, rfl⟩
      rw [hrB, hr2, hr3, hr4, hr5]
      have hrr : ({ rB with state := .ready, pending := none } : Loop) = r := by
        rw [← hrB]
        cases r
        dsimp only at hr1 hr1p
        subst hr1 hr1p
        rfl
      simp only [Kx.round, setPs]
      have hH := ok_held (N := N) (lo := lo) (hi := up) (top := T) (tests0 := tests) (tests := tests) (m := i) (by omega) hb6 hb htl ht
      have hlt := held_lt (m := i) hb6 ht
      have hfe : feasB lo up bales tests i = decide (diffN (heldF bales i tests).1 (heldF bales i tests).2 = 0) := by unfold feasB; rw [decide_eq_true hin.1, decide_eq_true hin.2]; rfl
      rw [hfe] at e1
      have hS := ok_some hlt.1 hlt.2
      simp only [shP] at hH
      generalize hq : heldF bales i tests = q at *
      obtain ⟨qa, qb⟩ := q
      dsimp only at hH hS e1 hlt hfe
      refine tw ?_; try with_reducible intro QQ hQQ
      refine ⟨rfl, by simp (disch := first | decide | omega) only [go_sem, ↓reduceIte], ?_⟩
      refine tw ?_; try with_reducible intro QQ hQQ
      (refine cD 51 rfl rfl rfl (hH) Try.func51 rfl ?_); refine td ?_; try clear hQQ QQ
      refine callD_F [11] ?_ ?_ 12 rfl rfl (by simp (disch := first | decide | omega) only [go_sem, ↓reduceIte]; try rfl) (by simp (disch := first | decide | omega) only [go_sem, ↓reduceIte]; try rfl) Try.func90 rfl (by decide) ?_ (by dsimp only; omega) (by decide) ?_ ?_; rotate_left 3; (intro fr hk; exact c_seq); rotate_left; (intro id hid; simp only [List.mem_cons, List.mem_nil_iff, or_false, not_or] at hid; simp (disch := first | decide | omega) only [go_sem, ↓reduceIte]); refine td ?_; try clear hQQ QQ
      refine tw ?_; try with_reducible intro QQ hQQ
      refine aw_weak (weak_thr [2, 3, 4, 5, 7, 23, 24] (by simp only [go_sem, ↓reduceIte]; rfl)) ?_
      refine aw_rangeFuncN (id0 := 8) (r0 := rB) (l0 := bb) (nt := 29) rfl (by simp (disch := first | decide | omega) only [go_sem, ↓reduceIte]; try rfl) (by simp (disch := first | decide | omega) only [go_sem, ↓reduceIte]; rfl) Try.func98 rfl (by decide) rfl rfl (by decide) fun r' bb' tm3 Ds3 gr1 gr1p gr2 gr3 gr4 gr5 gr6 gr7 => ?_
      dsimp only [Kx.iter] at gr5 gr7 ⊢
      have hfl := diffN_le qb qa
      have hd2 : ∀ (T : TypeId) (p' q : Operand), binA Try.prog .andNot T p' q (.int .i64 (qb : Int)) (.int .i64 (qa : Int)) = some (.int .i64 ((diffN qb qa : Nat) : Int)) := fun T p' q => bin_andNot_nat T p' q (by omega) (by omega)
      (repeat (first | apply aw_seq | apply aw_block | apply aw_skip | apply aw_label | apply aw_exit | ((first | refine aw_region (hideO fun QQ hQQ => ?_) | refine aw_draw mixed (hideD fun QQ hQQ => ?_)); simp (maxSteps := 400000) (disch := first | decide | omega) only [hd2, go_sem, ↓reduceIte]; try (first | with_reducible refine unhide hQQ ?_ | refine ⟨by kernel_rfl, unhide hQQ ?_⟩); clear hQQ QQ) | with_reducible first | apply then_n | apply block_n | apply then_x | apply then_r | apply nog_n | apply nog_r | apply block_r | apply block_e (by decide) | apply block_x (by decide)))
      by_cases hd : diffN qa qb = 0
      · rw [decide_eq_true hd] at hS e1
        rw [if_pos rfl] at e1
        have hbw : betwL qa qb = (downL (diffN qb qa) 64 (diffN qb qa)).map fun a => qa ||| a := rfl
        obtain ⟨free, hfr⟩ : ∃ free, diffN qb qa = free := ⟨_, rfl⟩
        rw [hfr] at hbw hfl
        simp only [hfr]
        clear hd hfe hd2
        ((refine cO 52 rfl rfl rfl (hS) Try.func52 rfl ?_); refine tu ?_; try clear hQQ QQ); refine tw ?_; try with_reducible intro QQ hQQ
        refine ti ?_; try clear hQQ QQ
        refine tw ?_; try with_reducible intro QQ hQQ
        refine aw_weak (weak_keepA [0, 1, 3, 4] (by simp only [go_sem, ↓reduceIte]; rfl)) ?_
        refine aw_loop_ov (ι := { p : List Nat × Nat × Nat // (p.1 ++ (downL free p.2.1 p.2.2).map fun a => qa ||| a) = betwL qa qb ∧ p.2.2 < 64 ∧ p.2.2 < p.2.1 ∧ Tells S T (LL ++ p.1) }) (fun p => [(4, iA p.1.2.2)]) (fun p => [(3, .memo Try.prog 118 (tellI S T (LL ++ p.1.1)))]) (fun p => p.1.2.2) ⟨([], 64, free), by simp [hbw], by dsimp only; omega, by dsimp only; omega, by simpa using hiT⟩ (by first | rfl | (simp only [go_sem, ↓reduceIte]; first | done | rfl | (simp; try rfl))) ?_
        rintro ⟨⟨dn, f, add⟩, hdn, ha64, haf, hdT⟩
        simp (disch := decide) only [ov, ovL, AL.get_nil, AL.get_eq, AL.get_ne, Option.getD_some, Option.getD_none]
        dsimp only at hdn ha64 haf hdT
        have hor := or64 hlt.1 ha64
        have hu := ok_union2 (a := qa) (b := add) (by omega) (by omega)
        have hand : ∀ (T' : TypeId) (p q : Operand), binA Try.prog .and T' p q (.int .i64 ((qa ||| add : Nat) : Int)) (.int .i64 (T : Int)) = some (.int .i64 (((qa ||| add) &&& T : Nat) : Int)) := fun T' p q => bin_and_nat T' p q (by omega) (by omega)
        obtain ⟨f, rfl⟩ : ∃ g, f = g + 1 := ⟨f - 1, by omega⟩
        have hdl : downL free (f + 1) add = add :: if add = 0 then [] else downL free f ((add - 1) &&& free) := rfl
        rw [hdl, List.map_cons] at hdn
        have handS : ∀ (T' : TypeId) (p q : Operand), binA Try.prog .and T' p q (.int .i64 ((qa ||| add : Nat) : Int)) (.int .i64 (S : Int)) = some (.int .i64 (((qa ||| add) &&& S : Nat) : Int)) := fun T' p q => bin_and_nat T' p q (by omega) (by omega)
        have hwm : qa ||| add ∈ walkL lo up bales tests (2 ^ N) := walkL_mono (i := i + 1) (by omega) (by rw [e1, ← hdn]; simp)
        have hwl : ∀ h ∈ LL ++ dn, h ∈ walkL lo up bales tests (2 ^ N) := fun h hh => walkL_mono (i := i + 1) (by omega) (by
          rw [e1, ← hdn]
          simp only [List.mem_append] at hh ⊢
          rcases hh with hh | hh
          · exact .inl hh
          · exact .inr (.inl hh))
        generalize hx : qa ||| add = x at *
        refine tw ?_; try with_reducible intro QQ hQQ
        (refine cO 88 rfl rfl rfl (hu) Try.func88 rfl ?_); refine ts ?_; try clear hQQ QQ
        refine ⟨rfl, .inr ⟨rfl, callS_yield (L := 13) (C := 12) (avs := [.one (.p (iP (x : Int)))]) rfl rfl (by simp (disch := first | decide | omega) only [go_sem, ↓reduceIte]; try rfl) (by simp (disch := first | decide | omega) only [go_sem, ↓reduceIte]; try rfl) (by simp (disch := first | decide | omega) only [go_sem, ↓reduceIte]; try rfl) gr1 (by simp (disch := first | decide | omega) only [go_sem, ↓reduceIte]; try rfl) gr6 (by rw [gr5]; exact fun t av ht => gr7 t av ht |> fun h => by rw [gr5] at h; exact h) (by rw [gr2]; rfl) ?_ fun DsN tmN => ?_⟩⟩
        · intro t ht
          rw [gr2] at ht
          rw [gr5]
          simp only [List.mem_cons, List.mem_nil_iff, or_false] at ht
          subst ht; decide
        obtain ⟨rC, hrC⟩ : ∃ rC, ({ r' with state := .busy } : Loop) = rC := ⟨_, rfl⟩
        rw [hrC, gr2, gr3, gr4, gr5]
        have hrr2 : ({ rC with state := .ready, pending := none } : Loop) = r' := by
          rw [← hrC]
          cases r'
          dsimp only at gr1 gr1p
          subst gr1 gr1p
          rfl
        simp only [Kx.round, setPs]
        refine tw ?_; try with_reducible intro QQ hQQ
        refine ⟨rfl, by simp (disch := first | decide | omega) only [go_sem, ↓reduceIte], ?_⟩
        obtain ⟨lk, hkey⟩ := keyOf118 ((x &&& S : Nat) : Int) (by have : x &&& S ≤ S := Nat.and_le_right; omega)
        (repeat (first | apply aw_seq | apply aw_block | apply aw_skip | apply aw_label | apply aw_exit | ((first | refine aw_region (hideO fun QQ hQQ => ?_) | refine aw_draw mixed (hideD fun QQ hQQ => ?_)); simp (maxSteps := 400000) (disch := first | decide | omega) only [hand, handS, go_sem, ↓reduceIte]; try (first | with_reducible refine unhide hQQ ?_ | refine ⟨by kernel_rfl, unhide hQQ ?_⟩); clear hQQ QQ) | with_reducible first | apply then_n | apply block_n | apply then_x | apply then_r | apply nog_n | apply nog_r | apply block_r | apply block_e (by decide) | apply block_x (by decide)))
        refine ⟨rfl, .inr ⟨rfl, callS_lookup (kv := .agg #[.int .i64 ((x &&& S : Nat) : Int)]) rfl rfl key118 und116 zero3 (by simp (disch := first | decide | omega) only [go_sem, ↓reduceIte]; try rfl) (by simp (disch := first | decide | omega) only [go_sem, ↓reduceIte]; try rfl) (by simp (disch := first | decide | omega) only [go_sem, ↓reduceIte]; try rfl) hkey ?_ ?_⟩⟩
        · rintro v ⟨h0, hh0, hk0, rfl⟩
          have hk0 := key_inj hk0
          refine ⟨_, relR_int _, ?_⟩
          by_cases hv : h0 &&& T = x &&& T
          · have hnT : Tells S T (LL ++ (dn ++ [x])) := by
              rw [← List.append_assoc]
              exact tells_add hdT fun h hh he => (hdT h hh h0 hh0 (he.trans hk0)).trans hv
            rw [hv]
            (simp (maxSteps := 400000) (disch := first | decide | omega) only [hand, handS, go_sem, ↓reduceIte]; (try (with_reducible refine unhide hQQ ?_; clear hQQ QQ; (repeat with_reducible first | apply then_n | apply block_n | apply then_x | apply then_r | apply nog_n | apply nog_r | apply block_r | apply block_e (by decide) | apply block_x (by decide)))))
            (repeat (first | apply aw_seq | apply aw_block | apply aw_skip | apply aw_label | apply aw_exit | ((first | refine aw_region (hideO fun QQ hQQ => ?_) | refine aw_draw mixed (hideD fun QQ hQQ => ?_)); simp (maxSteps := 400000) (disch := first | decide | omega) only [hand, handS, go_sem, ↓reduceIte]; try (first | with_reducible refine unhide hQQ ?_ | refine ⟨by kernel_rfl, unhide hQQ ?_⟩); clear hQQ QQ) | with_reducible first | apply then_n | apply block_n | apply then_x | apply then_r | apply nog_n | apply nog_r | apply block_r | apply block_e (by decide) | apply block_x (by decide)))
            refine aw_cond2 (by simp (disch := first | decide | omega) only [hand, handS, go_sem, ↓reduceIte]; rfl) ?_; first | refine .inl ⟨by first | rfl | exact decide_eq_true (by omega) | exact decide_eq_true (by assumption) | (simp (disch := first | decide | omega) only [if_pos_d, if_neg_d, decide_eq_true_eq, Bool.not_eq_true', decide_eq_false_iff_not]; omega), ?_⟩ | refine .inr ⟨by first | rfl | exact decide_eq_false (by omega) | exact decide_eq_false (by assumption) | (simp (disch := first | decide | omega) only [if_pos_d, if_neg_d, decide_eq_true_eq, Bool.not_eq_true', decide_eq_false_iff_not]; omega), ?_⟩
            (repeat (first | apply aw_seq | apply aw_block | apply aw_skip | apply aw_label | apply aw_exit | ((first | refine aw_region (hideO fun QQ hQQ => ?_) | refine aw_draw mixed (hideD fun QQ hQQ => ?_)); simp (maxSteps := 400000) (disch := first | decide | omega) only [hand, handS, go_sem, ↓reduceIte]; try (first | with_reducible refine unhide hQQ ?_ | refine ⟨by kernel_rfl, unhide hQQ ?_⟩); clear hQQ QQ) | with_reducible first | apply then_n | apply block_n | apply then_x | apply then_r | apply nog_n | apply nog_r | apply block_r | apply block_e (by decide) | apply block_x (by decide)))
            refine callD_turn rfl rfl [3] _ _ _ (by exact turns_update rfl rfl key118 und116 (tellI S T (LL ++ (dn ++ [x]))) (id := 3) (I := tellI S T (LL ++ dn)) (kv := .agg #[.int .i64 ((x &&& S : Nat) : Int)]) (by simp (disch := first | decide | omega) only [hand, handS, go_sem, ↓reduceIte]) (by simp (disch := first | decide | omega) only [hand, handS, go_sem, ↓reduceIte]; try rfl) (by simp (disch := first | decide | omega) only [hand, handS, go_sem, ↓reduceIte]; try rfl) (by simp (disch := first | decide | omega) only [hand, handS, go_sem, ↓reduceIte]; try rfl) hkey (tell_yes _ _ _ _) (tell_old _ _ _ _) (tell_all hnT) (by dsimp only; omega)) ?_
            (simp (maxSteps := 400000) (disch := first | decide | omega) only [hand, handS, go_sem, ↓reduceIte]; (try (refine ⟨by kernel_rfl, unhide hQQ ?_⟩; clear hQQ QQ; (repeat with_reducible first | apply then_n | apply block_n | apply then_x | apply then_r | apply nog_n | apply nog_r | apply block_r | apply block_e (by decide) | apply block_x (by decide)))))
            (repeat (first | apply aw_seq | apply aw_block | apply aw_skip | apply aw_label | apply aw_exit | ((first | refine aw_region (hideO fun QQ hQQ => ?_) | refine aw_draw mixed (hideD fun QQ hQQ => ?_)); simp (maxSteps := 400000) (disch := first | decide | omega) only [hand, handS, go_sem, ↓reduceIte]; try (first | with_reducible refine unhide hQQ ?_ | refine ⟨by kernel_rfl, unhide hQQ ?_⟩); clear hQQ QQ) | with_reducible first | apply then_n | apply block_n | apply then_x | apply then_r | apply nog_n | apply nog_r | apply block_r | apply block_e (by decide) | apply block_x (by decide)))
            refine ⟨by simp (disch := first | decide | omega) only [go_sem, ↓reduceIte]; try rfl, none, .inl ⟨rfl, rfl⟩, rC, by simp (disch := first | decide | omega) only [go_sem, ↓reduceIte]; try rfl, ?_⟩
            by_cases hz : add = 0
            · subst hz
              rw [if_pos rfl, List.map_nil] at hdn
              have hfin : walkL lo up bales tests (i + 1) = LL ++ (dn ++ [x]) := by rw [e1, ← hdn]
              (simp (maxSteps := 400000) (disch := first | decide | omega) only [Option.isNone_none, hrr2, go_sem, ↓reduceIte]; (try (with_reducible refine unhide hQQ ?_; clear hQQ QQ; (repeat with_reducible first | apply then_n | apply block_n | apply then_x | apply then_r | apply nog_n | apply nog_r | apply block_r | apply block_e (by decide) | apply block_x (by decide)))))
              (repeat (first | apply aw_seq | apply aw_block | apply aw_skip | apply aw_label | apply aw_exit | ((first | refine aw_region (hideO fun QQ hQQ => ?_) | refine aw_draw mixed (hideD fun QQ hQQ => ?_)); simp (maxSteps := 400000) (disch := first | decide | omega) only [Option.isNone_none, hrr2, go_sem, ↓reduceIte]; try (first | with_reducible refine unhide hQQ ?_ | refine ⟨by kernel_rfl, unhide hQQ ?_⟩); clear hQQ QQ) | with_reducible first | apply then_n | apply block_n | apply then_x | apply then_r | apply nog_n | apply nog_r | apply block_r | apply block_e (by decide) | apply block_x (by decide)))
              refine aw_cond2 (by simp (disch := first | decide | omega) only [Option.isNone_none, hrr2, go_sem, ↓reduceIte]; rfl) ?_; first | refine .inl ⟨by first | rfl | exact decide_eq_true (by omega) | exact decide_eq_true (by assumption) | (simp (disch := first | decide | omega) only [if_pos_d, if_neg_d, decide_eq_true_eq, Bool.not_eq_true', decide_eq_false_iff_not]; omega), ?_⟩ | refine .inr ⟨by first | rfl | exact decide_eq_false (by omega) | exact decide_eq_false (by assumption) | (simp (disch := first | decide | omega) only [if_pos_d, if_neg_d, decide_eq_true_eq, Bool.not_eq_true', decide_eq_false_iff_not]; omega), ?_⟩
              (repeat (first | apply aw_seq | apply aw_block | apply aw_skip | apply aw_label | apply aw_exit | ((first | refine aw_region (hideO fun QQ hQQ => ?_) | refine aw_draw mixed (hideD fun QQ hQQ => ?_)); simp (maxSteps := 400000) (disch := first | decide | omega) only [Option.isNone_none, hrr2, go_sem, ↓reduceIte]; try (first | with_reducible refine unhide hQQ ?_ | refine ⟨by kernel_rfl, unhide hQQ ?_⟩); clear hQQ QQ) | with_reducible first | apply then_n | apply block_n | apply then_x | apply then_r | apply nog_n | apply nog_r | apply block_r | apply block_e (by decide) | apply block_x (by decide)))
              refine ⟨.inl rfl, by simp (disch := first | decide | omega) only [go_sem, ↓reduceIte]; try rfl, r', by simp (disch := first | decide | omega) only [go_sem, ↓reduceIte]; try rfl, by rw [gr1]; decide, ?_⟩
              rw [gr1p]
              (repeat (first | with_reducible refine then_n ?_ | with_reducible refine block_n ?_))
              refine ⟨by simp (disch := first | decide | omega) only [go_sem, ↓reduceIte]; try rfl, none, .inl ⟨rfl, rfl⟩, rB, by simp (disch := first | decide | omega) only [go_sem, ↓reduceIte]; try rfl, ?_⟩
              (simp (maxSteps := 400000) (disch := first | decide | omega) only [Option.isNone_none, hrr, go_sem, ↓reduceIte]; (try (with_reducible refine unhide hQQ ?_; clear hQQ QQ; (repeat with_reducible first | apply then_n | apply block_n | apply then_x | apply then_r | apply nog_n | apply nog_r | apply block_r | apply block_e (by decide) | apply block_x (by decide)))))
              (repeat (first | apply aw_seq | apply aw_block | apply aw_skip | apply aw_label | apply aw_exit | ((first | refine aw_region (hideO fun QQ hQQ => ?_) | refine aw_draw mixed (hideD fun QQ hQQ => ?_)); simp (maxSteps := 400000) (disch := first | decide | omega) only [Option.isNone_none, hrr, go_sem, ↓reduceIte]; try (first | with_reducible refine unhide hQQ ?_ | refine ⟨by kernel_rfl, unhide hQQ ?_⟩); clear hQQ QQ) | with_reducible first | apply then_n | apply block_n | apply then_x | apply then_r | apply nog_n | apply nog_r | apply block_r | apply block_e (by decide) | apply block_x (by decide)))
              refine aw_cond2 (by simp (disch := first | decide | omega) only [Option.isNone_none, hrr, go_sem, ↓reduceIte]; rfl) ?_; first | refine .inl ⟨by first | rfl | exact decide_eq_true (by omega) | exact decide_eq_true (by assumption) | (simp (disch := first | decide | omega) only [if_pos_d, if_neg_d, decide_eq_true_eq, Bool.not_eq_true', decide_eq_false_iff_not]; omega), ?_⟩ | refine .inr ⟨by first | rfl | exact decide_eq_false (by omega) | exact decide_eq_false (by assumption) | (simp (disch := first | decide | omega) only [if_pos_d, if_neg_d, decide_eq_true_eq, Bool.not_eq_true', decide_eq_false_iff_not]; omega), ?_⟩
              (repeat (first | apply aw_seq | apply aw_block | apply aw_skip | apply aw_label | apply aw_exit | ((first | refine aw_region (hideO fun QQ hQQ => ?_) | refine aw_draw mixed (hideD fun QQ hQQ => ?_)); simp (maxSteps := 400000) (disch := first | decide | omega) only [Option.isNone_none, hrr, go_sem, ↓reduceIte]; try (first | with_reducible refine unhide hQQ ?_ | refine ⟨by kernel_rfl, unhide hQQ ?_⟩); clear hQQ QQ) | with_reducible first | apply then_n | apply block_n | apply then_x | apply then_r | apply nog_n | apply nog_r | apply block_r | apply block_e (by decide) | apply block_x (by decide)))
              refine ⟨⟨i + 1, by omega, by rw [hfin]; exact hnT⟩, ?_, weak_round ?_ (by first | rfl | (simp only [Option.isNone_none, hrr, go_sem, ↓reduceIte]))⟩
              rotate_left
              · simp only [hfin]
                (simp only [Option.isNone_none, hrr, go_sem, ↓reduceIte]; try rfl)
              · simp only; omega
            · rw [if_neg hz] at hdn
              have hs1 : ((add : Nat) : Int) - 1 = ((add - 1 : Nat) : Int) := by omega
              have han2 : ∀ (T' : TypeId) (p q : Operand), binA Try.prog .and T' p q (.int .i64 ((add - 1 : Nat) : Int)) (.int .i64 (free : Int)) = some (.int .i64 (((add - 1) &&& free : Nat) : Int)) := fun T' p q => bin_and_nat T' p q (by omega) (by omega)
              have hle : (add - 1) &&& free ≤ add - 1 := Nat.and_le_left
              (simp (maxSteps := 400000) (disch := first | decide | omega) only [Option.isNone_none, hrr2, hs1, han2, go_sem, ↓reduceIte]; (try (with_reducible refine unhide hQQ ?_; clear hQQ QQ; (repeat with_reducible first | apply then_n | apply block_n | apply then_x | apply then_r | apply nog_n | apply nog_r | apply block_r | apply block_e (by decide) | apply block_x (by decide)))))
              (repeat (first | apply aw_seq | apply aw_block | apply aw_skip | apply aw_label | apply aw_exit | ((first | refine aw_region (hideO fun QQ hQQ => ?_) | refine aw_draw mixed (hideD fun QQ hQQ => ?_)); simp (maxSteps := 400000) (disch := first | decide | omega) only [Option.isNone_none, hrr2, hs1, han2, go_sem, ↓reduceIte]; try (first | with_reducible refine unhide hQQ ?_ | refine ⟨by kernel_rfl, unhide hQQ ?_⟩); clear hQQ QQ) | with_reducible first | apply then_n | apply block_n | apply then_x | apply then_r | apply nog_n | apply nog_r | apply block_r | apply block_e (by decide) | apply block_x (by decide)))
              refine aw_cond2 (by simp (disch := first | decide | omega) only [Option.isNone_none, hrr2, hs1, han2, go_sem, ↓reduceIte]; rfl) ?_; first | refine .inl ⟨by first | rfl | exact decide_eq_true (by omega) | exact decide_eq_true (by assumption) | (simp (disch := first | decide | omega) only [if_pos_d, if_neg_d, decide_eq_true_eq, Bool.not_eq_true', decide_eq_false_iff_not]; omega), ?_⟩ | refine .inr ⟨by first | rfl | exact decide_eq_false (by omega) | exact decide_eq_false (by assumption) | (simp (disch := first | decide | omega) only [if_pos_d, if_neg_d, decide_eq_true_eq, Bool.not_eq_true', decide_eq_false_iff_not]; omega), ?_⟩
              (repeat (first | apply aw_seq | apply aw_block | apply aw_skip | apply aw_label | apply aw_exit | ((first | refine aw_region (hideO fun QQ hQQ => ?_) | refine aw_draw mixed (hideD fun QQ hQQ => ?_)); simp (maxSteps := 400000) (disch := first | decide | omega) only [Option.isNone_none, hrr2, hs1, han2, go_sem, ↓reduceIte]; try (first | with_reducible refine unhide hQQ ?_ | refine ⟨by kernel_rfl, unhide hQQ ?_⟩); clear hQQ QQ) | with_reducible first | apply then_n | apply block_n | apply then_x | apply then_r | apply nog_n | apply nog_r | apply block_r | apply block_e (by decide) | apply block_x (by decide)))
              refine ⟨⟨(dn ++ [x], f, (add - 1) &&& free), by rw [← hdn]; simp, by dsimp only; omega, by dsimp only; omega, hnT⟩, ?_, weak_round ?_ (by first | rfl | (simp only [Option.isNone_none, hrr2, hs1, han2, go_sem, ↓reduceIte]))⟩
              rotate_left
              · (simp only [Option.isNone_none, hrr2, hs1, han2, go_sem, ↓reduceIte]; try rfl)
              · simp only; omega
          · have hnd : decide (Tells S T (walkL lo up bales tests (2 ^ N))) = false := decide_eq_false fun hT' => hv (hT' h0 (hwl h0 hh0) x hwm hk0.symm)
            generalize h0 &&& T = ov0 at hv
            generalize x &&& T = nv0 at hv hand
            (simp (maxSteps := 400000) (disch := first | decide | omega) only [hand, handS, go_sem, ↓reduceIte]; (try (with_reducible refine unhide hQQ ?_; clear hQQ QQ; (repeat with_reducible first | apply then_n | apply block_n | apply then_x | apply then_r | apply nog_n | apply nog_r | apply block_r | apply block_e (by decide) | apply block_x (by decide)))))
            (repeat (first | apply aw_seq | apply aw_block | apply aw_skip | apply aw_label | apply aw_exit | ((first | refine aw_region (hideO fun QQ hQQ => ?_) | refine aw_draw mixed (hideD fun QQ hQQ => ?_)); simp (maxSteps := 400000) (disch := first | decide | omega) only [hand, handS, go_sem, ↓reduceIte]; try (first | with_reducible refine unhide hQQ ?_ | refine ⟨by kernel_rfl, unhide hQQ ?_⟩); clear hQQ QQ) | with_reducible first | apply then_n | apply block_n | apply then_x | apply then_r | apply nog_n | apply nog_r | apply block_r | apply block_e (by decide) | apply block_x (by decide)))
            refine aw_cond2 (by simp (disch := first | decide | omega) only [hand, handS, go_sem, ↓reduceIte]; rfl) ?_; first | refine .inl ⟨by first | rfl | exact decide_eq_true (by omega) | exact decide_eq_true (by assumption) | (simp (disch := first | decide | omega) only [if_pos_d, if_neg_d, decide_eq_true_eq, Bool.not_eq_true', decide_eq_false_iff_not]; omega), ?_⟩ | refine .inr ⟨by first | rfl | exact decide_eq_false (by omega) | exact decide_eq_false (by assumption) | (simp (disch := first | decide | omega) only [if_pos_d, if_neg_d, decide_eq_true_eq, Bool.not_eq_true', decide_eq_false_iff_not]; omega), ?_⟩
            (repeat (first | apply aw_seq | apply aw_block | apply aw_skip | apply aw_label | apply aw_exit | ((first | refine aw_region (hideO fun QQ hQQ => ?_) | refine aw_draw mixed (hideD fun QQ hQQ => ?_)); simp (maxSteps := 400000) (disch := first | decide | omega) only [hand, handS, go_sem, ↓reduceIte]; try (first | with_reducible refine unhide hQQ ?_ | refine ⟨by kernel_rfl, unhide hQQ ?_⟩); clear hQQ QQ) | with_reducible first | apply then_n | apply block_n | apply then_x | apply then_r | apply nog_n | apply nog_r | apply block_r | apply block_e (by decide) | apply block_x (by decide)))
            refine aw_ret ⟨by simp (disch := first | decide | omega) only [go_sem, ↓reduceIte]; try rfl, some .ret, .inr (.inl ⟨rfl, rfl⟩), rC, by simp (disch := first | decide | omega) only [go_sem, ↓reduceIte]; try rfl, ?_⟩
            (simp (maxSteps := 400000) (disch := first | decide | omega) only [Option.isNone_some, go_sem, ↓reduceIte]; (try (with_reducible refine unhide hQQ ?_; clear hQQ QQ; (repeat with_reducible first | apply then_n | apply block_n | apply then_x | apply then_r | apply nog_n | apply nog_r | apply block_r | apply block_e (by decide) | apply block_x (by decide)))))
            (repeat (first | apply aw_seq | apply aw_block | apply aw_skip | apply aw_label | apply aw_exit | ((first | refine aw_region (hideO fun QQ hQQ => ?_) | refine aw_draw mixed (hideD fun QQ hQQ => ?_)); simp (maxSteps := 400000) (disch := first | decide | omega) only [Option.isNone_some, go_sem, ↓reduceIte]; try (first | with_reducible refine unhide hQQ ?_ | refine ⟨by kernel_rfl, unhide hQQ ?_⟩); clear hQQ QQ) | with_reducible first | apply then_n | apply block_n | apply then_x | apply then_r | apply nog_n | apply nog_r | apply block_r | apply block_e (by decide) | apply block_x (by decide)))
            refine aw_cond2 (by simp (disch := first | decide | omega) only [Option.isNone_some, go_sem, ↓reduceIte]; rfl) ?_; first | refine .inl ⟨by first | rfl | exact decide_eq_true (by omega) | exact decide_eq_true (by assumption) | (simp (disch := first | decide | omega) only [if_pos_d, if_neg_d, decide_eq_true_eq, Bool.not_eq_true', decide_eq_false_iff_not]; omega), ?_⟩ | refine .inr ⟨by first | rfl | exact decide_eq_false (by omega) | exact decide_eq_false (by assumption) | (simp (disch := first | decide | omega) only [if_pos_d, if_neg_d, decide_eq_true_eq, Bool.not_eq_true', decide_eq_false_iff_not]; omega), ?_⟩
            (repeat (first | apply aw_seq | apply aw_block | apply aw_skip | apply aw_label | apply aw_exit | ((first | refine aw_region (hideO fun QQ hQQ => ?_) | refine aw_draw mixed (hideD fun QQ hQQ => ?_)); simp (maxSteps := 400000) (disch := first | decide | omega) only [Option.isNone_some, go_sem, ↓reduceIte]; try (first | with_reducible refine unhide hQQ ?_ | refine ⟨by kernel_rfl, unhide hQQ ?_⟩); clear hQQ QQ) | with_reducible first | apply then_n | apply block_n | apply then_x | apply then_r | apply nog_n | apply nog_r | apply block_r | apply block_e (by decide) | apply block_x (by decide)))
            refine ⟨.inl rfl, by simp (disch := first | decide | omega) only [go_sem, ↓reduceIte]; try rfl, { rC with state := .done, pending := some .ret }, by simp (disch := first | decide | omega) only [go_sem, ↓reduceIte]; try rfl, (by intro h; cases h), ?_⟩
            dsimp only [pendQ]
            (repeat (first | with_reducible refine then_r ?_ | with_reducible refine block_r ?_ | with_reducible refine then_x ?_))
            refine ⟨by simp (disch := first | decide | omega) only [go_sem, ↓reduceIte]; try rfl, some .ret, .inr (.inl ⟨rfl, rfl⟩), rB, by simp (disch := first | decide | omega) only [go_sem, ↓reduceIte]; try rfl, ?_⟩
            (simp (maxSteps := 400000) (disch := first | decide | omega) only [Option.isNone_some, go_sem, ↓reduceIte]; (try (with_reducible refine unhide hQQ ?_; clear hQQ QQ; (repeat with_reducible first | apply then_n | apply block_n | apply then_x | apply then_r | apply nog_n | apply nog_r | apply block_r | apply block_e (by decide) | apply block_x (by decide)))))
            (repeat (first | apply aw_seq | apply aw_block | apply aw_skip | apply aw_label | apply aw_exit | ((first | refine aw_region (hideO fun QQ hQQ => ?_) | refine aw_draw mixed (hideD fun QQ hQQ => ?_)); simp (maxSteps := 400000) (disch := first | decide | omega) only [Option.isNone_some, go_sem, ↓reduceIte]; try (first | with_reducible refine unhide hQQ ?_ | refine ⟨by kernel_rfl, unhide hQQ ?_⟩); clear hQQ QQ) | with_reducible first | apply then_n | apply block_n | apply then_x | apply then_r | apply nog_n | apply nog_r | apply block_r | apply block_e (by decide) | apply block_x (by decide)))
            refine aw_cond2 (by simp (disch := first | decide | omega) only [Option.isNone_some, go_sem, ↓reduceIte]; rfl) ?_; first | refine .inl ⟨by first | rfl | exact decide_eq_true (by omega) | exact decide_eq_true (by assumption) | (simp (disch := first | decide | omega) only [if_pos_d, if_neg_d, decide_eq_true_eq, Bool.not_eq_true', decide_eq_false_iff_not]; omega), ?_⟩ | refine .inr ⟨by first | rfl | exact decide_eq_false (by omega) | exact decide_eq_false (by assumption) | (simp (disch := first | decide | omega) only [if_pos_d, if_neg_d, decide_eq_true_eq, Bool.not_eq_true', decide_eq_false_iff_not]; omega), ?_⟩
            (repeat (first | apply aw_seq | apply aw_block | apply aw_skip | apply aw_label | apply aw_exit | ((first | refine aw_region (hideO fun QQ hQQ => ?_) | refine aw_draw mixed (hideD fun QQ hQQ => ?_)); simp (maxSteps := 400000) (disch := first | decide | omega) only [Option.isNone_some, go_sem, ↓reduceIte]; try (first | with_reducible refine unhide hQQ ?_ | refine ⟨by kernel_rfl, unhide hQQ ?_⟩); clear hQQ QQ) | with_reducible first | apply then_n | apply block_n | apply then_x | apply then_r | apply nog_n | apply nog_r | apply block_r | apply block_e (by decide) | apply block_x (by decide)))
            refine aw_ret ⟨.inr rfl, by simp (disch := first | decide | omega) only [go_sem, ↓reduceIte]; try rfl, { rB with state := .done, pending := some .ret }, by simp (disch := first | decide | omega) only [go_sem, ↓reduceIte]; try rfl, (by intro h; cases h), ?_⟩
            dsimp only [pendQ]
            (repeat (first | with_reducible refine then_r ?_ | with_reducible refine block_r ?_ | with_reducible refine then_x ?_))
            refine ⟨.inr rfl, ?_⟩
            rw [hnd]
            simp only [resA, res1, go_sem, ↓reduceIte]
        · intro hno
          refine ⟨_, relR_int 0, ?_⟩
          have hnT : Tells S T (LL ++ (dn ++ [x])) := by
            rw [← List.append_assoc]
            exact tells_add hdT fun h hh he => absurd ⟨h, hh, by rw [he], rfl⟩ (hno _)
          (simp (maxSteps := 400000) (disch := first | decide | omega) only [hand, handS, go_sem, ↓reduceIte]; (try (with_reducible refine unhide hQQ ?_; clear hQQ QQ; (repeat with_reducible first | apply then_n | apply block_n | apply then_x | apply then_r | apply nog_n | apply nog_r | apply block_r | apply block_e (by decide) | apply block_x (by decide)))))
          (repeat (first | apply aw_seq | apply aw_block | apply aw_skip | apply aw_label | apply aw_exit | ((first | refine aw_region (hideO fun QQ hQQ => ?_) | refine aw_draw mixed (hideD fun QQ hQQ => ?_)); simp (maxSteps := 400000) (disch := first | decide | omega) only [hand, handS, go_sem, ↓reduceIte]; try (first | with_reducible refine unhide hQQ ?_ | refine ⟨by kernel_rfl, unhide hQQ ?_⟩); clear hQQ QQ) | with_reducible first | apply then_n | apply block_n | apply then_x | apply then_r | apply nog_n | apply nog_r | apply block_r | apply block_e (by decide) | apply block_x (by decide)))
          refine aw_cond2 (by simp (disch := first | decide | omega) only [hand, handS, go_sem, ↓reduceIte]; rfl) ?_; first | refine .inl ⟨by first | rfl | exact decide_eq_true (by omega) | exact decide_eq_true (by assumption) | (simp (disch := first | decide | omega) only [if_pos_d, if_neg_d, decide_eq_true_eq, Bool.not_eq_true', decide_eq_false_iff_not]; omega), ?_⟩ | refine .inr ⟨by first | rfl | exact decide_eq_false (by omega) | exact decide_eq_false (by assumption) | (simp (disch := first | decide | omega) only [if_pos_d, if_neg_d, decide_eq_true_eq, Bool.not_eq_true', decide_eq_false_iff_not]; omega), ?_⟩
          (repeat (first | apply aw_seq | apply aw_block | apply aw_skip | apply aw_label | apply aw_exit | ((first | refine aw_region (hideO fun QQ hQQ => ?_) | refine aw_draw mixed (hideD fun QQ hQQ => ?_)); simp (maxSteps := 400000) (disch := first | decide | omega) only [hand, handS, go_sem, ↓reduceIte]; try (first | with_reducible refine unhide hQQ ?_ | refine ⟨by kernel_rfl, unhide hQQ ?_⟩); clear hQQ QQ) | with_reducible first | apply then_n | apply block_n | apply then_x | apply then_r | apply nog_n | apply nog_r | apply block_r | apply block_e (by decide) | apply block_x (by decide)))
          refine callD_turn rfl rfl [3] _ _ _ (by exact turns_update rfl rfl key118 und116 (tellI S T (LL ++ (dn ++ [x]))) (id := 3) (I := tellI S T (LL ++ dn)) (kv := .agg #[.int .i64 ((x &&& S : Nat) : Int)]) (by simp (disch := first | decide | omega) only [hand, handS, go_sem, ↓reduceIte]) (by simp (disch := first | decide | omega) only [hand, handS, go_sem, ↓reduceIte]; try rfl) (by simp (disch := first | decide | omega) only [hand, handS, go_sem, ↓reduceIte]; try rfl) (by simp (disch := first | decide | omega) only [hand, handS, go_sem, ↓reduceIte]; try rfl) hkey (tell_yes _ _ _ _) (tell_old _ _ _ _) (tell_all hnT) (by dsimp only; omega)) ?_
          (simp (maxSteps := 400000) (disch := first | decide | omega) only [hand, handS, go_sem, ↓reduceIte]; (try (refine ⟨by kernel_rfl, unhide hQQ ?_⟩; clear hQQ QQ; (repeat with_reducible first | apply then_n | apply block_n | apply then_x | apply then_r | apply nog_n | apply nog_r | apply block_r | apply block_e (by decide) | apply block_x (by decide)))))
          (repeat (first | apply aw_seq | apply aw_block | apply aw_skip | apply aw_label | apply aw_exit | ((first | refine aw_region (hideO fun QQ hQQ => ?_) | refine aw_draw mixed (hideD fun QQ hQQ => ?_)); simp (maxSteps := 400000) (disch := first | decide | omega) only [hand, handS, go_sem, ↓reduceIte]; try (first | with_reducible refine unhide hQQ ?_ | refine ⟨by kernel_rfl, unhide hQQ ?_⟩); clear hQQ QQ) | with_reducible first | apply then_n | apply block_n | apply then_x | apply then_r | apply nog_n | apply nog_r | apply block_r | apply block_e (by decide) | apply block_x (by decide)))
          refine ⟨by simp (disch := first | decide | omega) only [go_sem, ↓reduceIte]; try rfl, none, .inl ⟨rfl, rfl⟩, rC, by simp (disch := first | decide | omega) only [go_sem, ↓reduceIte]; try rfl, ?_⟩
          by_cases hz : add = 0
          · subst hz
            rw [if_pos rfl, List.map_nil] at hdn
            have hfin : walkL lo up bales tests (i + 1) = LL ++ (dn ++ [x]) := by rw [e1, ← hdn]
            (simp (maxSteps := 400000) (disch := first | decide | omega) only [Option.isNone_none, hrr2, go_sem, ↓reduceIte]; (try (with_reducible refine unhide hQQ ?_; clear hQQ QQ; (repeat with_reducible first | apply then_n | apply block_n | apply then_x | apply then_r | apply nog_n | apply nog_r | apply block_r | apply block_e (by decide) | apply block_x (by decide)))))
            (repeat (first | apply aw_seq | apply aw_block | apply aw_skip | apply aw_label | apply aw_exit | ((first | refine aw_region (hideO fun QQ hQQ => ?_) | refine aw_draw mixed (hideD fun QQ hQQ => ?_)); simp (maxSteps := 400000) (disch := first | decide | omega) only [Option.isNone_none, hrr2, go_sem, ↓reduceIte]; try (first | with_reducible refine unhide hQQ ?_ | refine ⟨by kernel_rfl, unhide hQQ ?_⟩); clear hQQ QQ) | with_reducible first | apply then_n | apply block_n | apply then_x | apply then_r | apply nog_n | apply nog_r | apply block_r | apply block_e (by decide) | apply block_x (by decide)))
            refine aw_cond2 (by simp (disch := first | decide | omega) only [Option.isNone_none, hrr2, go_sem, ↓reduceIte]; rfl) ?_; first | refine .inl ⟨by first | rfl | exact decide_eq_true (by omega) | exact decide_eq_true (by assumption) | (simp (disch := first | decide | omega) only [if_pos_d, if_neg_d, decide_eq_true_eq, Bool.not_eq_true', decide_eq_false_iff_not]; omega), ?_⟩ | refine .inr ⟨by first | rfl | exact decide_eq_false (by omega) | exact decide_eq_false (by assumption) | (simp (disch := first | decide | omega) only [if_pos_d, if_neg_d, decide_eq_true_eq, Bool.not_eq_true', decide_eq_false_iff_not]; omega), ?_⟩
            (repeat (first | apply aw_seq | apply aw_block | apply aw_skip | apply aw_label | apply aw_exit | ((first | refine aw_region (hideO fun QQ hQQ => ?_) | refine aw_draw mixed (hideD fun QQ hQQ => ?_)); simp (maxSteps := 400000) (disch := first | decide | omega) only [Option.isNone_none, hrr2, go_sem, ↓reduceIte]; try (first | with_reducible refine unhide hQQ ?_ | refine ⟨by kernel_rfl, unhide hQQ ?_⟩); clear hQQ QQ) | with_reducible first | apply then_n | apply block_n | apply then_x | apply then_r | apply nog_n | apply nog_r | apply block_r | apply block_e (by decide) | apply block_x (by decide)))
            refine ⟨.inl rfl, by simp (disch := first | decide | omega) only [go_sem, ↓reduceIte]; try rfl, r', by simp (disch := first | decide | omega) only [go_sem, ↓reduceIte]; try rfl, by rw [gr1]; decide, ?_⟩
            rw [gr1p]
            (repeat (first | with_reducible refine then_n ?_ | with_reducible refine block_n ?_))
            refine ⟨by simp (disch := first | decide | omega) only [go_sem, ↓reduceIte]; try rfl, none, .inl ⟨rfl, rfl⟩, rB, by simp (disch := first | decide | omega) only [go_sem, ↓reduceIte]; try rfl, ?_⟩
            (simp (maxSteps := 400000) (disch := first | decide | omega) only [Option.isNone_none, hrr, go_sem, ↓reduceIte]; (try (with_reducible refine unhide hQQ ?_; clear hQQ QQ; (repeat with_reducible first | apply then_n | apply block_n | apply then_x | apply then_r | apply nog_n | apply nog_r | apply block_r | apply block_e (by decide) | apply block_x (by decide)))))
            (repeat (first | apply aw_seq | apply aw_block | apply aw_skip | apply aw_label | apply aw_exit | ((first | refine aw_region (hideO fun QQ hQQ => ?_) | refine aw_draw mixed (hideD fun QQ hQQ => ?_)); simp (maxSteps := 400000) (disch := first | decide | omega) only [Option.isNone_none, hrr, go_sem, ↓reduceIte]; try (first | with_reducible refine unhide hQQ ?_ | refine ⟨by kernel_rfl, unhide hQQ ?_⟩); clear hQQ QQ) | with_reducible first | apply then_n | apply block_n | apply then_x | apply then_r | apply nog_n | apply nog_r | apply block_r | apply block_e (by decide) | apply block_x (by decide)))
            refine aw_cond2 (by simp (disch := first | decide | omega) only [Option.isNone_none, hrr, go_sem, ↓reduceIte]; rfl) ?_; first | refine .inl ⟨by first | rfl | exact decide_eq_true (by omega) | exact decide_eq_true (by assumption) | (simp (disch := first | decide | omega) only [if_pos_d, if_neg_d, decide_eq_true_eq, Bool.not_eq_true', decide_eq_false_iff_not]; omega), ?_⟩ | refine .inr ⟨by first | rfl | exact decide_eq_false (by omega) | exact decide_eq_false (by assumption) | (simp (disch := first | decide | omega) only [if_pos_d, if_neg_d, decide_eq_true_eq, Bool.not_eq_true', decide_eq_false_iff_not]; omega), ?_⟩
            (repeat (first | apply aw_seq | apply aw_block | apply aw_skip | apply aw_label | apply aw_exit | ((first | refine aw_region (hideO fun QQ hQQ => ?_) | refine aw_draw mixed (hideD fun QQ hQQ => ?_)); simp (maxSteps := 400000) (disch := first | decide | omega) only [Option.isNone_none, hrr, go_sem, ↓reduceIte]; try (first | with_reducible refine unhide hQQ ?_ | refine ⟨by kernel_rfl, unhide hQQ ?_⟩); clear hQQ QQ) | with_reducible first | apply then_n | apply block_n | apply then_x | apply then_r | apply nog_n | apply nog_r | apply block_r | apply block_e (by decide) | apply block_x (by decide)))
            refine ⟨⟨i + 1, by omega, by rw [hfin]; exact hnT⟩, ?_, weak_round ?_ (by first | rfl | (simp only [Option.isNone_none, hrr, go_sem, ↓reduceIte]))⟩
            rotate_left
            · simp only [hfin]
              (simp only [Option.isNone_none, hrr, go_sem, ↓reduceIte]; try rfl)
            · simp only; omega
          · rw [if_neg hz] at hdn
            have hs1 : ((add : Nat) : Int) - 1 = ((add - 1 : Nat) : Int) := by omega
            have han2 : ∀ (T' : TypeId) (p q : Operand), binA Try.prog .and T' p q (.int .i64 ((add - 1 : Nat) : Int)) (.int .i64 (free : Int)) = some (.int .i64 (((add - 1) &&& free : Nat) : Int)) := fun T' p q => bin_and_nat T' p q (by omega) (by omega)
            have hle : (add - 1) &&& free ≤ add - 1 := Nat.and_le_left
            (simp (maxSteps := 400000) (disch := first | decide | omega) only [Option.isNone_none, hrr2, hs1, han2, go_sem, ↓reduceIte]; (try (with_reducible refine unhide hQQ ?_; clear hQQ QQ; (repeat with_reducible first | apply then_n | apply block_n | apply then_x | apply then_r | apply nog_n | apply nog_r | apply block_r | apply block_e (by decide) | apply block_x (by decide)))))
            (repeat (first | apply aw_seq | apply aw_block | apply aw_skip | apply aw_label | apply aw_exit | ((first | refine aw_region (hideO fun QQ hQQ => ?_) | refine aw_draw mixed (hideD fun QQ hQQ => ?_)); simp (maxSteps := 400000) (disch := first | decide | omega) only [Option.isNone_none, hrr2, hs1, han2, go_sem, ↓reduceIte]; try (first | with_reducible refine unhide hQQ ?_ | refine ⟨by kernel_rfl, unhide hQQ ?_⟩); clear hQQ QQ) | with_reducible first | apply then_n | apply block_n | apply then_x | apply then_r | apply nog_n | apply nog_r | apply block_r | apply block_e (by decide) | apply block_x (by decide)))
            refine aw_cond2 (by simp (disch := first | decide | omega) only [Option.isNone_none, hrr2, hs1, han2, go_sem, ↓reduceIte]; rfl) ?_; first | refine .inl ⟨by first | rfl | exact decide_eq_true (by omega) | exact decide_eq_true (by assumption) | (simp (disch := first | decide | omega) only [if_pos_d, if_neg_d, decide_eq_true_eq, Bool.not_eq_true', decide_eq_false_iff_not]; omega), ?_⟩ | refine .inr ⟨by first | rfl | exact decide_eq_false (by omega) | exact decide_eq_false (by assumption) | (simp (disch := first | decide | omega) only [if_pos_d, if_neg_d, decide_eq_true_eq, Bool.not_eq_true', decide_eq_false_iff_not]; omega), ?_⟩
            (repeat (first | apply aw_seq | apply aw_block | apply aw_skip | apply aw_label | apply aw_exit | ((first | refine aw_region (hideO fun QQ hQQ => ?_) | refine aw_draw mixed (hideD fun QQ hQQ => ?_)); simp (maxSteps := 400000) (disch := first | decide | omega) only [Option.isNone_none, hrr2, hs1, han2, go_sem, ↓reduceIte]; try (first | with_reducible refine unhide hQQ ?_ | refine ⟨by kernel_rfl, unhide hQQ ?_⟩); clear hQQ QQ) | with_reducible first | apply then_n | apply block_n | apply then_x | apply then_r | apply nog_n | apply nog_r | apply block_r | apply block_e (by decide) | apply block_x (by decide)))
            refine ⟨⟨(dn ++ [x], f, (add - 1) &&& free), by rw [← hdn]; simp, by dsimp only; omega, by dsimp only; omega, hnT⟩, ?_, weak_round ?_ (by first | rfl | (simp only [Option.isNone_none, hrr2, hs1, han2, go_sem, ↓reduceIte]))⟩
            rotate_left
            · (simp only [Option.isNone_none, hrr2, hs1, han2, go_sem, ↓reduceIte]; try rfl)
            · simp only; omega
      · rw [decide_eq_false hd] at hS e1
        rw [if_neg (by decide), List.append_nil] at e1
        ((refine cO 52 rfl rfl rfl (hS) Try.func52 rfl ?_); refine tu ?_; try clear hQQ QQ); refine tw ?_; try with_reducible intro QQ hQQ
        refine ti ?_; try clear hQQ QQ
        refine tw ?_; try with_reducible intro QQ hQQ
        refine aw_ret ⟨.inr rfl, by simp (disch := first | decide | omega) only [go_sem, ↓reduceIte]; try rfl, r', by simp (disch := first | decide | omega) only [go_sem, ↓reduceIte]; try rfl, by rw [gr1]; decide, ?_⟩
        rw [gr1p]
        (repeat (first | with_reducible refine then_n ?_ | with_reducible refine block_n ?_))
        refine ⟨by simp (disch := first | decide | omega) only [go_sem, ↓reduceIte]; try rfl, none, .inl ⟨rfl, rfl⟩, rB, by simp (disch := first | decide | omega) only [go_sem, ↓reduceIte]; try rfl, ?_⟩
        (simp (maxSteps := 400000) (disch := first | decide | omega) only [Option.isNone_none, hrr, go_sem, ↓reduceIte]; (try (with_reducible refine unhide hQQ ?_; clear hQQ QQ; (repeat with_reducible first | apply then_n | apply block_n | apply then_x | apply then_r | apply nog_n | apply nog_r | apply block_r | apply block_e (by decide) | apply block_x (by decide)))))
        (repeat (first | apply aw_seq | apply aw_block | apply aw_skip | apply aw_label | apply aw_exit | ((first | refine aw_region (hideO fun QQ hQQ => ?_) | refine aw_draw mixed (hideD fun QQ hQQ => ?_)); simp (maxSteps := 400000) (disch := first | decide | omega) only [Option.isNone_none, hrr, go_sem, ↓reduceIte]; try (first | with_reducible refine unhide hQQ ?_ | refine ⟨by kernel_rfl, unhide hQQ ?_⟩); clear hQQ QQ) | with_reducible first | apply then_n | apply block_n | apply then_x | apply then_r | apply nog_n | apply nog_r | apply block_r | apply block_e (by decide) | apply block_x (by decide)))
        refine aw_cond2 (by simp (disch := first | decide | omega) only [Option.isNone_none, hrr, go_sem, ↓reduceIte]; rfl) ?_; first | refine .inl ⟨by first | rfl | exact decide_eq_true (by omega) | exact decide_eq_true (by assumption) | (simp (disch := first | decide | omega) only [if_pos_d, if_neg_d, decide_eq_true_eq, Bool.not_eq_true', decide_eq_false_iff_not]; omega), ?_⟩ | refine .inr ⟨by first | rfl | exact decide_eq_false (by omega) | exact decide_eq_false (by assumption) | (simp (disch := first | decide | omega) only [if_pos_d, if_neg_d, decide_eq_true_eq, Bool.not_eq_true', decide_eq_false_iff_not]; omega), ?_⟩
        (repeat (first | apply aw_seq | apply aw_block | apply aw_skip | apply aw_label | apply aw_exit | ((first | refine aw_region (hideO fun QQ hQQ => ?_) | refine aw_draw mixed (hideD fun QQ hQQ => ?_)); simp (maxSteps := 400000) (disch := first | decide | omega) only [Option.isNone_none, hrr, go_sem, ↓reduceIte]; try (first | with_reducible refine unhide hQQ ?_ | refine ⟨by kernel_rfl, unhide hQQ ?_⟩); clear hQQ QQ) | with_reducible first | apply then_n | apply block_n | apply then_x | apply then_r | apply nog_n | apply nog_r | apply block_r | apply block_e (by decide) | apply block_x (by decide)))
        refine ⟨⟨i + 1, by omega, by rw [e1]; exact hiT⟩, ?_, weak_round ?_ (by first | rfl | (simp only [Option.isNone_none, hrr, go_sem, ↓reduceIte]))⟩
        rotate_left
        · simp only [e1]
          (simp only [Option.isNone_none, hrr, go_sem, ↓reduceIte]; try rfl)
        · simp only; omega
    · have hfe : feasB lo up bales tests i = false := by
        unfold feasB
        rw [show (decide (lo ≤ popc i) && decide (popc i ≤ up)) = false by rw [← Bool.not_eq_true, Bool.and_eq_true, decide_eq_true_iff, decide_eq_true_iff]; exact hin]
        rfl
      rw [hfe, if_neg (by decide), List.append_nil] at e1
      rw [show inB (popc i) lo up = false by simp [inB]; omega] at hw
      refine tw ?_; try with_reducible intro QQ hQQ
      refine ti ?_; try clear hQQ QQ
      refine tw ?_; try with_reducible intro QQ hQQ
      (refine cD 71 rfl rfl rfl (hs) Try.func71 rfl ?_); refine td ?_; try clear hQQ QQ
      (refine cD 86 rfl rfl rfl (hw) Try.func86 rfl ?_); refine td ?_; try clear hQQ QQ
      refine tw ?_; try with_reducible intro QQ hQQ
      refine ti ?_; try clear hQQ QQ
      (refine aw_exit ?_); (repeat with_reducible first | apply then_n | apply block_n | apply then_x | apply then_r | apply nog_n | apply nog_r | apply block_r | apply block_e (by decide) | apply block_x (by decide))
      refine tw ?_; try with_reducible intro QQ hQQ
      refine ⟨⟨i + 1, by omega, by rw [e1]; exact hiT⟩, ?_, weak_round ?_ (by first | rfl | (simp only [go_sem, ↓reduceIte]))⟩
      rotate_left
      · simp only [e1]
        (simp only [go_sem, ↓reduceIte]; try rfl)
      · simp only; omega
  · have hie : i = 2 ^ N := by omega
    subst hie
    refine tw ?_; try with_reducible intro QQ hQQ
    refine ti ?_; try clear hQQ QQ
    refine tw ?_; try with_reducible intro QQ hQQ
    refine ⟨.inl rfl, by simp (disch := first | decide | omega) only [go_sem, ↓reduceIte]; try rfl, r, by simp (disch := first | decide | omega) only [go_sem, ↓reduceIte]; try rfl, by rw [hr1]; decide, ?_⟩
    rw [hr1p]
    (repeat (first | with_reducible refine then_n ?_ | with_reducible refine block_n ?_))
    show AW _ _ _ _
    rw [decide_eq_true hiT]
    generalize walkL lo up bales tests (2 ^ N) = LL at *
    refine tw ?_; try with_reducible intro QQ hQQ
    refine aw_ret ?_; refine ⟨.inr rfl, ?_⟩; simp only [resA, res1, go_sem, ↓reduceIte]
end
end Go.Proofs.Ytknikcpeacmpmaa
