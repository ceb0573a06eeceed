/- burr: the sets of the top line, walked. -/
import Derived.Test.YtknikcpeacmpmaaBvK
import Derived.Test.YtknikcpeacmpmaaKm
import Derived.Test.YtknikcpeacmpmaaKe
set_option linter.all false
namespace Go.Proofs.Ytknikcpeacmpmaa
open Go Go.RowKit Go.Sh Go.Pv
set_option maxHeartbeats 8000000
set_option maxRecDepth 8000
set_option pp.maxSteps 60000
section
theorem rowsK_1 (x : PV) : rowsK 1 [[x]] = True := eq_true fun i r h => by
  cases i with
  | zero => simp at h; subst h; rfl
  | succ i => simp at h
theorem c_seq {Z : Zn} {w0 : World} {cap : Nat → Prop} {nt : Nat} {rd : Option Nat} {pan : List PanicEntry → St → Prop} {df : Option Nat} {dk : List Nat} {rg : Bool} {fr : List (Nat × AV)} {hp : List (Nat × Obj')} {nx a b : Nat} :
    CallF ⟨Try.prog, Z, w0, cap, nt, rd, pan, df, dk, rg⟩ 90 [.agg [.p (iP a), .p (iP b)]] ⟨fr, hp, nx⟩ fun st' av => st' = ⟨fr, (nx + 1, .box [.p (iP a), .p (iP b)]) :: hp, nx + 1 + 1⟩ ∧ av = .one (.fn 98 [.box (nx + 1)]) := by
  (refine callF_to (nt := 4) (rs := [.tmp 2]) Try.func90 rfl rfl rfl (by simp) fun hcl tm Ds => ?_); simp only [initV]
  dsimp only [Kx.calleeT]
  have hlt := hcl.lt
  dsimp only at hlt
  refine tw ?_; try with_reducible intro QQ hQQ
  refine aw_ret ⟨.inr rfl, _, by simp (disch := first | decide | omega) only [go_sem, ↓reduceIte]; try rfl, by simp (disch := first | decide | omega) only [go_sem, ↓reduceIte]; try rfl, ⟨fr, (nx + 1, .box [.p (iP a), .p (iP b)]) :: hp, nx + 1 + 1⟩, rfl, ?_, ?_, ?_, rfl, rfl⟩
  · exact Closed.new (st := ⟨fr, hp, nx⟩) (id := nx + 1) (nx' := nx + 1 + 1) hcl (by dsimp only; omega) (by omega) (fun _ _ h => by cases h) (fun i hi => by cases hi)
  · intro id o ho
    have ho : AL.get ((nx + 1, Obj'.box [.p (iP a), .p (iP b)]) :: hp) id = some o := ho
    by_cases e1 : id = nx + 1
    · subst e1; rw [AL.get_eq] at ho ⊢; exact ho
    · rw [AL.get_ne _ _ e1] at ho
      have := hlt id o ho
      simp (disch := first | decide | omega) only [go_sem, ↓reduceIte]
      exact ho
  · intro i hi
    simp only [refsV, refsC, refsCC, List.flatMap_cons, List.flatMap_nil, List.append_nil, List.mem_singleton] at hi
    subst hi
    exact ⟨_, AL.get_eq _ _ _⟩
variable {bales : List (Int × Int)}
theorem ok_top {N lo up T : Nat} {tests : List (Int × Bool)} (hN : N ≤ 5) (hup : up ≤ 5) (hT : T < 64) (hb6 : bales.length ≤ 6) (hb : ∀ i, i < bales.length → (0 ≤ (bales.getD i (0, 0)).1 ∧ (bales.getD i (0, 0)).1 < 32) ∧ (0 ≤ (bales.getD i (0, 0)).2 ∧ (bales.getD i (0, 0)).2 < 32)) (htl : tests.length ≤ 100) (ht : ∀ t ∈ tests, 0 ≤ t.1 ∧ t.1 < 6) :
    FunOK Try.prog 58 [.one (shP N lo up T bales tests)] (.one (.one (.sl ((walkL lo up bales tests (2 ^ N)).map fun h => rowN (h &&& T))))) := by
  have hsh : ∀ (T : TypeId) (p q : Operand), binA Try.prog .shl T p q (.int .i64 1) (.int .i64 (N : Int)) = some (.int .i64 ((2 ^ N : Nat) : Int)) := fun T p q => bin_shl_one .i64 T p q (by omega)
  have hp := pow32 hN
  have hp0 := Nat.two_pow_pos N
  refine fun_ok (nt := 29) (rs := [.cell 2 82]) Try.func58 rfl rfl rfl (by simp) fun Z w0 => ?_; simp only [initFr, avR, List.map_cons, List.map_nil]
  simp only [shP]
  refine tw ?_; try with_reducible intro QQ hQQ
  (refine callS_ok rfl rfl 50 (by simp (maxSteps := 400000) (disch := first | decide | omega) only [go_sem, ↓reduceIte]; try rfl) (by simp (maxSteps := 400000) (disch := first | decide | omega) only [go_sem, ↓reduceIte]; try rfl) Try.func50 rfl (by decide) ?_); (refine callF_in (nt := 4) (rs := [.tmp 2]) Try.func50 rfl rfl rfl (by simp) fun tm Ds => ?_); simp only [initV, capV, List.map_cons, List.map_nil, List.cons_append, List.nil_append]
  refine tw ?_; try with_reducible intro QQ hQQ
  (refine aw_ret ⟨.inr rfl, _, by (simp (maxSteps := 400000) (disch := first | decide | omega) only [go_sem, ↓reduceIte]; try rfl), by (simp (maxSteps := 400000) (disch := first | decide | omega) only [go_sem, ↓reduceIte]; try rfl), ?_⟩); refine ts ?_; try clear hQQ QQ
  refine tw ?_; try with_reducible intro QQ hQQ
  refine aw_weak (weak_ownB 1 0 3 1 (by simp (disch := first | decide | omega) only [go_sem, ↓reduceIte]; rfl) rfl) ?_
  (refine ts ?_; try clear hQQ QQ)
  refine aw_weak (weak_thr [1, 2, 3, 4, 6, 7, 17] (by simp only [go_sem, ↓reduceIte]; rfl)) ?_
  refine aw_rangeFunc (nt := 34) rfl rfl (by simp (disch := first | decide | omega) only [go_sem, ↓reduceIte]; rfl) Try.func87 rfl (by decide) rfl rfl (by decide) fun r bb tm2 Ds2 hr1 hr1p hr2 hr3 hr4 hr5 hr6 hr7 => ?_
  dsimp only [Kx.iter] at hr5 hr7 ⊢
  refine aw_scope rfl ?_
  (repeat (first | apply aw_seq | apply aw_block | apply aw_skip | apply aw_label | apply aw_exit | ((first | refine aw_region (hideO fun QQ hQQ => ?_) | refine aw_draw mixed (hideD fun QQ hQQ => ?_)); simp (maxSteps := 400000) (disch := first | decide | omega) only [hsh, go_sem, ↓reduceIte]; try (first | with_reducible refine unhide hQQ ?_ | refine ⟨by kernel_rfl, unhide hQQ ?_⟩); clear hQQ QQ) | with_reducible first | apply then_n | apply block_n | apply then_x | apply then_r | apply nog_n | apply nog_r | apply block_r | apply block_e (by decide) | apply block_x (by decide)))
  refine aw_weak (weak_keepA [0, 1, 9, 10] (by simp only [go_sem, ↓reduceIte]; rfl)) ?_
  refine aw_loop_ov (ι := { i : Nat // i ≤ 2 ^ N }) (fun i => [(10, iA i.1)]) (fun i => [(4, .arr 3 1 ((walkL lo up bales tests i.1).map fun h => rowN (h &&& T)) true), (1, .box [.own 4 (walkL lo up bales tests i.1).length])]) (fun i => 2 ^ N - i.1) ⟨0, by omega⟩ (by first | rfl | (simp only [go_sem, ↓reduceIte]; first | done | rfl | (simp; try rfl))) ?_
  rintro ⟨i, hi⟩
  simp (disch := decide) only [ov, ovL, AL.get_nil, AL.get_eq, AL.get_ne, Option.getD_some, Option.getD_none]
  by_cases hil : i < 2 ^ N
  · have hs := ok_size i (by omega)
    have hw := ok_within (popc i) lo up
    have e1 := walkL_succ (lo := lo) (up := up) (bales := bales) (tests := tests) i
    have hLl := walkL_len (lo := lo) (up := up) (bales := bales) (tests := tests) i
    generalize walkL lo up bales tests i = LL at *
    by_cases hin : lo ≤ popc i ∧ popc i ≤ up
    · rw [show inB (popc i) lo up = true by simp [inB]; omega] at hw
      refine tw ?_; try with_reducible intro QQ hQQ
      refine ti ?_; try clear hQQ QQ
      refine tw ?_; try with_reducible intro QQ hQQ
      (refine cD 71 rfl rfl rfl (hs) Try.func71 rfl ?_); refine td ?_; try clear hQQ QQ
      (refine cD 86 rfl rfl rfl (hw) Try.func86 rfl ?_); refine td ?_; try clear hQQ QQ
      refine tw ?_; try with_reducible intro QQ hQQ
      refine ti ?_; try clear hQQ QQ
      refine tw ?_; try with_reducible intro QQ hQQ
      refine ⟨rfl, .inr ⟨rfl, callS_yield (L := 6) (C := 5) (avs := [.one (.p (iP (i : Int)))]) rfl rfl (by simp (disch := first | decide | omega) only [go_sem, ↓reduceIte]; try rfl) (by simp (disch := first | decide | omega) only [go_sem, ↓reduceIte]; try rfl) (by simp (disch := first | decide | omega) only [go_sem, ↓reduceIte]; try rfl) hr1 (by simp (disch := first | decide | omega) only [go_sem, ↓reduceIte]; try rfl) hr6 (by rw [hr5]; exact fun t av ht => hr7 t av ht |> fun h => by rw [hr5] at h; exact h) (by rw [hr2]; rfl) ?_ fun Ds tmi => ?_⟩⟩
      · intro t ht
        rw [hr2] at ht
        rw [hr5]
        simp only [List.mem_cons, List.mem_nil_iff, or_false] at ht
        subst ht; decide
      obtain ⟨rB, hrB⟩ : ∃ rB, ({ r with state := .busy } : Loop) = rB := ⟨_, rfl⟩
      rw [hrB, hr2, hr3, hr4, hr5]
      have hrr : ({ rB with state := .ready, pending := none } : Loop) = r := by
        rw [← hrB]
        cases r
        dsimp only at hr1 hr1p
        subst hr1 hr1p
        rfl
      simp only [Kx.round, setPs]
      have hH := ok_held (N := N) (lo := lo) (hi := up) (top := T) (tests0 := tests) (tests := tests) (m := i) (by omega) hb6 hb htl ht
      have hlt := held_lt (m := i) hb6 ht
      have hfe : feasB lo up bales tests i = decide (diffN (heldF bales i tests).1 (heldF bales i tests).2 = 0) := by unfold feasB; rw [decide_eq_true hin.1, decide_eq_true hin.2]; rfl
      rw [hfe] at e1
      have hS := ok_some hlt.1 hlt.2
      simp only [shP] at hH
      generalize hq : heldF bales i tests = q at *
      obtain ⟨qa, qb⟩ := q
      dsimp only at hH hS e1 hlt hfe
      refine tw ?_; try with_reducible intro QQ hQQ
      refine ⟨rfl, by simp (disch := first | decide | omega) only [go_sem, ↓reduceIte], ?_⟩
      refine tw ?_; try with_reducible intro QQ hQQ
      (refine cD 51 rfl rfl rfl (hH) Try.func51 rfl ?_); refine td ?_; try clear hQQ QQ
      refine callD_F [9] ?_ ?_ 10 rfl rfl (by simp (disch := first | decide | omega) only [go_sem, ↓reduceIte]; try rfl) (by simp (disch := first | decide | omega) only [go_sem, ↓reduceIte]; try rfl) Try.func90 rfl (by decide) ?_ (by dsimp only; omega) (by decide) ?_ ?_; rotate_left 3; (intro fr hk; exact c_seq); rotate_left; (intro id hid; simp only [List.mem_cons, List.mem_nil_iff, or_false, not_or] at hid; simp (disch := first | decide | omega) only [go_sem, ↓reduceIte]); refine td ?_; try clear hQQ QQ
      refine tw ?_; try with_reducible intro QQ hQQ
      refine aw_weak (weak_thr [1, 2, 4, 16, 17] (by simp only [go_sem, ↓reduceIte]; rfl)) ?_
      refine aw_rangeFuncN (id0 := 6) (r0 := rB) (l0 := bb) (nt := 29) rfl (by simp (disch := first | decide | omega) only [go_sem, ↓reduceIte]; try rfl) (by simp (disch := first | decide | omega) only [go_sem, ↓reduceIte]; rfl) Try.func98 rfl (by decide) rfl rfl (by decide) fun r' bb' tm3 Ds3 gr1 gr1p gr2 gr3 gr4 gr5 gr6 gr7 => ?_
      dsimp only [Kx.iter] at gr5 gr7 ⊢
      have hfl := diffN_le qb qa
      have hd2 : ∀ (T : TypeId) (p' q : Operand), binA Try.prog .andNot T p' q (.int .i64 (qb : Int)) (.int .i64 (qa : Int)) = some (.int .i64 ((diffN qb qa : Nat) : Int)) := fun T p' q => bin_andNot_nat T p' q (by omega) (by omega)
      (repeat (first | apply aw_seq | apply aw_block | apply aw_skip | apply aw_label | apply aw_exit | ((first | refine aw_region (hideO fun QQ hQQ => ?_) | refine aw_draw mixed (hideD fun QQ hQQ => ?_)); simp (maxSteps := 400000) (disch := first | decide | omega) only [hd2, go_sem, ↓reduceIte]; try (first | with_reducible refine unhide hQQ ?_ | refine ⟨by kernel_rfl, unhide hQQ ?_⟩); clear hQQ QQ) | with_reducible first | apply then_n | apply block_n | apply then_x | apply then_r | apply nog_n | apply nog_r | apply block_r | apply block_e (by decide) | apply block_x (by decide)))
      by_cases hd : diffN qa qb = 0
      · rw [decide_eq_true hd] at hS e1
        rw [if_pos rfl] at e1
        have hbw : betwL qa qb = (downL (diffN qb qa) 64 (diffN qb qa)).map fun a => qa ||| a := rfl
        obtain ⟨free, hfr⟩ : ∃ free, diffN qb qa = free := ⟨_, rfl⟩
        rw [hfr] at hbw hfl
        simp only [hfr]
        clear hd hfe hd2
        ((refine cO 52 rfl rfl rfl (hS) Try.func52 rfl ?_); refine tu ?_; try clear hQQ QQ); refine tw ?_; try with_reducible intro QQ hQQ
        refine ti ?_; try clear hQQ QQ
        refine tw ?_; try with_reducible intro QQ hQQ
        refine aw_weak (weak_keepA [0, 1, 3, 4] (by simp only [go_sem, ↓reduceIte]; rfl)) ?_
        refine aw_loop_ov (ι := { p : List Nat × Nat × Nat // (p.1 ++ (downL free p.2.1 p.2.2).map fun a => qa ||| a) = betwL qa qb ∧ p.2.2 < 64 ∧ p.2.2 < p.2.1 }) (fun p => [(4, iA p.1.2.2)]) (fun p => [(4, .arr 3 1 ((LL ++ p.1.1).map fun h => rowN (h &&& T)) true), (1, .box [.own 4 (LL ++ p.1.1).length])]) (fun p => p.1.2.2) ⟨([], 64, free), by simp [hbw], by dsimp only; omega, by dsimp only; omega⟩ (by first | rfl | (simp only [go_sem, ↓reduceIte]; first | done | rfl | (simp; try rfl))) ?_
        rintro ⟨⟨dn, f, add⟩, hdn, ha64, haf⟩
        simp (disch := decide) only [ov, ovL, AL.get_nil, AL.get_eq, AL.get_ne, Option.getD_some, Option.getD_none]
        dsimp only at hdn ha64 haf
        have hor := or64 hlt.1 ha64
        have hu := ok_union2 (a := qa) (b := add) (by omega) (by omega)
        have hand : ∀ (T' : TypeId) (p q : Operand), binA Try.prog .and T' p q (.int .i64 ((qa ||| add : Nat) : Int)) (.int .i64 (T : Int)) = some (.int .i64 (((qa ||| add) &&& T : Nat) : Int)) := fun T' p q => bin_and_nat T' p q (by omega) (by omega)
        obtain ⟨f, rfl⟩ : ∃ g, f = g + 1 := ⟨f - 1, by omega⟩
        have hdl : downL free (f + 1) add = add :: if add = 0 then [] else downL free f ((add - 1) &&& free) := rfl
        rw [hdl, List.map_cons] at hdn
        have hrow : ((LL ++ dn).map fun h => rowN (h &&& T)) ++ [[iP (((qa ||| add) &&& T : Nat) : Int)]] = (LL ++ (dn ++ [qa ||| add])).map fun h => rowN (h &&& T) := by simp [rowN]
        have hlen : (LL ++ dn).length + 1 = (LL ++ (dn ++ [qa ||| add])).length := by simp; omega
        generalize hx : qa ||| add = x at *
        refine tw ?_; try with_reducible intro QQ hQQ
        (refine cO 88 rfl rfl rfl (hu) Try.func88 rfl ?_); refine ts ?_; try clear hQQ QQ
        refine ⟨rfl, .inr ⟨rfl, callS_yield (L := 11) (C := 10) (avs := [.one (.p (iP (x : Int)))]) rfl rfl (by simp (disch := first | decide | omega) only [go_sem, ↓reduceIte]; try rfl) (by simp (disch := first | decide | omega) only [go_sem, ↓reduceIte]; try rfl) (by simp (disch := first | decide | omega) only [go_sem, ↓reduceIte]; try rfl) gr1 (by simp (disch := first | decide | omega) only [go_sem, ↓reduceIte]; try rfl) gr6 (by rw [gr5]; exact fun t av ht => gr7 t av ht |> fun h => by rw [gr5] at h; exact h) (by rw [gr2]; rfl) ?_ fun DsN tmN => ?_⟩⟩
        · intro t ht
          rw [gr2] at ht
          rw [gr5]
          simp only [List.mem_cons, List.mem_nil_iff, or_false] at ht
          subst ht; decide
        obtain ⟨rC, hrC⟩ : ∃ rC, ({ r' with state := .busy } : Loop) = rC := ⟨_, rfl⟩
        rw [hrC, gr2, gr3, gr4, gr5]
        have hrr2 : ({ rC with state := .ready, pending := none } : Loop) = r' := by
          rw [← hrC]
          cases r'
          dsimp only at gr1 gr1p
          subst gr1 gr1p
          rfl
        simp only [Kx.round, setPs]
        refine tw ?_; try with_reducible intro QQ hQQ
        refine ⟨rfl, by simp (disch := first | decide | omega) only [go_sem, ↓reduceIte], ?_⟩
        have hlb : ((LL ++ dn).length + 1) * 8 ≤ 140737488355328 := by
          have h1 := congrArg List.length hdn
          have h2 := betwL_len qa qb
          simp only [List.length_append, List.length_cons] at h1 ⊢
          omega
        (repeat (first | apply aw_seq | apply aw_block | apply aw_skip | apply aw_label | apply aw_exit | ((first | refine aw_region (hideO fun QQ hQQ => ?_) | refine aw_draw mixed (hideD fun QQ hQQ => ?_)); simp (maxSteps := 400000) (disch := first | decide | omega) only [hand, hlb, rowsK_1, go_sem, ↓reduceIte]; try (first | with_reducible refine unhide hQQ ?_ | refine ⟨by kernel_rfl, unhide hQQ ?_⟩); clear hQQ QQ) | with_reducible first | apply then_n | apply block_n | apply then_x | apply then_r | apply nog_n | apply nog_r | apply block_r | apply block_e (by decide) | apply block_x (by decide)))
        refine ⟨by simp (disch := first | decide | omega) only [go_sem, ↓reduceIte]; try rfl, none, .inl ⟨rfl, rfl⟩, rC, by simp (disch := first | decide | omega) only [go_sem, ↓reduceIte]; try rfl, ?_⟩
        by_cases hz : add = 0
        · subst hz
          rw [if_pos rfl, List.map_nil] at hdn
          (simp (maxSteps := 400000) (disch := first | decide | omega) only [Option.isNone_none, hrr2, go_sem, ↓reduceIte]; (try (with_reducible refine unhide hQQ ?_; clear hQQ QQ; (repeat with_reducible first | apply then_n | apply block_n | apply then_x | apply then_r | apply nog_n | apply nog_r | apply block_r | apply block_e (by decide) | apply block_x (by decide)))))
          (repeat (first | apply aw_seq | apply aw_block | apply aw_skip | apply aw_label | apply aw_exit | ((first | refine aw_region (hideO fun QQ hQQ => ?_) | refine aw_draw mixed (hideD fun QQ hQQ => ?_)); simp (maxSteps := 400000) (disch := first | decide | omega) only [Option.isNone_none, hrr2, go_sem, ↓reduceIte]; try (first | with_reducible refine unhide hQQ ?_ | refine ⟨by kernel_rfl, unhide hQQ ?_⟩); clear hQQ QQ) | with_reducible first | apply then_n | apply block_n | apply then_x | apply then_r | apply nog_n | apply nog_r | apply block_r | apply block_e (by decide) | apply block_x (by decide)))
          refine aw_cond2 (by simp (disch := first | decide | omega) only [Option.isNone_none, hrr2, go_sem, ↓reduceIte]; rfl) ?_; first | refine .inl ⟨by first | rfl | exact decide_eq_true (by omega) | exact decide_eq_true (by assumption) | (simp (disch := first | decide | omega) only [if_pos_d, if_neg_d, decide_eq_true_eq, Bool.not_eq_true', decide_eq_false_iff_not]; omega), ?_⟩ | refine .inr ⟨by first | rfl | exact decide_eq_false (by omega) | exact decide_eq_false (by assumption) | (simp (disch := first | decide | omega) only [if_pos_d, if_neg_d, decide_eq_true_eq, Bool.not_eq_true', decide_eq_false_iff_not]; omega), ?_⟩
          (repeat (first | apply aw_seq | apply aw_block | apply aw_skip | apply aw_label | apply aw_exit | ((first | refine aw_region (hideO fun QQ hQQ => ?_) | refine aw_draw mixed (hideD fun QQ hQQ => ?_)); simp (maxSteps := 400000) (disch := first | decide | omega) only [Option.isNone_none, hrr2, go_sem, ↓reduceIte]; try (first | with_reducible refine unhide hQQ ?_ | refine ⟨by kernel_rfl, unhide hQQ ?_⟩); clear hQQ QQ) | with_reducible first | apply then_n | apply block_n | apply then_x | apply then_r | apply nog_n | apply nog_r | apply block_r | apply block_e (by decide) | apply block_x (by decide)))
          refine ⟨.inl rfl, by simp (disch := first | decide | omega) only [go_sem, ↓reduceIte]; try rfl, r', by simp (disch := first | decide | omega) only [go_sem, ↓reduceIte]; try rfl, by rw [gr1]; decide, ?_⟩
          rw [gr1p]
          (repeat (first | with_reducible refine then_n ?_ | with_reducible refine block_n ?_))
          refine ⟨by simp (disch := first | decide | omega) only [go_sem, ↓reduceIte]; try rfl, none, .inl ⟨rfl, rfl⟩, rB, by simp (disch := first | decide | omega) only [go_sem, ↓reduceIte]; try rfl, ?_⟩
          (simp (maxSteps := 400000) (disch := first | decide | omega) only [Option.isNone_none, hrr, go_sem, ↓reduceIte]; (try (with_reducible refine unhide hQQ ?_; clear hQQ QQ; (repeat with_reducible first | apply then_n | apply block_n | apply then_x | apply then_r | apply nog_n | apply nog_r | apply block_r | apply block_e (by decide) | apply block_x (by decide)))))
          (repeat (first | apply aw_seq | apply aw_block | apply aw_skip | apply aw_label | apply aw_exit | ((first | refine aw_region (hideO fun QQ hQQ => ?_) | refine aw_draw mixed (hideD fun QQ hQQ => ?_)); simp (maxSteps := 400000) (disch := first | decide | omega) only [Option.isNone_none, hrr, go_sem, ↓reduceIte]; try (first | with_reducible refine unhide hQQ ?_ | refine ⟨by kernel_rfl, unhide hQQ ?_⟩); clear hQQ QQ) | with_reducible first | apply then_n | apply block_n | apply then_x | apply then_r | apply nog_n | apply nog_r | apply block_r | apply block_e (by decide) | apply block_x (by decide)))
          refine aw_cond2 (by simp (disch := first | decide | omega) only [Option.isNone_none, hrr, go_sem, ↓reduceIte]; rfl) ?_; first | refine .inl ⟨by first | rfl | exact decide_eq_true (by omega) | exact decide_eq_true (by assumption) | (simp (disch := first | decide | omega) only [if_pos_d, if_neg_d, decide_eq_true_eq, Bool.not_eq_true', decide_eq_false_iff_not]; omega), ?_⟩ | refine .inr ⟨by first | rfl | exact decide_eq_false (by omega) | exact decide_eq_false (by assumption) | (simp (disch := first | decide | omega) only [if_pos_d, if_neg_d, decide_eq_true_eq, Bool.not_eq_true', decide_eq_false_iff_not]; omega), ?_⟩
          (repeat (first | apply aw_seq | apply aw_block | apply aw_skip | apply aw_label | apply aw_exit | ((first | refine aw_region (hideO fun QQ hQQ => ?_) | refine aw_draw mixed (hideD fun QQ hQQ => ?_)); simp (maxSteps := 400000) (disch := first | decide | omega) only [Option.isNone_none, hrr, go_sem, ↓reduceIte]; try (first | with_reducible refine unhide hQQ ?_ | refine ⟨by kernel_rfl, unhide hQQ ?_⟩); clear hQQ QQ) | with_reducible first | apply then_n | apply block_n | apply then_x | apply then_r | apply nog_n | apply nog_r | apply block_r | apply block_e (by decide) | apply block_x (by decide)))
          refine ⟨⟨i + 1, by omega⟩, ?_, weak_round ?_ (by first | rfl | (simp only [Option.isNone_none, hrr, go_sem, ↓reduceIte]))⟩
          rotate_left
          · simp only [e1, ← hdn, ← hrow, ← hlen]
            (simp only [Option.isNone_none, hrr, go_sem, ↓reduceIte]; try rfl)
          · simp only; omega
        · rw [if_neg hz] at hdn
          have hs1 : ((add : Nat) : Int) - 1 = ((add - 1 : Nat) : Int) := by omega
          have han2 : ∀ (T' : TypeId) (p q : Operand), binA Try.prog .and T' p q (.int .i64 ((add - 1 : Nat) : Int)) (.int .i64 (free : Int)) = some (.int .i64 (((add - 1) &&& free : Nat) : Int)) := fun T' p q => bin_and_nat T' p q (by omega) (by omega)
          have hle : (add - 1) &&& free ≤ add - 1 := Nat.and_le_left
          (simp (maxSteps := 400000) (disch := first | decide | omega) only [Option.isNone_none, hrr2, hs1, han2, go_sem, ↓reduceIte]; (try (with_reducible refine unhide hQQ ?_; clear hQQ QQ; (repeat with_reducible first | apply then_n | apply block_n | apply then_x | apply then_r | apply nog_n | apply nog_r | apply block_r | apply block_e (by decide) | apply block_x (by decide)))))
          (repeat (first | apply aw_seq | apply aw_block | apply aw_skip | apply aw_label | apply aw_exit | ((first | refine aw_region (hideO fun QQ hQQ => ?_) | refine aw_draw mixed (hideD fun QQ hQQ => ?_)); simp (maxSteps := 400000) (disch := first | decide | omega) only [Option.isNone_none, hrr2, hs1, han2, go_sem, ↓reduceIte]; try (first | with_reducible refine unhide hQQ ?_ | refine ⟨by kernel_rfl, unhide hQQ ?_⟩); clear hQQ QQ) | with_reducible first | apply then_n | apply block_n | apply then_x | apply then_r | apply nog_n | apply nog_r | apply block_r | apply block_e (by decide) | apply block_x (by decide)))
          refine aw_cond2 (by simp (disch := first | decide | omega) only [Option.isNone_none, hrr2, hs1, han2, go_sem, ↓reduceIte]; rfl) ?_; first | refine .inl ⟨by first | rfl | exact decide_eq_true (by omega) | exact decide_eq_true (by assumption) | (simp (disch := first | decide | omega) only [if_pos_d, if_neg_d, decide_eq_true_eq, Bool.not_eq_true', decide_eq_false_iff_not]; omega), ?_⟩ | refine .inr ⟨by first | rfl | exact decide_eq_false (by omega) | exact decide_eq_false (by assumption) | (simp (disch := first | decide | omega) only [if_pos_d, if_neg_d, decide_eq_true_eq, Bool.not_eq_true', decide_eq_false_iff_not]; omega), ?_⟩
          (repeat (first | apply aw_seq | apply aw_block | apply aw_skip | apply aw_label | apply aw_exit | ((first | refine aw_region (hideO fun QQ hQQ => ?_) | refine aw_draw mixed (hideD fun QQ hQQ => ?_)); simp (maxSteps := 400000) (disch := first | decide | omega) only [Option.isNone_none, hrr2, hs1, han2, go_sem, ↓reduceIte]; try (first | with_reducible refine unhide hQQ ?_ | refine ⟨by kernel_rfl, unhide hQQ ?_⟩); clear hQQ QQ) | with_reducible first | apply then_n | apply block_n | apply then_x | apply then_r | apply nog_n | apply nog_r | apply block_r | apply block_e (by decide) | apply block_x (by decide)))
          refine ⟨⟨(dn ++ [x], f, (add - 1) &&& free), by rw [← hdn]; simp, by dsimp only; omega, by dsimp only; omega⟩, ?_, weak_round ?_ (by first | rfl | (simp only [Option.isNone_none, hrr2, hs1, han2, go_sem, ↓reduceIte]))⟩
          rotate_left
          · simp only [← hrow, ← hlen]
            (simp only [Option.isNone_none, hrr2, hs1, han2, go_sem, ↓reduceIte]; try rfl)
          · simp only; omega
      · rw [decide_eq_false hd] at hS e1
        rw [if_neg (by decide), List.append_nil] at e1
        ((refine cO 52 rfl rfl rfl (hS) Try.func52 rfl ?_); refine tu ?_; try clear hQQ QQ); refine tw ?_; try with_reducible intro QQ hQQ
        refine ti ?_; try clear hQQ QQ
        refine tw ?_; try with_reducible intro QQ hQQ
        refine aw_ret ⟨.inr rfl, by simp (disch := first | decide | omega) only [go_sem, ↓reduceIte]; try rfl, r', by simp (disch := first | decide | omega) only [go_sem, ↓reduceIte]; try rfl, by rw [gr1]; decide, ?_⟩
        rw [gr1p]
        (repeat (first | with_reducible refine then_n ?_ | with_reducible refine block_n ?_))
        refine ⟨by simp (disch := first | decide | omega) only [go_sem, ↓reduceIte]; try rfl, none, .inl ⟨rfl, rfl⟩, rB, by simp (disch := first | decide | omega) only [go_sem, ↓reduceIte]; try rfl, ?_⟩
        (simp (maxSteps := 400000) (disch := first | decide | omega) only [Option.isNone_none, hrr, go_sem, ↓reduceIte]; (try (with_reducible refine unhide hQQ ?_; clear hQQ QQ; (repeat with_reducible first | apply then_n | apply block_n | apply then_x | apply then_r | apply nog_n | apply nog_r | apply block_r | apply block_e (by decide) | apply block_x (by decide)))))
        (repeat (first | apply aw_seq | apply aw_block | apply aw_skip | apply aw_label | apply aw_exit | ((first | refine aw_region (hideO fun QQ hQQ => ?_) | refine aw_draw mixed (hideD fun QQ hQQ => ?_)); simp (maxSteps := 400000) (disch := first | decide | omega) only [Option.isNone_none, hrr, go_sem, ↓reduceIte]; try (first | with_reducible refine unhide hQQ ?_ | refine ⟨by kernel_rfl, unhide hQQ ?_⟩); clear hQQ QQ) | with_reducible first | apply then_n | apply block_n | apply then_x | apply then_r | apply nog_n | apply nog_r | apply block_r | apply block_e (by decide) | apply block_x (by decide)))
        refine aw_cond2 (by simp (disch := first | decide | omega) only [Option.isNone_none, hrr, go_sem, ↓reduceIte]; rfl) ?_; first | refine .inl ⟨by first | rfl | exact decide_eq_true (by omega) | exact decide_eq_true (by assumption) | (simp (disch := first | decide | omega) only [if_pos_d, if_neg_d, decide_eq_true_eq, Bool.not_eq_true', decide_eq_false_iff_not]; omega), ?_⟩ | refine .inr ⟨by first | rfl | exact decide_eq_false (by omega) | exact decide_eq_false (by assumption) | (simp (disch := first | decide | omega) only [if_pos_d, if_neg_d, decide_eq_true_eq, Bool.not_eq_true', decide_eq_false_iff_not]; omega), ?_⟩
        (repeat (first | apply aw_seq | apply aw_block | apply aw_skip | apply aw_label | apply aw_exit | ((first | refine aw_region (hideO fun QQ hQQ => ?_) | refine aw_draw mixed (hideD fun QQ hQQ => ?_)); simp (maxSteps := 400000) (disch := first | decide | omega) only [Option.isNone_none, hrr, go_sem, ↓reduceIte]; try (first | with_reducible refine unhide hQQ ?_ | refine ⟨by kernel_rfl, unhide hQQ ?_⟩); clear hQQ QQ) | with_reducible first | apply then_n | apply block_n | apply then_x | apply then_r | apply nog_n | apply nog_r | apply block_r | apply block_e (by decide) | apply block_x (by decide)))
        refine ⟨⟨i + 1, by omega⟩, ?_, weak_round ?_ (by first | rfl | (simp only [Option.isNone_none, hrr, go_sem, ↓reduceIte]))⟩
        rotate_left
        · simp only [e1]
          (simp only [Option.isNone_none, hrr, go_sem, ↓reduceIte]; try rfl)
        · simp only; omega
    · have hfe : feasB lo up bales tests i = false := by
        unfold feasB
        rw [show (decide (lo ≤ popc i) && decide (popc i ≤ up)) = false by rw [← Bool.not_eq_true, Bool.and_eq_true, decide_eq_true_iff, decide_eq_true_iff]; exact hin]
        rfl
      rw [hfe, if_neg (by decide), List.append_nil] at e1
      rw [show inB (popc i) lo up = false by simp [inB]; omega] at hw
      refine tw ?_; try with_reducible intro QQ hQQ
      refine ti ?_; try clear hQQ QQ
      refine tw ?_; try with_reducible intro QQ hQQ
      (refine cD 71 rfl rfl rfl (hs) Try.func71 rfl ?_); refine td ?_; try clear hQQ QQ
      (refine cD 86 rfl rfl rfl (hw) Try.func86 rfl ?_); refine td ?_; try clear hQQ QQ
      refine tw ?_; try with_reducible intro QQ hQQ
      refine ti ?_; try clear hQQ QQ
      (refine aw_exit ?_); (repeat with_reducible first | apply then_n | apply block_n | apply then_x | apply then_r | apply nog_n | apply nog_r | apply block_r | apply block_e (by decide) | apply block_x (by decide))
      refine tw ?_; try with_reducible intro QQ hQQ
      refine ⟨⟨i + 1, by omega⟩, ?_, weak_round ?_ (by first | rfl | (simp only [go_sem, ↓reduceIte]))⟩
      rotate_left
      · simp only [e1]
        (simp only [go_sem, ↓reduceIte]; try rfl)
      · simp only; omega
  · have hie : i = 2 ^ N := by omega
    subst hie
    refine tw ?_; try with_reducible intro QQ hQQ
    refine ti ?_; try clear hQQ QQ
    refine tw ?_; try with_reducible intro QQ hQQ
    refine ⟨.inl rfl, by simp (disch := first | decide | omega) only [go_sem, ↓reduceIte]; try rfl, r, by simp (disch := first | decide | omega) only [go_sem, ↓reduceIte]; try rfl, by rw [hr1]; decide, ?_⟩
    rw [hr1p]
    (repeat (first | with_reducible refine then_n ?_ | with_reducible refine block_n ?_))
    show AW _ _ _ _
    generalize walkL lo up bales tests (2 ^ N) = LL at *
    refine tw ?_; try with_reducible intro QQ hQQ
    refine aw_ret ?_; refine ⟨.inr rfl, ?_⟩; simp only [resA, res1, go_sem, ↓reduceIte]
    rw [List.take_of_length_le (by simp)]
    simp
end
end Go.Proofs.Ytknikcpeacmpmaa
