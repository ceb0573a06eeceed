/- burr: what is returned: Bales, Pure, Mobs. -/
import Derived.Test.YtknikcpeacmpmaaKk
set_option linter.all false
namespace Go.Proofs.Ytknikcpeacmpmaa
open Go Go.RowKit Go.Sh Go.Pv
set_option maxHeartbeats 8000000
set_option maxRecDepth 8000
set_option pp.maxSteps 60000
section
theorem x_bales {bales : List (Int × Int)} {N lo up : Nat} {top : Int} {tests : List (Int × Bool)} (hN : N ≤ 5) (hup : up ≤ 5) (hb6 : bales.length ≤ 6) (hb : ∀ i, i < bales.length → (0 ≤ (bales.getD i (0, 0)).1 ∧ (bales.getD i (0, 0)).1 < 32) ∧ (0 ≤ (bales.getD i (0, 0)).2 ∧ (bales.getD i (0, 0)).2 < 32)) (htl : tests.length ≤ 100) (ht : ∀ t ∈ tests, 0 ≤ t.1 ∧ t.1 < 6) (h0 : cntF lo up bales tests (2 ^ N) = 0) :
    FunX Try.prog 56 [.one (shP N lo up top bales tests)] (stopV 10) := by
  have htold := x_told (top := top) hN hup hb6 hb htl ht h0
  simp only [shP] at htold
  refine fun_x (nt := 37) Try.func56 rfl rfl (by simp) fun Z w0 => ?_; simp only [initFr, avR, List.map_cons, List.map_nil]
  simp only [shP]
  refine tw ?_; try with_reducible intro QQ hQQ
  (refine ⟨rfl, .inr ⟨rfl, callS_x rfl 49 ⟨by simp (disch := first | decide | omega) only [go_sem, ↓reduceIte]; try rfl, by simp (disch := first | decide | omega) only [go_sem, ↓reduceIte]; try rfl⟩ Try.func49 rfl (by decide) (htold) ?_⟩⟩)
  rfl
variable {n lo hi top : Int} {bales : List (Int × Int)} {tests : List (Int × Bool)}
def balA (n lo hi : Int) (bales : List (Int × Int)) (tests : List (Int × Bool)) : Int × Int := (iO (seeL (balL lo.toNat hi.toNat bales tests (2 ^ n.toNat))).2, ((seeL (balL lo.toNat hi.toNat bales tests (2 ^ n.toNat))).1 : Nat))
def mobA (n lo hi : Int) (bales : List (Int × Int)) (tests : List (Int × Bool)) : Int × Int := (iO (seeL (mobL lo.toNat hi.toNat bales tests (2 ^ n.toNat))).2, ((seeL (mobL lo.toNat hi.toNat bales tests (2 ^ n.toNat))).1 : Nat))
def pureA (n lo hi top : Int) (bales : List (Int × Int)) (tests : List (Int × Bool)) : Int := (diffN top.toNat (seeL (balL lo.toNat hi.toNat bales tests (2 ^ n.toNat))).1 : Nat)
theorem ok_Bales : FunOK Try.prog 16 [buR n lo hi top bales tests] (ansR (whyT n lo hi top bales tests) (balA n lo hi bales tests)) := by
  cases hv : burrB n lo hi top bales tests
  · have hwhy : whyT n lo hi top bales tests = 1 := by simp [whyT, hv]
    have hb := hwhy
    refine fun_exp (l := [_]) (od := _) (nt := 16) (t := 7) (eb := 1) (rs := [.tmp 2, .tmp 3, .cell 4 30]) ans55 Try.func16 rfl rfl rfl (by simp) rfl rfl rfl Try.func55 rfl (by decide) fun Z w0 => ?_; simp only [initFr, avR, List.map_cons, List.map_nil]
    simp only [buR, List.map_cons, List.map_nil]
    try simp only [List.append_eq, List.cons_append, List.nil_append]
    refine tw ?_; try with_reducible intro QQ hQQ
    refine ⟨rfl, ?_⟩
    (refine ts ?_; try clear hQQ QQ)
    refine tw ?_; try with_reducible intro QQ hQQ
    (refine ⟨rfl, .inr ⟨rfl, callS_x rfl 48 ⟨by simp (disch := first | decide | omega) only [go_sem, ↓reduceIte]; try rfl, by simp (disch := first | decide | omega) only [go_sem, ↓reduceIte]; try rfl⟩ Try.func48 rfl (by decide) (x_open hv) ?_⟩⟩)
    exact ⟨1, 0, rfl, by simp (disch := first | decide | omega) only [go_sem, ↓reduceIte]; try rfl, by simp (disch := first | decide | omega) only [go_sem, ↓reduceIte]; try rfl, by simp (disch := first | decide | omega) only [resA, res1, ansR, ansN, hwhy, hb, go_sem, ↓reduceIte]; try rfl⟩
  obtain ⟨N, L, U, T, rfl, rfl, rfl, rfl, hB⟩ := bok_of hv
  have hU : U ≤ 5 := by have := hB.hn; have := hB.n5; omega
  have ht6 : tests.length ≤ 100 := by have := hB.t6; omega
  have hcn : cntB (N : Int) (L : Int) (U : Int) bales tests = cntF L U bales tests (2 ^ N) := rfl
  by_cases hc : cntF L U bales tests (2 ^ N) = 0
  · have hwhy : whyT N L U T bales tests = 10 := by simp [whyT, hv, hcn, hc]
    have hb := hwhy
    have hx := x_bales (top := T) hB.n5 hU hB.b6 hB.b32 ht6 hB.te6 hc
    simp only [shP] at hx
    refine fun_exp (l := [_]) (od := _) (nt := 16) (t := 7) (eb := 1) (rs := [.tmp 2, .tmp 3, .cell 4 30]) ans55 Try.func16 rfl rfl rfl (by simp) rfl rfl rfl Try.func55 rfl (by decide) fun Z w0 => ?_; simp only [initFr, avR, List.map_cons, List.map_nil]
    simp only [buR, List.map_cons, List.map_nil]
    try simp only [List.append_eq, List.cons_append, List.nil_append]
    refine tw ?_; try with_reducible intro QQ hQQ
    refine ⟨rfl, ?_⟩
    (refine ts ?_; try clear hQQ QQ)
    refine tw ?_; try with_reducible intro QQ hQQ
    refine callS_ok rfl rfl 48 (by simp (disch := first | decide | omega) only [go_sem, ↓reduceIte]; try rfl) (by simp (disch := first | decide | omega) only [go_sem, ↓reduceIte]; try rfl) Try.func48 rfl (by decide) (CallF.mono (c_open hv) ?_); rintro _ _ ⟨rfl, rfl⟩; refine ts ?_; try clear hQQ QQ
    unfold buC
    (refine ⟨rfl, .inr ⟨rfl, callS_x rfl 56 ⟨by simp (disch := first | decide | omega) only [go_sem, ↓reduceIte]; try rfl, by simp (disch := first | decide | omega) only [go_sem, ↓reduceIte]; try rfl⟩ Try.func56 rfl (by decide) (hx) ?_⟩⟩)
    exact ⟨10, 0, rfl, by simp (disch := first | decide | omega) only [go_sem, ↓reduceIte]; try rfl, by simp (disch := first | decide | omega) only [go_sem, ↓reduceIte]; try rfl, by simp (disch := first | decide | omega) only [resA, res1, ansR, ansN, hwhy, hb, go_sem, ↓reduceIte]; try rfl⟩
  · have hwhy : whyT N L U T bales tests = 0 := by simp [whyT, hv, hcn, hc]
    have hb := hwhy
    have hx := ok_bales (top := T) hB.n5 hU hB.b6 hB.b32 ht6 hB.te6 (Nat.pos_of_ne_zero hc)
    simp only [shP] at hx
    have hans : balA N L U bales tests = (iO (seeL (balL L U bales tests (2 ^ N))).2, (((seeL (balL L U bales tests (2 ^ N))).1 : Nat) : Int)) := rfl
    generalize seeL (balL L U bales tests (2 ^ N)) = S at *
    refine fun_exp (l := [_]) (od := _) (nt := 16) (t := 7) (eb := 1) (rs := [.tmp 2, .tmp 3, .cell 4 30]) ans55 Try.func16 rfl rfl rfl (by simp) rfl rfl rfl Try.func55 rfl (by decide) fun Z w0 => ?_; simp only [initFr, avR, List.map_cons, List.map_nil]
    simp only [buR, List.map_cons, List.map_nil]
    try simp only [List.append_eq, List.cons_append, List.nil_append]
    refine tw ?_; try with_reducible intro QQ hQQ
    refine ⟨rfl, ?_⟩
    (refine ts ?_; try clear hQQ QQ)
    refine tw ?_; try with_reducible intro QQ hQQ
    refine callS_ok rfl rfl 48 (by simp (disch := first | decide | omega) only [go_sem, ↓reduceIte]; try rfl) (by simp (disch := first | decide | omega) only [go_sem, ↓reduceIte]; try rfl) Try.func48 rfl (by decide) (CallF.mono (c_open hv) ?_); rintro _ _ ⟨rfl, rfl⟩; refine ts ?_; try clear hQQ QQ
    unfold buC
    ((refine cO 56 rfl rfl rfl (hx) Try.func56 rfl ?_); refine tu ?_; try clear hQQ QQ); refine tw ?_; try with_reducible intro QQ hQQ
    (refine aw_ret ⟨.inr rfl, by simp (disch := first | decide | omega) only [go_sem, ↓reduceIte]; try rfl, by simp (disch := first | decide | omega) only [resA, res1, ansR, ansN, hb, hwhy, hans, go_sem, ↓reduceIte]; try rfl⟩)
theorem ok_Pure : FunOK Try.prog 20 [buR n lo hi top bales tests] (ansN (whyT n lo hi top bales tests) (pureA n lo hi top bales tests)) := by
  cases hv : burrB n lo hi top bales tests
  · have hwhy : whyT n lo hi top bales tests = 1 := by simp [whyT, hv]
    have hb := hwhy
    refine fun_exp (l := [_]) (od := _) (nt := 17) (t := 6) (eb := 1) (rs := [.tmp 2, .cell 3 30]) ans63 Try.func20 rfl rfl rfl (by simp) rfl rfl rfl Try.func63 rfl (by decide) fun Z w0 => ?_; simp only [initFr, avR, List.map_cons, List.map_nil]
    simp only [buR, List.map_cons, List.map_nil]
    try simp only [List.append_eq, List.cons_append, List.nil_append]
    refine tw ?_; try with_reducible intro QQ hQQ
    refine ⟨rfl, ?_⟩
    (refine ts ?_; try clear hQQ QQ)
    refine tw ?_; try with_reducible intro QQ hQQ
    (refine ⟨rfl, .inr ⟨rfl, callS_x rfl 48 ⟨by simp (disch := first | decide | omega) only [go_sem, ↓reduceIte]; try rfl, by simp (disch := first | decide | omega) only [go_sem, ↓reduceIte]; try rfl⟩ Try.func48 rfl (by decide) (x_open hv) ?_⟩⟩)
    exact ⟨1, 0, rfl, by simp (disch := first | decide | omega) only [go_sem, ↓reduceIte]; try rfl, by simp (disch := first | decide | omega) only [go_sem, ↓reduceIte]; try rfl, by simp (disch := first | decide | omega) only [resA, res1, ansR, ansN, hwhy, hb, go_sem, ↓reduceIte]; try rfl⟩
  obtain ⟨N, L, U, T, rfl, rfl, rfl, rfl, hB⟩ := bok_of hv
  have hU : U ≤ 5 := by have := hB.hn; have := hB.n5; omega
  have ht6 : tests.length ≤ 100 := by have := hB.t6; omega
  have hcn : cntB (N : Int) (L : Int) (U : Int) bales tests = cntF L U bales tests (2 ^ N) := rfl
  by_cases hc : cntF L U bales tests (2 ^ N) = 0
  · have hwhy : whyT N L U T bales tests = 10 := by simp [whyT, hv, hcn, hc]
    have hb := hwhy
    have hx := x_bales (top := T) hB.n5 hU hB.b6 hB.b32 ht6 hB.te6 hc
    simp only [shP] at hx
    refine fun_exp (l := [_]) (od := _) (nt := 17) (t := 6) (eb := 1) (rs := [.tmp 2, .cell 3 30]) ans63 Try.func20 rfl rfl rfl (by simp) rfl rfl rfl Try.func63 rfl (by decide) fun Z w0 => ?_; simp only [initFr, avR, List.map_cons, List.map_nil]
    simp only [buR, List.map_cons, List.map_nil]
    try simp only [List.append_eq, List.cons_append, List.nil_append]
    refine tw ?_; try with_reducible intro QQ hQQ
    refine ⟨rfl, ?_⟩
    (refine ts ?_; try clear hQQ QQ)
    refine tw ?_; try with_reducible intro QQ hQQ
    refine callS_ok rfl rfl 48 (by simp (disch := first | decide | omega) only [go_sem, ↓reduceIte]; try rfl) (by simp (disch := first | decide | omega) only [go_sem, ↓reduceIte]; try rfl) Try.func48 rfl (by decide) (CallF.mono (c_open hv) ?_); rintro _ _ ⟨rfl, rfl⟩; refine ts ?_; try clear hQQ QQ
    unfold buC
    (refine ⟨rfl, .inr ⟨rfl, callS_x rfl 56 ⟨by simp (disch := first | decide | omega) only [go_sem, ↓reduceIte]; try rfl, by simp (disch := first | decide | omega) only [go_sem, ↓reduceIte]; try rfl⟩ Try.func56 rfl (by decide) (hx) ?_⟩⟩)
    exact ⟨10, 0, rfl, by simp (disch := first | decide | omega) only [go_sem, ↓reduceIte]; try rfl, by simp (disch := first | decide | omega) only [go_sem, ↓reduceIte]; try rfl, by simp (disch := first | decide | omega) only [resA, res1, ansR, ansN, hwhy, hb, go_sem, ↓reduceIte]; try rfl⟩
  · have hwhy : whyT N L U T bales tests = 0 := by simp [whyT, hv, hcn, hc]
    have hb := hwhy
    have hx := ok_bales (top := T) hB.n5 hU hB.b6 hB.b32 ht6 hB.te6 (Nat.pos_of_ne_zero hc)
    simp only [shP] at hx
    have hans : pureA N L U T bales tests = (diffN T (seeL (balL L U bales tests (2 ^ N))).1 : Nat) := rfl
    have hSl := (seeL_lt (balL_lt (lo := L) (up := U) (i := 2 ^ N) hB.b6 hB.te6)).1
    have hTl := hB.tp
    have hp6 := pow64 hB.b6
    generalize seeL (balL L U bales tests (2 ^ N)) = S at *
    have hd : ∀ (T' : TypeId) (p' q : Operand), binA Try.prog .andNot T' p' q (.int .i64 (T : Int)) (.int .i64 (S.1 : Int)) = some (.int .i64 ((diffN T S.1 : Nat) : Int)) := fun T' p' q => bin_andNot_nat T' p' q (by omega) (by omega)
    refine fun_exp (l := [_]) (od := _) (nt := 17) (t := 6) (eb := 1) (rs := [.tmp 2, .cell 3 30]) ans63 Try.func20 rfl rfl rfl (by simp) rfl rfl rfl Try.func63 rfl (by decide) fun Z w0 => ?_; simp only [initFr, avR, List.map_cons, List.map_nil]
    simp only [buR, List.map_cons, List.map_nil]
    try simp only [List.append_eq, List.cons_append, List.nil_append]
    refine tw ?_; try with_reducible intro QQ hQQ
    refine ⟨rfl, ?_⟩
    (refine ts ?_; try clear hQQ QQ)
    refine tw ?_; try with_reducible intro QQ hQQ
    refine callS_ok rfl rfl 48 (by simp (disch := first | decide | omega) only [go_sem, ↓reduceIte]; try rfl) (by simp (disch := first | decide | omega) only [go_sem, ↓reduceIte]; try rfl) Try.func48 rfl (by decide) (CallF.mono (c_open hv) ?_); rintro _ _ ⟨rfl, rfl⟩; refine ts ?_; try clear hQQ QQ
    unfold buC
    (refine cO 56 rfl rfl rfl (hx) Try.func56 rfl ?_); refine ts ?_; try clear hQQ QQ
    (repeat (first | apply aw_seq | apply aw_block | apply aw_skip | apply aw_label | apply aw_exit | ((first | refine aw_region (hideO fun QQ hQQ => ?_) | refine aw_draw mixed (hideD fun QQ hQQ => ?_)); simp (maxSteps := 400000) (disch := first | decide | omega) only [hd, go_sem, ↓reduceIte]; try (first | with_reducible refine unhide hQQ ?_ | refine ⟨by kernel_rfl, unhide hQQ ?_⟩); clear hQQ QQ) | with_reducible first | apply then_n | apply block_n | apply then_x | apply then_r | apply nog_n | apply nog_r | apply block_r | apply block_e (by decide) | apply block_x (by decide)))
    (refine aw_ret ⟨.inr rfl, by simp (disch := first | decide | omega) only [go_sem, ↓reduceIte]; try rfl, by simp (disch := first | decide | omega) only [resA, res1, ansR, ansN, hb, hwhy, hans, go_sem, ↓reduceIte]; try rfl⟩)
theorem ok_Mobs : FunOK Try.prog 14 [buR n lo hi top bales tests] (ansR (whyT n lo hi top bales tests) (mobA n lo hi bales tests)) := by
  cases hv : burrB n lo hi top bales tests
  · have hwhy : whyT n lo hi top bales tests = 1 := by simp [whyT, hv]
    have hb := hwhy
    refine fun_exp (l := [_]) (od := _) (nt := 37) (t := 10) (eb := 1) (rs := [.tmp 2, .tmp 3, .cell 4 30]) ans46 Try.func14 rfl rfl rfl (by simp) rfl rfl rfl Try.func46 rfl (by decide) fun Z w0 => ?_; simp only [initFr, avR, List.map_cons, List.map_nil]
    simp only [buR, List.map_cons, List.map_nil]
    try simp only [List.append_eq, List.cons_append, List.nil_append]
    refine tw ?_; try with_reducible intro QQ hQQ
    refine ⟨rfl, ?_⟩
    (refine ts ?_; try clear hQQ QQ)
    refine tw ?_; try with_reducible intro QQ hQQ
    (refine ⟨rfl, .inr ⟨rfl, callS_x rfl 48 ⟨by simp (disch := first | decide | omega) only [go_sem, ↓reduceIte]; try rfl, by simp (disch := first | decide | omega) only [go_sem, ↓reduceIte]; try rfl⟩ Try.func48 rfl (by decide) (x_open hv) ?_⟩⟩)
    exact ⟨1, 0, rfl, by simp (disch := first | decide | omega) only [go_sem, ↓reduceIte]; try rfl, by simp (disch := first | decide | omega) only [go_sem, ↓reduceIte]; try rfl, by simp (disch := first | decide | omega) only [resA, res1, ansR, ansN, hwhy, hb, go_sem, ↓reduceIte]; try rfl⟩
  obtain ⟨N, L, U, T, rfl, rfl, rfl, rfl, hB⟩ := bok_of hv
  have hU : U ≤ 5 := by have := hB.hn; have := hB.n5; omega
  have ht6 : tests.length ≤ 100 := by have := hB.t6; omega
  have hcn : cntB (N : Int) (L : Int) (U : Int) bales tests = cntF L U bales tests (2 ^ N) := rfl
  by_cases hc : cntF L U bales tests (2 ^ N) = 0
  · have hwhy : whyT N L U T bales tests = 10 := by simp [whyT, hv, hcn, hc]
    have hb := hwhy
    have hx := x_told (top := T) hB.n5 hU hB.b6 hB.b32 ht6 hB.te6 hc
    simp only [shP] at hx
    refine fun_exp (l := [_]) (od := _) (nt := 37) (t := 10) (eb := 1) (rs := [.tmp 2, .tmp 3, .cell 4 30]) ans46 Try.func14 rfl rfl rfl (by simp) rfl rfl rfl Try.func46 rfl (by decide) fun Z w0 => ?_; simp only [initFr, avR, List.map_cons, List.map_nil]
    simp only [buR, List.map_cons, List.map_nil]
    try simp only [List.append_eq, List.cons_append, List.nil_append]
    refine tw ?_; try with_reducible intro QQ hQQ
    refine ⟨rfl, ?_⟩
    (refine ts ?_; try clear hQQ QQ)
    refine tw ?_; try with_reducible intro QQ hQQ
    refine callS_ok rfl rfl 48 (by simp (disch := first | decide | omega) only [go_sem, ↓reduceIte]; try rfl) (by simp (disch := first | decide | omega) only [go_sem, ↓reduceIte]; try rfl) Try.func48 rfl (by decide) (CallF.mono (c_open hv) ?_); rintro _ _ ⟨rfl, rfl⟩; refine ts ?_; try clear hQQ QQ
    unfold buC
    refine tw ?_; try with_reducible intro QQ hQQ
    (refine ⟨rfl, .inr ⟨rfl, callS_x rfl 49 ⟨by simp (disch := first | decide | omega) only [go_sem, ↓reduceIte]; try rfl, by simp (disch := first | decide | omega) only [go_sem, ↓reduceIte]; try rfl⟩ Try.func49 rfl (by decide) (hx) ?_⟩⟩)
    exact ⟨10, 0, rfl, by simp (disch := first | decide | omega) only [go_sem, ↓reduceIte]; try rfl, by simp (disch := first | decide | omega) only [go_sem, ↓reduceIte]; try rfl, by simp (disch := first | decide | omega) only [resA, res1, ansR, ansN, hwhy, hb, go_sem, ↓reduceIte]; try rfl⟩
  · have hwhy : whyT N L U T bales tests = 0 := by simp [whyT, hv, hcn, hc]
    have hb := hwhy
    have htold := ok_told (top := T) hB.n5 hU hB.b6 hB.b32 ht6 hB.te6 (Nat.pos_of_ne_zero hc)
    simp only [shP] at htold
    have hans : mobA N L U bales tests = (iO (seeL (mobL L U bales tests (2 ^ N))).2, (((seeL (mobL L U bales tests (2 ^ N))).1 : Nat) : Int)) := rfl
    generalize cntF L U bales tests (2 ^ N) = c at htold
    have hsh : ∀ (T : TypeId) (p q : Operand), binA Try.prog .shl T p q (.int .i64 1) (.int .i64 (N : Int)) = some (.int .i64 ((2 ^ N : Nat) : Int)) := fun T p q => bin_shl_one .i64 T p q (by have := hB.n5; omega)
    have hp := pow32 hB.n5
    have hp0 := Nat.two_pow_pos N
    refine fun_exp (l := [_]) (od := _) (nt := 37) (t := 10) (eb := 1) (rs := [.tmp 2, .tmp 3, .cell 4 30]) ans46 Try.func14 rfl rfl rfl (by simp) rfl rfl rfl Try.func46 rfl (by decide) fun Z w0 => ?_; simp only [initFr, avR, List.map_cons, List.map_nil]
    simp only [buR, List.map_cons, List.map_nil]
    try simp only [List.append_eq, List.cons_append, List.nil_append]
    refine tw ?_; try with_reducible intro QQ hQQ
    refine ⟨rfl, ?_⟩
    (refine ts ?_; try clear hQQ QQ)
    refine tw ?_; try with_reducible intro QQ hQQ
    refine callS_ok rfl rfl 48 (by simp (disch := first | decide | omega) only [go_sem, ↓reduceIte]; try rfl) (by simp (disch := first | decide | omega) only [go_sem, ↓reduceIte]; try rfl) Try.func48 rfl (by decide) (CallF.mono (c_open hv) ?_); rintro _ _ ⟨rfl, rfl⟩; refine ts ?_; try clear hQQ QQ
    unfold buC
    refine tw ?_; try with_reducible intro QQ hQQ
    ((refine cO 49 rfl rfl rfl (htold) Try.func49 rfl ?_); refine tu ?_; try clear hQQ QQ); refine tw ?_; try with_reducible intro QQ hQQ
    (refine callS_ok rfl rfl 50 (by simp (maxSteps := 400000) (disch := first | decide | omega) only [go_sem, ↓reduceIte]; try rfl) (by simp (maxSteps := 400000) (disch := first | decide | omega) only [go_sem, ↓reduceIte]; try rfl) Try.func50 rfl (by decide) ?_); (refine callF_in (nt := 4) (rs := [.tmp 2]) Try.func50 rfl rfl rfl (by simp) fun tm Ds => ?_); simp only [initV, capV, List.map_cons, List.map_nil, List.cons_append, List.nil_append]
    refine tw ?_; try with_reducible intro QQ hQQ
    (refine aw_ret ⟨.inr rfl, _, by (simp (maxSteps := 400000) (disch := first | decide | omega) only [go_sem, ↓reduceIte]; try rfl), by (simp (maxSteps := 400000) (disch := first | decide | omega) only [go_sem, ↓reduceIte]; try rfl), ?_⟩); refine ts ?_; try clear hQQ QQ
    refine tw ?_; try with_reducible intro QQ hQQ
    refine aw_weak (weak_thr [1, 2, 3, 4, 5, 6, 7, 10, 19, 20] (by simp only [go_sem, ↓reduceIte]; rfl)) ?_
    refine aw_rangeFunc (nt := 34) rfl rfl (by simp (disch := first | decide | omega) only [go_sem, ↓reduceIte]; rfl) Try.func87 rfl (by decide) rfl rfl (by decide) fun r bb tm2 Ds2 hr1 hr1p hr2 hr3 hr4 hr5 hr6 hr7 => ?_
    dsimp only [Kx.iter] at hr5 hr7 ⊢
    refine aw_scope rfl ?_
    (repeat (first | apply aw_seq | apply aw_block | apply aw_skip | apply aw_label | apply aw_exit | ((first | refine aw_region (hideO fun QQ hQQ => ?_) | refine aw_draw mixed (hideD fun QQ hQQ => ?_)); simp (maxSteps := 400000) (disch := first | decide | omega) only [hsh, go_sem, ↓reduceIte]; try (first | with_reducible refine unhide hQQ ?_ | refine ⟨by kernel_rfl, unhide hQQ ?_⟩); clear hQQ QQ) | with_reducible first | apply then_n | apply block_n | apply then_x | apply then_r | apply nog_n | apply nog_r | apply block_r | apply block_e (by decide) | apply block_x (by decide)))
    refine aw_weak (weak_keepA [0, 1, 9, 10] (by simp only [go_sem, ↓reduceIte]; rfl)) ?_
    refine aw_loop_ov (ι := { i : Nat // i ≤ 2 ^ N }) (fun i => [(10, iA i.1)]) (fun i => [(6, .box (seeC (seeL (mobL L U bales tests i.1)).1 (seeL (mobL L U bales tests i.1)).2))]) (fun i => 2 ^ N - i.1) ⟨0, by omega⟩ (by first | rfl | (simp only [go_sem, ↓reduceIte]; first | done | rfl | (simp; try rfl))) ?_
    rintro ⟨i, hi⟩
    simp (disch := decide) only [ov, ovL, AL.get_nil, AL.get_eq, AL.get_ne, Option.getD_some, Option.getD_none]
    by_cases hil : i < 2 ^ N
    · have hs := ok_size i (by omega)
      have hw := ok_within (popc i) L U
      have e1 := mobL_succ (lo := L) (up := U) (bales := bales) (tests := tests) i
      have hL := seeL_lt (mobL_lt (lo := L) (up := U) (bales := bales) (tests := tests) (i := i) (by omega))
      generalize mobL L U bales tests i = LL at *
      by_cases hin : L ≤ popc i ∧ popc i ≤ U
      · rw [show inB (popc i) L U = true by simp [inB]; omega] at hw
        refine tw ?_; try with_reducible intro QQ hQQ
        refine ti ?_; try clear hQQ QQ
        refine tw ?_; try with_reducible intro QQ hQQ
        (refine cD 71 rfl rfl rfl (hs) Try.func71 rfl ?_); refine td ?_; try clear hQQ QQ
        (refine cD 86 rfl rfl rfl (hw) Try.func86 rfl ?_); refine td ?_; try clear hQQ QQ
        refine tw ?_; try with_reducible intro QQ hQQ
        refine ti ?_; try clear hQQ QQ
        refine tw ?_; try with_reducible intro QQ hQQ
        refine ⟨rfl, .inr ⟨rfl, callS_yield (L := 11) (C := 10) (avs := [.one (.p (iP (i : Int)))]) rfl rfl (by simp (disch := first | decide | omega) only [go_sem, ↓reduceIte]; try rfl) (by simp (disch := first | decide | omega) only [go_sem, ↓reduceIte]; try rfl) (by simp (disch := first | decide | omega) only [go_sem, ↓reduceIte]; try rfl) hr1 (by simp (disch := first | decide | omega) only [go_sem, ↓reduceIte]; try rfl) hr6 (by rw [hr5]; exact fun t av ht => hr7 t av ht |> fun h => by rw [hr5] at h; exact h) (by rw [hr2]; rfl) ?_ fun Ds tmi => ?_⟩⟩
        · intro t ht
          rw [hr2] at ht
          rw [hr5]
          simp only [List.mem_cons, List.mem_nil_iff, or_false] at ht
          subst ht; decide
        obtain ⟨rB, hrB⟩ : ∃ rB, ({ r with state := .busy } : Loop) = rB := ⟨_, rfl⟩
        rw [hrB, hr2, hr3, hr4, hr5]
        have hrr : ({ rB with state := .ready, pending := none } : Loop) = r := by
          rw [← hrB]
          cases r
          dsimp only at hr1 hr1p
          subst hr1 hr1p
          rfl
        simp only [Kx.round, setPs]
        have hH := ok_held (N := N) (lo := L) (hi := U) (top := T) (tests0 := tests) (tests := tests) (m := i) (by omega) hB.b6 hB.b32 ht6 hB.te6
        have hlt := held_lt (m := i) hB.b6 hB.te6
        have hfe : feasB L U bales tests i = decide (diffN (heldF bales i tests).1 (heldF bales i tests).2 = 0) := by unfold feasB; rw [decide_eq_true hin.1, decide_eq_true hin.2]; rfl
        rw [hfe] at e1
        have hS := ok_some hlt.1 hlt.2
        simp only [shP] at hH
        generalize hq : heldF bales i tests = q at *
        obtain ⟨qa, qb⟩ := q
        dsimp only at hH hS e1 hlt hfe
        by_cases hd : diffN qa qb = 0
        · rw [decide_eq_true hd] at hS e1
          have e2 : seeL (mobL L U bales tests (i + 1)) = seeS (seeL LL) i := by rw [e1, if_pos rfl, seeL_snoc]
          clear e1 hfe hd
          obtain ⟨⟨s, o⟩, hso⟩ : ∃ S, seeL LL = S := ⟨_, rfl⟩
          rw [hso] at hL e2
          simp only [hso]
          obtain ⟨hs1, ho1⟩ := hL
          dsimp only at hs1 ho1
          refine tw ?_; try with_reducible intro QQ hQQ
          refine ⟨rfl, by simp (disch := first | decide | omega) only [go_sem, ↓reduceIte], ?_⟩
          refine tw ?_; try with_reducible intro QQ hQQ
          (refine cO 51 rfl rfl rfl (hH) Try.func51 rfl ?_); refine ts ?_; try clear hQQ QQ
          ((refine cO 52 rfl rfl rfl (hS) Try.func52 rfl ?_); refine tu ?_; try clear hQQ QQ); refine tw ?_; try with_reducible intro QQ hQQ
          refine ti ?_; try clear hQQ QQ
          refine tw ?_; try with_reducible intro QQ hQQ
          (refine ⟨rfl, .inr ⟨rfl, callS_invokeF (T := 63) (b := 6) rfl rfl (by simp (disch := first | decide | omega) only [go_sem, ↓reduceIte]; try rfl) 121 meth_see (by simp (disch := first | decide | omega) only [go_sem, ↓reduceIte]; try rfl) Try.func121 rfl (by decide) ((c_see hs1 ho1 (by omega) (by simp (disch := first | decide | omega) only [go_sem, ↓reduceIte]; try rfl)).mono ?_)⟩⟩); rintro _ _ ⟨rfl, rfl⟩; refine ts ?_; try clear hQQ QQ
          refine tw ?_; try with_reducible intro QQ hQQ
          refine ⟨by simp (disch := first | decide | omega) only [go_sem, ↓reduceIte]; try rfl, none, .inl ⟨rfl, rfl⟩, rB, by simp (disch := first | decide | omega) only [go_sem, ↓reduceIte]; try rfl, ?_⟩
          (simp (maxSteps := 400000) (disch := first | decide | omega) only [Option.isNone_none, hrr, go_sem, ↓reduceIte]; (try (with_reducible refine unhide hQQ ?_; clear hQQ QQ; (repeat with_reducible first | apply then_n | apply block_n | apply then_x | apply then_r | apply nog_n | apply nog_r | apply block_r | apply block_e (by decide) | apply block_x (by decide)))))
          (repeat (first | apply aw_seq | apply aw_block | apply aw_skip | apply aw_label | apply aw_exit | ((first | refine aw_region (hideO fun QQ hQQ => ?_) | refine aw_draw mixed (hideD fun QQ hQQ => ?_)); simp (maxSteps := 400000) (disch := first | decide | omega) only [Option.isNone_none, hrr, go_sem, ↓reduceIte]; try (first | with_reducible refine unhide hQQ ?_ | refine ⟨by kernel_rfl, unhide hQQ ?_⟩); clear hQQ QQ) | with_reducible first | apply then_n | apply block_n | apply then_x | apply then_r | apply nog_n | apply nog_r | apply block_r | apply block_e (by decide) | apply block_x (by decide)))
          refine aw_cond2 (by simp (disch := first | decide | omega) only [Option.isNone_none, hrr, go_sem, ↓reduceIte]; rfl) ?_; first | refine .inl ⟨by first | rfl | exact decide_eq_true (by omega) | exact decide_eq_true (by assumption) | (simp (disch := first | decide | omega) only [if_pos_d, if_neg_d, decide_eq_true_eq, Bool.not_eq_true', decide_eq_false_iff_not]; omega), ?_⟩ | refine .inr ⟨by first | rfl | exact decide_eq_false (by omega) | exact decide_eq_false (by assumption) | (simp (disch := first | decide | omega) only [if_pos_d, if_neg_d, decide_eq_true_eq, Bool.not_eq_true', decide_eq_false_iff_not]; omega), ?_⟩
          (repeat (first | apply aw_seq | apply aw_block | apply aw_skip | apply aw_label | apply aw_exit | ((first | refine aw_region (hideO fun QQ hQQ => ?_) | refine aw_draw mixed (hideD fun QQ hQQ => ?_)); simp (maxSteps := 400000) (disch := first | decide | omega) only [Option.isNone_none, hrr, go_sem, ↓reduceIte]; try (first | with_reducible refine unhide hQQ ?_ | refine ⟨by kernel_rfl, unhide hQQ ?_⟩); clear hQQ QQ) | with_reducible first | apply then_n | apply block_n | apply then_x | apply then_r | apply nog_n | apply nog_r | apply block_r | apply block_e (by decide) | apply block_x (by decide)))
          refine ⟨⟨i + 1, by omega⟩, ?_, weak_round ?_ (by first | rfl | (simp only [Option.isNone_none, hrr, go_sem, ↓reduceIte]))⟩
          rotate_left
          · simp only [e2]
            (simp only [Option.isNone_none, hrr, go_sem, ↓reduceIte]; try rfl)
          · simp only; omega
        · rw [decide_eq_false hd] at hS e1
          rw [if_neg (by decide), List.append_nil] at e1
          refine tw ?_; try with_reducible intro QQ hQQ
          refine ⟨rfl, by simp (disch := first | decide | omega) only [go_sem, ↓reduceIte], ?_⟩
          refine tw ?_; try with_reducible intro QQ hQQ
          (refine cO 51 rfl rfl rfl (hH) Try.func51 rfl ?_); refine ts ?_; try clear hQQ QQ
          ((refine cO 52 rfl rfl rfl (hS) Try.func52 rfl ?_); refine tu ?_; try clear hQQ QQ); refine tw ?_; try with_reducible intro QQ hQQ
          refine ti ?_; try clear hQQ QQ
          refine tw ?_; try with_reducible intro QQ hQQ
          refine ⟨by simp (disch := first | decide | omega) only [go_sem, ↓reduceIte]; try rfl, none, .inl ⟨rfl, rfl⟩, rB, by simp (disch := first | decide | omega) only [go_sem, ↓reduceIte]; try rfl, ?_⟩
          (simp (maxSteps := 400000) (disch := first | decide | omega) only [Option.isNone_none, hrr, go_sem, ↓reduceIte]; (try (with_reducible refine unhide hQQ ?_; clear hQQ QQ; (repeat with_reducible first | apply then_n | apply block_n | apply then_x | apply then_r | apply nog_n | apply nog_r | apply block_r | apply block_e (by decide) | apply block_x (by decide)))))
          (repeat (first | apply aw_seq | apply aw_block | apply aw_skip | apply aw_label | apply aw_exit | ((first | refine aw_region (hideO fun QQ hQQ => ?_) | refine aw_draw mixed (hideD fun QQ hQQ => ?_)); simp (maxSteps := 400000) (disch := first | decide | omega) only [Option.isNone_none, hrr, go_sem, ↓reduceIte]; try (first | with_reducible refine unhide hQQ ?_ | refine ⟨by kernel_rfl, unhide hQQ ?_⟩); clear hQQ QQ) | with_reducible first | apply then_n | apply block_n | apply then_x | apply then_r | apply nog_n | apply nog_r | apply block_r | apply block_e (by decide) | apply block_x (by decide)))
          refine aw_cond2 (by simp (disch := first | decide | omega) only [Option.isNone_none, hrr, go_sem, ↓reduceIte]; rfl) ?_; first | refine .inl ⟨by first | rfl | exact decide_eq_true (by omega) | exact decide_eq_true (by assumption) | (simp (disch := first | decide | omega) only [if_pos_d, if_neg_d, decide_eq_true_eq, Bool.not_eq_true', decide_eq_false_iff_not]; omega), ?_⟩ | refine .inr ⟨by first | rfl | exact decide_eq_false (by omega) | exact decide_eq_false (by assumption) | (simp (disch := first | decide | omega) only [if_pos_d, if_neg_d, decide_eq_true_eq, Bool.not_eq_true', decide_eq_false_iff_not]; omega), ?_⟩
          (repeat (first | apply aw_seq | apply aw_block | apply aw_skip | apply aw_label | apply aw_exit | ((first | refine aw_region (hideO fun QQ hQQ => ?_) | refine aw_draw mixed (hideD fun QQ hQQ => ?_)); simp (maxSteps := 400000) (disch := first | decide | omega) only [Option.isNone_none, hrr, go_sem, ↓reduceIte]; try (first | with_reducible refine unhide hQQ ?_ | refine ⟨by kernel_rfl, unhide hQQ ?_⟩); clear hQQ QQ) | with_reducible first | apply then_n | apply block_n | apply then_x | apply then_r | apply nog_n | apply nog_r | apply block_r | apply block_e (by decide) | apply block_x (by decide)))
          refine ⟨⟨i + 1, by omega⟩, ?_, weak_round ?_ (by first | rfl | (simp only [Option.isNone_none, hrr, go_sem, ↓reduceIte]))⟩
          rotate_left
          · simp only [e1]
            (simp only [Option.isNone_none, hrr, go_sem, ↓reduceIte]; try rfl)
          · simp only; omega
      · have hfe : feasB L U bales tests i = false := by
          unfold feasB
          rw [show (decide (L ≤ popc i) && decide (popc i ≤ U)) = false by rw [← Bool.not_eq_true, Bool.and_eq_true, decide_eq_true_iff, decide_eq_true_iff]; exact hin]
          rfl
        rw [hfe, if_neg (by decide), List.append_nil] at e1
        rw [show inB (popc i) L U = false by simp [inB]; omega] at hw
        refine tw ?_; try with_reducible intro QQ hQQ
        refine ti ?_; try clear hQQ QQ
        refine tw ?_; try with_reducible intro QQ hQQ
        (refine cD 71 rfl rfl rfl (hs) Try.func71 rfl ?_); refine td ?_; try clear hQQ QQ
        (refine cD 86 rfl rfl rfl (hw) Try.func86 rfl ?_); refine td ?_; try clear hQQ QQ
        refine tw ?_; try with_reducible intro QQ hQQ
        refine ti ?_; try clear hQQ QQ
        (refine aw_exit ?_); (repeat with_reducible first | apply then_n | apply block_n | apply then_x | apply then_r | apply nog_n | apply nog_r | apply block_r | apply block_e (by decide) | apply block_x (by decide))
        refine tw ?_; try with_reducible intro QQ hQQ
        refine ⟨⟨i + 1, by omega⟩, ?_, weak_round ?_ (by first | rfl | (simp only [go_sem, ↓reduceIte]))⟩
        rotate_left
        · simp only [e1]
          (simp only [go_sem, ↓reduceIte]; try rfl)
        · simp only; omega
    · have hie : i = 2 ^ N := by omega
      subst hie
      refine tw ?_; try with_reducible intro QQ hQQ
      refine ti ?_; try clear hQQ QQ
      refine tw ?_; try with_reducible intro QQ hQQ
      refine ⟨.inl rfl, by simp (disch := first | decide | omega) only [go_sem, ↓reduceIte]; try rfl, r, by simp (disch := first | decide | omega) only [go_sem, ↓reduceIte]; try rfl, by rw [hr1]; decide, ?_⟩
      rw [hr1p]
      (repeat (first | with_reducible refine then_n ?_ | with_reducible refine block_n ?_))
      show AW _ _ _ _
      generalize seeL (mobL L U bales tests (2 ^ N)) = S at *
      obtain ⟨s, o⟩ := S
      dsimp only at hans ⊢
      refine tw ?_; try with_reducible intro QQ hQQ
      (refine ⟨rfl, .inr ⟨rfl, callS_invokeF (T := 63) (b := 6) rfl rfl (by simp (disch := first | decide | omega) only [go_sem, ↓reduceIte]; try rfl) 122 meth_sets (by simp (disch := first | decide | omega) only [go_sem, ↓reduceIte]; try rfl) Try.func122 rfl (by decide) ((c_sets (s := s) (q := o) (by simp (disch := first | decide | omega) only [go_sem, ↓reduceIte]; try rfl)).mono ?_)⟩⟩); rintro _ _ ⟨rfl, rfl⟩; refine ts ?_; try clear hQQ QQ
      refine tw ?_; try with_reducible intro QQ hQQ
      (refine aw_ret ⟨.inr rfl, by simp (disch := first | decide | omega) only [go_sem, ↓reduceIte]; try rfl, by simp (disch := first | decide | omega) only [resA, res1, ansR, ansN, hb, hwhy, hans, go_sem, ↓reduceIte]; try rfl⟩)
end
end Go.Proofs.Ytknikcpeacmpmaa
