/- Ko: texts joined (BvY BvZ). -/
import Derived.Test.YtknikcpeacmpmaaBvX
import Derived.Test.YtknikcpeacmpmaaKf
set_option linter.all false
/- burr: how few bales must be opened, walked. -/
namespace Go.Proofs.Ytknikcpeacmpmaa
open Go Go.RowKit Go.Sh Go.Pv
set_option maxHeartbeats 8000000
set_option maxRecDepth 8000
set_option pp.maxSteps 60000
section
variable {n lo hi top : Int} {bales : List (Int × Int)} {tests : List (Int × Bool)}
/-- Does what is found in the bales of a set tell? -/
def tellsP (N L U T : Nat) (bales : List (Int × Int)) (tests : List (Int × Bool)) (S : Nat) : Bool := decide (Tells S T (walkL L U bales tests (2 ^ N)))
theorem and_full {h n : Nat} (hh : h < 2 ^ n) : h &&& (2 ^ n - 1) = h := by rw [Nat.and_two_pow_sub_one_eq_mod]; exact Nat.mod_eq_of_lt hh
theorem tells_full {N L U T : Nat} (hb6 : bales.length ≤ 6) (ht : ∀ t ∈ tests, 0 ≤ t.1 ∧ t.1 < 6) : tellsP N L U T bales tests (2 ^ bales.length - 1) = true := by
  refine decide_eq_true fun a ha b hb e => ?_
  rw [and_full (walkL_lt hb6 ht ha), and_full (walkL_lt hb6 ht hb)] at e
  rw [e]
theorem tells_any {N L U T : Nat} (hb6 : bales.length ≤ 6) (ht : ∀ t ∈ tests, 0 ≤ t.1 ∧ t.1 < 6) : (setsL bales.length).any (tellsP N L U T bales tests) = true :=
  (any_sets hb6).2 ⟨_, by have := Nat.two_pow_pos bales.length; omega, tells_full hb6 ht⟩
def openS (N L U T : Nat) (bales : List (Int × Int)) (tests : List (Int × Bool)) : Nat := firstF (tellsP N L U T bales tests) (setsL bales.length)
def openA (n lo hi top : Int) (bales : List (Int × Int)) (tests : List (Int × Bool)) : Int × Int := ((popc (openS n.toNat lo.toNat hi.toNat top.toNat bales tests) : Nat), (openS n.toNat lo.toNat hi.toNat top.toNat bales tests : Nat))
theorem ok_Open : FunOK Try.prog 25 [buR n lo hi top bales tests] (ansR (whyT n lo hi top bales tests) (openA n lo hi top bales tests)) := by
  cases hv : burrB n lo hi top bales tests
  · have hwhy : whyT n lo hi top bales tests = 1 := by simp [whyT, hv]
    have hb := hwhy
    refine fun_exp (l := [_]) (od := _) (nt := 23) (t := 7) (eb := 1) (rs := [.tmp 2, .tmp 3, .cell 4 30]) ans67 Try.func25 rfl rfl rfl (by simp) rfl rfl rfl Try.func67 rfl (by decide) fun Z w0 => ?_; simp only [initFr, avR, List.map_cons, List.map_nil]
    simp only [buR, List.map_cons, List.map_nil]
    try simp only [List.append_eq, List.cons_append, List.nil_append]
    refine tw ?_; try with_reducible intro QQ hQQ
    refine ⟨rfl, ?_⟩
    (refine ts ?_; try clear hQQ QQ)
    refine tw ?_; try with_reducible intro QQ hQQ
    (refine ⟨rfl, .inr ⟨rfl, callS_x rfl 48 ⟨by simp (disch := first | decide | omega) only [go_sem, ↓reduceIte]; try rfl, by simp (disch := first | decide | omega) only [go_sem, ↓reduceIte]; try rfl⟩ Try.func48 rfl (by decide) (x_open hv) ?_⟩⟩)
    exact ⟨1, 0, rfl, by simp (disch := first | decide | omega) only [go_sem, ↓reduceIte]; try rfl, by simp (disch := first | decide | omega) only [go_sem, ↓reduceIte]; try rfl, by simp (disch := first | decide | omega) only [resA, res1, ansR, ansN, hwhy, hb, go_sem, ↓reduceIte]; try rfl⟩
  obtain ⟨N, L, U, T, rfl, rfl, rfl, rfl, hB⟩ := bok_of hv
  have hU : U ≤ 5 := by have := hB.hn; have := hB.n5; omega
  have ht6 : tests.length ≤ 100 := by have := hB.t6; omega
  have hcn : cntB (N : Int) (L : Int) (U : Int) bales tests = cntF L U bales tests (2 ^ N) := rfl
  by_cases hc : cntF L U bales tests (2 ^ N) = 0
  · have hwhy : whyT N L U T bales tests = 10 := by simp [whyT, hv, hcn, hc]
    have hb := hwhy
    have hx := x_told (top := T) hB.n5 hU hB.b6 hB.b32 ht6 hB.te6 hc
    simp only [shP] at hx
    refine fun_exp (l := [_]) (od := _) (nt := 23) (t := 7) (eb := 1) (rs := [.tmp 2, .tmp 3, .cell 4 30]) ans67 Try.func25 rfl rfl rfl (by simp) rfl rfl rfl Try.func67 rfl (by decide) fun Z w0 => ?_; simp only [initFr, avR, List.map_cons, List.map_nil]
    simp only [buR, List.map_cons, List.map_nil]
    try simp only [List.append_eq, List.cons_append, List.nil_append]
    refine tw ?_; try with_reducible intro QQ hQQ
    refine ⟨rfl, ?_⟩
    (refine ts ?_; try clear hQQ QQ)
    refine tw ?_; try with_reducible intro QQ hQQ
    refine callS_ok rfl rfl 48 (by simp (disch := first | decide | omega) only [go_sem, ↓reduceIte]; try rfl) (by simp (disch := first | decide | omega) only [go_sem, ↓reduceIte]; try rfl) Try.func48 rfl (by decide) (CallF.mono (c_open hv) ?_); rintro _ _ ⟨rfl, rfl⟩; refine ts ?_; try clear hQQ QQ
    unfold buC
    refine tw ?_; try with_reducible intro QQ hQQ
    (refine ⟨rfl, .inr ⟨rfl, callS_x rfl 49 ⟨by simp (disch := first | decide | omega) only [go_sem, ↓reduceIte]; try rfl, by simp (disch := first | decide | omega) only [go_sem, ↓reduceIte]; try rfl⟩ Try.func49 rfl (by decide) (hx) ?_⟩⟩)
    exact ⟨10, 0, rfl, by simp (disch := first | decide | omega) only [go_sem, ↓reduceIte]; try rfl, by simp (disch := first | decide | omega) only [go_sem, ↓reduceIte]; try rfl, by simp (disch := first | decide | omega) only [resA, res1, ansR, ansN, hwhy, hb, go_sem, ↓reduceIte]; try rfl⟩
  have htold := ok_told (top := T) hB.n5 hU hB.b6 hB.b32 ht6 hB.te6 (Nat.pos_of_ne_zero hc)
  simp only [shP] at htold
  have hwhy : whyT N L U T bales tests = 0 := by simp [whyT, hv, hcn, hc]
  have hb := hwhy
  have hTl := Nat.lt_of_lt_of_le hB.tp (pow64 hB.b6)
  have hsub := ok_subsets bales.length hB.b6
  have hsl := sets_len hB.b6
  have hany := tells_any (N := N) (L := L) (U := U) (T := T) hB.b6 hB.te6
  have hans : openA N L U T bales tests = (((popc (openS N L U T bales tests) : Nat) : Int), ((openS N L U T bales tests : Nat) : Int)) := rfl
  have hmem := (first_least hB.b6 hany).1
  have hpp := pow64 hB.b6
  have h71 := ok_size (openS N L U T bales tests) (by unfold openS; omega)
  have hPC : ∀ {hp : List (Nat × Obj')} {nx : Nat}, PredC (.bfn 70 [.one (.ptr [iP N, iP L, iP U, .sl (bales.map row2), iP T, .sl (tests.map rowB)])]) (tellsP N L U T bales tests) (setsL bales.length) hp nx := fun {hp nx} => pred_bfn Try.func70 rfl (by decide) fun x hx => by
    have := ok_tells (lo := L) (T := T) (S := x) (tests := tests) hB.n5 hU hTl (Nat.lt_of_lt_of_le ((mem_sets hB.b6).1 hx) hpp) hB.b6 hB.b32 ht6 hB.te6
    simp only [shP] at this
    exact this
  have h68 := fun {Z w0 cap nt rd pan df dk rg fr hp nx} => c_first (Z := Z) (w0 := w0) (cap := cap) (nt := nt) (rd := rd) (pan := pan) (df := df) (dk := dk) (rg := rg) (fr := fr) (hp := hp) (nx := nx) (by omega) (hPC (hp := hp) (nx := nx)) hany
  rw [show firstF (tellsP N L U T bales tests) (setsL bales.length) = openS N L U T bales tests from rfl] at h68
  generalize openS N L U T bales tests = F at *
  generalize setsL bales.length = SL at *
  clear hmem hany hPC
  refine fun_exp (l := [_]) (od := _) (nt := 23) (t := 7) (eb := 1) (rs := [.tmp 2, .tmp 3, .cell 4 30]) ans67 Try.func25 rfl rfl rfl (by simp) rfl rfl rfl Try.func67 rfl (by decide) fun Z w0 => ?_; simp only [initFr, avR, List.map_cons, List.map_nil]
  simp only [buR, List.map_cons, List.map_nil]
  try simp only [List.append_eq, List.cons_append, List.nil_append]
  refine tw ?_; try with_reducible intro QQ hQQ
  refine ⟨rfl, ?_⟩
  (refine ts ?_; try clear hQQ QQ)
  refine tw ?_; try with_reducible intro QQ hQQ
  refine callS_ok rfl rfl 48 (by simp (disch := first | decide | omega) only [go_sem, ↓reduceIte]; try rfl) (by simp (disch := first | decide | omega) only [go_sem, ↓reduceIte]; try rfl) Try.func48 rfl (by decide) (CallF.mono (c_open hv) ?_); rintro _ _ ⟨rfl, rfl⟩; refine ts ?_; try clear hQQ QQ
  unfold buC
  refine aw_weak (weak_give 5 4 [iP N, iP L, iP U, .sl (bales.map row2), iP T, .sl (tests.map rowB)] [7, 1, 2, 3, 4] [0, 1] 5 (by simp only [go_sem, ↓reduceIte]; rfl) (by rfl) (by rfl) (by decide) (fun _ h => h)) ?_; dsimp only [AL.set]
  refine tw ?_; try with_reducible intro QQ hQQ
  ((refine cO 49 rfl rfl rfl (htold) Try.func49 rfl ?_); refine tu ?_; try clear hQQ QQ); refine tw ?_; try with_reducible intro QQ hQQ
  (refine cB 69 rfl rfl rfl (hsub) Try.func69 rfl ?_); refine ts ?_; try clear hQQ QQ
  (refine callS_ok rfl rfl 68 (by simp (disch := first | decide | omega) only [go_sem, ↓reduceIte]; try rfl) (by simp (disch := first | decide | omega) only [go_sem, ↓reduceIte]; try rfl) Try.func68 rfl (by decide) ((h68).mono ?_)); rintro _ _ ⟨rfl, rfl⟩; refine ts ?_; try clear hQQ QQ
  refine tw ?_; try with_reducible intro QQ hQQ
  ((refine cO 71 rfl rfl rfl (h71) Try.func71 rfl ?_); refine tu ?_; try clear hQQ QQ); refine tw ?_; try with_reducible intro QQ hQQ
  (refine aw_ret ⟨.inr rfl, by simp (disch := first | decide | omega) only [go_sem, ↓reduceIte]; try rfl, by simp (disch := first | decide | omega) only [resA, res1, ansR, ansN, hb, hwhy, hans, go_sem, ↓reduceIte]; try rfl⟩)
end
end Go.Proofs.Ytknikcpeacmpmaa
/- burr: which bale is best opened next, walked. -/
namespace Go.Proofs.Ytknikcpeacmpmaa
open Go Go.RowKit Go.Sh Go.Pv
set_option maxHeartbeats 8000000
set_option maxRecDepth 8000
set_option pp.maxSteps 60000
section
variable {n lo hi top : Int} {bales : List (Int × Int)} {tests : List (Int × Bool)}
theorem rowsK_B (l : List (Int × Bool)) : rowsK 2 (l.map rowB) := fun i r h => by rw [List.getElem?_map] at h; obtain ⟨x, _, rfl⟩ := Option.map_eq_some_iff.1 h; rfl
theorem ok_with {N lo up top : Int} (hl : tests.length ≤ 99) (c : Int) (f : Bool) : FunOK Try.prog 77 [.one (shP N lo up top bales tests), .agg [iP c, .v (.bool f)]] (.one (.one (.sl ((tests ++ [(c, f)]).map rowB)))) := by
  refine fun_ok (nt := 31) (rs := [.tmp 4]) Try.func77 rfl rfl rfl (by simp) fun Z w0 => ?_; simp only [initFr, avR, List.map_cons, List.map_nil]
  simp only [shP]
  refine tw ?_; try with_reducible intro QQ hQQ
  refine ⟨rfl, .inr ⟨rfl, callS_makeSlice (n := tests.length + 1) (E := 42) (k := 2) (by_ := 16) (zr := [.v (.int .i64 0), .v (.bool false)]) rfl rfl (by simp (disch := first | decide | omega) only [go_sem, ↓reduceIte]) (by simp (disch := first | decide | omega) only [go_sem, ↓reduceIte]) (by simp (disch := first | decide | omega) only [go_sem, ↓reduceIte]) (by simp (disch := first | decide | omega) only [go_sem, ↓reduceIte]; try rfl) rfl (by simp (disch := first | decide | omega) only [go_sem, ↓reduceIte]; try rfl) (by simp (disch := first | decide | omega) only [go_sem, ↓reduceIte]; try rfl) (by omega) (by omega) (by unfold maxLen; omega) ?_⟩⟩
  (refine ts ?_; try clear hQQ QQ)
  refine tw ?_; try with_reducible intro QQ hQQ
  refine ⟨rfl, .inr ⟨rfl, callS_copyLe (t := 1) (n := tests.length + 1) (k := 2) (E := 42) (rows := List.replicate (tests.length + 1) [.v (.int .i64 0), .v (.bool false)]) (xr := tests.map rowB) rfl rfl (by simp (disch := first | decide | omega) only [go_sem, ↓reduceIte]) (by simp (disch := first | decide | omega) only [go_sem, ↓reduceIte]) (by decide) (by simp (disch := first | decide | omega) only [go_sem, ↓reduceIte]; try rfl) (by simp (disch := first | decide | omega) only [go_sem, ↓reduceIte]; try rfl) (by simp) (by simp (disch := first | decide | omega) only [go_sem, ↓reduceIte]; try rfl) (by simp (disch := first | decide | omega) only [go_sem, ↓reduceIte]; try rfl) (rowsK_B _) (by simp) ?_⟩⟩
  have hd : tests.map rowB ++ (List.replicate (tests.length + 1) [PV.v (.int .i64 0), PV.v (.bool false)]).drop (tests.map rowB).length = tests.map rowB ++ [[PV.v (.int .i64 0), PV.v (.bool false)]] := by
    rw [List.length_map, List.drop_replicate, Nat.add_sub_cancel_left]; rfl
  rw [hd]
  have hlen : (tests.map rowB ++ [[PV.v (.int .i64 0), PV.v (.bool false)]]).length = tests.length + 1 := by simp
  have hset : (tests.map rowB ++ [[PV.v (.int .i64 0), PV.v (.bool false)]]).set tests.length [iP c, PV.v (.bool f)] = (tests ++ [(c, f)]).map rowB := by
    rw [List.set_append_right _ _ (by simp)]
    simp [rowB]
  have hget : (tests.map rowB ++ [[PV.v (.int .i64 0), PV.v (.bool false)]])[tests.length]? = some [PV.v (.int .i64 0), PV.v (.bool false)] := by rw [List.getElem?_append_right (by simp)]; simp
  (simp (maxSteps := 400000) (disch := first | decide | omega) only [hlen, hset, hget, go_sem, ↓reduceIte]; (try (with_reducible refine unhide hQQ ?_; clear hQQ QQ; (repeat with_reducible first | apply then_n | apply block_n | apply then_x | apply then_r | apply nog_n | apply nog_r | apply block_r | apply block_e (by decide) | apply block_x (by decide)))))
  (repeat (first | apply aw_seq | apply aw_block | apply aw_skip | apply aw_label | apply aw_exit | ((first | refine aw_region (hideO fun QQ hQQ => ?_) | refine aw_draw mixed (hideD fun QQ hQQ => ?_)); simp (maxSteps := 400000) (disch := first | decide | omega) only [hlen, hset, hget, go_sem, ↓reduceIte]; try (first | with_reducible refine unhide hQQ ?_ | refine ⟨by kernel_rfl, unhide hQQ ?_⟩); clear hQQ QQ) | with_reducible first | apply then_n | apply block_n | apply then_x | apply then_r | apply nog_n | apply nog_r | apply block_r | apply block_e (by decide) | apply block_x (by decide)))
  refine aw_weak (weak_share 1 (E := 42) (k := 2) (rows := (tests ++ [(c, f)]).map rowB) (sh := false) (by rfl)) ?_
  refine aw_weak (weak_dataS 4 (t := 1) (n := tests.length + 1) (E := 42) (k := 2) (rows := (tests ++ [(c, f)]).map rowB) (by rfl) (by rfl)) ?_
  rw [List.take_of_length_le (by simp)]
  refine aw_ret ?_; refine ⟨.inr rfl, ?_⟩; simp only [resA, res1, go_sem, ↓reduceIte]
end
end Go.Proofs.Ytknikcpeacmpmaa
