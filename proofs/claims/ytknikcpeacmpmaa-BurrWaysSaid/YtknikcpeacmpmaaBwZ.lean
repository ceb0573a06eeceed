/- THE LAW BurrWays, walked. -/
import Derived.Test.YtknikcpeacmpmaaBwX
set_option linter.all false
namespace Go.Proofs.Ytknikcpeacmpmaa
open Go Go.RowKit Go.Sh Go.Pv
set_option maxHeartbeats 8000000
set_option maxRecDepth 8000
set_option pp.maxSteps 60000
theorem eqIn_arr2 {P : Program} {T E : TypeId} {xs ys : Array Value} {x0 x1 y0 y1 : Value} {b0 b1 : Bool} {d : Nat} (h : P.underlying T = some (.array 2 E)) (hn : peek P (sizeOf E) = some 1)
    (p0 : peek P (part E xs 0) = some x0) (q0 : peek P (part E ys 0) = some y0) (p1 : peek P (part E xs 1) = some x1) (q1 : peek P (part E ys 1) = some y1)
    (e0 : peek P (Op.equalIn d E x0 y0) = some b0) (e1 : peek P (Op.equalIn d E x1 y1) = some b1) : peek P (Op.equalIn (d + 1) T (.agg xs) (.agg ys)) = some (b0 && b1) := by
  unfold Op.equalIn
  rw [peek_bind, peek_und h, Option.bind_some]
  cases b0 <;> cases b1 <;> simp [peek_bind, hn, p0, q0, p1, q1, e0, e1, peek_pure, Std.Legacy.Range.forIn_eq_forIn_range', List.range'_succ, Std.Legacy.Range.size]
theorem arr_in (a b c d : Int) (n : Nat) : peek Try.prog (Op.equalIn (n + 1 + 1) 45 (.agg #[.int .i64 a, .int .i64 b]) (.agg #[.int .i64 c, .int .i64 d])) = some (a == c && b == d) :=
  eqIn_arr2 (T := 45) (E := 3) (by kernel_rfl) (by kernel_rfl) (by kernel_rfl) (by kernel_rfl) (by kernel_rfl) (by kernel_rfl) (eqIn_int (k0 := .i64) (k := .i64) (by kernel_rfl)) (eqIn_int (k0 := .i64) (k := .i64) (by kernel_rfl))
theorem arr_eql (a b c d : Int) (x y : Operand) : binA Try.prog .eql 45 x y (.agg #[.int .i64 a, .int .i64 b]) (.agg #[.int .i64 c, .int .i64 d]) = some (.bool (a == c && b == d)) := bin_eq_agg (by kernel_rfl) (arr_in a b c d 9998) x y
/-- What the callback has turned, by the truths so far. -/
def obW (T : Nat) (P : List (Nat × Nat)) : List (Nat × Obj') := [(1, .box [.p (iP (P.length : Nat))]), (3, .box (asC (seeL (P.map (·.1))))), (4, .box (asC (seeL (P.map (·.2))))), (2, .box [.p (iP (tidyP T P : Nat))])]
theorem obW_get {T : Nat} {P : List (Nat × Nat)} {id : Nat} {o : Obj'} (h : AL.get (obW T P) id = some o) : (id = 1 ∧ .box [.p (iP (P.length : Nat))] = o) ∨ (id = 3 ∧ .box (asC (seeL (P.map (·.1)))) = o) ∨ (id = 4 ∧ .box (asC (seeL (P.map (·.2)))) = o) ∨ (id = 2 ∧ .box [.p (iP (tidyP T P : Nat))] = o) := by
  rcases get_cons_cases h with h | h
  · exact .inl h
  rcases get_cons_cases h with h | h
  · exact .inr (.inl h)
  rcases get_cons_cases h with h | h
  · exact .inr (.inr (.inl h))
  rcases get_cons_cases h with h | h
  · exact .inr (.inr (.inr h))
  · rw [AL.get_nil] at h; cases h
section
variable {N L U T : Nat} {bales : List (Int × Int)} {tests : List (Int × Bool)}
theorem step_ways (hB : BOK N L U T bales tests) {hp0 : List (Nat × Obj')} {nx0 : Nat} (hd0 : AL.get hp0 0 = some (.box (buC N L U T bales tests))) (hn0 : 0 < nx0) (K : Kx) (st : St) (P : List (Nat × Nat)) (m h : Nat) (hK : K.P = Try.prog) (hpre : (P ++ [(m, h)]) <+: TR N L U bales tests) (hH : HPof (obW T) [1, 2, 3, 4] hp0 nx0 P st.hp) :
    CallF K 40 ([.one (.p (iP m)), .one (.p (iP h))] ++ [.box 1, .box 3, .box 4, .box 0, .box 2].map capV) st fun st' av => av = .tup [] ∧ st'.fr = st.fr ∧ st'.nx = st.nx ∧ (∀ id o, AL.get (obW T (P ++ [(m, h)])) id = some o → AL.get st'.hp id = some o) ∧ ∀ id, id ∉ [1, 2, 3, 4] → AL.get st'.hp id = AL.get st.hp id := by
  obtain ⟨P', Z, w0, cap, nt, rd, pan, df, dk, rg⟩ := K
  obtain rfl : P' = Try.prog := hK
  obtain ⟨fr, hp, nx⟩ := st
  obtain ⟨p1, p2, p3, p4⟩ := pre_lt hB hpre
  have l1 := seeL_lt (L := P.map (·.1)) (by intro x hx; obtain ⟨y, hy, rfl⟩ := List.mem_map.1 hx; exact (p4 y hy).1)
  have l2 := seeL_lt (L := P.map (·.2)) (by intro x hx; obtain ⟨y, hy, rfl⟩ := List.mem_map.1 hx; exact (p4 y hy).2)
  have g1 := hH.1 1 _ rfl
  have g3 := hH.1 3 _ rfl
  have g4 := hH.1 4 _ rfl
  have g2 := hH.1 2 _ rfl
  have g0 := hH.2 0 _ hn0 (by decide) hd0
  have e : obW T (P ++ [(m, h)]) = [(1, .box [.p (iP ((P.length + 1 : Nat) : Int))]), (3, .box (asC (seeS (seeL (P.map (·.1))) m))), (4, .box (asC (seeS (seeL (P.map (·.2))) h))), (2, .box [.p (iP ((if h &&& T = 0 then tidyP T P + 1 else tidyP T P : Nat) : Int))])] := by
    unfold obW
    rw [List.length_append, List.map_append, List.map_append, tidyP_snoc]
    simp only [List.map_cons, List.map_nil, seeL_snoc, List.length_cons, List.length_nil]
  refine (c_ways40 (N := N) (L := L) (U := U) (T := T) (bales := bales) (tests := tests) p1 p2 (by have := hB.tp; have := pow64 hB.b6; omega) p3 (tidyP_le T P) l1.1 l1.2 l2.1 l2.2 g1 g3 g4 g0 g2 (by decide)).mono ?_
  rintro _ _ ⟨rfl, rfl⟩
  refine ⟨rfl, rfl, rfl, fun id o ho => ?_, fun id hid => ?_⟩
  · rw [e] at ho
    rw [AL_append, ho]
  · simp only [List.mem_cons, List.mem_nil_iff, or_false, not_or] at hid
    rw [AL_append, AL.get_ne _ _ hid.1, AL.get_ne _ _ hid.2.2.1, AL.get_ne _ _ hid.2.2.2, AL.get_ne _ _ hid.2.1, AL.get_nil]
end
section
variable {n lo hi top : Int} {bales : List (Int × Int)} {tests : List (Int × Bool)}
theorem main_ways : FunOK Try.prog 7 [buR n lo hi top bales tests] (.one (.one (.v (.bool true)))) := by
  have hal := ok_alive
  have hl := ok_long n lo hi top bales tests
  have hB := ok_Burr (n := n) (lo := lo) (hi := hi) (top := top) (bales := bales) (tests := tests)
  have hC := ok_Count (n := n) (lo := lo) (hi := hi) (top := top) (bales := bales) (tests := tests)
  have hM := ok_Mobs (n := n) (lo := lo) (hi := hi) (top := top) (bales := bales) (tests := tests)
  have hA := ok_Bales (n := n) (lo := lo) (hi := hi) (top := top) (bales := bales) (tests := tests)
  have hE := ok_Clean (n := n) (lo := lo) (hi := hi) (top := top) (bales := bales) (tests := tests)
  have hP := ok_Pure (n := n) (lo := lo) (hi := hi) (top := top) (bales := bales) (tests := tests)
  cases b1 : decide (40 < max bales.length tests.length)
  rotate_left
  · rw [b1] at hl
    simp only [buR] at hl hB ⊢
    refine fun_ok (nt := 216) (rs := [.tmp 2]) Try.func7 rfl rfl rfl (by simp) fun Z w0 => ?_; simp only [initFr, avR, List.map_cons, List.map_nil]
    try simp only [List.append_eq, List.cons_append, List.nil_append]
    refine tw ?_; try with_reducible intro QQ hQQ
    ((refine cO 12 rfl rfl rfl (hl) Try.func12 rfl ?_); refine tu ?_; try clear hQQ QQ); refine tw ?_; try with_reducible intro QQ hQQ
    refine ti ?_; try clear hQQ QQ
    refine tw ?_; try with_reducible intro QQ hQQ
    ((refine cO 13 rfl rfl rfl (hal) Try.func13 rfl ?_); refine tu ?_; try clear hQQ QQ); refine tw ?_; try with_reducible intro QQ hQQ
    refine aw_ret ?_; refine ⟨.inr rfl, ?_⟩; simp only [resA, res1, go_sem, ↓reduceIte]
  rw [b1] at hl
  cases b2 : burrB n lo hi top bales tests
  · rw [b2] at hB
    have hwV : whyV n lo hi top bales tests = 1 := by simp [whyV, b2]
    have hwT : whyT n lo hi top bales tests = 1 := by simp [whyT, b2]
    rw [hwV] at hC
    rw [hwT] at hM hA hE hP
    clear hwV hwT
    simp only [buR, ansN, ansR, show ¬ ((1 : Int) = 0) by decide, if_false] at hl hB hC hM hA hE hP ⊢
    refine fun_ok (nt := 216) (rs := [.tmp 2]) Try.func7 rfl rfl rfl (by simp) fun Z w0 => ?_; simp only [initFr, avR, List.map_cons, List.map_nil]
    try simp only [List.append_eq, List.cons_append, List.nil_append]
    refine tw ?_; try with_reducible intro QQ hQQ
    ((refine cO 12 rfl rfl rfl (hl) Try.func12 rfl ?_); refine tu ?_; try clear hQQ QQ); refine tw ?_; try with_reducible intro QQ hQQ
    refine ti ?_; try clear hQQ QQ
    refine tw ?_; try with_reducible intro QQ hQQ
    ((refine cO 22 rfl rfl rfl (hC) Try.func22 rfl ?_); refine tu ?_; try clear hQQ QQ); refine tw ?_; try with_reducible intro QQ hQQ
    ((refine cO 14 rfl rfl rfl (hM) Try.func14 rfl ?_); refine tu ?_; try clear hQQ QQ); refine tw ?_; try with_reducible intro QQ hQQ
    ((refine cO 16 rfl rfl rfl (hA) Try.func16 rfl ?_); refine tu ?_; try clear hQQ QQ); refine tw ?_; try with_reducible intro QQ hQQ
    ((refine cO 18 rfl rfl rfl (hE) Try.func18 rfl ?_); refine tu ?_; try clear hQQ QQ); refine tw ?_; try with_reducible intro QQ hQQ
    ((refine cO 20 rfl rfl rfl (hP) Try.func20 rfl ?_); refine tu ?_; try clear hQQ QQ); refine tw ?_; try with_reducible intro QQ hQQ
    ((refine cO 35 rfl rfl rfl (hB) Try.func35 rfl ?_); refine tu ?_; try clear hQQ QQ); refine tw ?_; try with_reducible intro QQ hQQ
    refine ti ?_; try clear hQQ QQ
    refine tw ?_; try with_reducible intro QQ hQQ
    ((refine cO 13 rfl rfl rfl (hal) Try.func13 rfl ?_); refine tu ?_; try clear hQQ QQ); refine tw ?_; try with_reducible intro QQ hQQ
    refine aw_ret ?_; refine ⟨.inr rfl, ?_⟩; simp only [resA, res1, go_sem, ↓reduceIte]
  rw [b2] at hB
  obtain ⟨N, L, U, T, rfl, rfl, rfl, rfl, hBk⟩ := bok_of b2
  have hwV : whyV N L U T bales tests = 0 := by simp [whyV, b2]
  have hcc : cntB N L U bales tests = (TR N L U bales tests).length := (show cntB N L U bales tests = cntF L U bales tests (2 ^ N) from rfl).trans (count_TR hBk.b6 hBk.te6)
  rw [hwV, hcc] at hC
  have hT64 : T < 64 := by have := hBk.tp; have := pow64 hBk.b6; omega
  have hlen := TR_len hBk
  have htl := tidyP_le T (TR N L U bales tests)
  have h0 : ∀ id o, AL.get (obW T []) id = some o → AL.get [(4, Obj'.box [.p (iP (-1)), .p (iP 0)]), (3, .box [.p (iP (-1)), .p (iP 0)]), (2, .box [.p (iP 0)]), (1, .box [.p (iP 0)])] id = some o := by
    intro id o ho
    rcases obW_get ho with ⟨rfl, rfl⟩ | ⟨rfl, rfl⟩ | ⟨rfl, rfl⟩ | ⟨rfl, rfl⟩ <;> rfl
  have hst := fun hp0 nx0 hd0 hn0 => step_ways hBk (hp0 := hp0) (nx0 := nx0) hd0 hn0
  have hev := fun Z w0 cap nt rd pan df dk rg fr hp nx => c_every (Z := Z) (w0 := w0) (cap := cap) (nt := nt) (rd := rd) (pan := pan) (df := df) (dk := dk) (rg := rg) (fr := fr) (hp := hp) (nx := nx) hBk Try.func40 rfl (by decide) (obW T) [1, 2, 3, 4] (caps := [.box 1, .box 3, .box 4, .box 0, .box 2])
  by_cases hne : TR N L U bales tests = []
  · have hwT : whyT N L U T bales tests = 10 := by simp [whyT, b2, hcc, hne]
    rw [hwT] at hM hA hE hP
    rw [hne, List.length_nil] at hC
    clear hwV hwT hcc h0
    simp only [buR, ansN, ansR, if_true, show ¬ ((10 : Int) = 0) by decide, if_false] at hl hB hC hM hA hE hP ⊢
    refine fun_ok (nt := 216) (rs := [.tmp 2]) Try.func7 rfl rfl rfl (by simp) fun Z w0 => ?_; simp only [initFr, avR, List.map_cons, List.map_nil]
    try simp only [List.append_eq, List.cons_append, List.nil_append]
    refine tw ?_; try with_reducible intro QQ hQQ
    ((refine cO 12 rfl rfl rfl (hl) Try.func12 rfl ?_); refine tu ?_; try clear hQQ QQ); refine tw ?_; try with_reducible intro QQ hQQ
    refine ti ?_; try clear hQQ QQ
    refine tw ?_; try with_reducible intro QQ hQQ
    ((refine cO 22 rfl rfl rfl (hC) Try.func22 rfl ?_); refine tu ?_; try clear hQQ QQ); refine tw ?_; try with_reducible intro QQ hQQ
    ((refine cO 14 rfl rfl rfl (hM) Try.func14 rfl ?_); refine tu ?_; try clear hQQ QQ); refine tw ?_; try with_reducible intro QQ hQQ
    ((refine cO 16 rfl rfl rfl (hA) Try.func16 rfl ?_); refine tu ?_; try clear hQQ QQ); refine tw ?_; try with_reducible intro QQ hQQ
    ((refine cO 18 rfl rfl rfl (hE) Try.func18 rfl ?_); refine tu ?_; try clear hQQ QQ); refine tw ?_; try with_reducible intro QQ hQQ
    ((refine cO 20 rfl rfl rfl (hP) Try.func20 rfl ?_); refine tu ?_; try clear hQQ QQ); refine tw ?_; try with_reducible intro QQ hQQ
    ((refine cO 35 rfl rfl rfl (hB) Try.func35 rfl ?_); refine tu ?_; try clear hQQ QQ); refine tw ?_; try with_reducible intro QQ hQQ
    refine ti ?_; try clear hQQ QQ
    refine tw ?_; try with_reducible intro QQ hQQ
    refine callS_ok rfl rfl 39 (by simp (disch := first | decide | omega) only [go_sem, ↓reduceIte]; try rfl) (by simp (disch := first | decide | omega) only [go_sem, ↓reduceIte]; try rfl) Try.func39 rfl (by decide) (CallF.mono (hev _ _ _ _ _ _ _ _ _ _ _ _ ?_ ?_ ?_) ?_)
    · refine ⟨fun P id o h => ?_, fun P id h => ?_, fun id h => ?_, fun P id o h => ?_⟩
      · rcases obW_get h with ⟨rfl, _⟩ | ⟨rfl, _⟩ | ⟨rfl, _⟩ | ⟨rfl, _⟩ <;> decide
      · simp only [List.mem_cons, List.mem_nil_iff, or_false] at h
        rcases h with rfl | rfl | rfl | rfl <;> exact ⟨_, rfl⟩
      · simp only [List.mem_cons, List.mem_nil_iff, or_false] at h
        rcases h with rfl | rfl | rfl | rfl <;> exact ⟨_, rfl⟩
      · rcases obW_get h with ⟨_, rfl⟩ | ⟨_, rfl⟩ | ⟨_, rfl⟩ | ⟨_, rfl⟩ <;> exact ⟨rfl, fun _ _ h => by cases h⟩
    · intro id o ho
      rcases obW_get ho with ⟨rfl, rfl⟩ | ⟨rfl, rfl⟩ | ⟨rfl, rfl⟩ | ⟨rfl, rfl⟩ <;> rfl
    · exact hst _ _ rfl (by decide)
    rintro _ _ ⟨rfl, rfl⟩
    rw [hne]
    simp only [obW, asC, List.map_nil, List.length_nil, seeL_nil, tidyP, List.countP_nil, List.cons_append, List.nil_append]
    (refine ts ?_; try clear hQQ QQ)
    refine tw ?_; try with_reducible intro QQ hQQ
    refine ti ?_; try clear hQQ QQ
    refine tw ?_; try with_reducible intro QQ hQQ
    refine ti ?_; try clear hQQ QQ
    refine tw ?_; try with_reducible intro QQ hQQ
    ((refine cO 13 rfl rfl rfl (hal) Try.func13 rfl ?_); refine tu ?_; try clear hQQ QQ); refine tw ?_; try with_reducible intro QQ hQQ
    refine aw_ret ?_; refine ⟨.inr rfl, ?_⟩; simp only [resA, res1, go_sem, ↓reduceIte]
  · have hpos : 0 < (TR N L U bales tests).length := List.length_pos_iff.2 hne
    have hwT : whyT N L U T bales tests = 0 := by simp [whyT, b2, hcc, hne]
    rw [hwT] at hM hA hE hP
    have eM : mobA N L U bales tests = (iO (seeL ((TR N L U bales tests).map (·.1))).2, (((seeL ((TR N L U bales tests).map (·.1))).1 : Nat) : Int)) := by unfold mobA; simp only [Int.toNat_natCast, mob_see hne]
    have eA : balA N L U bales tests = (iO (seeL ((TR N L U bales tests).map (·.2))).2, (((seeL ((TR N L U bales tests).map (·.2))).1 : Nat) : Int)) := by unfold balA; simp only [Int.toNat_natCast, bal_see hne]
    have eP : pureA N L U T bales tests = ((diffN T (seeL ((TR N L U bales tests).map (·.2))).1 : Nat) : Int) := by unfold pureA; simp only [Int.toNat_natCast, bal_see hne]
    have eE := cleanA_eq hBk
    rw [eM] at hM
    rw [eA] at hA
    rw [eP] at hP
    rw [eE] at hE
    rw [show tidyN L U T N bales tests = tidyP T (TR N L U bales tests) from rfl] at hE
    have l2 := (seeL_lt (L := (TR N L U bales tests).map (·.2)) (by intro x hx; obtain ⟨y, hy, rfl⟩ := List.mem_map.1 hx; exact (mem_TR_lt hBk hy).2)).1
    clear hwV hwT hcc h0 eM eA eP eE
    generalize hcl : (if tidyP T (TR N L U bales tests) = (TR N L U bales tests).length then (2 : Int) else if tidyP T (TR N L U bales tests) = 0 then 0 else 1) = cl at hE
    simp only [buR, ansN, ansR, if_true, show ¬ ((10 : Int) = 0) by decide, if_false] at hl hB hC hM hA hE hP ⊢
    refine fun_ok (nt := 216) (rs := [.tmp 2]) Try.func7 rfl rfl rfl (by simp) fun Z w0 => ?_; simp only [initFr, avR, List.map_cons, List.map_nil]
    try simp only [List.append_eq, List.cons_append, List.nil_append]
    refine tw ?_; try with_reducible intro QQ hQQ
    ((refine cO 12 rfl rfl rfl (hl) Try.func12 rfl ?_); refine tu ?_; try clear hQQ QQ); refine tw ?_; try with_reducible intro QQ hQQ
    refine ti ?_; try clear hQQ QQ
    refine tw ?_; try with_reducible intro QQ hQQ
    ((refine cO 22 rfl rfl rfl (hC) Try.func22 rfl ?_); refine tu ?_; try clear hQQ QQ); refine tw ?_; try with_reducible intro QQ hQQ
    ((refine cO 14 rfl rfl rfl (hM) Try.func14 rfl ?_); refine tu ?_; try clear hQQ QQ); refine tw ?_; try with_reducible intro QQ hQQ
    ((refine cO 16 rfl rfl rfl (hA) Try.func16 rfl ?_); refine tu ?_; try clear hQQ QQ); refine tw ?_; try with_reducible intro QQ hQQ
    ((refine cO 18 rfl rfl rfl (hE) Try.func18 rfl ?_); refine tu ?_; try clear hQQ QQ); refine tw ?_; try with_reducible intro QQ hQQ
    ((refine cO 20 rfl rfl rfl (hP) Try.func20 rfl ?_); refine tu ?_; try clear hQQ QQ); refine tw ?_; try with_reducible intro QQ hQQ
    ((refine cO 35 rfl rfl rfl (hB) Try.func35 rfl ?_); refine tu ?_; try clear hQQ QQ); refine tw ?_; try with_reducible intro QQ hQQ
    refine ti ?_; try clear hQQ QQ
    refine tw ?_; try with_reducible intro QQ hQQ
    refine callS_ok rfl rfl 39 (by simp (disch := first | decide | omega) only [go_sem, ↓reduceIte]; try rfl) (by simp (disch := first | decide | omega) only [go_sem, ↓reduceIte]; try rfl) Try.func39 rfl (by decide) (CallF.mono (hev _ _ _ _ _ _ _ _ _ _ _ _ ?_ ?_ ?_) ?_)
    · refine ⟨fun P id o h => ?_, fun P id h => ?_, fun id h => ?_, fun P id o h => ?_⟩
      · rcases obW_get h with ⟨rfl, _⟩ | ⟨rfl, _⟩ | ⟨rfl, _⟩ | ⟨rfl, _⟩ <;> decide
      · simp only [List.mem_cons, List.mem_nil_iff, or_false] at h
        rcases h with rfl | rfl | rfl | rfl <;> exact ⟨_, rfl⟩
      · simp only [List.mem_cons, List.mem_nil_iff, or_false] at h
        rcases h with rfl | rfl | rfl | rfl <;> exact ⟨_, rfl⟩
      · rcases obW_get h with ⟨_, rfl⟩ | ⟨_, rfl⟩ | ⟨_, rfl⟩ | ⟨_, rfl⟩ <;> exact ⟨rfl, fun _ _ h => by cases h⟩
    · intro id o ho
      rcases obW_get ho with ⟨rfl, rfl⟩ | ⟨rfl, rfl⟩ | ⟨rfl, rfl⟩ | ⟨rfl, rfl⟩ <;> rfl
    · exact hst _ _ rfl (by decide)
    rintro _ _ ⟨rfl, rfl⟩
    simp only [obW, asC, List.cons_append, List.nil_append]
    clear hev hst
    generalize (TR N L U bales tests).length = len at *
    generalize tidyP T (TR N L U bales tests) = ty at *
    generalize seeL ((TR N L U bales tests).map (·.1)) = q1 at *
    generalize seeL ((TR N L U bales tests).map (·.2)) = q2 at *
    obtain ⟨s1, o1⟩ := q1
    obtain ⟨s2, o2⟩ := q2
    dsimp only at *
    generalize iO o1 = a1 at *
    generalize iO o2 = a2 at *
    have hd : ∀ (T' : TypeId) (x y : Operand), binA Try.prog .andNot T' x y (.int .i64 (T : Int)) (.int .i64 (s2 : Int)) = some (.int .i64 ((diffN T s2 : Nat) : Int)) := fun T' x y => bin_andNot_nat T' x y (by omega) (by omega)
    generalize diffN T s2 = pu at *
    by_cases c1 : ty = len
    · rw [if_pos c1] at hcl
      subst hcl
      subst c1
      have n2 : ((ty : Int) == 0) = false := by rw [beq_eq_false_iff_ne]; omega
      (simp (maxSteps := 400000) (disch := first | decide | omega) only [hd, arr_eql, n2, go_sem, ↓reduceIte]; (try (with_reducible refine unhide hQQ ?_; clear hQQ QQ; (repeat with_reducible first | apply then_n | apply block_n | apply then_x | apply then_r | apply nog_n | apply nog_r | apply block_r | apply block_e (by decide) | apply block_x (by decide)))))
      (repeat (first | apply aw_seq | apply aw_block | apply aw_skip | apply aw_label | apply aw_exit | ((first | refine aw_region (hideO fun QQ hQQ => ?_) | refine aw_draw mixed (hideD fun QQ hQQ => ?_)); simp (maxSteps := 400000) (disch := first | decide | omega) only [hd, arr_eql, n2, go_sem, ↓reduceIte]; try (first | with_reducible refine unhide hQQ ?_ | refine ⟨by kernel_rfl, unhide hQQ ?_⟩); clear hQQ QQ) | with_reducible first | apply then_n | apply block_n | apply then_x | apply then_r | apply nog_n | apply nog_r | apply block_r | apply block_e (by decide) | apply block_x (by decide)))
      refine aw_cond2 (by simp (disch := first | decide | omega) only [hd, arr_eql, n2, go_sem, ↓reduceIte]; rfl) ?_; first | refine .inl ⟨by first | rfl | exact decide_eq_true (by omega) | exact decide_eq_true (by assumption) | (simp (disch := first | decide | omega) only [if_pos_d, if_neg_d, decide_eq_true_eq, Bool.not_eq_true', decide_eq_false_iff_not]; omega), ?_⟩ | refine .inr ⟨by first | rfl | exact decide_eq_false (by omega) | exact decide_eq_false (by assumption) | (simp (disch := first | decide | omega) only [if_pos_d, if_neg_d, decide_eq_true_eq, Bool.not_eq_true', decide_eq_false_iff_not]; omega), ?_⟩
      (repeat (first | apply aw_seq | apply aw_block | apply aw_skip | apply aw_label | apply aw_exit | ((first | refine aw_region (hideO fun QQ hQQ => ?_) | refine aw_draw mixed (hideD fun QQ hQQ => ?_)); simp (maxSteps := 400000) (disch := first | decide | omega) only [hd, arr_eql, n2, go_sem, ↓reduceIte]; try (first | with_reducible refine unhide hQQ ?_ | refine ⟨by kernel_rfl, unhide hQQ ?_⟩); clear hQQ QQ) | with_reducible first | apply then_n | apply block_n | apply then_x | apply then_r | apply nog_n | apply nog_r | apply block_r | apply block_e (by decide) | apply block_x (by decide)))
      refine aw_cond2 (by simp (disch := first | decide | omega) only [hd, arr_eql, n2, go_sem, ↓reduceIte]; rfl) ?_; first | refine .inl ⟨by first | rfl | exact decide_eq_true (by omega) | exact decide_eq_true (by assumption) | (simp (disch := first | decide | omega) only [if_pos_d, if_neg_d, decide_eq_true_eq, Bool.not_eq_true', decide_eq_false_iff_not]; omega), ?_⟩ | refine .inr ⟨by first | rfl | exact decide_eq_false (by omega) | exact decide_eq_false (by assumption) | (simp (disch := first | decide | omega) only [if_pos_d, if_neg_d, decide_eq_true_eq, Bool.not_eq_true', decide_eq_false_iff_not]; omega), ?_⟩
      (repeat (first | apply aw_seq | apply aw_block | apply aw_skip | apply aw_label | apply aw_exit | ((first | refine aw_region (hideO fun QQ hQQ => ?_) | refine aw_draw mixed (hideD fun QQ hQQ => ?_)); simp (maxSteps := 400000) (disch := first | decide | omega) only [hd, arr_eql, n2, go_sem, ↓reduceIte]; try (first | with_reducible refine unhide hQQ ?_ | refine ⟨by kernel_rfl, unhide hQQ ?_⟩); clear hQQ QQ) | with_reducible first | apply then_n | apply block_n | apply then_x | apply then_r | apply nog_n | apply nog_r | apply block_r | apply block_e (by decide) | apply block_x (by decide)))
      ((refine callO_ok rfl rfl 13 true rfl (by simp (disch := first | decide | omega) only [hd, arr_eql, n2, go_sem, ↓reduceIte]; try rfl) (fun _ => rfl) (hal) Try.func13 rfl (by decide) ?_); simp (maxSteps := 400000) (disch := first | decide | omega) only [hd, arr_eql, n2, go_sem, ↓reduceIte]; try (with_reducible refine unhide hQQ ?_; clear hQQ QQ)); (repeat (first | apply aw_seq | apply aw_block | apply aw_skip | apply aw_label | apply aw_exit | ((first | refine aw_region (hideO fun QQ hQQ => ?_) | refine aw_draw mixed (hideD fun QQ hQQ => ?_)); simp (maxSteps := 400000) (disch := first | decide | omega) only [hd, arr_eql, n2, go_sem, ↓reduceIte]; try (first | with_reducible refine unhide hQQ ?_ | refine ⟨by kernel_rfl, unhide hQQ ?_⟩); clear hQQ QQ) | with_reducible first | apply then_n | apply block_n | apply then_x | apply then_r | apply nog_n | apply nog_r | apply block_r | apply block_e (by decide) | apply block_x (by decide)))
      refine aw_ret ?_; refine ⟨.inr rfl, ?_⟩; simp only [resA, res1, go_sem, ↓reduceIte]
    · rw [if_neg c1] at hcl
      have n1 : ((ty : Int) == (len : Int)) = false := by rw [beq_eq_false_iff_ne]; omega
      by_cases c2 : ty = 0
      · rw [if_pos c2] at hcl
        subst hcl
        subst c2
        (simp (maxSteps := 400000) (disch := first | decide | omega) only [hd, arr_eql, n1, Int.natCast_zero, go_sem, ↓reduceIte]; (try (with_reducible refine unhide hQQ ?_; clear hQQ QQ; (repeat with_reducible first | apply then_n | apply block_n | apply then_x | apply then_r | apply nog_n | apply nog_r | apply block_r | apply block_e (by decide) | apply block_x (by decide)))))
        (repeat (first | apply aw_seq | apply aw_block | apply aw_skip | apply aw_label | apply aw_exit | ((first | refine aw_region (hideO fun QQ hQQ => ?_) | refine aw_draw mixed (hideD fun QQ hQQ => ?_)); simp (maxSteps := 400000) (disch := first | decide | omega) only [hd, arr_eql, n1, Int.natCast_zero, go_sem, ↓reduceIte]; try (first | with_reducible refine unhide hQQ ?_ | refine ⟨by kernel_rfl, unhide hQQ ?_⟩); clear hQQ QQ) | with_reducible first | apply then_n | apply block_n | apply then_x | apply then_r | apply nog_n | apply nog_r | apply block_r | apply block_e (by decide) | apply block_x (by decide)))
        refine aw_cond2 (by simp (disch := first | decide | omega) only [hd, arr_eql, n1, Int.natCast_zero, go_sem, ↓reduceIte]; rfl) ?_; first | refine .inl ⟨by first | rfl | exact decide_eq_true (by omega) | exact decide_eq_true (by assumption) | (simp (disch := first | decide | omega) only [if_pos_d, if_neg_d, decide_eq_true_eq, Bool.not_eq_true', decide_eq_false_iff_not]; omega), ?_⟩ | refine .inr ⟨by first | rfl | exact decide_eq_false (by omega) | exact decide_eq_false (by assumption) | (simp (disch := first | decide | omega) only [if_pos_d, if_neg_d, decide_eq_true_eq, Bool.not_eq_true', decide_eq_false_iff_not]; omega), ?_⟩
        (repeat (first | apply aw_seq | apply aw_block | apply aw_skip | apply aw_label | apply aw_exit | ((first | refine aw_region (hideO fun QQ hQQ => ?_) | refine aw_draw mixed (hideD fun QQ hQQ => ?_)); simp (maxSteps := 400000) (disch := first | decide | omega) only [hd, arr_eql, n1, Int.natCast_zero, go_sem, ↓reduceIte]; try (first | with_reducible refine unhide hQQ ?_ | refine ⟨by kernel_rfl, unhide hQQ ?_⟩); clear hQQ QQ) | with_reducible first | apply then_n | apply block_n | apply then_x | apply then_r | apply nog_n | apply nog_r | apply block_r | apply block_e (by decide) | apply block_x (by decide)))
        refine aw_cond2 (by simp (disch := first | decide | omega) only [hd, arr_eql, n1, Int.natCast_zero, go_sem, ↓reduceIte]; rfl) ?_; first | refine .inl ⟨by first | rfl | exact decide_eq_true (by omega) | exact decide_eq_true (by assumption) | (simp (disch := first | decide | omega) only [if_pos_d, if_neg_d, decide_eq_true_eq, Bool.not_eq_true', decide_eq_false_iff_not]; omega), ?_⟩ | refine .inr ⟨by first | rfl | exact decide_eq_false (by omega) | exact decide_eq_false (by assumption) | (simp (disch := first | decide | omega) only [if_pos_d, if_neg_d, decide_eq_true_eq, Bool.not_eq_true', decide_eq_false_iff_not]; omega), ?_⟩
        (repeat (first | apply aw_seq | apply aw_block | apply aw_skip | apply aw_label | apply aw_exit | ((first | refine aw_region (hideO fun QQ hQQ => ?_) | refine aw_draw mixed (hideD fun QQ hQQ => ?_)); simp (maxSteps := 400000) (disch := first | decide | omega) only [hd, arr_eql, n1, Int.natCast_zero, go_sem, ↓reduceIte]; try (first | with_reducible refine unhide hQQ ?_ | refine ⟨by kernel_rfl, unhide hQQ ?_⟩); clear hQQ QQ) | with_reducible first | apply then_n | apply block_n | apply then_x | apply then_r | apply nog_n | apply nog_r | apply block_r | apply block_e (by decide) | apply block_x (by decide)))
        ((refine callO_ok rfl rfl 13 true rfl (by simp (disch := first | decide | omega) only [hd, arr_eql, n1, Int.natCast_zero, go_sem, ↓reduceIte]; try rfl) (fun _ => rfl) (hal) Try.func13 rfl (by decide) ?_); simp (maxSteps := 400000) (disch := first | decide | omega) only [hd, arr_eql, n1, Int.natCast_zero, go_sem, ↓reduceIte]; try (with_reducible refine unhide hQQ ?_; clear hQQ QQ)); (repeat (first | apply aw_seq | apply aw_block | apply aw_skip | apply aw_label | apply aw_exit | ((first | refine aw_region (hideO fun QQ hQQ => ?_) | refine aw_draw mixed (hideD fun QQ hQQ => ?_)); simp (maxSteps := 400000) (disch := first | decide | omega) only [hd, arr_eql, n1, Int.natCast_zero, go_sem, ↓reduceIte]; try (first | with_reducible refine unhide hQQ ?_ | refine ⟨by kernel_rfl, unhide hQQ ?_⟩); clear hQQ QQ) | with_reducible first | apply then_n | apply block_n | apply then_x | apply then_r | apply nog_n | apply nog_r | apply block_r | apply block_e (by decide) | apply block_x (by decide)))
        refine aw_ret ?_; refine ⟨.inr rfl, ?_⟩; simp only [resA, res1, go_sem, ↓reduceIte]
      · rw [if_neg c2] at hcl
        subst hcl
        have n2 : ((ty : Int) == 0) = false := by rw [beq_eq_false_iff_ne]; omega
        (simp (maxSteps := 400000) (disch := first | decide | omega) only [hd, arr_eql, n1, n2, go_sem, ↓reduceIte]; (try (with_reducible refine unhide hQQ ?_; clear hQQ QQ; (repeat with_reducible first | apply then_n | apply block_n | apply then_x | apply then_r | apply nog_n | apply nog_r | apply block_r | apply block_e (by decide) | apply block_x (by decide)))))
        (repeat (first | apply aw_seq | apply aw_block | apply aw_skip | apply aw_label | apply aw_exit | ((first | refine aw_region (hideO fun QQ hQQ => ?_) | refine aw_draw mixed (hideD fun QQ hQQ => ?_)); simp (maxSteps := 400000) (disch := first | decide | omega) only [hd, arr_eql, n1, n2, go_sem, ↓reduceIte]; try (first | with_reducible refine unhide hQQ ?_ | refine ⟨by kernel_rfl, unhide hQQ ?_⟩); clear hQQ QQ) | with_reducible first | apply then_n | apply block_n | apply then_x | apply then_r | apply nog_n | apply nog_r | apply block_r | apply block_e (by decide) | apply block_x (by decide)))
        refine aw_cond2 (by simp (disch := first | decide | omega) only [hd, arr_eql, n1, n2, go_sem, ↓reduceIte]; rfl) ?_; first | refine .inl ⟨by first | rfl | exact decide_eq_true (by omega) | exact decide_eq_true (by assumption) | (simp (disch := first | decide | omega) only [if_pos_d, if_neg_d, decide_eq_true_eq, Bool.not_eq_true', decide_eq_false_iff_not]; omega), ?_⟩ | refine .inr ⟨by first | rfl | exact decide_eq_false (by omega) | exact decide_eq_false (by assumption) | (simp (disch := first | decide | omega) only [if_pos_d, if_neg_d, decide_eq_true_eq, Bool.not_eq_true', decide_eq_false_iff_not]; omega), ?_⟩
        (repeat (first | apply aw_seq | apply aw_block | apply aw_skip | apply aw_label | apply aw_exit | ((first | refine aw_region (hideO fun QQ hQQ => ?_) | refine aw_draw mixed (hideD fun QQ hQQ => ?_)); simp (maxSteps := 400000) (disch := first | decide | omega) only [hd, arr_eql, n1, n2, go_sem, ↓reduceIte]; try (first | with_reducible refine unhide hQQ ?_ | refine ⟨by kernel_rfl, unhide hQQ ?_⟩); clear hQQ QQ) | with_reducible first | apply then_n | apply block_n | apply then_x | apply then_r | apply nog_n | apply nog_r | apply block_r | apply block_e (by decide) | apply block_x (by decide)))
        refine aw_cond2 (by simp (disch := first | decide | omega) only [hd, arr_eql, n1, n2, go_sem, ↓reduceIte]; rfl) ?_; first | refine .inl ⟨by first | rfl | exact decide_eq_true (by omega) | exact decide_eq_true (by assumption) | (simp (disch := first | decide | omega) only [if_pos_d, if_neg_d, decide_eq_true_eq, Bool.not_eq_true', decide_eq_false_iff_not]; omega), ?_⟩ | refine .inr ⟨by first | rfl | exact decide_eq_false (by omega) | exact decide_eq_false (by assumption) | (simp (disch := first | decide | omega) only [if_pos_d, if_neg_d, decide_eq_true_eq, Bool.not_eq_true', decide_eq_false_iff_not]; omega), ?_⟩
        (repeat (first | apply aw_seq | apply aw_block | apply aw_skip | apply aw_label | apply aw_exit | ((first | refine aw_region (hideO fun QQ hQQ => ?_) | refine aw_draw mixed (hideD fun QQ hQQ => ?_)); simp (maxSteps := 400000) (disch := first | decide | omega) only [hd, arr_eql, n1, n2, go_sem, ↓reduceIte]; try (first | with_reducible refine unhide hQQ ?_ | refine ⟨by kernel_rfl, unhide hQQ ?_⟩); clear hQQ QQ) | with_reducible first | apply then_n | apply block_n | apply then_x | apply then_r | apply nog_n | apply nog_r | apply block_r | apply block_e (by decide) | apply block_x (by decide)))
        ((refine callO_ok rfl rfl 13 true rfl (by simp (disch := first | decide | omega) only [hd, arr_eql, n1, n2, go_sem, ↓reduceIte]; try rfl) (fun _ => rfl) (hal) Try.func13 rfl (by decide) ?_); simp (maxSteps := 400000) (disch := first | decide | omega) only [hd, arr_eql, n1, n2, go_sem, ↓reduceIte]; try (with_reducible refine unhide hQQ ?_; clear hQQ QQ)); (repeat (first | apply aw_seq | apply aw_block | apply aw_skip | apply aw_label | apply aw_exit | ((first | refine aw_region (hideO fun QQ hQQ => ?_) | refine aw_draw mixed (hideD fun QQ hQQ => ?_)); simp (maxSteps := 400000) (disch := first | decide | omega) only [hd, arr_eql, n1, n2, go_sem, ↓reduceIte]; try (first | with_reducible refine unhide hQQ ?_ | refine ⟨by kernel_rfl, unhide hQQ ?_⟩); clear hQQ QQ) | with_reducible first | apply then_n | apply block_n | apply then_x | apply then_r | apply nog_n | apply nog_r | apply block_r | apply block_e (by decide) | apply block_x (by decide)))
        refine aw_ret ?_; refine ⟨.inr rfl, ?_⟩; simp only [resA, res1, go_sem, ↓reduceIte]
end
end Go.Proofs.Ytknikcpeacmpmaa
