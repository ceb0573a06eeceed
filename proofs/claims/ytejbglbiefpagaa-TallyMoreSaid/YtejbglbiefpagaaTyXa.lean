/- THE LAW TallyMore, walked: its end. -/
import Derived.Test.YtejbglbiefpagaaTyF
import Derived.Test.YtejbglbiefpagaaTyC
import Derived.Test.YtejbglbiefpagaaTxH
import Derived.Test.YtejbglbiefpagaaKd
import Derived.Test.YtejbglbiefpagaaPvQ
set_option linter.all false
namespace Go.Proofs.Ytejbglbiefpagaa
open Go Go.RowKit Go.Sh Go.Pv
set_option maxHeartbeats 8000000
set_option maxRecDepth 8000
set_option pp.maxSteps 60000
theorem tmod_natX (a b : Nat) : ((a : Int).tmod (b : Int)) = ((a % b : Nat) : Int) := by
  rw [Int.tmod_eq_emod_of_nonneg (by omega)]; rfl
theorem call_in (a b c d a' b' c' d' : Int) (n : Nat) : peek Try.prog (Op.equalIn (n + 1 + 1 + 1) 29 (.agg #[.int .i64 a, .int .i64 b, .int .i64 c, .int .i64 d]) (.agg #[.int .i64 a', .int .i64 b', .int .i64 c', .int .i64 d'])) = some (a == a' && b == b' && (c == c' && d == d')) :=
  eqIn_three (T := 29) (f0 := fieldN Try.prog 29 0) (f1 := fieldN Try.prog 29 1) (f2 := fieldN Try.prog 29 2) (x2 := .agg #[.int .i64 c, .int .i64 d]) (y2 := .agg #[.int .i64 c', .int .i64 d']) (by kernel_rfl) (by kernel_rfl) (by kernel_rfl) (by kernel_rfl) (by kernel_rfl) (by kernel_rfl) (by kernel_rfl) (by kernel_rfl) (by kernel_rfl) (by kernel_rfl) (by kernel_rfl) (eqIn_int (k0 := .i64) (k := .i64) (by kernel_rfl)) (eqIn_int (k0 := .i64) (k := .i64) (by kernel_rfl)) (span_in c d c' d' n)
theorem call_neq (a b c d a' b' c' d' : Int) (x y : Operand) : binA Try.prog .neq 29 x y (.agg #[.int .i64 a, .int .i64 b, .int .i64 c, .int .i64 d]) (.agg #[.int .i64 a', .int .i64 b', .int .i64 c', .int .i64 d']) = some (.bool (!(a == a' && b == b' && (c == c' && d == d')))) := bin_ne_agg (by kernel_rfl) (call_in a b c d a' b' c' d' 9997) x y
theorem ok_in45 {a1 a2 b1 b2 : Int} (h1 : b1 ≤ a1) (h2 : a2 ≤ b2) : FunOK Try.prog 45 [.agg [iP a1, iP a2], .agg [iP b1, iP b2]] (.one (.one (.v (.bool true)))) := by
  refine fun_ok (nt := 17) (rs := [.tmp 4]) Try.func45 rfl rfl rfl (by simp) fun Z w0 => ?_; simp only [initFr, avR, List.map_cons, List.map_nil]
  refine tw ?_; try with_reducible intro QQ hQQ
  refine aw_ret ?_; refine ⟨.inr rfl, ?_⟩; simp only [resA, res1, go_sem, ↓reduceIte]
section
variable {n most : Int} {strays : List (Int × Int)} {calls : List (Int × Int × Int × Int)}
attribute [local go_sem] eql4 neq4 bne_tf bne_ft beq_tf beq_ft conv5' span_eql span_neq call_neq bin_rem min_eq max_eq row4 get_some4 rowsK_r4 rowsK_r1 rowsK_r2 rowsK_nil' rowsK_cons' not_isEmpty_nil Bool.false_or
/-- The calls, or one of them known better. -/
def YC (calls q : List (Int × Int × Int × Int)) : Prop := q = calls ∨ ∃ k c, k < calls.length ∧ q = calls.set k c ∧ c.1 = (calls.getD k (0, 0, 0, 0)).1 ∧ c.2.1 = (calls.getD k (0, 0, 0, 0)).2.1 ∧ (calls.getD k (0, 0, 0, 0)).2.2.1 ≤ c.2.2.1 ∧ c.2.2.2 ≤ (calls.getD k (0, 0, 0, 0)).2.2.2
theorem yc_ans {N i : Nat} {q : List (Int × Int × Int × Int)} (h : YC calls q) {a b d : Int × Int} {e few w hh : Int} {a' b' d' : Int × Int} {e' few' w' hh' : Int}
    (A : Ans N most strays calls i a b d e few w hh) (A' : Ans N most strays q i a' b' d' e' few' w' hh') :
    (e' = 0 ∨ e' = 10) ∧ (e' = 0 → e = 0 ∧ (a.1 ≤ a'.1 ∧ a'.2 ≤ a.2) ∧ (b.1 ≤ b'.1 ∧ b'.2 ≤ b.2) ∧ d.1 ≤ d'.1 ∧ d'.2 ≤ d.2) ∧ hh' = hh ∧ few ≤ few' := by
  rcases h with rfl | ⟨k, c, hk, rfl, hc⟩
  · exact more_same A A'
  · exact more_set hk hc A A'
theorem tok_set {N : Nat} (h : TOK N most strays calls) (k : Nat) {c : Int × Int × Int × Int} (hc : isCallB N c = true) : TOK N most strays (calls.set k c) := by
  refine ⟨h.n1, h.n5, h.m0, h.m60, h.sl, by rw [List.length_set]; exact h.cl, h.st, fun j hj => ?_⟩
  rw [List.length_set] at hj
  rw [List.getD_eq_getElem?_getD, List.getElem?_set]
  by_cases hkj : k = j
  · rw [if_pos hkj]
    by_cases hkl : k < calls.length
    · rw [if_pos hkl]; exact hc
    · omega
  · rw [if_neg hkj, ← List.getD_eq_getElem?_getD]; exact h.ca j hj
theorem yc_len {q : List (Int × Int × Int × Int)} (h : YC calls q) : q.length = calls.length := by
  rcases h with rfl | ⟨k, c, hk, rfl, hc⟩
  · rfl
  · simp
def mirQ (N : Nat) (l : List (Int × Int × Int × Int)) (k : Nat) : List (Int × Int × Int × Int) := (List.range k).map fun j => mirC N (l.getD (l.length - 1 - j) (0, 0, 0, 0))
def mirS (l : List (Int × Int)) (k : Nat) : List (Int × Int) := (List.range k).map fun j => (-(l.getD (l.length - 1 - j) (0, 0)).2, -(l.getD (l.length - 1 - j) (0, 0)).1)
theorem mirQ_len (N : Nat) (l : List (Int × Int × Int × Int)) (k : Nat) : (mirQ N l k).length = k := by simp [mirQ]
theorem mirS_len (l : List (Int × Int)) (k : Nat) : (mirS l k).length = k := by simp [mirS]
theorem mirQ_succ (N : Nat) (l : List (Int × Int × Int × Int)) (k : Nat) : mirQ N l (k + 1) = mirQ N l k ++ [mirC N (l.getD (l.length - 1 - k) (0, 0, 0, 0))] := by simp [mirQ, List.range_succ]
theorem mirS_succ (l : List (Int × Int)) (k : Nat) : mirS l (k + 1) = mirS l k ++ [(-(l.getD (l.length - 1 - k) (0, 0)).2, -(l.getD (l.length - 1 - k) (0, 0)).1)] := by simp [mirS, List.range_succ]
theorem mir_of (N : Nat) (strays : List (Int × Int)) (calls : List (Int × Int × Int × Int)) : Mir N strays calls (mirS strays strays.length) (mirQ N calls calls.length) := by
  refine ⟨mirS_len _ _, mirQ_len _ _ _, fun k hk => ?_, fun k hk => ?_⟩
  · rw [List.getD_eq_getElem?_getD]
    unfold mirS
    rw [List.getElem?_map, List.getElem?_range hk]; rfl
  · rw [List.getD_eq_getElem?_getD]
    unfold mirQ
    rw [List.getElem?_map, List.getElem?_range hk]; rfl
theorem ans_few {N i : Nat} (h : TOK N most strays calls) {a b d : Int × Int} {e few w hh : Int} (A : Ans N most strays calls i a b d e few w hh) : 0 ≤ few ∧ few ≤ 8 := by
  by_cases h0 : Feas N most strays calls 0
  · obtain ⟨_, wn, s, rfl, ho⟩ := A.fk h0
    have := popc_le h.cl ho.lt
    have := h.cl
    omega
  · have := A.fn h0
    omega
abbrev QT11 : Exit → St → Prop := fun e st => (e = .normal ∨ e = .ret) ∧ resA Try.prog st [.tmp 6] = some (.one (.one (.v (.bool true))))
theorem more_tail {N i : Nat} (c : Int × Int × Int × Int) {yc zc : List (Int × Int × Int × Int)} {zs : List (Int × Int)} {a b d : Int × Int} {e few ws hh : Int} (h : TOK N most strays calls) (hi : i < N) (hyT : TOK N most strays yc) (hyc : YC calls yc) (hz : Mir N strays calls zs zc) (A : Ans N most strays calls i a b d e few ws hh) (Z : Zn) (w0 : World) :
    AW ⟨Try.prog, Z, w0, fun _ => False, 411, none, noPan, none, [], true⟩ (rgtN 16 (fnCode Try.f11)) QT11 ⟨[(3, .one (.box 0 0)), (7, .one (.p (iP N))), (8, .one (.p (iP i))), (9, .one (.box 2 0)), (10, .one (.box 3 0)), (11, .one (.box 4 0)), (17, .one (.p (.sl (strays.map row2)))), (18, .one (.p (.sl (calls.map row4)))), (19, .one (.box 10 0)), (20, .one (.p (iP e))), (21, .one (.box 11 0)), (22, .one (.p (iP e))), (23, .one (.box 12 0)), (24, .one (.p (iP e))), (25, .one (.p (iP few))), (27, .one (.p (iP hh)))], [(0, .box [.p (iP N), .p (iP most), .p (.sl (strays.map row2)), .p (.sl (calls.map row4))]), (2, .box [.p (iP N), .p (iP most), .p (.sl (strays.map row2)), .p (.sl ((calls ++ [c]).map row4))]), (3, .box [.p (iP N), .p (iP most), .p (.sl (strays.map row2)), .p (.sl (yc.map row4))]), (4, .box [.p (iP N), .p (iP most), .p (.sl (zs.map row2)), .p (.sl (zc.map row4))]), (10, .box [.p (iP a.1), .p (iP a.2)]), (11, .box [.p (iP b.1), .p (iP b.2)]), (12, .box [.p (iP d.1), .p (iP d.2)])], 13⟩ := by
  have hal := ok_alive
  have n1 := h.n1
  have n5 := h.n5
  have hcl := h.cl
  have hsl := h.sl
  have hfb := ans_few h A
  have hT2 := tok_mir h hz
  obtain ⟨a2, b2, d2, e2, few2, ws2, hh2, A2⟩ := ans_of hT2 (i := N - 1 - i) (by omega)
  obtain ⟨rfl, rfl, rfl, rfl, rfl, rfl⟩ := more_mir h hz hi A A2
  have s14 := A2.q14
  have s16 := A2.q16
  have s20 := A2.q20
  have s24 := A2.q24
  clear A2
  simp only [tyR] at s14 s16 s20 s24
  conv => arg 2; whnf
  simp only [List.append_eq, List.cons_append, List.nil_append]
  refine tw ?_; try with_reducible intro QQ hQQ
  refine aw_weak (weak_keep [3, 7, 8, 11, 17, 18, 19, 20, 21, 22, 23, 24, 25, 27, 28, 208, 209, 210] (by simp only [go_sem, ↓reduceIte]; rfl)) ?_
  refine aw_loop_ov (ι := { j : Nat // j ≤ 2 }) (fun j => [(210, iA j.1)]) (fun _ => []) (fun j => 2 - j.1) ⟨0, by omega⟩ (by first | rfl | (simp only [go_sem, ↓reduceIte]; first | done | rfl | (simp; try rfl))) ?_
  rintro ⟨j, hj⟩
  simp (disch := decide) only [ov, ovL, AL.get_nil, AL.get_eq, AL.get_ne, Option.getD_some, Option.getD_none]
  by_cases hj2 : j < 2
  · clear s14 s16 s20 s24
    by_cases hj0 : j = 0
    · subst hj0
      have ht' := ok_Tally36 N most strays (calls ++ [c])
      simp only [tyR] at ht'
      cases hv : validB N most strays (calls ++ [c])
      · rw [hv] at ht'
        refine tw ?_; try with_reducible intro QQ hQQ
        refine ti ?_; try clear hQQ QQ
        refine tw ?_; try with_reducible intro QQ hQQ
        ((refine cO 36 rfl rfl rfl (ht') Try.func36 rfl ?_); refine tu ?_; try clear hQQ QQ); refine tw ?_; try with_reducible intro QQ hQQ
        refine ti ?_; try clear hQQ QQ
        refine tw ?_; try with_reducible intro QQ hQQ
        (refine ⟨⟨1, by omega⟩, ?_, weak_round (by simp only [go_sem, ↓reduceIte]; first | done | rfl) (by first | rfl | (simp only [go_sem, ↓reduceIte]))⟩; (simp only; omega))
      · rw [hv] at ht'
        obtain ⟨_, hT⟩ := tok_of hv
        rw [Int.toNat_natCast] at hT
        obtain ⟨a', b', d', e', few', ws', hh', A'⟩ := ans_of hT hi
        obtain ⟨⟨he, hin, rfl, hfew⟩, hfew1⟩ := more_one h hT A A'
        have r14 := A'.q14
        have r16 := A'.q16
        have r20 := A'.q20
        have r24 := A'.q24
        simp only [tyR] at r14 r16 r20 r24
        rcases he with rfl | rfl
        · obtain ⟨rfl, ja, jb, jd⟩ := hin rfl
          have i1 := ok_in45 ja.1 ja.2
          have i2 := ok_in45 jb.1 jb.2
          have i3 := ok_in45 jd.1 jd.2
          clear hin A A'
          refine tw ?_; try with_reducible intro QQ hQQ
          refine ti ?_; try clear hQQ QQ
          refine tw ?_; try with_reducible intro QQ hQQ
          ((refine cO 36 rfl rfl rfl (ht') Try.func36 rfl ?_); refine tu ?_; try clear hQQ QQ); refine tw ?_; try with_reducible intro QQ hQQ
          refine ti ?_; try clear hQQ QQ
          refine tw ?_; try with_reducible intro QQ hQQ
          ((refine cO 14 rfl rfl rfl (r14) Try.func14 rfl ?_); refine tu ?_; try clear hQQ QQ); refine tw ?_; try with_reducible intro QQ hQQ
          ((refine cO 16 rfl rfl rfl (r16) Try.func16 rfl ?_); refine tu ?_; try clear hQQ QQ); refine tw ?_; try with_reducible intro QQ hQQ
          ((refine cO 20 rfl rfl rfl (r20) Try.func20 rfl ?_); refine tu ?_; try clear hQQ QQ); refine tw ?_; try with_reducible intro QQ hQQ
          ((refine cO 24 rfl rfl rfl (r24) Try.func24 rfl ?_); refine tu ?_; try clear hQQ QQ); refine tw ?_; try with_reducible intro QQ hQQ
          (refine cO 45 rfl rfl rfl (i1) Try.func45 rfl ?_); refine ts ?_; try clear hQQ QQ
          (refine cO 45 rfl rfl rfl (i2) Try.func45 rfl ?_); refine ts ?_; try clear hQQ QQ
          ((refine cO 45 rfl rfl rfl (i3) Try.func45 rfl ?_); refine tu ?_; try clear hQQ QQ); refine tw ?_; try with_reducible intro QQ hQQ
          refine ti ?_; try clear hQQ QQ
          refine tw ?_; try with_reducible intro QQ hQQ
          (refine ⟨⟨1, by omega⟩, ?_, weak_round (by simp only [go_sem, ↓reduceIte]; first | done | rfl) (by first | rfl | (simp only [go_sem, ↓reduceIte]))⟩; (simp only; omega))
        · clear hin A A'
          refine tw ?_; try with_reducible intro QQ hQQ
          refine ti ?_; try clear hQQ QQ
          refine tw ?_; try with_reducible intro QQ hQQ
          ((refine cO 36 rfl rfl rfl (ht') Try.func36 rfl ?_); refine tu ?_; try clear hQQ QQ); refine tw ?_; try with_reducible intro QQ hQQ
          refine ti ?_; try clear hQQ QQ
          refine tw ?_; try with_reducible intro QQ hQQ
          ((refine cO 14 rfl rfl rfl (r14) Try.func14 rfl ?_); refine tu ?_; try clear hQQ QQ); refine tw ?_; try with_reducible intro QQ hQQ
          ((refine cO 16 rfl rfl rfl (r16) Try.func16 rfl ?_); refine tu ?_; try clear hQQ QQ); refine tw ?_; try with_reducible intro QQ hQQ
          ((refine cO 20 rfl rfl rfl (r20) Try.func20 rfl ?_); refine tu ?_; try clear hQQ QQ); refine tw ?_; try with_reducible intro QQ hQQ
          ((refine cO 24 rfl rfl rfl (r24) Try.func24 rfl ?_); refine tu ?_; try clear hQQ QQ); refine tw ?_; try with_reducible intro QQ hQQ
          refine ti ?_; try clear hQQ QQ
          refine tw ?_; try with_reducible intro QQ hQQ
          (refine ⟨⟨1, by omega⟩, ?_, weak_round (by simp only [go_sem, ↓reduceIte]; first | done | rfl) (by first | rfl | (simp only [go_sem, ↓reduceIte]))⟩; (simp only; omega))
    · have hj1 : j = 1 := by omega
      subst hj1
      have hT := hyT
      have ht' := ok_Tally36 N most strays yc
      rw [tok_to hT] at ht'
      simp only [tyR] at ht'
      obtain ⟨a', b', d', e', few', ws', hh', A'⟩ := ans_of hT hi
      obtain ⟨he, hin, rfl, hfew⟩ := yc_ans hyc A A'
      have r14 := A'.q14
      have r16 := A'.q16
      have r20 := A'.q20
      have r24 := A'.q24
      simp only [tyR] at r14 r16 r20 r24
      rcases he with rfl | rfl
      · obtain ⟨rfl, ja, jb, jd⟩ := hin rfl
        have i1 := ok_in45 ja.1 ja.2
        have i2 := ok_in45 jb.1 jb.2
        have i3 := ok_in45 jd.1 jd.2
        clear hin A A'
        refine tw ?_; try with_reducible intro QQ hQQ
        refine ti ?_; try clear hQQ QQ
        refine tw ?_; try with_reducible intro QQ hQQ
        ((refine cO 36 rfl rfl rfl (ht') Try.func36 rfl ?_); refine tu ?_; try clear hQQ QQ); refine tw ?_; try with_reducible intro QQ hQQ
        refine ti ?_; try clear hQQ QQ
        refine tw ?_; try with_reducible intro QQ hQQ
        ((refine cO 14 rfl rfl rfl (r14) Try.func14 rfl ?_); refine tu ?_; try clear hQQ QQ); refine tw ?_; try with_reducible intro QQ hQQ
        ((refine cO 16 rfl rfl rfl (r16) Try.func16 rfl ?_); refine tu ?_; try clear hQQ QQ); refine tw ?_; try with_reducible intro QQ hQQ
        ((refine cO 20 rfl rfl rfl (r20) Try.func20 rfl ?_); refine tu ?_; try clear hQQ QQ); refine tw ?_; try with_reducible intro QQ hQQ
        ((refine cO 24 rfl rfl rfl (r24) Try.func24 rfl ?_); refine tu ?_; try clear hQQ QQ); refine tw ?_; try with_reducible intro QQ hQQ
        (refine cO 45 rfl rfl rfl (i1) Try.func45 rfl ?_); refine ts ?_; try clear hQQ QQ
        (refine cO 45 rfl rfl rfl (i2) Try.func45 rfl ?_); refine ts ?_; try clear hQQ QQ
        ((refine cO 45 rfl rfl rfl (i3) Try.func45 rfl ?_); refine tu ?_; try clear hQQ QQ); refine tw ?_; try with_reducible intro QQ hQQ
        refine ti ?_; try clear hQQ QQ
        refine tw ?_; try with_reducible intro QQ hQQ
        (refine ⟨⟨2, by omega⟩, ?_, weak_round (by simp only [go_sem, ↓reduceIte]; first | done | rfl) (by first | rfl | (simp only [go_sem, ↓reduceIte]))⟩; (simp only; omega))
      · clear hin A A'
        refine tw ?_; try with_reducible intro QQ hQQ
        refine ti ?_; try clear hQQ QQ
        refine tw ?_; try with_reducible intro QQ hQQ
        ((refine cO 36 rfl rfl rfl (ht') Try.func36 rfl ?_); refine tu ?_; try clear hQQ QQ); refine tw ?_; try with_reducible intro QQ hQQ
        refine ti ?_; try clear hQQ QQ
        refine tw ?_; try with_reducible intro QQ hQQ
        ((refine cO 14 rfl rfl rfl (r14) Try.func14 rfl ?_); refine tu ?_; try clear hQQ QQ); refine tw ?_; try with_reducible intro QQ hQQ
        ((refine cO 16 rfl rfl rfl (r16) Try.func16 rfl ?_); refine tu ?_; try clear hQQ QQ); refine tw ?_; try with_reducible intro QQ hQQ
        ((refine cO 20 rfl rfl rfl (r20) Try.func20 rfl ?_); refine tu ?_; try clear hQQ QQ); refine tw ?_; try with_reducible intro QQ hQQ
        ((refine cO 24 rfl rfl rfl (r24) Try.func24 rfl ?_); refine tu ?_; try clear hQQ QQ); refine tw ?_; try with_reducible intro QQ hQQ
        refine ti ?_; try clear hQQ QQ
        refine tw ?_; try with_reducible intro QQ hQQ
        (refine ⟨⟨2, by omega⟩, ?_, weak_round (by simp only [go_sem, ↓reduceIte]; first | done | rfl) (by first | rfl | (simp only [go_sem, ↓reduceIte]))⟩; (simp only; omega))
  have hjN : j = 2 := by omega
  subst hjN
  clear A hyc
  refine tw ?_; try with_reducible intro QQ hQQ
  refine ti ?_; try clear hQQ QQ
  refine tw ?_; try with_reducible intro QQ hQQ
  ((refine cO 14 rfl rfl rfl (s14) Try.func14 rfl ?_); refine tu ?_; try clear hQQ QQ); refine tw ?_; try with_reducible intro QQ hQQ
  ((refine cO 16 rfl rfl rfl (s16) Try.func16 rfl ?_); refine tu ?_; try clear hQQ QQ); refine tw ?_; try with_reducible intro QQ hQQ
  ((refine cO 20 rfl rfl rfl (s20) Try.func20 rfl ?_); refine tu ?_; try clear hQQ QQ); refine tw ?_; try with_reducible intro QQ hQQ
  ((refine cO 24 rfl rfl rfl (s24) Try.func24 rfl ?_); refine tu ?_; try clear hQQ QQ); refine tw ?_; try with_reducible intro QQ hQQ
  refine ti ?_; try clear hQQ QQ
  refine tw ?_; try with_reducible intro QQ hQQ
  clear s14 s16 s20 s24
  refine aw_weak (weak_keep [3, 17, 18, 379, 380] (by simp only [go_sem, ↓reduceIte]; rfl)) ?_
  refine aw_loop_ov (ι := { k : Nat // k ≤ strays.length }) (fun k => [(380, iA k.1)]) (fun _ => []) (fun k => strays.length - k.1) ⟨0, by omega⟩ (by first | rfl | (simp only [go_sem, ↓reduceIte]; first | done | rfl | (simp; try rfl))) ?_
  rintro ⟨k, hk⟩
  simp (disch := decide) only [ov, ovL, AL.get_nil, AL.get_eq, AL.get_ne, Option.getD_some, Option.getD_none]
  by_cases hkl : k < strays.length
  · refine tw ?_; try with_reducible intro QQ hQQ
    refine ti ?_; try clear hQQ QQ
    refine tw ?_; try with_reducible intro QQ hQQ
    refine ti ?_; try clear hQQ QQ
    refine tw ?_; try with_reducible intro QQ hQQ
    (refine ⟨⟨k + 1, by omega⟩, ?_, weak_round (by simp only [go_sem, ↓reduceIte]; first | done | rfl) (by first | rfl | (simp only [go_sem, ↓reduceIte]))⟩; (simp only; omega))
  have hkN : k = strays.length := by omega
  subst hkN
  refine tw ?_; try with_reducible intro QQ hQQ
  refine ti ?_; try clear hQQ QQ
  refine tw ?_; try with_reducible intro QQ hQQ
  refine aw_weak (weak_keep [3, 18, 395, 396] (by simp only [go_sem, ↓reduceIte]; rfl)) ?_
  refine aw_loop_ov (ι := { k : Nat // k ≤ calls.length }) (fun k => [(396, iA k.1)]) (fun _ => []) (fun k => calls.length - k.1) ⟨0, by omega⟩ (by first | rfl | (simp only [go_sem, ↓reduceIte]; first | done | rfl | (simp; try rfl))) ?_
  rintro ⟨k, hk⟩
  simp (disch := decide) only [ov, ovL, AL.get_nil, AL.get_eq, AL.get_ne, Option.getD_some, Option.getD_none]
  by_cases hkl : k < calls.length
  · refine tw ?_; try with_reducible intro QQ hQQ
    refine ti ?_; try clear hQQ QQ
    refine tw ?_; try with_reducible intro QQ hQQ
    refine ti ?_; try clear hQQ QQ
    refine tw ?_; try with_reducible intro QQ hQQ
    (refine ⟨⟨k + 1, by omega⟩, ?_, weak_round (by simp only [go_sem, ↓reduceIte]; first | done | rfl) (by first | rfl | (simp only [go_sem, ↓reduceIte]))⟩; (simp only; omega))
  have hkN : k = calls.length := by omega
  subst hkN
  refine tw ?_; try with_reducible intro QQ hQQ
  refine ti ?_; try clear hQQ QQ
  refine tw ?_; try with_reducible intro QQ hQQ
  ((refine cO 13 rfl rfl rfl (hal) Try.func13 rfl ?_); refine tu ?_; try clear hQQ QQ); refine tw ?_; try with_reducible intro QQ hQQ
  refine aw_ret ?_; refine ⟨.inr rfl, ?_⟩; simp only [resA, res1, go_sem, ↓reduceIte]
end
end Go.Proofs.Ytejbglbiefpagaa
