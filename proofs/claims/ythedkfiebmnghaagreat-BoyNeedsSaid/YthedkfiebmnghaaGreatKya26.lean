/- Texts of the proof, joined. -/
import Derived.Test.YthedkfiebmnghaaGreatKya24
set_option linter.all false
set_option maxHeartbeats 16000000
set_option maxRecDepth 20000
namespace Go.Proofs.YthedkfiebmnghaaGreat
open Go Go.RowKit Go.Sh Go.Pv Go.By
theorem eqIn_arr3 (a b c x y z : Int) (n : Nat) : peek Tryz.prog (Op.equalIn (n + 1 + 1) 51 (.agg #[.int .i64 a, .int .i64 b, .int .i64 c]) (.agg #[.int .i64 x, .int .i64 y, .int .i64 z])) = some (a == x && b == y && c == z) := by
 have e : ∀ u v : Int, peek Tryz.prog (Op.equalIn (n + 1) 3 (.int .i64 u) (.int .i64 v)) = some (u == v) := fun u v => eqIn_int (k0 := .i64) (k := .i64) (by kernel_rfl)
 have hu : Tryz.prog.underlying 51 = some (.array 3 3) := by kernel_rfl
 have hz : ∀ w, (Go.sizeOf 3).run Tryz.prog w = .ok 1 w := fun w => by kernel_rfl
 have hp : peek Tryz.prog (Go.sizeOf 3) = some 1 := by kernel_rfl
 unfold Op.equalIn
 rw [peek_bind, peek_und hu, Option.bind_some]
 simp only [peek_bind, hp, Option.bind_some]
 have p0 : ∀ (u v w : Int), peek Tryz.prog (part 3 #[.int .i64 u, .int .i64 v, .int .i64 w] 0) = some (.int .i64 u) := fun _ _ _ => by kernel_rfl
 have p1 : ∀ (u v w : Int), peek Tryz.prog (part 3 #[.int .i64 u, .int .i64 v, .int .i64 w] 1) = some (.int .i64 v) := fun _ _ _ => by kernel_rfl
 have p2 : ∀ (u v w : Int), peek Tryz.prog (part 3 #[.int .i64 u, .int .i64 v, .int .i64 w] 2) = some (.int .i64 w) := fun _ _ _ => by kernel_rfl
 simp only [Std.Legacy.Range.forIn_eq_forIn_range', Std.Legacy.Range.size, Nat.sub_zero, Nat.add_sub_cancel, Nat.div_one, List.range', List.forIn_cons, List.forIn_nil, Nat.zero_mul, Nat.zero_add, Nat.one_mul, Nat.reduceAdd, Nat.reduceMul]
 by_cases h1 : a = x
 ·by_cases h2 : b = y
  ·by_cases h3 : c = z
   ·simp [peek_bind, p0, p1, p2, e, peek_pure, h1, h2, h3]
   ·simp [peek_bind, p0, p1, p2, e, peek_pure, h1, h2, h3]
  ·simp [peek_bind, p0, p1, p2, e, peek_pure, h1, h2]
 ·simp [peek_bind, p0, p1, p2, e, peek_pure, h1]
theorem eql_arr3 (a b c x y z : Int) (p q : Operand) : binA Tryz.prog .eql 51 p q (.agg #[.int .i64 a, .int .i64 b, .int .i64 c]) (.agg #[.int .i64 x, .int .i64 y, .int .i64 z]) = some (.bool (a == x && b == y && c == z)) := bin_eq_agg (by kernel_rfl) (eqIn_arr3 a b c x y z 9998) p q
attribute [go_sem] eql_arr3
section
variable {y : YD} {b : Nat}
theorem is_plan (h : YOK y) {p : List Nat} (hp : ∀ s ∈ p, s < y.S) : (((p.count 0 : Nat) : Int) == ((if 0 < y.S then y.n 0 else 0 : Nat) : Int) && ((p.count 1 : Nat) : Int) == ((if 1 < y.S then y.n 1 else 0 : Nat) : Int) && ((p.count 2 : Nat) : Int) == ((if 2 < y.S then y.n 2 else 0 : Nat) : Int)) = true ↔ IsPlan y.S y.n p := by
 have n3 := h.n3
 simp only [Bool.and_eq_true, beq_iff_eq, Int.natCast_inj]
 have h0 : ∀ s, ¬ s < y.S → p.count s = 0 := fun s hs => List.count_eq_zero.2 fun hm => hs (hp s hm)
 constructor
 ·rintro ⟨⟨e0, e1⟩, e2⟩
  refine ⟨hp, fun s hs => ?_⟩
  rcases (show s = 0 ∨ s = 1 ∨ s = 2 by omega) with rfl | rfl | rfl
  ·rw [e0, if_pos hs]
  ·rw [e1, if_pos hs]
  ·rw [e2, if_pos hs]
 ·intro hpl
  refine ⟨⟨?_, ?_⟩, ?_⟩
  all_goals
   split
   ·rename_i hs; exact hpl.2 _ hs
   ·rename_i hs; exact h0 _ hs
theorem s_planned (h : YOK y) {p : List Nat} (hp : ∀ s ∈ p, s < y.S) (hl : p.length ≤ 100000) (hpl : IsPlan y.S y.n p) : FunS Tryz.prog 56 [.one (.box 0 0), .one (.p (.sl (p.map rowN)))] (YF y b) 2 (.one (.one (.sl (p.map rowN)))) := by
 have his := (is_plan h hp).2 hpl
 have hm := ok_ask 6
 have hn3 := h.n3
 have hmem : ∀ i, i < p.length → p.getD i 0 < 3 := fun i hi => by have := hp _ (mem_of_getD (d := 0) hi); omega
 have hll : (p.map rowN).length = p.length := List.length_map _
 have hleft := s_left (b := b) h
 have hcl : ∀ i s, i ≤ p.length → cntP p i s ≤ 100000 := fun i s hi => by
  have : cntP p i s ≤ (p.take i).length := List.count_le_length
  rw [List.length_take] at this
  omega
 have hcp : (fun s => ((cntP p p.length s : Nat) : Int)) = fun s => ((p.count s : Nat) : Int) := by funext s; unfold cntP; rw [List.take_length]
 unfold YF YH at hleft ⊢
 refine funS_ok (nt := 24) (rs := [.tmp 4]) Tryz.func56 rfl rfl rfl (by simp) fun Z w0 cap pan dk tm => ?_; refine tV ?_
 refine tw fun QQ hQQ => ?_
 refine callS_ok rfl rfl 61 qN qN Tryz.func61 rfl (by decide) (CallF.mono c_trips ?_)
 rintro _ _ ⟨rfl, rfl⟩
 (refine ts ?_; clear hQQ QQ)
 refine tw ?_
 rw [arr3]
 refine aw_weak (weak_restrict [0, 1, 4, 5, 9] [5, 3, 2, 1, 0] 6 (by simp only [go_sem, ↓reduceIte]; rfl)) ?_
 refine aw_rangeFunc (nt := 29) rfl rfl (by simp (disch := first | decide | omega) only [go_sem, ↓reduceIte]; rfl) Tryz.func95 rfl (by decide) rfl rfl (by decide) fun r bb tm2 Ds2 hr1 hr1p hr2 hr3 hr4 hr5 hr6 hr7 => ?_
 dsimp only [Kx.iter] at hr5 hr7 ⊢
 refine aw_scope rfl ?_
 refine tw ?_
 rw [arr3]
 have hz0 : arrA 3 (fun _ => 0) = arrA 3 fun s => ((cntP p 0 s : Nat) : Int) := arrA_congr fun i _ => by simp [cntP]
 rw [hz0]
 refine aw_weak (weak_restrict [0, 3, 7, 8, 9] [8, 7, 6, 5, 3, 2, 1, 0] 9 (by simp only [go_sem, ↓reduceIte]; rfl)) ?_
 refine aw_loop_ov (ι := { i : Nat // i ≤ p.length }) (fun i => [(9, iA i.1)]) (fun i => [(8, .box (arrA 3 fun s => ((cntP p i.1 s : Nat) : Int))), (3, .box (arrA 3 fun s => ((cntP p i.1 s : Nat) : Int)))]) (fun i => p.length - i.1) ⟨0, by omega⟩ (by first | rfl | (simp only [go_sem, ↓reduceIte]; first | done | rfl | (simp; try rfl))) ?_
 rintro ⟨i, hi⟩
 refine tO ?_
 by_cases hil : i < p.length
 ·have hg := rowN_get hil
  have m3 := hmem i hil
  have hcs := fun s => cntP_succ hil s
  have hk := hcl i (p.getD i 0) hi
  have hup : updF (fun s => ((cntP p i s : Nat) : Int)) (p.getD i 0) (((cntP p i (p.getD i 0) : Nat) : Int) + 1) = fun s => ((cntP p (i + 1) s : Nat) : Int) := by
   funext s
   unfold updF
   rw [hcs s]
   by_cases e : s = p.getD i 0
   ·rw [if_pos e, if_pos e, e]; rfl
   ·rw [if_neg e, if_neg e]; rfl
  clear hcs hcl hmem
  generalize hsd : p.getD i 0 = sd at *
  generalize hkd : cntP p i sd = kd at *
  try clear hF
  have hF := And.intro hg (And.intro hll (And.intro hkd (hup)))
  refine twF ?_
  refine tiF ?_
  refine twF fun QQ hQQ => ?_
  refine ⟨rfl, .inr ⟨rfl, callS_yield (L := 7) (C := 6) (avs := [.one (.p (iP (i : Int))), .agg [.p (iP (sd : Int)), .p (iP (kd : Int))]]) rfl rfl qF qF qF hr1 qF hr6 (by rw [hr5]; exact fun t av ht => hr7 t av ht |> fun h => by rw [hr5] at h; exact h) (by rw [hr2]; rfl) ?_ fun Ds tmi => ?_⟩⟩
  ·intro t ht
   rw [hr2] at ht
   rw [hr5]
   simp only [List.mem_cons, List.mem_nil_iff, or_false] at ht
   rcases ht with rfl | rfl <;> decide
  obtain ⟨rB, hrB⟩ : ∃ rB, ({ r with state := .busy } : Loop) = rB := ⟨_, rfl⟩
  rw [hrB, hr2, hr3, hr4, hr5]
  have hrr : ({ rB with state := .ready, pending := none } : Loop) = r := by
   rw [← hrB]
   cases r
   dsimp only at hr1 hr1p
   subst hr1 hr1p
   rfl
  simp only [Kx.round, setPs]
  refine twF ?_
  refine ⟨rfl, by simp (disch := first | decide | omega) only [hF, go_sem, ↓reduceIte], ?_⟩
  refine twF ?_
  refine ⟨qF, none, .inl ⟨rfl, rfl⟩, rB, qF, ?_⟩
  have hin : (none : Option Code).isNone = true := rfl
  try clear hF
  have hF := And.intro hg (And.intro hll (And.intro hkd (And.intro hup (And.intro hin (hrr)))))
  (refine tsF ?_; clear hQQ QQ)
  refine twF ?_
  refine tiF ?_
  refine twF ?_
  refine ⟨⟨i + 1, by omega⟩, ?_, weak_round ?_ (by first | rfl | (simp only [hF, go_sem, ↓reduceIte]))⟩
  rotate_left
  ·(simp only [hF, go_sem, ↓reduceIte]; try rfl)
  ·simp only; omega
 ·have hie : i = p.length := by omega
  subst hie
  rw [hcp]
  try clear hF
  have hF := hll
  refine twF ?_
  refine tiF ?_
  refine twF ?_
  refine ⟨.inl rfl, qF, r, qF, by rw [hr1]; decide, ?_⟩
  rw [hr1p]
  (repeat (first | with_reducible refine then_n ?_ | with_reducible refine block_n ?_))
  have hcp2 : ∀ s, p.count s ≤ 100000 := fun s => by have := List.count_le_length (a := s) (l := p); omega
  clear hcl hcp hmem
  try clear hF
  have hF := his
  refine twF fun QQ hQQ => ?_
  (refine callD_R [0, 1] (hleft) rfl rfl qF qF Tryz.func51 rfl (by decide) (by rfl) qAF (by decide) (by decide) qCF ?_); refine tdF ?_
  (refine cDF 46 rfl rfl rfl (hm) Tryz.func46 rfl ?_); refine tdF ?_; clear hQQ QQ
  refine twF ?_
  (refine aw_ret ⟨.inr rfl, qMF, qMF, qVF⟩)
theorem sx_planned (h : YOK y) {p : List Nat} (hp : ∀ s ∈ p, s < y.S) (hl : p.length ≤ 100000) (hpl : ¬ IsPlan y.S y.n p) : FunSX Tryz.prog 56 [.one (.box 0 0), .one (.p (.sl (p.map rowN)))] (YF y b) 2 (stopV 6) := by
 have his := Bool.eq_false_iff.2 (fun hh => hpl ((is_plan h hp).1 hh))
 have hx := x_ask 6
 have hn3 := h.n3
 have hmem : ∀ i, i < p.length → p.getD i 0 < 3 := fun i hi => by have := hp _ (mem_of_getD (d := 0) hi); omega
 have hll : (p.map rowN).length = p.length := List.length_map _
 have hleft := s_left (b := b) h
 have hcl : ∀ i s, i ≤ p.length → cntP p i s ≤ 100000 := fun i s hi => by
  have : cntP p i s ≤ (p.take i).length := List.count_le_length
  rw [List.length_take] at this
  omega
 have hcp : (fun s => ((cntP p p.length s : Nat) : Int)) = fun s => ((p.count s : Nat) : Int) := by funext s; unfold cntP; rw [List.take_length]
 unfold YF YH at hleft ⊢
 refine funSX_ok (nt := 24) Tryz.func56 rfl rfl (by simp) fun Z w0 cap dk tm => ?_; refine tV ?_
 refine tw fun QQ hQQ => ?_
 refine callS_ok rfl rfl 61 qN qN Tryz.func61 rfl (by decide) (CallF.mono c_trips ?_)
 rintro _ _ ⟨rfl, rfl⟩
 (refine ts ?_; clear hQQ QQ)
 refine tw ?_
 rw [arr3]
 refine aw_weak (weak_restrict [0, 1, 4, 5, 9] [5, 3, 2, 1, 0] 6 (by simp only [go_sem, ↓reduceIte]; rfl)) ?_
 refine aw_rangeFunc (nt := 29) rfl rfl (by simp (disch := first | decide | omega) only [go_sem, ↓reduceIte]; rfl) Tryz.func95 rfl (by decide) rfl rfl (by decide) fun r bb tm2 Ds2 hr1 hr1p hr2 hr3 hr4 hr5 hr6 hr7 => ?_
 dsimp only [Kx.iter] at hr5 hr7 ⊢
 refine aw_scope rfl ?_
 refine tw ?_
 rw [arr3]
 have hz0 : arrA 3 (fun _ => 0) = arrA 3 fun s => ((cntP p 0 s : Nat) : Int) := arrA_congr fun i _ => by simp [cntP]
 rw [hz0]
 refine aw_weak (weak_restrict [0, 3, 7, 8, 9] [8, 7, 6, 5, 3, 2, 1, 0] 9 (by simp only [go_sem, ↓reduceIte]; rfl)) ?_
 refine aw_loop_ov (ι := { i : Nat // i ≤ p.length }) (fun i => [(9, iA i.1)]) (fun i => [(8, .box (arrA 3 fun s => ((cntP p i.1 s : Nat) : Int))), (3, .box (arrA 3 fun s => ((cntP p i.1 s : Nat) : Int)))]) (fun i => p.length - i.1) ⟨0, by omega⟩ (by first | rfl | (simp only [go_sem, ↓reduceIte]; first | done | rfl | (simp; try rfl))) ?_
 rintro ⟨i, hi⟩
 refine tO ?_
 by_cases hil : i < p.length
 ·have hg := rowN_get hil
  have m3 := hmem i hil
  have hcs := fun s => cntP_succ hil s
  have hk := hcl i (p.getD i 0) hi
  have hup : updF (fun s => ((cntP p i s : Nat) : Int)) (p.getD i 0) (((cntP p i (p.getD i 0) : Nat) : Int) + 1) = fun s => ((cntP p (i + 1) s : Nat) : Int) := by
   funext s
   unfold updF
   rw [hcs s]
   by_cases e : s = p.getD i 0
   ·rw [if_pos e, if_pos e, e]; rfl
   ·rw [if_neg e, if_neg e]; rfl
  clear hcs hcl hmem
  generalize hsd : p.getD i 0 = sd at *
  generalize hkd : cntP p i sd = kd at *
  try clear hF
  have hF := And.intro hg (And.intro hll (And.intro hkd (hup)))
  refine twF ?_
  refine tiF ?_
  refine twF fun QQ hQQ => ?_
  refine ⟨rfl, .inr ⟨rfl, callS_yield (L := 7) (C := 6) (avs := [.one (.p (iP (i : Int))), .agg [.p (iP (sd : Int)), .p (iP (kd : Int))]]) rfl rfl qF qF qF hr1 qF hr6 (by rw [hr5]; exact fun t av ht => hr7 t av ht |> fun h => by rw [hr5] at h; exact h) (by rw [hr2]; rfl) ?_ fun Ds tmi => ?_⟩⟩
  ·intro t ht
   rw [hr2] at ht
   rw [hr5]
   simp only [List.mem_cons, List.mem_nil_iff, or_false] at ht
   rcases ht with rfl | rfl <;> decide
  obtain ⟨rB, hrB⟩ : ∃ rB, ({ r with state := .busy } : Loop) = rB := ⟨_, rfl⟩
  rw [hrB, hr2, hr3, hr4, hr5]
  have hrr : ({ rB with state := .ready, pending := none } : Loop) = r := by
   rw [← hrB]
   cases r
   dsimp only at hr1 hr1p
   subst hr1 hr1p
   rfl
  simp only [Kx.round, setPs]
  refine twF ?_
  refine ⟨rfl, by simp (disch := first | decide | omega) only [hF, go_sem, ↓reduceIte], ?_⟩
  refine twF ?_
  refine ⟨qF, none, .inl ⟨rfl, rfl⟩, rB, qF, ?_⟩
  have hin : (none : Option Code).isNone = true := rfl
  try clear hF
  have hF := And.intro hg (And.intro hll (And.intro hkd (And.intro hup (And.intro hin (hrr)))))
  (refine tsF ?_; clear hQQ QQ)
  refine twF ?_
  refine tiF ?_
  refine twF ?_
  refine ⟨⟨i + 1, by omega⟩, ?_, weak_round ?_ (by first | rfl | (simp only [hF, go_sem, ↓reduceIte]))⟩
  rotate_left
  ·(simp only [hF, go_sem, ↓reduceIte]; try rfl)
  ·simp only; omega
 ·have hie : i = p.length := by omega
  subst hie
  rw [hcp]
  try clear hF
  have hF := hll
  refine twF ?_
  refine tiF ?_
  refine twF ?_
  refine ⟨.inl rfl, qF, r, qF, by rw [hr1]; decide, ?_⟩
  rw [hr1p]
  (repeat (first | with_reducible refine then_n ?_ | with_reducible refine block_n ?_))
  have hcp2 : ∀ s, p.count s ≤ 100000 := fun s => by have := List.count_le_length (a := s) (l := p); omega
  clear hcl hcp hmem
  try clear hF
  have hF := his
  refine twF fun QQ hQQ => ?_
  (refine callD_R [0, 1] (hleft) rfl rfl qF qF Tryz.func51 rfl (by decide) (by rfl) qAF (by decide) (by decide) qCF ?_); refine tdF ?_
  refine callD_X rfl rfl 46 qF qF Tryz.func46 rfl (by decide) (hx) ?_ ?_; rotate_left; ((repeat (first | refine evDead_skip (by rfl) ?_ | (refine evDead_step (by rfl) qMF qMF ?_; simp (maxSteps := 400000) (disch := first | decide | omega) only [hF, go_sem, ↓reduceIte]))); (try (show okDraw _ _ = true)); kernel_rfl); intro fr hk
  refine ⟨rfl, by simp (disch := first | decide | omega) only [hF, go_sem, ↓reduceIte], ?_⟩
  simp only [List.mem_cons, List.mem_nil_iff, forall_eq_or_imp, forall_eq, false_imp_iff, implies_true, or_false, and_true]
  simp (disch := first | decide | omega) only [hF, go_sem, ↓reduceIte]
end
theorem relR_pace {T : Nat} : ∀ (Z : Nat → Nat → Prop) (w : World), RelR Z w (.agg [iP (T : Int)]) (.agg #[.int .i64 (T : Int)]) := by
 intro Z w
 refine ⟨_, rfl, rfl, fun j c hj => ?_⟩
 rcases j with _ | j
 ·simp at hj; subst hj; exact ⟨_, rfl, .v _ rfl⟩
 ·simp at hj
theorem relR_later {T n : Nat} : ∀ (Z : Nat → Nat → Prop) (w : World), RelR Z w (.agg [iP (T : Int), iP (n : Int)]) (.agg #[.int .i64 (T : Int), .int .i64 (n : Int)]) := by
 intro Z w
 refine ⟨_, rfl, rfl, fun j c hj => ?_⟩
 rcases j with _ | _ | j
 ·simp at hj; subst hj; exact ⟨_, rfl, .v _ rfl⟩
 ·simp at hj; subst hj; exact ⟨_, rfl, .v _ rfl⟩
 ·simp at hj
theorem latesG_pace (T : Int) : ∀ (l : List Int) (o : Nat), latesG (fun d i => ((i + 1 : Nat) : Int) * T - d) o l = latesI T o l
 | [], _ => rfl
 | d :: l, o => by show _ :: latesG _ (o + 1) l = _; rw [latesG_pace T l]; rfl
theorem latesG_later (T b : Int) : ∀ (l : List Int) (o : Nat), latesG (fun d i => ((i + 1 : Nat) : Int) * T - d + b) o l = (latesI T o l).map (· + b)
 | [], _ => rfl
 | d :: l, o => by show _ :: latesG _ (o + 1) l = _; rw [latesG_later T b l]; rfl
section
variable {y : YD} {b : Nat}
theorem s_overP (h : YOK y) {p : List Nat} (hp : IsPlan y.S y.n p) (T : Nat) (hT : T ≤ 100) :
  FunS Tryz.prog 71 [.one (.box 0 0), .one (.p (.sl (p.map rowN))), .one (.p (.v (paceV T)))] (YF y b) 2 (.one (.one (iP (overS y.D (T : Int) p)))) := by
 have h1 := s_over (b := b) h hp (Tid := 106) (v := .agg #[.int .i64 (T : Int)]) (rv := .agg #[.int .i64 (T : Int)]) (fid := 170) (fn := Tryz.f170) (r0 := .agg [iP (T : Int)]) (g := fun d i => ((i + 1 : Nat) : Int) * (T : Int) - d)
  (fun _ => by kernel_rfl) (by kernel_rfl) relR_pace rfl rfl (by decide) fun d i hd hi => ok_after170 T hT d (by omega) i (by omega)
 rw [latesG_pace] at h1
 exact h1
theorem s_overL (h : YOK y) {p : List Nat} (hp : IsPlan y.S y.n p) (T n : Nat) (hT : T ≤ 100) (hn : n ≤ 2000) :
  FunS Tryz.prog 71 [.one (.box 0 0), .one (.p (.sl (p.map rowN))), .one (.p (.v (laterV T n)))] (YF y b) 2 (.one (.one (iP (overL y.D (T : Int) (n : Int) p)))) := by
 have h1 := s_over (b := b) h hp (Tid := 110) (v := .agg #[.int .i64 (T : Int), .int .i64 (n : Int)]) (rv := .agg #[.int .i64 (T : Int), .int .i64 (n : Int)]) (fid := 171) (fn := Tryz.f171) (r0 := .agg [iP (T : Int), iP (n : Int)]) (g := fun d i => ((i + 1 : Nat) : Int) * (T : Int) - d + (n : Int))
  (fun _ => by kernel_rfl) (by kernel_rfl) relR_later rfl rfl (by decide) fun d i hd hi => ok_after171 T n hT hn d (by omega) i (by omega)
 rw [latesG_later] at h1
 exact h1
theorem s_pace (h : YOK y) : FunS Tryz.prog 62 [.one (.box 0 0)] (YF y b) 2 (.one (.one (.v (paceV y.T)))) := by
 have ht := h.t60
 unfold YF YH
 refine funS_ok (nt := 10) (rs := [.tmp 2]) Tryz.func62 rfl rfl rfl (by simp) fun Z w0 cap pan dk tm => ?_; refine tV ?_
 refine tw ?_
 (refine aw_ret ⟨.inr rfl, qMN, qMN, qVN⟩)
theorem over_rng (h : YOK y) {p : List Nat} (hp : IsPlan y.S y.n p) {T : Nat} (hT : T ≤ 100) : -1000 ≤ overS y.D (T : Int) p ∧ overS y.D (T : Int) p ≤ 100000 := by
 refine ⟨over_ge _ _ _, ?_⟩
 unfold overS
 rw [maxL_le]
 refine ⟨by omega, fun x hx => ?_⟩
 obtain ⟨i, hi, e⟩ := List.mem_iff_getElem.1 hx
 rw [latesI_len, dseq_len] at hi
 have hl := plan_len h hp
 have h2 := latesI_get (T : Int) (dseq y.D (fun _ => 0) p) 0 i (by rw [dseq_len]; exact hi)
 rw [List.getElem?_eq_getElem (by rw [latesI_len, dseq_len]; exact hi), e, Option.some.injEq, Nat.zero_add] at h2
 have h3 : (dseq y.D (fun _ => 0) p)[i]'(by rw [dseq_len]; exact hi) = (y.D (p.getD i 0)).getD (cntP p i (p.getD i 0)) 0 := by
  have h4 := dseq_take y.D hi
  have h5 : (dseq y.D (fun _ => 0) p).take (i + 1) = dseq y.D (fun _ => 0) (p.take (i + 1)) := by
   have : dseq y.D (fun _ => 0) p = dseq y.D (fun _ => 0) (p.take (i + 1) ++ p.drop (i + 1)) := by rw [List.take_append_drop]
   rw [this, dseq_append]
   have hle : (dseq y.D (fun _ => 0) (p.take (i + 1))).length = i + 1 := by rw [dseq_len, List.length_take]; omega
   exact List.take_left' hle
  have h6 : (dseq y.D (fun _ => 0) p)[i]? = ((dseq y.D (fun _ => 0) p).take (i + 1))[i]? := by rw [List.getElem?_take_of_lt (by omega)]
  rw [h5, h4] at h6
  have hle : (dseq y.D (fun _ => 0) (p.take i)).length = i := by rw [dseq_len, List.length_take]; omega
  rw [List.getElem?_append_right (by omega), hle, Nat.sub_self, List.getElem?_eq_getElem (by rw [dseq_len]; exact hi)] at h6
  simpa using h6
 rw [h3] at h2
 have hlt := cntP_lt hi
 have hm : p.getD i 0 < y.S := hp.1 _ (mem_of_getD (d := 0) hi)
 rw [hp.2 _ hm] at hlt
 have hd := D_rng h hm hlt
 have h7 : (i + 1) * T ≤ 49 * 100 := Nat.mul_le_mul (by omega) hT
 have h8 : ((i + 1 : Nat) : Int) * (T : Int) = (((i + 1) * T : Nat) : Int) := by push_cast; rfl
 rw [h8] at h2
 omega
theorem s_waits (h : YOK y) {p : List Nat} (hp : IsPlan y.S y.n p) : FunS Tryz.prog 55 [.one (.box 0 0), .one (.p (.sl (p.map rowN)))] (YF y b) 2 (.one (.one (iP (waitsS y.D (y.T : Int) p)))) := by
 have ht := h.t60
 have h1 := s_pace (b := b) h
 have h2 := s_overP (b := b) h hp y.T (by omega)
 obtain ⟨h3, h4⟩ := over_rng h hp (T := y.T) (by omega)
 unfold waitsS
 generalize overS y.D (y.T : Int) p = ov' at *
 rw [show max 0 ov' = if ov' > 0 then ov' else 0 by split <;> omega]
 unfold YF YH at h1 h2 ⊢
 refine funS_ok (nt := 11) (rs := [.tmp 4]) Tryz.func55 rfl rfl rfl (by simp) fun Z w0 cap pan dk tm => ?_; refine tV ?_
 refine tw fun QQ hQQ => ?_
 (refine callO_S [0, 1] (h1) rfl rfl qN qN Tryz.func62 rfl (by decide) (by rfl) qAN (by decide) (by decide) qCN ?_); refine ts ?_
 (refine callO_S [0, 1] (h2) rfl rfl qN qN Tryz.func71 rfl (by decide) (by rfl) qAN (by decide) (by decide) qCN ?_); refine ts ?_; clear hQQ QQ
 refine tw ?_
 (refine aw_ret ⟨.inr rfl, qMN, qMN, qVN⟩)
end
end Go.Proofs.YthedkfiebmnghaaGreat
