/- tally: spans that are told. -/
import Derived.Test.YtejbglbiefpagaaTvH
set_option linter.all false
namespace Go.Proofs.Ytejbglbiefpagaa
open Go Go.RowKit Go.Sh Go.Pv
set_option maxHeartbeats 8000000
set_option maxRecDepth 20000
attribute [local go_sem] spanR row4
section
variable {n most : Int} {strays : List (Int × Int)} {calls : List (Int × Int × Int × Int)}
/-- A question asked of a yard, by a closure that has captured one box. -/
theorem is_box1 {F : Nat → Nat → Nat → Int} {g : FuncId} {i : Int} {b : Bool} (hS : FunS Try.prog g [.one (.box 0 0), .one (.box 2 0)] ((2, .box [.p (iP i)]) :: ydH n most strays calls (keepI F) Try.prog) 3 (.one (.one (.v (.bool b)))))
    {hp : List (Nat × Obj')} {nx c : Nat} (hc : AL.get hp c = some (.box [.p (iP i)])) (hcl : c < nx) (K : Kx) (hpX : List (Nat × Obj')) (nxX : Nat) (fr : List (Nat × AV)) (hK : K.P = Try.prog) (h3 : AL.get hpX (nx + 1 + 1 + 1) = some (.box (ydC n most strays calls (nx + 1 + 1))))
    (h2 : AL.get hpX (nx + 1 + 1) = some (.memo Try.prog 135 (keepI F))) (hx : ∀ id o, id < nx → AL.get hp id = some o → AL.get hpX id = some o) :
    CallF K g ([.one (.box (nx + 1 + 1 + 1) 0)] ++ [CC.box c].map capV) ⟨fr, hpX, nxX⟩ fun st' av => st' = ⟨fr, hpX, nxX⟩ ∧ av = .one (.p (.v (.bool b))) :=
  callF_S (hp := (2, .box [.p (iP i)]) :: ydH n most strays calls (keepI F) Try.prog) (avs0 := [.one (.box 0 0), .one (.box 2 0)]) (nx := 3) [nx + 1 + 1 + 1, nx + 1 + 1, c] (by rw [hK]; exact hS) rfl (show _ ∧ _ ∧ _ ∧ True from ⟨hx c _ hcl hc, h2, h3, trivial⟩) (by simp; omega) (by simp) rfl
theorem s_is49 (F : Nat → Nat → Nat → Int) (hn : -1000 ≤ n ∧ n ≤ 1000) (i : Int) : FunS Try.prog 49 [.one (.box 0 0), .one (.box 2 0)] ((2, .box [.p (iP i)]) :: ydH n most strays calls (keepI F) Try.prog) 3 (.one (.one (.v (.bool (inB i 0 (n - 1)))))) := by
  have h := ok_isShearer n most strays calls i hn
  simp only [ydP] at h
  unfold ydH ydC
  refine funS_ok (nt := 7) (rs := [.tmp 3]) Try.func49 rfl rfl rfl (by simp) fun Z w0 cap pan dk tm => ?_; simp only [initV, pins, pinOf, List.map_cons, List.map_nil]
  refine tw ?_; try with_reducible intro QQ hQQ
  ((refine cO 50 rfl rfl rfl (h) Try.func50 rfl ?_); refine tu ?_; try clear hQQ QQ); refine tw ?_; try with_reducible intro QQ hQQ
  (refine aw_ret ⟨.inr rfl, (by simp (maxSteps := 400000) (disch := first | decide | omega) only [go_sem, ↓reduceIte]; try rfl), (by simp (maxSteps := 400000) (disch := first | decide | omega) only [go_sem, ↓reduceIte]; try rfl), (by simp only [List.mem_cons, List.mem_nil_iff, forall_eq_or_imp, forall_eq, false_imp_iff, implies_true, or_false, and_true]; simp (maxSteps := 400000) (disch := first | decide | omega) only [go_sem, ↓reduceIte]; try exact ⟨rfl, rfl⟩)⟩)
theorem valid_n (h : validB n most strays calls = true) : 1 ≤ n ∧ n ≤ 5 := by
  simp only [validB, inB, Bool.and_eq_true, decide_eq_true_eq] at h
  exact h.1.1.1.1.1
/-- What is answered: an error's code, or a span. -/
def ansR (e : Int) (r : Int × Int) : RR := .tup [.agg [iP (if e = 0 then r.1 else 0), iP (if e = 0 then r.2 else 0)], .one (iP e)]
/-- Why it is not told. -/
def whyE (n most : Int) (strays : List (Int × Int)) (calls : List (Int × Int × Int × Int)) (b : Bool) : Int :=
  if validB n most strays calls = false then 1 else if b = false then 2 else if canB (tabF n.toNat most strays calls (2 ^ calls.length - 1)) 11 = false then 10 else 0
def tabE (n most : Int) (strays : List (Int × Int)) (calls : List (Int × Int × Int × Int)) : Nat → Nat → Int := tabF n.toNat most strays calls (2 ^ calls.length - 1)
def shornS (n most : Int) (strays : List (Int × Int)) (calls : List (Int × Int × Int × Int)) (i : Int) : Int × Int := (-(tabE n most strays calls i.toNat (i.toNat + 1)), tabE n most strays calls (i.toNat + 1) i.toNat)
/-- What is answered: an error's code, or a number. -/
def ansN (e : Int) (r : Int) : RR := .tup [.one (iP (if e = 0 then r else 0)), .one (iP e)]
theorem c_open_arg {Z : Zn} {w0 : World} {cap : Nat → Prop} {nt : Nat} {rd : Option Nat} {pan : List PanicEntry → St → Prop} {df : Option Nat} {dk : List Nat} {rg : Bool} {fr : List (Nat × AV)} {hp : List (Nat × Obj')} {nx : Nat} {g : FuncId} {caps : List CC} {gn : Func}
    (hv : validB n most strays calls = false) (hg : Try.prog.funcs[g]? = some gn) (hgb : gn.body.isSome = true) (hgn : gn.name ≠ "runtime.NumGoroutine") (hp1 : pan [{ v := stopV 1, recovered := false }] ⟨fr, hp, nx⟩) :
    CallF ⟨Try.prog, Z, w0, cap, nt, rd, pan, df, dk, rg⟩ 48 [.agg [.p (iP n), .p (iP most), .p (.sl (strays.map row2)), .p (.sl (calls.map row4))], .one (.fn g caps)] ⟨fr, hp, nx⟩ fun _ _ => False :=
  c_open hg hgb hgn true (fun h => by rw [hv] at h; cases h) (fun h => by rw [hv] at h; cases h) (fun _ => hp1) (fun h => by rw [hv] at h; cases h)
theorem c_open_ok {N : Nat} {Z : Zn} {w0 : World} {cap : Nat → Prop} {nt : Nat} {rd : Option Nat} {pan : List PanicEntry → St → Prop} {df : Option Nat} {dk : List Nat} {rg : Bool} {fr : List (Nat × AV)} {hp : List (Nat × Obj')} {nx : Nat} {g : FuncId} {caps : List CC} {gn : Func}
    (h : TOK N most strays calls) (hg : Try.prog.funcs[g]? = some gn) (hgb : gn.body.isSome = true) (hgn : gn.name ≠ "runtime.NumGoroutine")
    (hIS : ∀ (K : Kx) (hpX : List (Nat × Obj')) (nxX : Nat) (fr : List (Nat × AV)), K.P = Try.prog → AL.get hpX (nx + 1 + 1 + 1) = some (.box (ydC N most strays calls (nx + 1 + 1))) → AL.get hpX (nx + 1 + 1) = some (.memo Try.prog 135 (keepI (tabF N most strays calls))) →
      (∀ id o, id < nx → AL.get hp id = some o → AL.get hpX id = some o) → CallF K g ([.one (.box (nx + 1 + 1 + 1) 0)] ++ caps.map capV) ⟨fr, hpX, nxX⟩ fun st' av => st' = ⟨fr, hpX, nxX⟩ ∧ av = .one (.p (.v (.bool true)))) :
    CallF ⟨Try.prog, Z, w0, cap, nt, rd, pan, df, dk, rg⟩ 48 [.agg [.p (iP N), .p (iP most), .p (.sl (strays.map row2)), .p (.sl (calls.map row4))], .one (.fn g caps)] ⟨fr, hp, nx⟩ fun st' av => st' = ⟨fr, (nx + 1 + 1 + 1, .box (ydC N most strays calls (nx + 1 + 1))) :: (nx + 1 + 1, .memo Try.prog 135 (keepI (tabF N most strays calls))) :: hp, nx + 1 + 1 + 1 + 1⟩ ∧ av = .one (.box (nx + 1 + 1 + 1) 0) :=
  c_open hg hgb hgn true (fun _ => hIS) (fun _ _ => ⟨rfl, rfl⟩) (fun hv => by rw [tok_to h] at hv; cases hv) (fun _ h => by cases h)
theorem c_open_ran {N : Nat} {Z : Zn} {w0 : World} {cap : Nat → Prop} {nt : Nat} {rd : Option Nat} {pan : List PanicEntry → St → Prop} {df : Option Nat} {dk : List Nat} {rg : Bool} {fr : List (Nat × AV)} {hp : List (Nat × Obj')} {nx : Nat} {g : FuncId} {caps : List CC} {gn : Func}
    (h : TOK N most strays calls) (hg : Try.prog.funcs[g]? = some gn) (hgb : gn.body.isSome = true) (hgn : gn.name ≠ "runtime.NumGoroutine")
    (hIS : ∀ (K : Kx) (hpX : List (Nat × Obj')) (nxX : Nat) (fr : List (Nat × AV)), K.P = Try.prog → AL.get hpX (nx + 1 + 1 + 1) = some (.box (ydC N most strays calls (nx + 1 + 1))) → AL.get hpX (nx + 1 + 1) = some (.memo Try.prog 135 (keepI (tabF N most strays calls))) →
      (∀ id o, id < nx → AL.get hp id = some o → AL.get hpX id = some o) → CallF K g ([.one (.box (nx + 1 + 1 + 1) 0)] ++ caps.map capV) ⟨fr, hpX, nxX⟩ fun st' av => st' = ⟨fr, hpX, nxX⟩ ∧ av = .one (.p (.v (.bool false)))) (hp2 : pan [{ v := stopV 2, recovered := false }] ⟨fr, hp, nx⟩) :
    CallF ⟨Try.prog, Z, w0, cap, nt, rd, pan, df, dk, rg⟩ 48 [.agg [.p (iP N), .p (iP most), .p (.sl (strays.map row2)), .p (.sl (calls.map row4))], .one (.fn g caps)] ⟨fr, hp, nx⟩ fun _ _ => False :=
  c_open hg hgb hgn false (fun _ => hIS) (fun _ h => by cases h) (fun hv => by rw [tok_to h] at hv; cases hv) (fun _ _ => hp2)
theorem ok_Shorn (i : Int) : FunOK Try.prog 14 [tyR n most strays calls, .one (iP i)] (ansR (whyE n most strays calls (inB i 0 (n - 1))) (shornS n most strays calls i)) := by
  refine fun_exp (l := [_]) (od := _) (nt := 16) (t := 6) (eb := 3) (rs := [.cell 4 27, .cell 5 32]) ans46 Try.func14 rfl rfl rfl (by simp) rfl rfl rfl Try.func46 rfl (by decide) fun Z w0 => ?_; simp only [initFr, avR, List.map_cons, List.map_nil]
  simp only [tyR, List.map_cons, List.map_nil]
  refine tw ?_; try with_reducible intro QQ hQQ
  refine ⟨rfl, ?_⟩
  (refine ts ?_; try clear hQQ QQ)
  refine tw ?_; try with_reducible intro QQ hQQ
  cases hv : validB n most strays calls
  · have hwhy : whyE n most strays calls (inB i 0 (n - 1)) = 1 := by simp [whyE, hv]
    have hb := hwhy
    refine callD_FX rfl rfl (by simp (disch := first | decide | omega) only [go_sem, ↓reduceIte]; try rfl) (by simp (disch := first | decide | omega) only [go_sem, ↓reduceIte]; try rfl) Try.func48 rfl (by decide) ?_ ?_; rotate_left; ((repeat (first | refine evDead_skip (by rfl) ?_ | (refine evDead_step (by rfl) (by simp (maxSteps := 400000) (disch := first | decide | omega) only [go_sem, ↓reduceIte]; try rfl) (by simp (maxSteps := 400000) (disch := first | decide | omega) only [go_sem, ↓reduceIte]; try rfl) ?_; simp (maxSteps := 400000) (disch := first | decide | omega) only [go_sem, ↓reduceIte]))); (try (show okDraw _ _ = true)); kernel_rfl); intro fr hk; refine c_open_arg hv Try.func49 rfl (by decide) ?_
    (have k6 := hk 6 (by rfl); have k4 := hk 4 (by rfl); have k5 := hk 5 (by rfl); simp (disch := first | decide | omega) only [go_sem, ↓reduceIte] at k6 k4 k5; exact ⟨1, 0, rfl, k6, by simp (disch := first | decide | omega) only [go_sem, ↓reduceIte]; try rfl, by simp (disch := first | decide | omega) only [k4, k5, hwhy, hb, resA, res1, ansR, ansN, go_sem, ↓reduceIte]; try rfl⟩)
  obtain ⟨hnn, hT⟩ := tok_of hv
  have hn5 := valid_n hv
  generalize n.toNat = N at hnn hT
  subst hnn
  have hIS := s_is49 (most := most) (strays := strays) (calls := calls) (tabF N most strays calls) (n := N) (by omega) i
  cases hb : inB i 0 (N - 1)
  · have hwhy : whyE N most strays calls false = 2 := by simp [whyE, hv]
    rw [hb] at hIS
    refine callD_FX rfl rfl (by simp (disch := first | decide | omega) only [go_sem, ↓reduceIte]; try rfl) (by simp (disch := first | decide | omega) only [go_sem, ↓reduceIte]; try rfl) Try.func48 rfl (by decide) ?_ ?_; rotate_left; ((repeat (first | refine evDead_skip (by rfl) ?_ | (refine evDead_step (by rfl) (by simp (maxSteps := 400000) (disch := first | decide | omega) only [go_sem, ↓reduceIte]; try rfl) (by simp (maxSteps := 400000) (disch := first | decide | omega) only [go_sem, ↓reduceIte]; try rfl) ?_; simp (maxSteps := 400000) (disch := first | decide | omega) only [go_sem, ↓reduceIte]))); (try (show okDraw _ _ = true)); kernel_rfl); intro fr hk; refine c_open_ran hT Try.func49 rfl (by decide) ?_ ?_; (exact is_box1 (c := 1) hIS (by rfl) (by first | decide | (dsimp only; omega)))
    (have k6 := hk 6 (by rfl); have k4 := hk 4 (by rfl); have k5 := hk 5 (by rfl); simp (disch := first | decide | omega) only [go_sem, ↓reduceIte] at k6 k4 k5; exact ⟨2, 0, rfl, k6, by simp (disch := first | decide | omega) only [go_sem, ↓reduceIte]; try rfl, by simp (disch := first | decide | omega) only [k4, k5, hwhy, hb, resA, res1, ansR, ansN, go_sem, ↓reduceIte]; try rfl⟩)
  rw [hb] at hIS
  have hi : 0 ≤ i ∧ i ≤ N - 1 := by simpa [inB] using hb
  obtain ⟨k, rfl⟩ : ∃ k : Nat, i = k := ⟨i.toNat, by omega⟩
  cases hc : canB (tabF N most strays calls (2 ^ calls.length - 1)) 11
  · have hwhy : whyE N most strays calls true = 10 := by simp [whyE, hv, hc]
    refine callD_F [7, 6] ?_ ?_ 8 rfl rfl (by simp (disch := first | decide | omega) only [go_sem, ↓reduceIte]; try rfl) (by simp (disch := first | decide | omega) only [go_sem, ↓reduceIte]; try rfl) Try.func48 rfl (by decide) ?_ (by dsimp only; omega) (by decide) ?_ ?_; rotate_left 3; (intro fr hk; refine c_open_ok hT Try.func49 rfl (by decide) ?_; exact is_box1 (c := 1) hIS (by rfl) (by first | decide | (dsimp only; omega))); rotate_left; (intro id hid; simp only [List.mem_cons, List.mem_nil_iff, or_false, not_or] at hid; obtain ⟨_, _⟩ := hid; simp (disch := first | decide | omega) only [go_sem, ↓reduceIte]); refine td ?_; try clear hQQ QQ
    refine callD_SX [7, 6] (sx_of hT hc _) rfl rfl (by simp (disch := first | decide | omega) only [go_sem, ↓reduceIte]; try rfl) (by simp (disch := first | decide | omega) only [go_sem, ↓reduceIte]; try rfl) Try.func51 rfl (by decide) (by rfl) (by repeat' (first | trivial | apply And.intro | (simp (disch := first | decide | omega) only [go_sem, ↓reduceIte]; first | done | rfl))) (by decide) (by decide) (by first | rfl | (simp (disch := first | decide | omega) only [go_sem, ↓reduceIte]; try rfl)) ?_ ?_; rotate_left; ((repeat (first | refine evDead_skip (by rfl) ?_ | (refine evDead_step (by rfl) (by simp (maxSteps := 400000) (disch := first | decide | omega) only [go_sem, ↓reduceIte]; try rfl) (by simp (maxSteps := 400000) (disch := first | decide | omega) only [go_sem, ↓reduceIte]; try rfl) ?_; simp (maxSteps := 400000) (disch := first | decide | omega) only [go_sem, ↓reduceIte]))); (try (show okDraw _ _ = true)); kernel_rfl); intro fr hk
    (have k6 := hk 6 (by rfl); have k4 := hk 4 (by rfl); have k5 := hk 5 (by rfl); simp (disch := first | decide | omega) only [go_sem, ↓reduceIte] at k6 k4 k5; exact ⟨10, 0, rfl, k6, by simp (disch := first | decide | omega) only [go_sem, ↓reduceIte]; try rfl, by simp (disch := first | decide | omega) only [k4, k5, hwhy, hb, resA, res1, ansR, ansN, go_sem, ↓reduceIte]; try rfl⟩)
  · have hwhy : whyE N most strays calls true = 0 := by simp [whyE, hv, hc]
    have hans : shornS N most strays calls k = (-(tabF N most strays calls (2 ^ calls.length - 1) k (k + 1)), tabF N most strays calls (2 ^ calls.length - 1) (k + 1) k) := rfl
    refine callD_F [7, 6] ?_ ?_ 8 rfl rfl (by simp (disch := first | decide | omega) only [go_sem, ↓reduceIte]; try rfl) (by simp (disch := first | decide | omega) only [go_sem, ↓reduceIte]; try rfl) Try.func48 rfl (by decide) ?_ (by dsimp only; omega) (by decide) ?_ ?_; rotate_left 3; (intro fr hk; refine c_open_ok hT Try.func49 rfl (by decide) ?_; exact is_box1 (c := 1) hIS (by rfl) (by first | decide | (dsimp only; omega))); rotate_left; (intro id hid; simp only [List.mem_cons, List.mem_nil_iff, or_false, not_or] at hid; obtain ⟨_, _⟩ := hid; simp (disch := first | decide | omega) only [go_sem, ↓reduceIte]); refine td ?_; try clear hQQ QQ
    (refine callD_S [7, 6] (s_of0 hT hc k (k + 1) (by omega) (by omega) k (k + 1) rfl (by push_cast; rfl)) rfl rfl (by simp (disch := first | decide | omega) only [go_sem, ↓reduceIte]; try rfl) (by simp (disch := first | decide | omega) only [go_sem, ↓reduceIte]; try rfl) Try.func51 rfl (by decide) (by rfl) (by repeat' (first | trivial | apply And.intro | (simp (disch := first | decide | omega) only [go_sem, ↓reduceIte]; first | done | rfl))) (by decide) (by decide) (by first | rfl | (simp (disch := first | decide | omega) only [go_sem, ↓reduceIte]; try rfl)) ?_); refine td ?_; try clear hQQ QQ
    refine tw ?_; try with_reducible intro QQ hQQ
    (refine aw_ret ⟨.inr rfl, by simp (disch := first | decide | omega) only [go_sem, ↓reduceIte]; try rfl, by simp (disch := first | decide | omega) only [resA, res1, ansR, ansN, hb, hwhy, hans, go_sem, ↓reduceIte]; try rfl⟩)
end
end Go.Proofs.Ytejbglbiefpagaa
