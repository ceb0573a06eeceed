/- Texts of the proof, joined. -/
import Derived.Test.YthedkfiebmnghaaGreatKdy19
import Derived.Test.YthedkfiebmnghaaGreatKpv20
set_option linter.all false
set_option maxHeartbeats 16000000
set_option maxRecDepth 20000
namespace Go.Proofs.YthedkfiebmnghaaGreat
open Go Go.RowKit Go.Sh Go.Pv Go.By
theorem key94 : WideMaps.KeyLaw Tryz.prog 94 := deep_law_laid Tryz.laidOut (m := 5) (by omega) (of_decide_eq_true (by kernel_rfl)) (by kernel_rfl) (by kernel_rfl)
theorem und73 : Tryz.prog.underlying 73 = some (.map 94 3) := by kernel_rfl
theorem cells94 : Tryz.prog.cellsOf 94 = 2 := by kernel_rfl
theorem zero3 : ∀ w, (zeroValue 3).run Tryz.prog w = .ok (.int .i64 0) w := fun w => by kernel_rfl
theorem keyOf94 (x : Nat × Nat) (h1 : x.1 < 2 ^ 63) (h2 : x.2 < 2 ^ 63) : ∃ l, keyOf Tryz.prog 94 (tkV x) = some l := by
 obtain ⟨a, b⟩ := x
 dsimp only at h1 h2
 have hw : ∀ n : Nat, n < 2 ^ 63 → (Lit.int .i64 (n : Int)).wf = true := fun n hn => by
  have : IntKind.min .i64 = -9223372036854775808 ∧ IntKind.max .i64 = 9223372036854775807 := by decide
  simp only [Lit.wf, Bool.and_eq_true, decide_eq_true_eq]; omega
 have hk : Tryz.prog.keyType 94 = true := by kernel_rfl
 have i1 : ∀ d n, n < 2 ^ 63 → Tryz.prog.keyLits (d + 1) 3 [.int .i64 ((n : Nat) : Int)] = some [.int .i64 (n : Int)] := fun d n hn => by
  unfold Program.keyLits; simp [Tryz.underlying3, hw n hn]
 have i2 : ∀ d, Tryz.prog.keyLits (d + 1 + 1) 94 [.int .i64 (a : Int), .int .i64 (b : Int)] = some [.int .i64 (a : Int), .int .i64 (b : Int)] := fun d => by
  unfold Program.keyLits; simp [Tryz.underlying94, cells94, cells3, i1 d a h1, i1 d b h2]
 unfold keyOf tkV
 simp only [Tryz.underlying94, hk, types_size, Value.formed, Value.cells, cells94]
 exact ⟨_, by rw [show (232 + 1 : Nat) = 231 + 1 + 1 from rfl, i2 231]; rfl⟩
theorem toE_keys {D : Nat → List Int} {L : List (Nat × Nat)} (h : ∀ x ∈ L, x.1 < 2 ^ 63 ∧ x.2 < 2 ^ 63) : ∀ e ∈ (toE D L).toList, ∃ l, keyOf Tryz.prog 94 e.key = some l := fun e he => by
 obtain ⟨i, x, hi, rfl⟩ := mem_toE.1 he
 have := h x (List.mem_of_getElem? hi)
 exact keyOf94 x this.1 this.2
theorem get_someSD {l : List SD} {i : Nat} (h : i < l.length) : l[i]? = some (l.getD i dSD) := by simp [List.getD, h]
theorem rowsK_SD (l : List SD) : rowsK 9 (l.map SD.row) = True := eq_true fun i r h => by rw [List.getElem?_map] at h; obtain ⟨x, _, rfl⟩ := Option.map_eq_some_iff.1 h; rfl
theorem rowsK_nd (y : YD) (i : Nat) : rowsK 1 (y.ndR i) = True := eq_true fun j r h => by unfold YD.ndR at h; rw [List.getElem?_map] at h; obtain ⟨x, _, rfl⟩ := Option.map_eq_some_iff.1 h; rfl
theorem ndR_len (y : YD) (i : Nat) : (y.ndR i).length = i := by unfold YD.ndR; simp
theorem ndR_succ (y : YD) (i : Nat) : y.ndR i ++ [[PV.sl ((y.need i).map row1)]] = y.ndR (i + 1) := by unfold YD.ndR; simp [List.range_succ]
theorem getD_some {α : Type} {l : List α} {i : Nat} {d : α} (h : i < l.length) : l[i]? = some (l.getD i d) := by simp [List.getD, h]
def cells0 (ss : List SD) (first : List Int) (trip load : Int) (m : Nat) : List AC := [.p (.sl (ss.map SD.row)), .p (.sl (first.map row1)), .p (iP trip), .p (iP load), .nil, .raw m]
section
variable {y : YD}
theorem rowN_at (h : YOK y) {i : Nat} (hi : i < y.S) : (y.F.map rowN)[i]? = some [iP ((y.f i : Nat) : Int)] := by
 have hf : i < y.F.length := by rw [h.fl]; exact hi
 rw [List.getElem?_map, getD_some (d := 0) hf]; rfl
theorem open_tail {Z : Zn} {w0 : World} {cap : Nat → Prop} {pan : List PanicEntry → St → Prop} {Ds dk : List Nat} {fr : List (Nat × AV)} {hp : List (Nat × Obj')} {nx : Nat} {tm : Nat → Value} {g : FuncId} {caps : List CC} {gn : Func} {Q : St → AV → Prop}
  (hg : Tryz.prog.funcs[g]? = some gn) (hgb : gn.body.isSome = true) (hgn : gn.name ≠ "runtime.NumGoroutine") (b : Bool) (hY : YOK y) (hcl : Closed ⟨fr, hp, nx⟩)
  (hIS : ∀ (K : Kx) (hpX : List (Nat × Obj')) (nxX : Nat) (fr : List (Nat × AV)) (bb : Nat), K.P = Tryz.prog → AL.get hpX (nx + 1 + 1 + 1) = some (.box [.p (.sl (y.ss.map SD.row)), .p (.sl (y.F.map rowN)), .p (iP (y.T : Int)), .p (iP (y.L : Int)), .nil, .raw (nx + 1 + 1)]) → AL.get hpX (nx + 1 + 1) = some (.raw bb (.map #[] 0)) →
   (∀ id o, id < nx → AL.get hp id = some o → AL.get hpX id = some o) → CallF K g ([.one (.box (nx + 1 + 1 + 1) 0)] ++ caps.map capV) ⟨fr, hpX, nxX⟩ fun st' av => st' = ⟨fr, hpX, nxX⟩ ∧ av = .one (.p (.v (.bool b))))
  (hok : b = true → ∀ bb, Q ⟨fr, (nx + 1 + 1 + 1, .box (y.cells (nx + 1 + 1))) :: (nx + 1 + 1, y.mapO bb) :: hp, nx + 1 + 1 + 1 + 1⟩ (.one (.box (nx + 1 + 1 + 1) 0)))
  (hran : b = false → pan [{ v := stopV 2, recovered := false }] ⟨fr, hp, nx⟩)
  {hpX : List (Nat × Obj')} {nxX bb : Nat} (f0 : nx + 1 + 1 + 1 + 1 < nxX) (f1 : AL.get hpX nx = some (.kept fr tm)) (f2 : AL.get hpX (nx + 1) = some (.box [.p (.sl (y.ss.map SD.row)), .p (.sl (y.F.map rowN)), .p (iP (y.T : Int)), .p (iP (y.L : Int))]))
  (f3 : AL.get hpX (nx + 1 + 1 + 1) = some (.box [.p (.sl (y.ss.map SD.row)), .p (.sl (y.F.map rowN)), .p (iP (y.T : Int)), .p (iP (y.L : Int)), .nil, .raw (nx + 1 + 1)])) (f4 : AL.get hpX (nx + 1 + 1) = some (.raw bb (.map #[] 0))) (f5 : ∀ id o, id < nx → AL.get hp id = some o → AL.get hpX id = some o) :
  AW ⟨Tryz.prog, Z, w0, cap, 154, none, fun ps st' => AL.get st'.hp nx = some (.kept fr tm) ∧ ∃ T, Go.Pv.Left ⟨fr, hp, nx⟩ st' T ∧ pan ps T, none, Ds ++ dk, true⟩ (rgtN 6 (fnCode Tryz.f42))
   (fun e st' => (e = .normal ∨ e = .ret) ∧ ∃ av, resV Tryz.prog st' [.tmp 4] = some av ∧ AL.get st'.hp nx = some (.kept fr tm) ∧ ∃ T : St, T.fr = fr ∧ Closed T ∧ (∀ id o, AL.get T.hp id = some o → AL.get st'.hp id = some o) ∧ There (AL.get T.hp) (refsV av) ∧ Q T av)
   ⟨[(1, .one (.fn g caps)), (2, .one (.box (nx + 1) 0)), (5, .one (.box (nx + 1 + 1 + 1) 0))], hpX, nxX⟩ := by
 have hlt := hcl.lt
 dsimp only at hlt
 have hback : ∀ {hpZ : List (Nat × Obj')} {v : Value}, pan [{ v := v, recovered := false }] ⟨fr, hp, nx⟩ → AL.get hpZ nx = some (.kept fr tm) → (∀ id o, id < nx → AL.get hp id = some o → AL.get hpZ id = some o) →
   AL.get hpZ nx = some (.kept fr tm) ∧ ∃ T : St, Go.Pv.Left ⟨fr, hp, nx⟩ ⟨[], hpZ, 0⟩ T ∧ pan [{ v := v, recovered := false }] T :=
  fun h1 h2 h3 => ⟨h2, ⟨fr, hp, nx⟩, ⟨rfl, hcl, fun id o ho => h3 id o (hlt id o ho) ho⟩, h1⟩
 have hll : (y.ss.map SD.row).length = y.S := List.length_map _
 have hfl : (y.F.map rowN).length = y.S := by rw [List.length_map]; exact hY.fl
 have hFl := hY.fl
 have n3 := hY.n3
 have l1 := hY.l1
 have l5 := hY.l5
 conv => arg 2; whnf
 (try simp only [List.append_eq, List.cons_append, List.nil_append])
 try clear hF
 have hF := And.intro f1 (And.intro f2 (And.intro f3 (And.intro f4 (And.intro hll (hfl)))))
 refine twF fun QQ hQQ => ?_
 refine callS_ok rfl rfl g qF qF hg hgb hgn ((hIS _ _ _ _ bb rfl qF qF (fun id o hl h => f5 id o hl h)).mono ?_)
 rintro _ _ ⟨rfl, rfl⟩
 (refine tsF ?_)
 cases b
 ·(refine ⟨rfl, .inr ⟨rfl, callS_x rfl 46 ⟨qF, qF⟩ Tryz.func46 rfl (by decide) (x_ask 2) ?_⟩⟩)
  exact hback (hran rfl) qF (by intro id o hl h; simp (disch := first | decide | omega) only [hF, go_sem, ↓reduceIte]; exact f5 id o hl h)
 ((refine cOF 46 rfl rfl rfl (ok_ask 2) Tryz.func46 rfl ?_); refine tuF ?_; clear hQQ QQ); refine twF ?_
 refine aw_weak (weak_ownB (nx + 1 + 1 + 1) 4 23 1 (cs := [.p (.sl (y.ss.map SD.row)), .p (.sl (y.F.map rowN)), .p (iP (y.T : Int)), .p (iP (y.L : Int)), .nil, .raw (nx + 1 + 1)]) qF rfl) ?_
 dsimp only [List.set]
 refine aw_weak (weak_thr [2, 5, 100, 101, 102] (by simp only [hF, go_sem, ↓reduceIte]; rfl)) ?_
 let FX : Nat → List (Nat × Obj') → Nat → Prop := fun i hpY nxY => nxX < nxY ∧ AL.get hpY nx = some (.kept fr tm) ∧ AL.get hpY (nx + 1) = some (.box [.p (.sl (y.ss.map SD.row)), .p (.sl (y.F.map rowN)), .p (iP (y.T : Int)), .p (iP (y.L : Int))]) ∧
  AL.get hpY (nx + 1 + 1 + 1) = some (.box [.p (.sl (y.ss.map SD.row)), .p (.sl (y.F.map rowN)), .p (iP (y.T : Int)), .p (iP (y.L : Int)), .own nxX i, .raw (nx + 1 + 1)]) ∧ AL.get hpY nxX = some (.arr 23 1 (y.ndR i) true) ∧
  AL.get hpY (nx + 1 + 1) = some (.raw bb (.map (toE y.D (allT y.n i)) (allT y.n i).length)) ∧ ∀ id o, id < nx → AL.get hp id = some o → AL.get hpY id = some o
 refine aw_loop_hp (ι := { i : Nat // i ≤ y.S }) (fun i => [(102, iA i.1)]) (fun i => FX i.1) (fun i => y.S - i.1) ⟨0, by omega⟩ (by first | rfl | (simp only [hF, go_sem, ↓reduceIte]; rfl)) ?_ ?_
 ·exact ⟨by dsimp only; omega, qF, qF, qF, qF, qF, fun id o hl h => by simp (disch := first | decide | omega) only [hF, go_sem, ↓reduceIte]; exact f5 id o hl h⟩
 clear hIS hran f1 f2 f3 f4 f5
 rintro ⟨i, hi⟩ hpY nxY ⟨e0, e1, e2, e3, e4, e5, e6⟩
 refine tO ?_
 by_cases hil : i < y.S
 ·have hnd := ok_needs (hY.ok i hil)
  have hg : (y.ss.map SD.row)[i]? = some (y.sd i).row := by rw [List.getElem?_map, sd_mem hil]; rfl
  have hgF := rowN_at hY hil
  have hnl := ndR_len y i
  have hns := ndR_succ y i
  have hrk := rowsK_nd y i
  have hlb : (i + 1) * 8 ≤ 140737488355328 := by omega
  have h16 := need_16 hY hil
  have hf16 := hY.f16 i hil
  rw [show (y.sd i).needL = y.need i from rfl] at hnd
  obtain ⟨sd, hsd⟩ : ∃ sd, y.sd i = sd := ⟨_, rfl⟩
  rw [hsd] at hg hnd
  dsimp only [SD.row] at hg hnd
  have hml : ((y.need i).map row1).length = (y.need i).length := List.length_map _
  try clear hF
  have hF := And.intro hg (And.intro hgF (And.intro hnl (And.intro hrk (And.intro hlb (And.intro hml (And.intro hll (And.intro hfl (And.intro e1 (And.intro e2 (And.intro e3 (And.intro e4 (e5))))))))))))
  refine twF ?_
  refine tiF ?_
  refine twF fun QQ hQQ => ?_
  ((refine cBF 88 rfl rfl rfl (hnd) Tryz.func88 rfl ?_); refine tuF ?_; clear hQQ QQ); refine twF ?_
  refine aw_weak (weak_thr [2, 5, 10, 12, 13, 100, 101, 102] (by simp only [hF, go_sem, ↓reduceIte]; rfl)) ?_
  have hallk : ∀ j, ∀ x ∈ partT y.n i j, x.1 < 2 ^ 63 ∧ x.2 < 2 ^ 63 ∨ y.n i < j := fun j x hx => by
   by_cases hj : j ≤ y.n i
   ·left
    rcases List.mem_append.1 hx with hx | hx
    ·obtain ⟨h1, h2⟩ := mem_allT.1 (show (x.1, x.2) ∈ allT y.n i from hx)
     have := n_16 hY (i := x.1) (by omega)
     omega
    ·obtain ⟨k, hk, rfl⟩ := List.mem_map.1 hx
     have := List.mem_range.1 hk
     have := n_16 hY hil
     dsimp only
     omega
   ·exact .inr (by omega)
  let FY : Nat → List (Nat × Obj') → Nat → Prop := fun j hpY nxY => nxX < nxY ∧ AL.get hpY nx = some (.kept fr tm) ∧ AL.get hpY (nx + 1) = some (.box [.p (.sl (y.ss.map SD.row)), .p (.sl (y.F.map rowN)), .p (iP (y.T : Int)), .p (iP (y.L : Int))]) ∧
   AL.get hpY (nx + 1 + 1 + 1) = some (.box [.p (.sl (y.ss.map SD.row)), .p (.sl (y.F.map rowN)), .p (iP (y.T : Int)), .p (iP (y.L : Int)), .own nxX (i + 1), .raw (nx + 1 + 1)]) ∧ AL.get hpY nxX = some (.arr 23 1 (y.ndR (i + 1)) true) ∧
   AL.get hpY (nx + 1 + 1) = some (.raw bb (.map (toE y.D (partT y.n i j)) (partT y.n i j).length)) ∧ ∀ id o, id < nx → AL.get hp id = some o → AL.get hpY id = some o
  refine aw_loop_hp (ι := { j : Nat // j ≤ y.n i }) (fun j => [(13, iA ((y.f i + j.1 * y.L : Nat) : Int))]) (fun j => FY j.1) (fun j => y.n i - j.1) ⟨0, by omega⟩ (by rw [show y.f i + 0 * y.L = y.f i by omega]; (first | rfl | (simp only [go_sem, ↓reduceIte]; first | done | rfl))) ?_ ?_
  ·refine ⟨by dsimp only; omega, ?_, ?_, ?_, ?_, ?_, fun id o hl h => ?_⟩
   ·simp (disch := first | decide | omega) only [go_sem, ↓reduceIte]; exact e1
   ·simp (disch := first | decide | omega) only [go_sem, ↓reduceIte]; exact e2
   ·simp (disch := first | decide | omega) only [go_sem, ↓reduceIte]
   ·simp (disch := first | decide | omega) only [go_sem, ↓reduceIte]; rw [← hns]
   ·simp (disch := first | decide | omega) only [go_sem, ↓reduceIte]; rw [part_zero]; exact e5
   ·simp (disch := first | decide | omega) only [go_sem, ↓reduceIte]; exact e6 id o hl h
  clear e1 e2 e3 e4 e5 e6
  rintro ⟨j, hj⟩ hpZ nxZ ⟨g0, g1, g2, g3, g4, g5, g6⟩
  refine tO ?_
  have hjL : j * y.L ≤ 16 * 5 := Nat.mul_le_mul (by have := n_16 hY hil; omega) l5
  by_cases hjn : j < y.n i
  ·have hlt2 := (tripN_lt l1).1 hjn
   have hdue : (y.need i).getD (y.f i + j * y.L) 0 = dueT y.D (i, j) := (D_at hjn).symm
   have hdr := D_rng hY hil hjn
   rw [show (y.D i).getD j 0 = dueT y.D (i, j) from rfl] at hdr
   have hgd : ((y.need i).map row1)[y.f i + j * y.L]? = some [iP (dueT y.D (i, j))] := by rw [List.getElem?_map, get_some1' hlt2, hdue]; rfl
   have hsb : ((y.f i + j * y.L : Nat) : Int) - ((y.f i : Nat) : Int) = ((j * y.L : Nat) : Int) := by omega
   have hqu : ∀ (T : TypeId) (x z : Operand), binA Tryz.prog .quo T x z (.int .i64 ((j * y.L : Nat) : Int)) (.int .i64 ((y.L : Nat) : Int)) = some (.int .i64 (j : Int)) := fun T x z => by
    rw [bin_quo_nat T x z (by omega) (by omega), Nat.mul_div_cancel j (by omega)]
   have hnx : ((y.f i + j * y.L : Nat) : Int) + ((y.L : Nat) : Int) = ((y.f i + (j + 1) * y.L : Nat) : Int) := by rw [Nat.succ_mul]; omega
   have hnx2 : y.f i + (j + 1) * y.L ≤ 200 := by rw [Nat.succ_mul]; omega
   obtain ⟨kl, hkl⟩ := keyOf94 (i, j) (by dsimp only; omega) (by dsimp only; have := n_16 hY hil; omega)
   have hkeys : ∀ e ∈ (toE y.D (partT y.n i j)).toList, ∃ l, keyOf Tryz.prog 94 e.key = some l := toE_keys fun x hx => (hallk j x hx).resolve_right (by omega)
   have hno : ∀ e ∈ (toE y.D (partT y.n i j)).toList, e.key ≠ tkV (i, j) := toE_not part_not
   have hps : (toE y.D (partT y.n i j)).push { key := tkV (i, j), val := .int .i64 (dueT y.D (i, j)), born := (partT y.n i j).length } = toE y.D (partT y.n i (j + 1)) := by rw [toE_push, part_succ]
   have hpl : (partT y.n i j).length + 1 = (partT y.n i (j + 1)).length := by rw [← part_succ, List.length_append]; rfl
   have hl63 : y.f i + j * y.L < (y.need i).length := hlt2
   clear hdue hallk
   generalize dueT y.D (i, j) = dd at *
   generalize y.f i + j * y.L = p at *
   generalize hp2 : y.f i + (j + 1) * y.L = p2 at *
   generalize j * y.L = q at *
   try clear hF
   have hF := And.intro g1 (And.intro g2 (And.intro g3 (And.intro g4 (And.intro g5 (And.intro hgd (And.intro hgF (And.intro hsb (And.intro hqu (And.intro hnx (hml))))))))))
   refine twF ?_
   refine tiF ?_
   refine twF fun QQ hQQ => ?_
   refine callD_insertRaw rfl rfl key94 und73 (id := nx + 1 + 1) (b := bb) (ck := (partT y.n i j).length) (es := toE y.D (partT y.n i j)) qF qF (by dsimp only; omega) (kv := tkV (i, j)) (vv := .int .i64 dd) qF qF hkl hkeys hno ?_
   (refine tdF ?_; clear hQQ QQ)
   refine twF ?_
   refine ⟨⟨j + 1, by omega⟩, ?_, ?_, ?_⟩
   ·simp only; omega
   ·refine ⟨g0, ?_, ?_, ?_, ?_, ?_, fun id o hl h => ?_⟩
    ·simp (disch := first | decide | omega) only [hF, go_sem, ↓reduceIte]
    ·simp (disch := first | decide | omega) only [hF, go_sem, ↓reduceIte]
    ·simp (disch := first | decide | omega) only [hF, go_sem, ↓reduceIte]
    ·simp (disch := first | decide | omega) only [hF, go_sem, ↓reduceIte]
    ·simp (disch := first | decide | omega) only [hF, go_sem, ↓reduceIte]; rw [← hps, ← hpl]
    ·simp (disch := first | decide | omega) only [hF, go_sem, ↓reduceIte]; exact g6 id o hl h
   ·subst hp2
    first | rfl | (simp only [hF, go_sem, ↓reduceIte]; rfl)
  ·have hje : j = y.n i := by omega
   subst hje
   have hge : ¬ y.f i + y.n i * y.L < (y.need i).length := fun h => by have := (tripN_lt l1).2 h; exact Nat.lt_irrefl _ this
   try clear hF
   have hF := And.intro g1 (And.intro g2 (And.intro g3 (And.intro g4 (And.intro g5 (hml)))))
   refine twF ?_
   refine tiF ?_
   refine twF ?_
   refine ⟨⟨i + 1, by omega⟩, ?_, ?_, ?_⟩
   ·simp only; omega
   ·refine ⟨g0, ?_, ?_, ?_, ?_, ?_, fun id o hl h => ?_⟩
    ·exact g1
    ·exact g2
    ·exact g3
    ·exact g4
    ·exact g5
    ·exact g6 id o hl h
   ·first | rfl | (simp only [hF, go_sem, ↓reduceIte]; rfl)
 ·have hie : i = y.S := by omega
  subst hie
  have htk : (y.ndR y.S).take y.S = y.ndR y.S := List.take_of_length_le (by rw [ndR_len]; exact Nat.le_refl _)
  try clear hF
  have hF := And.intro e1 (And.intro e2 (And.intro e3 (And.intro e4 (e5))))
  refine twF ?_
  refine tiF ?_
  refine twF ?_
  refine aw_weak (weak_dataB (nx + 1 + 1 + 1) 4 (cs := [.p (.sl (y.ss.map SD.row)), .p (.sl (y.F.map rowN)), .p (iP (y.T : Int)), .p (iP (y.L : Int)), .own nxX y.S, .raw (nx + 1 + 1)]) (t := nxX) (n := y.S) (E := 23) (k := 1) (rows := y.ndR y.S) (by first | exact e3 | (simp (disch := first | decide | omega) only [hF, go_sem, ↓reduceIte]; try rfl)) rfl (by first | exact e4 | (simp (disch := first | decide | omega) only [hF, go_sem, ↓reduceIte]; try rfl))) ?_
  rw [htk]
  dsimp only [List.set]
  have hok := hok rfl bb
  refine aw_ret ⟨.inr rfl, _, qF, qF, ⟨fr, (nx + 1 + 1 + 1, .box (y.cells (nx + 1 + 1))) :: (nx + 1 + 1, y.mapO bb) :: hp, nx + 1 + 1 + 1 + 1⟩, rfl, ?_, ?_, ?_, hok⟩
  ·refine Closed.new (st := ⟨fr, (nx + 1 + 1, y.mapO bb) :: hp, nx + 1 + 1 + 1⟩) (Closed.new hcl (by dsimp only; omega) (by omega) (fun _ _ h => by cases h) (fun i hi => by cases hi)) (by dsimp only; omega) (by omega) (fun _ _ h => by cases h) ?_
   intro i hi
   simp only [YD.cells, refsO, List.flatMap_cons, List.flatMap_nil, refsC, List.nil_append, List.append_nil, List.mem_singleton] at hi
   subst hi
   exact ⟨_, AL.get_eq _ _ _⟩
  ·intro id o ho
   have ho : AL.get ((nx + 1 + 1 + 1, Obj'.box (y.cells (nx + 1 + 1))) :: (nx + 1 + 1, y.mapO bb) :: hp) id = some o := ho
   by_cases e3' : id = nx + 1 + 1 + 1
   ·subst e3'
    rw [AL.get_eq] at ho
    cases ho
    simp (disch := first | decide | omega) only [hF, go_sem, ↓reduceIte]; try rfl
   ·rw [AL.get_ne _ _ e3'] at ho
    by_cases e2' : id = nx + 1 + 1
    ·subst e2'
     rw [AL.get_eq] at ho
     cases ho
     simp (disch := first | decide | omega) only [hF, go_sem, ↓reduceIte]; first | rfl | exact e5
    ·rw [AL.get_ne _ _ e2'] at ho
     have := hlt id o ho
     have h6 := e6 id o this ho
     simp (disch := first | decide | omega) only [hF, go_sem, ↓reduceIte]; exact h6
  ·intro i hi
   simp only [refsV, refsC, List.mem_singleton] at hi
   subst hi
   exact ⟨_, AL.get_eq _ _ _⟩
end
section
variable {ss : List SD} {first : List Int} {trip load : Int}
theorem c_open {Z : Zn} {w0 : World} {cap : Nat → Prop} {nt : Nat} {rd : Option Nat} {pan : List PanicEntry → St → Prop} {df : Option Nat} {dk : List Nat} {rg : Bool} {fr : List (Nat × AV)} {hp : List (Nat × Obj')} {nx : Nat} {g : FuncId} {caps : List CC} {gn : Func}
  (hg : Tryz.prog.funcs[g]? = some gn) (hgb : gn.body.isSome = true) (hgn : gn.name ≠ "runtime.NumGoroutine") (b : Bool) (y : YD) (hYW : boyB ss first trip load = true → YOK y ∧ ss = y.ss ∧ first = y.F.map (fun x : Nat => (x : Int)) ∧ trip = y.T ∧ load = y.L)
  (hcaps : ∀ i ∈ caps.flatMap refsCC, ∃ o, AL.get hp i = some o)
  (hIS : boyB ss first trip load = true → ∀ (K : Kx) (hpX : List (Nat × Obj')) (nxX : Nat) (fr : List (Nat × AV)) (bb : Nat), K.P = Tryz.prog → AL.get hpX (nx + 1 + 1 + 1) = some (.box (cells0 ss first trip load (nx + 1 + 1))) → AL.get hpX (nx + 1 + 1) = some (.raw bb (.map #[] 0)) →
   (∀ id o, id < nx → AL.get hp id = some o → AL.get hpX id = some o) → CallF K g ([.one (.box (nx + 1 + 1 + 1) 0)] ++ caps.map capV) ⟨fr, hpX, nxX⟩ fun st' av => st' = ⟨fr, hpX, nxX⟩ ∧ av = .one (.p (.v (.bool b))))
  {Q : St → AV → Prop} (hok : boyB ss first trip load = true → b = true → ∀ bb, Q ⟨fr, (nx + 1 + 1 + 1, .box (y.cells (nx + 1 + 1))) :: (nx + 1 + 1, y.mapO bb) :: hp, nx + 1 + 1 + 1 + 1⟩ (.one (.box (nx + 1 + 1 + 1) 0)))
  (harg : boyB ss first trip load = false → pan [{ v := stopV 1, recovered := false }] ⟨fr, hp, nx⟩) (hran : boyB ss first trip load = true → b = false → pan [{ v := stopV 2, recovered := false }] ⟨fr, hp, nx⟩) :
  CallF ⟨Tryz.prog, Z, w0, cap, nt, rd, pan, df, dk, rg⟩ 42 [.agg [.p (.sl (ss.map SD.row)), .p (.sl (first.map row1)), .p (iP trip), .p (iP load)], .one (.fn g caps)] ⟨fr, hp, nx⟩ Q := by
 (refine callF_to (nt := 154) (rs := [.tmp 4]) Tryz.func42 rfl rfl rfl (by simp) fun hcl tm Ds => ?_); simp only [initV]
 dsimp only [Kx.calleeT]
 have hlt := hcl.lt
 dsimp only at hlt
 have hback : ∀ {hpZ : List (Nat × Obj')} {v : Value}, pan [{ v := v, recovered := false }] ⟨fr, hp, nx⟩ → AL.get hpZ nx = some (.kept fr tm) → (∀ id o, id < nx → AL.get hp id = some o → AL.get hpZ id = some o) →
   AL.get hpZ nx = some (.kept fr tm) ∧ ∃ T : St, Go.Pv.Left ⟨fr, hp, nx⟩ ⟨[], hpZ, 0⟩ T ∧ pan [{ v := v, recovered := false }] T :=
  fun h1 h2 h3 => ⟨h2, ⟨fr, hp, nx⟩, ⟨rfl, hcl, fun id o ho => h3 id o (hlt id o ho) ho⟩, h1⟩
 have w1 := ok_within (ss.length : Int) 1 3
 have w2 := ok_within trip 1 60
 have w3 := ok_within load 1 5
 have hm := ok_ask 1
 have hll : (ss.map SD.row).length = ss.length := List.length_map _
 have hfl : (first.map row1).length = first.length := List.length_map _
 have hs3 : inB (ss.length : Int) 1 3 = true → ss.length ≤ 3 ∧ 1 ≤ ss.length := fun h => by simp [inB] at h; omega
 try clear hF
 have hF := And.intro hll (hfl)
 refine twF fun QQ hQQ => ?_
 cases b1 : inB (ss.length : Int) 1 3
 ·rw [b1] at w1
  (refine cOF 45 rfl rfl rfl (w1) Tryz.func45 rfl ?_); refine tsF ?_
  (refine ⟨rfl, .inr ⟨rfl, callS_x rfl 46 ⟨qF, qF⟩ Tryz.func46 rfl (by decide) (x_ask 1) ?_⟩⟩)
  exact hback (harg (by simp [boyB, b1])) qF (by intro id o hl h; simp (disch := first | decide | omega) only [hF, go_sem, ↓reduceIte]; exact h)
 rw [b1] at w1
 obtain ⟨n3, n1⟩ := hs3 b1
 clear hs3
 by_cases b2 : first.length = ss.length
 rotate_left
 ·have e2 : ((first.length : Int) == (ss.length : Int)) = false := by simp; omega
  try clear hF
  have hF := And.intro hll (And.intro hfl (e2))
  (refine cOF 45 rfl rfl rfl (w1) Tryz.func45 rfl ?_); refine tsF ?_
  (refine ⟨rfl, .inr ⟨rfl, callS_x rfl 46 ⟨qF, qF⟩ Tryz.func46 rfl (by decide) (x_ask 1) ?_⟩⟩)
  exact hback (harg (by simp [boyB, b1, b2])) qF (by intro id o hl h; simp (disch := first | decide | omega) only [hF, go_sem, ↓reduceIte]; exact h)
 have e2 : ((first.length : Int) == (ss.length : Int)) = true := by simp; omega
 have b2' : decide (first.length = ss.length) = true := decide_eq_true b2
 try clear hF
 have hF := And.intro hll (And.intro hfl (e2))
 cases b3 : inB trip 1 60
 ·rw [b3] at w2
  (refine cOF 45 rfl rfl rfl (w1) Tryz.func45 rfl ?_); refine tsF ?_
  (refine cOF 45 rfl rfl rfl (w2) Tryz.func45 rfl ?_); refine tsF ?_
  (refine ⟨rfl, .inr ⟨rfl, callS_x rfl 46 ⟨qF, qF⟩ Tryz.func46 rfl (by decide) (x_ask 1) ?_⟩⟩)
  exact hback (harg (by simp [boyB, b1, b3])) qF (by intro id o hl h; simp (disch := first | decide | omega) only [hF, go_sem, ↓reduceIte]; exact h)
 rw [b3] at w2
 cases b4 : inB load 1 5
 ·rw [b4] at w3
  (refine cOF 45 rfl rfl rfl (w1) Tryz.func45 rfl ?_); refine tsF ?_
  (refine cOF 45 rfl rfl rfl (w2) Tryz.func45 rfl ?_); refine tsF ?_
  (refine cOF 45 rfl rfl rfl (w3) Tryz.func45 rfl ?_); refine tsF ?_
  (refine ⟨rfl, .inr ⟨rfl, callS_x rfl 46 ⟨qF, qF⟩ Tryz.func46 rfl (by decide) (x_ask 1) ?_⟩⟩)
  exact hback (harg (by simp [boyB, b1, b3, b4])) qF (by intro id o hl h; simp (disch := first | decide | omega) only [hF, go_sem, ↓reduceIte]; exact h)
 rw [b4] at w3
 (refine cOF 45 rfl rfl rfl (w1) Tryz.func45 rfl ?_); refine tsF ?_
 (refine cOF 45 rfl rfl rfl (w2) Tryz.func45 rfl ?_); refine tsF ?_
 (refine cOF 45 rfl rfl rfl (w3) Tryz.func45 rfl ?_); refine tsF ?_
 ((refine cOF 46 rfl rfl rfl (hm) Tryz.func46 rfl ?_); refine tuF ?_; clear hQQ QQ); refine twF fun QQ hQQ => ?_
 refine ⟨rfl, .inr ⟨rfl, callS_makeRaw rfl rfl fun bb => ?_⟩⟩
 (refine tsF ?_; clear hQQ QQ)
 refine twF fun QQ hQQ => ?_
 refine ⟨rfl, .inr ⟨rfl, callS_makeSliceZ (n := ss.length) (E := 50) (k := 9) (by_ := 120) (zr := [iP 0, iP 0, iP 0, iP 0, iP 0, iP 0, .sl [], .sl [], .sl []]) rfl rfl qF qF qF qF rfl (by rfl) rfl qF qF (by omega) (by omega) (by unfold maxLen; omega) ?_⟩⟩
 (refine tsF ?_; clear hQQ QQ)
 refine twF fun QQ hQQ => ?_
 refine callD_copy (t := nx + 1 + 1 + 1 + 1) (n := ss.length) (k := 9) (E := 50) (rows := List.replicate ss.length [iP 0, iP 0, iP 0, iP 0, iP 0, iP 0, .sl [], .sl [], .sl []]) (xr := ss.map SD.row) rfl rfl qF qF (by decide) qF qF (by simp) (by dsimp only; omega) qF ((rowsK_SD ss).mpr trivial) (by simp) ?_
 (refine tdF ?_; clear hQQ QQ)
 have hta : (ss.map SD.row).take ss.length = ss.map SD.row := List.take_of_length_le (by simp)
 refine aw_weak (weak_share (nx + 1 + 1 + 1 + 1) (E := 50) (k := 9) (rows := ss.map SD.row) (sh := false) qF) ?_
 refine aw_weak (weak_dataB (nx + 1 + 1 + 1) 0 (cs := [.own (nx + 1 + 1 + 1 + 1) ss.length, .p (.sl (first.map row1)), .p (iP trip), .p (iP load), .nil, .raw (nx + 1 + 1)]) (t := nx + 1 + 1 + 1 + 1) (n := ss.length) (E := 50) (k := 9) (rows := ss.map SD.row) qF (by rfl) qF) ?_
 rw [hta]
 dsimp only [List.set]
 refine twF ?_
 refine aw_weak (weak_thr [1, 2, 5, 62, 63, 64] (by simp only [hF, go_sem, ↓reduceIte]; rfl)) ?_
 let FX : List (Nat × Obj') → Nat → Prop := fun hpX nxX => nx + 1 + 1 + 1 + 1 < nxX ∧ AL.get hpX nx = some (.kept fr tm) ∧ AL.get hpX (nx + 1) = some (.box [.p (.sl (ss.map SD.row)), .p (.sl (first.map row1)), .p (iP trip), .p (iP load)]) ∧ AL.get hpX (nx + 1 + 1 + 1) = some (.box (cells0 ss first trip load (nx + 1 + 1))) ∧ AL.get hpX (nx + 1 + 1) = some (.raw bb (.map #[] 0)) ∧ ∀ id o, id < nx → AL.get hp id = some o → AL.get hpX id = some o
 refine aw_loop_hp (ι := { i : Nat // i ≤ ss.length ∧ ∀ k, k < i → (ss.getD k dSD).ok = true ∧ inB (first.getD k 0) 0 16 = true }) (fun i => [(64, iA i.1)]) (fun _ => FX) (fun i => ss.length - i.1) ⟨0, by omega, fun k hk => by omega⟩ (by first | rfl | (simp only [hF, go_sem, ↓reduceIte]; rfl)) ?_ ?_
 ·exact ⟨by dsimp only; omega, qF, qF, qF, qF, fun id o hl h => by simp (disch := first | decide | omega) only [hF, go_sem, ↓reduceIte]; exact h⟩
 rintro ⟨i, hi, hv⟩ hpX nxX ⟨f0, f1, f2, f3, f4, f5⟩
 refine tO ?_
 by_cases hil : i < ss.length
 ·have hg : (ss.map SD.row)[i]? = some (ss.getD i dSD).row := by rw [List.getElem?_map, get_someSD hil]; rfl
  have hgf : (first.map row1)[i]? = some [iP (first.getD i 0)] := by rw [List.getElem?_map, get_some1' (by omega)]; rfl
  have hcl2 := clash_ok (s := ss.getD i dSD)
  have hcs := ok_clashS (ss.getD i dSD)
  have wf := ok_within (first.getD i 0) 0 16
  have hbad : (ss.getD i dSD).ok = false ∨ inB (first.getD i 0) 0 16 = false → boyB ss first trip load = false := fun h => by
   have h3 : ((List.range ss.length).all fun i => (ss.getD i dSD).ok && inB (first.getD i 0) 0 16) = false := by
    rw [List.all_eq_false]
    refine ⟨i, List.mem_range.2 hil, ?_⟩
    rcases h with h | h <;> rw [h] <;> simp
   unfold boyB; rw [h3, Bool.and_false]
  have hgood : (ss.getD i dSD).ok = true → inB (first.getD i 0) 0 16 = true → ∀ k, k < i + 1 → (ss.getD k dSD).ok = true ∧ inB (first.getD k 0) 0 16 = true := fun h1 h2 k hk => by
   rcases Nat.lt_succ_iff_lt_or_eq.1 hk with h | rfl
   ·exact hv k h
   ·exact ⟨h1, h2⟩
  generalize (ansC (ss.getD i dSD).st).1 = c1 at hcs
  generalize (ansC (ss.getD i dSD).st).2 = c2 at hcs hcl2
  obtain ⟨sd, hsd⟩ : ∃ sd, ss.getD i dSD = sd := ⟨_, rfl⟩
  obtain ⟨ff, hff⟩ : ∃ ff, first.getD i 0 = ff := ⟨_, rfl⟩
  rw [hsd] at hg hcl2 hcs hbad hgood
  rw [hff] at hgf wf hbad hgood
  clear hsd hff hv
  unfold cells0 at f3
  dsimp only [SD.row] at hg hcs
  have hlk : (sd.looks.map row3).length = sd.looks.length := List.length_map _
  try clear hF
  have hF := And.intro hg (And.intro hgf (And.intro f1 (And.intro f2 (And.intro f3 (And.intro f4 (And.intro hlk (hfl)))))))
  refine twF ?_
  refine tiF ?_
  refine twF fun QQ hQQ => ?_
  (refine cOF 87 rfl rfl rfl (hcs) Tryz.func87 rfl ?_); refine tsF ?_; clear hQQ QQ
  by_cases h4 : c2 = 4
  rotate_left
  ·have e4 : (c2 == 4) = false := by simpa using h4
   have hno : sd.ok = false := by rw [← hcl2]; simp [h4]
   try clear hF
   have hF := And.intro hg (And.intro hgf (And.intro f1 (And.intro f2 (And.intro f3 (And.intro f4 (And.intro hlk (And.intro hfl (e4))))))))
   refine twF fun QQ hQQ => ?_
   (refine ⟨rfl, .inr ⟨rfl, callS_x rfl 46 ⟨qF, qF⟩ Tryz.func46 rfl (by decide) (x_ask 1) ?_⟩⟩)
   exact hback (harg (hbad (.inl hno))) qF (by intro id o hl h; simp (disch := first | decide | omega) only [hF, go_sem, ↓reduceIte]; exact f5 id o hl h)
  subst h4
  by_cases h0 : sd.looks.length = 0
  rotate_left
  ·have e0 : ((sd.looks.length : Int) == 0) = false := by simp; intro h; exact h0 (by rw [h]; rfl)
   have hno : sd.ok = false := by rw [← hcl2]; simp [h0]
   try clear hF
   have hF := And.intro hg (And.intro hgf (And.intro f1 (And.intro f2 (And.intro f3 (And.intro f4 (And.intro hlk (And.intro hfl (e0))))))))
   refine twF fun QQ hQQ => ?_
   (refine ⟨rfl, .inr ⟨rfl, callS_x rfl 46 ⟨qF, qF⟩ Tryz.func46 rfl (by decide) (x_ask 1) ?_⟩⟩)
   exact hback (harg (hbad (.inl hno))) qF (by intro id o hl h; simp (disch := first | decide | omega) only [hF, go_sem, ↓reduceIte]; exact f5 id o hl h)
  have e0 : ((sd.looks.length : Int) == 0) = true := by simp [h0]
  have hyes : sd.ok = true := by rw [← hcl2]; simp [h0]
  try clear hF
  have hF := And.intro hg (And.intro hgf (And.intro f1 (And.intro f2 (And.intro f3 (And.intro f4 (And.intro hlk (And.intro hfl (e0))))))))
  refine twF fun QQ hQQ => ?_
  cases b5 : inB ff 0 16
  ·rw [b5] at wf
   (refine cOF 45 rfl rfl rfl (wf) Tryz.func45 rfl ?_); refine tsF ?_
   (refine ⟨rfl, .inr ⟨rfl, callS_x rfl 46 ⟨qF, qF⟩ Tryz.func46 rfl (by decide) (x_ask 1) ?_⟩⟩)
   exact hback (harg (hbad (.inr b5))) qF (by intro id o hl h; simp (disch := first | decide | omega) only [hF, go_sem, ↓reduceIte]; exact f5 id o hl h)
  rw [b5] at wf
  (refine cOF 45 rfl rfl rfl (wf) Tryz.func45 rfl ?_); refine tsF ?_
  ((refine cOF 46 rfl rfl rfl (hm) Tryz.func46 rfl ?_); refine tuF ?_; clear hQQ QQ); refine twF ?_
  refine ⟨⟨i + 1, by omega, hgood hyes b5⟩, ?_, ?_, ?_⟩
  ·simp only; omega
  ·exact ⟨by dsimp only; omega, by simp (disch := first | decide | omega) only [hF, go_sem, ↓reduceIte], by simp (disch := first | decide | omega) only [hF, go_sem, ↓reduceIte], by simp (disch := first | decide | omega) only [hF, go_sem, ↓reduceIte]; rfl, by simp (disch := first | decide | omega) only [hF, go_sem, ↓reduceIte], fun id o hl h => by simp (disch := first | decide | omega) only [hF, go_sem, ↓reduceIte]; exact f5 id o hl h⟩
  ·first | rfl | (simp only [hF, go_sem, ↓reduceIte]; rfl)
 ·have hiN : i = ss.length := by omega
  subst hiN
  have hval : boyB ss first trip load = true := by
   unfold boyB
   rw [b1, b2', b3, b4]
   simp only [Bool.and_self, Bool.true_and, List.all_eq_true, List.mem_range, Bool.and_eq_true]
   exact hv
  obtain ⟨hY, q1, q2, q3, q4⟩ := hYW hval
  clear hv w1 w2 w3 hta b1 b2 b2' b3 b4 e2
  try clear hF
  have hF := And.intro f1 (And.intro f2 (And.intro f3 (f4)))
  refine twF ?_
  refine tiF ?_
  (refine aw_exit ?_); (repeat with_reducible first | apply then_n | apply block_n | apply then_x | apply then_r | apply nog_n | apply nog_r | apply block_r | apply block_e (by decide) | apply block_x (by decide))
  refine aw_weak (weak_thr [1, 2, 5] (by simp only [go_sem, ↓reduceIte]; rfl)) ?_
  subst q1 q2 q3 q4
  unfold cells0 at f3
  rw [first_rows] at f2 f3
  exact open_tail hg hgb hgn b hY hcl (fun K hpX nxX fr bb h1 h2 h3 h4 => hIS hval K hpX nxX fr bb h1 (by unfold cells0; rw [first_rows]; exact h2) h3 h4) (hok hval) (hran hval) f0 f1 f2 f3 f4 f5
end
end Go.Proofs.YthedkfiebmnghaaGreat
