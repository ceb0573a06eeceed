/- Kwa9: texts joined (WaK WaL). -/
import Derived.Test.YtgdhdikeicgndaaKwa7
import Derived.Test.YtgdhdikeicgndaaKpv3
import Derived.Test.YtgdhdikeicgndaaKcx5
set_option linter.all false
/- classer: a line is opened, walked. -/
namespace Go.Proofs.Ytgdhdikeicgndaa
open Go Go.RowKit Go.Sh Go.Pv Go.Cl
set_option maxHeartbeats 8000000
set_option maxRecDepth 20000
set_option pp.maxSteps 60000
theorem closed_box {fr : List (Nat × AV)} {hp : List (Nat × Obj')} {nx : Nat} (hcl : Closed ⟨fr, hp, nx⟩) (tm : Nat → Value) (fr' : List (Nat × AV)) (cs : List AC) (hcs : cs.flatMap refsC = []) (hf : ∀ t av, AL.get fr' t = some av → refsV av = [nx + 1] ∨ There (AL.get hp) (refsV av)) :
    Closed ⟨fr', (nx + 1, .box cs) :: (nx, .kept fr tm) :: hp, nx + 1 + 1⟩ := by
  have hg : ∀ id o, AL.get ((nx + 1, Obj'.box cs) :: (nx, .kept fr tm) :: hp) id = some o → (id = nx + 1 ∧ o = .box cs) ∨ (id = nx ∧ o = .kept fr tm) ∨ AL.get hp id = some o := by
    intro id o h
    by_cases e1 : id = nx + 1
    · subst e1; rw [AL.get_eq] at h; cases h; exact .inl ⟨rfl, rfl⟩
    · rw [AL.get_ne _ _ e1] at h
      by_cases e2 : id = nx
      · subst e2; rw [AL.get_eq] at h; cases h; exact .inr (.inl ⟨rfl, rfl⟩)
      · rw [AL.get_ne _ _ e2] at h; exact .inr (.inr h)
  have hd : ∀ {l : List Nat}, There (AL.get hp) l → There (AL.get ((nx + 1, Obj'.box cs) :: (nx, .kept fr tm) :: hp)) l := by
    intro l hl i hi
    obtain ⟨o, ho⟩ := hl i hi
    have := hcl.lt i o ho
    dsimp only at this
    exact ⟨o, by rw [AL.get_ne _ _ (by omega), AL.get_ne _ _ (by omega)]; exact ho⟩
  refine ⟨fun id o h => ?_, fun t av ht => ?_, fun id o h hk => ?_, fun id fr0 tm0 h t av ht => ?_⟩
  · rcases hg id o h with ⟨rfl, _⟩ | ⟨rfl, _⟩ | h
    · dsimp only; omega
    · dsimp only; omega
    · have := hcl.lt id o h; dsimp only at this ⊢; omega
  · rcases hf t av ht with h | h
    · rw [h]; intro i hi; simp at hi; subst hi; exact ⟨_, AL.get_eq _ _ _⟩
    · exact hd h
  · rcases hg id o h with ⟨_, rfl⟩ | ⟨_, rfl⟩ | h
    · simp only [refsO, hcs]; intro i hi; cases hi
    · exact absurd rfl (hk _ _)
    · exact hd (hcl.obj id o h hk)
  · rcases hg id _ h with ⟨_, h⟩ | ⟨_, h⟩ | h
    · cases h
    · cases h; exact hd (hcl.fr t av ht)
    · exact hd (hcl.kept id fr0 tm0 h t av ht)
section
variable {bales : List (Int × Int × Int)} {may drift mist : Int}
theorem rowsK_r3 (l : List (Int × Int × Int)) : rowsK 3 (l.map row3) = True := eq_true fun i r h => by rw [List.getElem?_map] at h; obtain ⟨x, _, rfl⟩ := Option.map_eq_some_iff.1 h; rfl
attribute [local go_sem] rowsK_r3
/-- A line that is valid is opened: what is asked of it answers as told. -/
theorem c_open {Z : Zn} {w0 : World} {cap : Nat → Prop} {nt : Nat} {rd : Option Nat} {pan : List PanicEntry → St → Prop} {df : Option Nat} {dk : List Nat} {rg : Bool} {fr : List (Nat × AV)} {hp : List (Nat × Obj')} {nx : Nat} {g : FuncId} {caps : List CC} {gn : Func}
    (hg : Try.prog.funcs[g]? = some gn) (hgb : gn.body.isSome = true) (hgn : gn.name ≠ "runtime.NumGoroutine") (b : Bool) (bs : List (Nat × Nat × Nat)) (May D M : Nat) (hLW : lineB bales may drift mist = true → bales = bs.map castB ∧ may = May ∧ drift = D ∧ mist = M)
    (hcaps : ∀ i ∈ caps.flatMap refsCC, ∃ o, AL.get hp i = some o)
    (hIS : lineB bales may drift mist = true → ∀ (K : Kx) (hpX : List (Nat × Obj')) (nxX : Nat) (fr : List (Nat × AV)), K.P = Try.prog → AL.get hpX (nx + 1 + 1 + 1) = some (.box (tC D M May bs (nx + 1 + 1))) → AL.get hpX (nx + 1 + 1) = some (.memo Try.prog 118 (keepI D bs)) →
      (∀ id o, id < nx → AL.get hp id = some o → AL.get hpX id = some o) → CallF K g ([.one (.box (nx + 1 + 1 + 1) 0)] ++ caps.map capV) ⟨fr, hpX, nxX⟩ fun st' av => st' = ⟨fr, hpX, nxX⟩ ∧ av = .one (.p (.v (.bool b))))
    {Q : St → AV → Prop} (hok : lineB bales may drift mist = true → b = true → Q ⟨fr, (nx + 1 + 1 + 1, .box (tC D M May bs (nx + 1 + 1))) :: (nx + 1 + 1, .memo Try.prog 118 (keepI D bs)) :: hp, nx + 1 + 1 + 1 + 1⟩ (.one (.box (nx + 1 + 1 + 1) 0)))
    (harg : lineB bales may drift mist = false → pan [{ v := stopV 1, recovered := false }] ⟨fr, hp, nx⟩) (hran : lineB bales may drift mist = true → b = false → pan [{ v := stopV 2, recovered := false }] ⟨fr, hp, nx⟩) :
    CallF ⟨Try.prog, Z, w0, cap, nt, rd, pan, df, dk, rg⟩ 44 [.agg [.p (.sl (bales.map row3)), .p (iP may), .p (iP drift), .p (iP mist)], .one (.fn g caps)] ⟨fr, hp, nx⟩ Q := by
  (refine callF_to (nt := 63) (rs := [.tmp 4]) Try.func44 rfl rfl rfl (by simp) fun hcl tm Ds => ?_); simp only [initV]
  dsimp only [Kx.calleeT]
  have hlt := hcl.lt
  dsimp only at hlt
  have hback : ∀ {hpZ : List (Nat × Obj')} {v : Value}, pan [{ v := v, recovered := false }] ⟨fr, hp, nx⟩ → AL.get hpZ nx = some (.kept fr tm) → (∀ id o, id < nx → AL.get hp id = some o → AL.get hpZ id = some o) →
      AL.get hpZ nx = some (.kept fr tm) ∧ ∃ T : St, Go.Pv.Left ⟨fr, hp, nx⟩ ⟨[], hpZ, 0⟩ T ∧ pan [{ v := v, recovered := false }] T :=
    fun h1 h2 h3 => ⟨h2, ⟨fr, hp, nx⟩, ⟨rfl, hcl, fun id o ho => h3 id o (hlt id o ho) ho⟩, h1⟩
  have w1 := ok_within (bales.length : Int) 1 6
  have w2 := ok_within may 0 30
  have w3 := ok_within drift 0 30
  have w4 := ok_within mist 0 6
  have hm := ok_ask 1
  have hx := x_ask 1
  refine tw ?_; try with_reducible intro QQ hQQ
  cases b1 : inB (bales.length : Int) 1 6
  · rw [b1] at w1
    (refine cO 76 rfl rfl rfl (w1) Try.func76 rfl ?_); refine ts ?_; try clear hQQ QQ
    (refine ⟨rfl, .inr ⟨rfl, callS_x rfl 52 ⟨by simp (disch := first | decide | omega) only [go_sem, ↓reduceIte]; try rfl, by simp (disch := first | decide | omega) only [go_sem, ↓reduceIte]; try rfl⟩ Try.func52 rfl (by decide) (x_ask 1) ?_⟩⟩)
    exact hback (harg (by simp [lineB, b1])) (by simp (disch := first | decide | omega) only [go_sem, ↓reduceIte]; try rfl) (by intro id o hl h; simp (disch := first | decide | omega) only [go_sem, ↓reduceIte]; exact h)
  rw [b1] at w1
  have hl6 : (bales.length : Int) ≤ 6 := by simp [inB] at b1; omega
  cases b2 : inB may 0 30
  · rw [b2] at w2
    (refine cO 76 rfl rfl rfl (w1) Try.func76 rfl ?_); refine ts ?_; try clear hQQ QQ
    (refine cO 76 rfl rfl rfl (w2) Try.func76 rfl ?_); refine ts ?_; try clear hQQ QQ
    (refine ⟨rfl, .inr ⟨rfl, callS_x rfl 52 ⟨by simp (disch := first | decide | omega) only [go_sem, ↓reduceIte]; try rfl, by simp (disch := first | decide | omega) only [go_sem, ↓reduceIte]; try rfl⟩ Try.func52 rfl (by decide) (x_ask 1) ?_⟩⟩)
    exact hback (harg (by simp [lineB, b1, b2])) (by simp (disch := first | decide | omega) only [go_sem, ↓reduceIte]; try rfl) (by intro id o hl h; simp (disch := first | decide | omega) only [go_sem, ↓reduceIte]; exact h)
  rw [b2] at w2
  cases b3 : inB drift 0 30
  · rw [b3] at w3
    (refine cO 76 rfl rfl rfl (w1) Try.func76 rfl ?_); refine ts ?_; try clear hQQ QQ
    (refine cO 76 rfl rfl rfl (w2) Try.func76 rfl ?_); refine ts ?_; try clear hQQ QQ
    (refine cO 76 rfl rfl rfl (w3) Try.func76 rfl ?_); refine ts ?_; try clear hQQ QQ
    (refine ⟨rfl, .inr ⟨rfl, callS_x rfl 52 ⟨by simp (disch := first | decide | omega) only [go_sem, ↓reduceIte]; try rfl, by simp (disch := first | decide | omega) only [go_sem, ↓reduceIte]; try rfl⟩ Try.func52 rfl (by decide) (x_ask 1) ?_⟩⟩)
    exact hback (harg (by simp [lineB, b1, b2, b3])) (by simp (disch := first | decide | omega) only [go_sem, ↓reduceIte]; try rfl) (by intro id o hl h; simp (disch := first | decide | omega) only [go_sem, ↓reduceIte]; exact h)
  rw [b3] at w3
  cases b4 : inB mist 0 6
  · rw [b4] at w4
    (refine cO 76 rfl rfl rfl (w1) Try.func76 rfl ?_); refine ts ?_; try clear hQQ QQ
    (refine cO 76 rfl rfl rfl (w2) Try.func76 rfl ?_); refine ts ?_; try clear hQQ QQ
    (refine cO 76 rfl rfl rfl (w3) Try.func76 rfl ?_); refine ts ?_; try clear hQQ QQ
    (refine cO 76 rfl rfl rfl (w4) Try.func76 rfl ?_); refine ts ?_; try clear hQQ QQ
    (refine ⟨rfl, .inr ⟨rfl, callS_x rfl 52 ⟨by simp (disch := first | decide | omega) only [go_sem, ↓reduceIte]; try rfl, by simp (disch := first | decide | omega) only [go_sem, ↓reduceIte]; try rfl⟩ Try.func52 rfl (by decide) (x_ask 1) ?_⟩⟩)
    exact hback (harg (by simp [lineB, b1, b2, b3, b4])) (by simp (disch := first | decide | omega) only [go_sem, ↓reduceIte]; try rfl) (by intro id o hl h; simp (disch := first | decide | omega) only [go_sem, ↓reduceIte]; exact h)
  rw [b4] at w4
  (refine cO 76 rfl rfl rfl (w1) Try.func76 rfl ?_); refine ts ?_; try clear hQQ QQ
  (refine cO 76 rfl rfl rfl (w2) Try.func76 rfl ?_); refine ts ?_; try clear hQQ QQ
  (refine cO 76 rfl rfl rfl (w3) Try.func76 rfl ?_); refine ts ?_; try clear hQQ QQ
  (refine cO 76 rfl rfl rfl (w4) Try.func76 rfl ?_); refine ts ?_; try clear hQQ QQ
  ((refine cO 52 rfl rfl rfl (hm) Try.func52 rfl ?_); refine tu ?_; try clear hQQ QQ); refine tw ?_; try with_reducible intro QQ hQQ
  refine aw_weak (weak_thr [1, 2, 29, 30, 31] (by simp only [go_sem, ↓reduceIte]; rfl)) ?_
  let FX : List (Nat × Obj') → Nat → Prop := fun hpX nxX => nx + 1 < nxX ∧ AL.get hpX nx = some (.kept fr tm) ∧ AL.get hpX (nx + 1) = some (.box [.p (.sl (bales.map row3)), .p (iP may), .p (iP drift), .p (iP mist)]) ∧ ∀ id o, id < nx → AL.get hp id = some o → AL.get hpX id = some o
  refine aw_loop_hp (ι := { i : Nat // i ≤ bales.length ∧ ∀ k, k < i → baleB (bales.getD k (0, 0, 0)) = true }) (fun i => [(31, iA i.1)]) (fun _ => FX) (fun i => bales.length - i.1) ⟨0, by omega, fun k hk => by omega⟩ (by first | rfl | (simp only [go_sem, ↓reduceIte]; rfl)) ?_ ?_
  · exact ⟨by dsimp only; omega, by simp (disch := first | decide | omega) only [go_sem, ↓reduceIte]; try rfl, by simp (disch := first | decide | omega) only [go_sem, ↓reduceIte]; try rfl, fun id o hl h => by simp (disch := first | decide | omega) only [go_sem, ↓reduceIte]; exact h⟩
  rintro ⟨i, hi, hv⟩ hpX nxX ⟨f0, f1, f2, f5⟩
  simp (disch := decide) only [ov, ovL, AL.get_nil, AL.get_eq, AL.get_ne, Option.getD_some, Option.getD_none]
  by_cases hil : i < bales.length
  · obtain ⟨⟨x, y, z⟩, hb⟩ : ∃ q, bales.getD i (0, 0, 0) = q := ⟨_, rfl⟩
    have v1 := ok_within x 1 30
    have v2 := ok_within y 0 x
    have v3 := ok_within z 0 y
    have hbad : ((inB x 1 30 && inB y 0 x) && inB z 0 y) = false → lineB bales may drift mist = false := fun h => by
      have h2 : baleB (bales.getD i (0, 0, 0)) = false := by rw [hb]; exact h
      have h3 : (bales.all baleB) = false := all_getD_f hil h2
      unfold lineB; rw [h3, Bool.and_false]
    try clear hF
    have hF := And.intro hb (And.intro f1 (f2))
    refine twF ?_; try with_reducible intro QQ hQQ
    refine tiF ?_; try clear hQQ QQ
    refine twF ?_; try with_reducible intro QQ hQQ
    cases d1 : inB x 1 30
    · rw [d1] at v1
      (refine cOF 76 rfl rfl rfl (v1) Try.func76 rfl ?_); refine tsF ?_; try clear hQQ QQ
      (refine ⟨rfl, .inr ⟨rfl, callS_x rfl 52 ⟨by simp (disch := first | decide | omega) only [hF, go_sem, ↓reduceIte]; try rfl, by simp (disch := first | decide | omega) only [hF, go_sem, ↓reduceIte]; try rfl⟩ Try.func52 rfl (by decide) (x_ask 1) ?_⟩⟩)
      exact hback (harg (hbad (by rw [d1]; rfl))) (by simp (disch := first | decide | omega) only [hF, go_sem, ↓reduceIte]; try rfl) (by intro id o hl h; simp (disch := first | decide | omega) only [hF, go_sem, ↓reduceIte]; exact f5 id o hl h)
    rw [d1] at v1
    cases d2 : inB y 0 x
    · rw [d2] at v2
      (refine cOF 76 rfl rfl rfl (v1) Try.func76 rfl ?_); refine tsF ?_; try clear hQQ QQ
      (refine cOF 76 rfl rfl rfl (v2) Try.func76 rfl ?_); refine tsF ?_; try clear hQQ QQ
      (refine ⟨rfl, .inr ⟨rfl, callS_x rfl 52 ⟨by simp (disch := first | decide | omega) only [hF, go_sem, ↓reduceIte]; try rfl, by simp (disch := first | decide | omega) only [hF, go_sem, ↓reduceIte]; try rfl⟩ Try.func52 rfl (by decide) (x_ask 1) ?_⟩⟩)
      exact hback (harg (hbad (by rw [d1, d2]; rfl))) (by simp (disch := first | decide | omega) only [hF, go_sem, ↓reduceIte]; try rfl) (by intro id o hl h; simp (disch := first | decide | omega) only [hF, go_sem, ↓reduceIte]; exact f5 id o hl h)
    rw [d2] at v2
    cases d3 : inB z 0 y
    · rw [d3] at v3
      (refine cOF 76 rfl rfl rfl (v1) Try.func76 rfl ?_); refine tsF ?_; try clear hQQ QQ
      (refine cOF 76 rfl rfl rfl (v2) Try.func76 rfl ?_); refine tsF ?_; try clear hQQ QQ
      (refine cOF 76 rfl rfl rfl (v3) Try.func76 rfl ?_); refine tsF ?_; try clear hQQ QQ
      (refine ⟨rfl, .inr ⟨rfl, callS_x rfl 52 ⟨by simp (disch := first | decide | omega) only [hF, go_sem, ↓reduceIte]; try rfl, by simp (disch := first | decide | omega) only [hF, go_sem, ↓reduceIte]; try rfl⟩ Try.func52 rfl (by decide) (x_ask 1) ?_⟩⟩)
      exact hback (harg (hbad (by rw [d1, d2, d3]; rfl))) (by simp (disch := first | decide | omega) only [hF, go_sem, ↓reduceIte]; try rfl) (by intro id o hl h; simp (disch := first | decide | omega) only [hF, go_sem, ↓reduceIte]; exact f5 id o hl h)
    rw [d3] at v3
    (refine cOF 76 rfl rfl rfl (v1) Try.func76 rfl ?_); refine tsF ?_; try clear hQQ QQ
    (refine cOF 76 rfl rfl rfl (v2) Try.func76 rfl ?_); refine tsF ?_; try clear hQQ QQ
    (refine cOF 76 rfl rfl rfl (v3) Try.func76 rfl ?_); refine tsF ?_; try clear hQQ QQ
    ((refine cOF 52 rfl rfl rfl (hm) Try.func52 rfl ?_); refine tuF ?_; try clear hQQ QQ); refine twF ?_; try with_reducible intro QQ hQQ
    refine ⟨⟨i + 1, by omega, fun k hk => ?_⟩, ?_, ?_, ?_⟩
    · rcases Nat.lt_succ_iff_lt_or_eq.1 hk with h | rfl
      · exact hv k h
      · rw [hb]; unfold baleB; dsimp only; rw [d1, d2, d3]; rfl
    · simp only; omega
    · exact ⟨by dsimp only; omega, by simp (disch := first | decide | omega) only [hF, go_sem, ↓reduceIte], by simp (disch := first | decide | omega) only [hF, go_sem, ↓reduceIte], fun id o hl h => by simp (disch := first | decide | omega) only [hF, go_sem, ↓reduceIte]; exact f5 id o hl h⟩
    · first | rfl | (simp only [hF, go_sem, ↓reduceIte]; rfl)
  · have hiN : i = bales.length := by omega
    subst hiN
    have hvb : bales.all baleB = true := all_getD.2 hv
    have hval : lineB bales may drift mist = true := by simp [lineB, b1, b2, b3, b4, hvb]
    obtain ⟨q1, q2, q3, q4⟩ := hLW hval
    try clear hF
    have hF := And.intro f1 (f2)
    refine twF ?_; try with_reducible intro QQ hQQ
    refine tiF ?_; try clear hQQ QQ
    (repeat (first | with_reducible refine then_n ?_ | with_reducible refine block_n ?_))
    refine aw_exit ?_
    (repeat (first | with_reducible refine then_n ?_ | with_reducible refine block_x rfl ?_ | with_reducible refine block_n ?_))
    refine aw_weak (weak_sub (T := ⟨[(1, .one (.fn g caps)), (2, .one (.box (nx + 1) 0))], (nx + 1, .box [.p (.sl (bales.map row3)), .p (iP may), .p (iP drift), .p (iP mist)]) :: (nx, .kept fr tm) :: hp, nx + 1 + 1⟩) ?_ ?_ (closed_box hcl tm _ _ rfl ?_)) ?_
    · intro t av ht
      by_cases e1 : t = 1
      · subst e1
        rw [AL.get_eq] at ht
        cases ht
        rfl
      · rw [AL.get_ne _ _ e1] at ht
        by_cases e2 : t = 2
        · subst e2
          rw [AL.get_eq] at ht
          cases ht
          rfl
        · rw [AL.get_ne _ _ e2] at ht
          cases ht
    · intro id o ho
      by_cases e1 : id = nx + 1
      · subst e1
        rw [AL.get_eq] at ho
        cases ho
        exact f2
      · rw [AL.get_ne _ _ e1] at ho
        by_cases e2 : id = nx
        · subst e2
          rw [AL.get_eq] at ho
          cases ho
          exact f1
        · rw [AL.get_ne _ _ e2] at ho
          exact f5 id o (hlt id o ho) ho
    · intro t av ht
      by_cases e1 : t = 1
      · subst e1
        rw [AL.get_eq] at ht
        cases ht
        exact .inr hcaps
      · rw [AL.get_ne _ _ e1] at ht
        by_cases e2 : t = 2
        · subst e2
          rw [AL.get_eq] at ht
          cases ht
          exact .inl rfl
        · rw [AL.get_ne _ _ e2] at ht
          cases ht
    clear f0 f1 f2 f5 w1 w2 w3 w4
    refine tw ?_; try with_reducible intro QQ hQQ
    refine ⟨rfl, .inr ⟨rfl, callS_makeMap rfl rfl 118 (keepI D bs) (fun _ _ h => h) ?_⟩⟩
    (refine ts ?_; try clear hQQ QQ)
    refine tw ?_; try with_reducible intro QQ hQQ
    have hTC : ∀ m, tC D M May bs m = [AC.p (.sl (bales.map row3)), .p (iP may), .p (iP drift), .p (iP mist), .memo m] := fun m => by rw [q1, q2, q3, q4, rows_cast]; rfl
    refine callS_ok rfl rfl g (by simp (disch := first | decide | omega) only [go_sem, ↓reduceIte]; try rfl) (by simp (disch := first | decide | omega) only [go_sem, ↓reduceIte]; try rfl) hg hgb hgn ((hIS hval _ _ _ _ rfl (by rw [hTC]; simp (disch := first | decide | omega) only [go_sem, ↓reduceIte]; try rfl) (by simp (disch := first | decide | omega) only [go_sem, ↓reduceIte]; try rfl) (fun id o hl h => by simp (disch := first | decide | omega) only [go_sem, ↓reduceIte]; exact h)).mono ?_)
    rintro _ _ ⟨rfl, rfl⟩
    (refine ts ?_; try clear hQQ QQ)
    cases b
    · (refine ⟨rfl, .inr ⟨rfl, callS_x rfl 52 ⟨by simp (disch := first | decide | omega) only [go_sem, ↓reduceIte]; try rfl, by simp (disch := first | decide | omega) only [go_sem, ↓reduceIte]; try rfl⟩ Try.func52 rfl (by decide) (x_ask 2) ?_⟩⟩)
      exact hback (hran hval rfl) (by simp (disch := first | decide | omega) only [go_sem, ↓reduceIte]; try rfl) (by intro id o hl h; simp (disch := first | decide | omega) only [go_sem, ↓reduceIte]; exact h)
    · ((refine cO 52 rfl rfl rfl (ok_ask 2) Try.func52 rfl ?_); refine tu ?_; try clear hQQ QQ); refine tw ?_; try with_reducible intro QQ hQQ
      have hok := hok hval rfl
      simp only [hTC] at hok
      refine aw_ret ⟨.inr rfl, _, by simp (disch := first | decide | omega) only [go_sem, ↓reduceIte]; try rfl, by simp (disch := first | decide | omega) only [go_sem, ↓reduceIte]; try rfl, ⟨fr, (nx + 1 + 1 + 1, .box [AC.p (.sl (bales.map row3)), .p (iP may), .p (iP drift), .p (iP mist), .memo (nx + 1 + 1)]) :: (nx + 1 + 1, .memo Try.prog 118 (keepI D bs)) :: hp, nx + 1 + 1 + 1 + 1⟩, rfl, ?_, ?_, ?_, hok⟩
      · refine Closed.new (st := ⟨fr, (nx + 1 + 1, .memo Try.prog 118 (keepI D bs)) :: hp, nx + 1 + 1 + 1⟩) (Closed.new hcl (by dsimp only; omega) (by omega) (fun _ _ h => by cases h) (fun i hi => by cases hi)) (by dsimp only; omega) (by omega) (fun _ _ h => by cases h) ?_
        intro i hi
        simp only [refsO, List.flatMap_cons, List.flatMap_nil, refsC, List.nil_append, List.append_nil, List.mem_singleton] at hi
        subst hi
        exact ⟨_, AL.get_eq _ _ _⟩
      · intro id o ho
        have ho : AL.get ((nx + 1 + 1 + 1, Obj'.box [AC.p (.sl (bales.map row3)), .p (iP may), .p (iP drift), .p (iP mist), .memo (nx + 1 + 1)]) :: (nx + 1 + 1, Obj'.memo Try.prog 118 (keepI D bs)) :: hp) id = some o := ho
        by_cases e3 : id = nx + 1 + 1 + 1
        · subst e3
          rw [AL.get_eq] at ho ⊢
          exact ho
        · rw [AL.get_ne _ _ e3] at ho ⊢
          by_cases e2 : id = nx + 1 + 1
          · subst e2
            rw [AL.get_eq] at ho ⊢
            exact ho
          · rw [AL.get_ne _ _ e2] at ho ⊢
            have := hlt id o ho
            rw [AL.get_ne _ _ (by omega), AL.get_ne _ _ (by omega)]
            exact ho
      · intro i hi
        simp only [refsV, refsC, List.mem_singleton] at hi
        subst hi
        exact ⟨_, AL.get_eq _ _ _⟩
end
end Go.Proofs.Ytgdhdikeicgndaa
/- classer: tables of spans, as cells; plain. -/
namespace Go.Proofs.Ytgdhdikeicgndaa
open Go Go.RowKit Go.Sh Go.Pv Go.Cl
set_option maxHeartbeats 4000000
theorem tot_len (t : Nat → Nat → Int × Int) : (totA 31 7 t).length = 434 := arrA_len _ _
theorem tot_refs (t : Nat → Nat → Int × Int) : (totA 31 7 t).flatMap refsC = [] := arrA_refs _ _
theorem tot_get {t : Nat → Nat → Int × Int} {a m : Nat} (ha : a < 31) (hm : m < 7) : List.take 2 (List.drop (a * 14 + m * 2) (totA 31 7 t)) = [.p (iP (t a m).1), .p (iP (t a m).2)] := totA_get (n := 31) (w := 7) ha hm
theorem tot_put {t : Nat → Nat → Int × Int} {a m : Nat} (ha : a < 31) (hm : m < 7) (lo hi : Int) : List.take (a * 14 + m * 2) (totA 31 7 t) ++ [.p (iP lo), .p (iP hi)] ++ List.drop (a * 14 + m * 2 + 2) (totA 31 7 t) = totA 31 7 (updT t a m (lo, hi)) := totA_spl (n := 31) (w := 7) ha hm lo hi
theorem tot_take (t : Nat → Nat → Int × Int) : List.take 434 (totA 31 7 t) = totA 31 7 t := arrA_take _ _
theorem tot_drop (t : Nat → Nat → Int × Int) : List.drop 434 (totA 31 7 t) = [] := arrA_dropn _ _
theorem updT_same (t : Nat → Nat → Int × Int) (a m : Nat) (s : Int × Int) : updT t a m s a m = s := by unfold updT; rw [if_pos ⟨rfl, rfl⟩]
theorem updT_twice (t : Nat → Nat → Int × Int) (a m : Nat) (s r : Int × Int) : updT (updT t a m s) a m r = updT t a m r := by
  funext b k
  unfold updT
  split <;> rfl
/-- The first ones are told. -/
def fillT (F : Nat → Nat → Int × Int) (w m : Nat) : Nat → Nat → Int × Int := fun a b => if a < w ∨ (a = w ∧ b < m) then F a b else (0, 0)
theorem fill_zero (F : Nat → Nat → Int × Int) : fillT F 0 0 = fun _ _ => (0, 0) := by
  funext a b
  unfold fillT; rw [if_neg (by omega)]
theorem fill_step (F : Nat → Nat → Int × Int) (w m : Nat) : updT (fillT F w m) w m (F w m) = fillT F w (m + 1) := by
  funext a b
  unfold updT fillT
  by_cases h : a = w ∧ b = m
  · obtain ⟨rfl, rfl⟩ := h
    rw [if_pos ⟨rfl, rfl⟩, if_pos (by omega)]
  · rw [if_neg h]
    by_cases h2 : a < w ∨ (a = w ∧ b < m)
    · rw [if_pos h2, if_pos (by omega)]
    · rw [if_neg h2, if_neg (by omega)]
theorem fill_next (F : Nat → Nat → Int × Int) (w : Nat) : totA 31 7 (fillT F w 7) = totA 31 7 (fillT F (w + 1) 0) := totA_congr (fun a b _ hb => by
  unfold fillT
  by_cases h : a < w + 1
  · rw [if_pos (by omega), if_pos (.inl h)]
  · rw [if_neg (by omega), if_neg (by omega)]) (by decide)
theorem fill_all (F : Nat → Nat → Int × Int) : totA 31 7 (fillT F 31 0) = totA 31 7 F := totA_congr (fun a b ha _ => by
  unfold fillT
  rw [if_pos (.inl ha)]) (by decide)
/-- What is known before a bale. -/
def tabT (D : Nat) (o : Nat → Nat → Nat) : Nat → Nat → Nat → Int × Int
  | 0 => fun _ _ => (0, 0)
  | n + 1 => tot D o n
/-- Which ones of those before it a bale goes on from. -/
def okT (D : Nat) (o : Nat → Nat → Nat) (n w m : Nat) : Nat → Bool := fun v => if n = 0 then decide (v = 0) && decide (m - o 0 w = 0) else decide (near D v w) && decide (0 ≤ (tabT D o n v (m - o n w)).2)
theorem tot_eq (D : Nat) (o : Nat → Nat → Nat) (n w m : Nat) : tot D o n w m = if o n w ≤ m then totL (okT D o n w m) w (fun v => tabT D o n v (m - o n w)) 31 else none2 := by
  cases n with
  | zero => rfl
  | succ n =>
    show (if _ then _ else _) = _
    have : okT D o (n + 1) w m = fun v => decide (near D v w) && decide (0 ≤ (tot D o n v (m - o (n + 1) w)).2) := by
      funext v
      unfold okT
      rw [if_neg (by omega)]; rfl
    rw [this]; rfl
def BdS (B : Int) (s : Int × Int) : Prop := 0 ≤ s.1 ∧ s.1 ≤ 65536 ∧ -1 ≤ s.2 ∧ s.2 ≤ B
theorem bd_none {B : Int} (h : -1 ≤ B) : BdS B none2 := by unfold BdS none2; dsimp only; omega
theorem bd_zero {B : Int} (h : 0 ≤ B) : BdS B (0, 0) := by unfold BdS; dsimp only; omega
theorem totL_bd {ok : Nat → Bool} {w : Nat} {prev : Nat → Int × Int} {B : Int} (hw : w ≤ 30) (hB : 0 ≤ B) (hp : ∀ v, v < 31 → BdS B (prev v)) : ∀ k, k ≤ 31 → BdS (B + 30) (totL ok w prev k)
  | 0, _ => bd_none (by omega)
  | k + 1, hk => by
    have ih := totL_bd (ok := ok) hw hB hp k (by omega)
    have h := hp k (by omega)
    unfold totL
    split
    · unfold BdS joinS at *
      dsimp only
      omega
    · exact ih
theorem tab_bd {D : Nat} {o : Nat → Nat → Nat} : ∀ n w m, w ≤ 30 → BdS (30 * (n : Nat)) (tabT D o n w m)
  | 0, w, m, hw => bd_zero (by omega)
  | n + 1, w, m, hw => by
    show BdS _ (tot D o n w m)
    rw [tot_eq]
    split
    · have := totL_bd (ok := okT D o n w m) (B := 30 * (n : Nat)) hw (by omega) (prev := fun v => tabT D o n v (m - o n w)) (fun v hv => tab_bd n v _ (by omega)) 31 (Nat.le_refl _)
      unfold BdS at this ⊢
      omega
    · exact bd_none (by omega)
end Go.Proofs.Ytgdhdikeicgndaa
