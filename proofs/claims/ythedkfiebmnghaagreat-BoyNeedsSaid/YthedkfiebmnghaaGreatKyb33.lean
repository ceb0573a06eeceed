/- Texts of the proof, joined. -/
import Derived.Test.YthedkfiebmnghaaGreatKyb31
set_option linter.all false
set_option maxHeartbeats 16000000
set_option maxRecDepth 20000
namespace Go.Proofs.YthedkfiebmnghaaGreat
open Go Go.RowKit Go.Sh Go.Pv Go.By
open Go.Sort (PermIn)
theorem c_back {Z : Zn} {w0 : World} {cap : Nat → Prop} {nt : Nat} {rd : Option Nat} {pan : List PanicEntry → St → Prop} {df : Option Nat} {dk : List Nat} {rg : Bool} {fr : List (Nat × AV)} {hp : List (Nat × Obj')} {nx : Nat} {rows : List (List PV)} :
  CallF ⟨Tryz.prog, Z, w0, cap, nt, rd, pan, df, dk, rg⟩ 100 [.one (.p (.sl rows))] ⟨fr, hp, nx⟩ fun st' av => st' = ⟨fr, (nx + 1, .box [.p (.sl rows)]) :: hp, nx + 1 + 1⟩ ∧ av = .one (.fn 124 [.box (nx + 1)]) := by
 (refine callF_to (nt := 4) (rs := [.tmp 2]) Tryz.func100 rfl rfl rfl (by simp) fun hcl tm Ds => ?_); simp only [initV]
 dsimp only [Kx.calleeT]
 have hlt := hcl.lt
 dsimp only at hlt
 refine tw ?_
 refine aw_ret ⟨.inr rfl, _, qN, qN, ⟨fr, (nx + 1, .box [.p (.sl rows)]) :: hp, nx + 1 + 1⟩, rfl, ?_, ?_, ?_, rfl, rfl⟩
 ·exact Closed.new (st := ⟨fr, hp, nx⟩) (id := nx + 1) (nx' := nx + 1 + 1) hcl (by dsimp only; omega) (by omega) (fun _ _ h => by cases h) (fun i hi => by cases hi)
 ·intro id o ho
  have ho : AL.get ((nx + 1, Obj'.box [.p (.sl rows)]) :: hp) id = some o := ho
  by_cases e1 : id = nx + 1
  ·subst e1; rw [AL.get_eq] at ho ⊢; exact ho
  ·rw [AL.get_ne _ _ e1] at ho
   have := hlt id o ho
   simp (disch := first | decide | omega) only [go_sem, ↓reduceIte]
   exact ho
 ·intro i hi
  simp only [refsV, refsC, refsCC, List.flatMap_cons, List.flatMap_nil, List.append_nil, List.mem_singleton] at hi
  subst hi
  exact ⟨_, AL.get_eq _ _ _⟩
def lastI (p : Int → Bool) (l : List Int) : Option Int := l.reverse.find? p
theorem last_no {p : Int → Bool} {l : List Int} {x : Int} (h : lastI p l = some x) : ¬ ∀ j, j < l.length → p (l.getD j 0) = false := fun hn => by
 have h1 := List.find?_some h
 have h2 : x ∈ l := List.mem_reverse.1 (List.mem_of_find?_eq_some h)
 obtain ⟨j, hj, e⟩ := List.getElem_of_mem h2
 have := hn j hj
 rw [show l.getD j 0 = l[j] by simp [List.getD, hj], e, h1] at this
 cases this
theorem last_is {p : Int → Bool} {l : List Int} {x : Int} (h : lastI p l = some x) (i : Nat) (hi : i < l.length) (hn : ∀ j, i < j → j < l.length → p (l.getD j 0) = false) (hy : p (l.getD i 0) = true) : x = l.getD i 0 := by
 have hg : ∀ k (hk : k < l.length), l.getD k 0 = l[k] := fun k hk => by simp [List.getD, hk]
 have e : l = l.take i ++ l.getD i 0 :: l.drop (i + 1) := by
  rw [hg i hi, List.getElem_cons_drop, List.take_append_drop]
 have hd : ∀ z ∈ (l.drop (i + 1)).reverse, ¬ p z = true := fun z hz hp => by
  obtain ⟨j, hj, ej⟩ := List.getElem_of_mem (List.mem_reverse.1 hz)
  rw [List.length_drop] at hj
  rw [List.getElem_drop] at ej
  have := hn (i + 1 + j) (by omega) (by omega)
  rw [hg _ (by omega), ej, hp] at this
  cases this
 have h2 : lastI p l = some (l.getD i 0) := by
  unfold lastI
  conv => lhs; rw [e]
  rw [List.reverse_append, List.reverse_cons, List.find?_append, List.find?_append, List.find?_eq_none.2 hd]
  simp only [Option.none_or, List.find?_cons, hy]
  rfl
 rw [h] at h2
 exact Option.some.inj h2
section
variable {Z : Zn} {w0 : World} {cap : Nat → Prop} {nt : Nat} {rd : Option Nat} {pan : List PanicEntry → St → Prop} {df : Option Nat} {dk : List Nat} {rg : Bool} {fr : List (Nat × AV)} {hp : List (Nat × Obj')} {nx : Nat}
theorem c_last {ac : AC} {p : Int → Bool} {l : List Int} {x : Int} (hl : l.length ≤ 100000) (hp1 : PredI ac p l hp nx) (hx : lastI p l = some x) :
  CallF ⟨Tryz.prog, Z, w0, cap, nt, rd, pan, df, dk, rg⟩ 68 [.one (.p (.sl (l.map row1))), .agg [ac]] ⟨fr, hp, nx⟩ fun st' av => st' = ⟨fr, hp, nx⟩ ∧ av = .one (.p (iP x)) := by
 have hll : (l.map row1).length = l.length := List.length_map _
 have hfx : ∀ i, i < l.length → (∀ j, i < j → j < l.length → p (l.getD j 0) = false) → p (l.getD i 0) = true → x = l.getD i 0 := last_is hx
 have hno : ¬ ∀ j, j < l.length → p (l.getD j 0) = false := last_no hx
 (refine callF_to (nt := 17) (rs := [.cell 4 3]) Tryz.func68 rfl rfl rfl (by simp) fun hcl tm Ds => ?_); simp only [initV]
 dsimp only [Kx.calleeT]
 have hlt := hcl.lt
 dsimp only at hlt
 refine tw fun QQ hQQ => ?_
 refine callS_ok rfl rfl 100 qN qN Tryz.func100 rfl (by decide) (CallF.mono c_back ?_)
 rintro _ _ ⟨rfl, rfl⟩
 (refine ts ?_; clear hQQ QQ)
 refine tw ?_
 refine aw_rangeFunc (nt := 19) rfl rfl (by simp (disch := first | decide | omega) only [go_sem, ↓reduceIte]; rfl) Tryz.func124 rfl (by decide) rfl rfl (by simp) fun r bb tm2 Ds2 hr1 hr1p hr2 hr3 hr4 hr5 hr6 hr7 => ?_
 dsimp only [Kx.iter] at hr5 hr7 ⊢
 try clear hF
 have hF := hll
 refine twF ?_
 obtain ⟨cfr, hcfr⟩ : ∃ cfr, [(8, AV.one (AC.fn 124 [CC.box (nx + 1 + 1 + 1 + 1)])), (7, .one (.p (.sl (l.map row1)))), (4, .one (.box (nx + 1 + 1) 0)), (3, .one (.box (nx + 1) 0)), (0, .one (.p (.sl (l.map row1)))), (1, .agg [ac])] = cfr := ⟨_, rfl⟩
 let FX : List (Nat × Obj') → Nat → Prop := fun hpX nxX => nx + 6 < nxX ∧ (AL.get hpX (nx + 6) = some (.lp bb r) ∧ AL.get hpX (nx + 5) = some (.kept cfr tm2) ∧ AL.get hpX (nx + 4) = some (.box [.p (.sl (l.map row1))]) ∧ AL.get hpX (nx + 2) = some (.box [.p (iP 0)]) ∧ AL.get hpX (nx + 1) = some (.box [ac]) ∧ AL.get hpX nx = some (.kept fr tm)) ∧ ∀ id o, id < nx → AL.get hp id = some o → AL.get hpX id = some o
 refine aw_weak (weak_thr [0, 1, 3] (by simp only [go_sem, ↓reduceIte]; rfl)) ?_
 refine aw_loop_hp (ι := { k : Nat // k ≤ l.length ∧ ∀ j, k ≤ j → j < l.length → p (l.getD j 0) = false }) (fun k => [(3, iA ((k.1 : Int) - 1))]) (fun _ => FX) (fun k => k.1) ⟨l.length, Nat.le_refl _, fun j h1 h2 => by omega⟩ (by first | rfl | (simp only [go_sem, ↓reduceIte]; rfl)) ?_ ?_
 ·refine ⟨by dsimp only; omega, ⟨qN, by subst hcfr; simp (disch := first | decide | omega) only [go_sem, ↓reduceIte]; try rfl, qN, qN, qN, qN⟩, fun id o hl h => by simp (disch := first | decide | omega) only [go_sem, ↓reduceIte]; exact h⟩
 rintro ⟨k, hk, hkn⟩ hpX nxX hFX
 obtain ⟨f0, ⟨f1, f2, f3, f4, f5, f6⟩, f7⟩ := id hFX
 refine tO ?_
 by_cases hk0 : k = 0
 ·subst hk0
  exact absurd (fun j h2 => hkn j (Nat.zero_le _) h2) hno
 ·obtain ⟨i, rfl⟩ : ∃ i, k = i + 1 := ⟨k - 1, by omega⟩
  have ei : ((i + 1 : Nat) : Int) - 1 = (i : Int) := by omega
  rw [ei]
  have hg : (l.map row1)[i]? = some [iP (l.getD i 0)] := by
   rw [List.getElem?_map, get_some1' (by omega)]; rfl
  try clear hF
  have hF := And.intro f1 (And.intro f2 (And.intro f3 (And.intro f4 (And.intro f5 (And.intro f6 (And.intro hg (hll)))))))
  refine twF ?_
  refine tiF ?_
  refine twF fun QQ hQQ => ?_
  have hmem := mem_of_getD (d := 0) (show i < l.length by omega)
  have hnk : p (l.getD i 0) = false → ∀ j, i ≤ j → j < l.length → p (l.getD j 0) = false := fun hx j h1 h2 => by
   by_cases e : j = i
   ·rw [e]; exact hx
   ·exact hkn j (by omega) h2
  have hyes : p (l.getD i 0) = true → x = l.getD i 0 := fun hy => hfx i (by omega) (fun j h1 h2 => hkn j (by omega) h2) hy
  generalize l.getD i 0 = z at *
  subst hcfr
  refine ⟨rfl, .inr ⟨rfl, callS_yield (L := nx + 6) (C := nx + 5) (avs := [.one (.p (iP (i : Int))), .one (.p (iP z))]) rfl rfl qF qF qF hr1 qF hr6 (by rw [hr5]; exact fun t av ht => hr7 t av ht |> fun h => by rw [hr5] at h; exact h) (by rw [hr2]; rfl) ?_ fun Ds tmi => ?_⟩⟩
  ·intro t ht
   rw [hr2] at ht
   rw [hr5]
   simp only [List.mem_cons, List.mem_nil_iff, or_false] at ht
   rcases ht with rfl | rfl <;> decide
  obtain ⟨rB, hrB⟩ : ∃ rB, ({ r with state := .busy } : Loop) = rB := ⟨_, rfl⟩
  rw [hrB, hr2, hr3, hr4, hr5]
  have hrr : ({ rB with state := .ready, pending := none } : Loop) = r := by
   rw [← hrB]
   cases r
   dsimp only at hr1 hr1p
   subst hr1 hr1p
   rfl
  simp only [Kx.round, setPs]
  refine twF ?_
  refine ⟨rfl, by simp (disch := first | decide | omega) only [hF, go_sem, ↓reduceIte], ?_⟩
  refine twF fun QQ hQQ => ?_
  refine ⟨rfl, .inr ⟨rfl, hp1 _ _ _ _ _ _ z _ rfl hmem rfl rfl qF qF (by intro id ob h1 h2; simp (disch := first | decide | omega) only [hF, go_sem, ↓reduceIte]; exact f7 id ob h1 h2) ?_⟩⟩
  cases hx : p z
  ·have hin : (none : Option Code).isNone = true := rfl
   try clear hF
   have hF := And.intro f1 (And.intro f2 (And.intro f3 (And.intro f4 (And.intro f5 (And.intro f6 (And.intro hg (And.intro hll (And.intro hin (hrr)))))))))
   (refine tsF ?_; clear hQQ QQ)
   refine twF ?_
   refine tiF ?_
   refine twF ?_
   refine ⟨qF, none, .inl ⟨rfl, rfl⟩, rB, qF, ?_⟩
   (refine tsF ?_; clear hQQ QQ)
   refine twF ?_
   refine tiF ?_
   refine twF ?_
   refine ⟨⟨i, by omega, hnk hx⟩, by dsimp only; omega, ⟨by dsimp only; omega, ⟨qF, qF, qF, qF, qF, qF⟩, fun id o h1 h2 => by simp (disch := first | decide | omega) only [hF, go_sem, ↓reduceIte]; exact f7 id o h1 h2⟩, by first | rfl | (simp only [hF, go_sem, ↓reduceIte]; rfl)⟩
  ·have hin : (some Code.ret : Option Code).isNone = false := rfl
   try clear hF
   have hF := And.intro f1 (And.intro f2 (And.intro f3 (And.intro f4 (And.intro f5 (And.intro f6 (And.intro hg (And.intro hll (And.intro hin (hrr)))))))))
   (refine tsF ?_; clear hQQ QQ)
   refine twF ?_
   refine tiF ?_
   refine twF ?_
   refine aw_ret ⟨qF, some .ret, .inr (.inl ⟨rfl, rfl⟩), rB, qF, ?_⟩
   (refine tsF ?_; clear hQQ QQ)
   refine twF ?_
   refine tiF ?_
   refine twF ?_
   refine aw_ret ⟨.inr rfl, qF, { rB with state := .done, pending := some .ret }, qF, by (show LoopState.done ≠ LoopState.busy); decide, ?_⟩
   refine ⟨.inr rfl, _, qF, qF, ⟨fr, hp, nx⟩, rfl, hcl, fun id o ho => ?_, fun i hi => (by cases hi), rfl, ?_⟩
   ·have ho : AL.get hp id = some o := ho
    have hid := hlt id o ho
    simp (disch := first | decide | omega) only [hF, go_sem, ↓reduceIte]
    exact f7 id o hid ho
   ·rw [hyes hx]
end
section
variable {Z : Zn} {w0 : World} {cap : Nat → Prop} {nt : Nat} {rd : Option Nat} {pan : List PanicEntry → St → Prop} {df : Option Nat} {dk : List Nat} {rg : Bool} {fr : List (Nat × AV)} {hp : List (Nat × Obj')} {nx : Nat}
theorem cx_last {ac : AC} {p : Int → Bool} {l : List Int} (hl : l.length ≤ 100000) (hp1 : PredI ac p l hp nx) (hx : ∀ j, j < l.length → p (l.getD j 0) = false) (hpan : ∀ ps st', ps = [{ v := stopV 4, recovered := false }] → st' = ⟨fr, hp, nx⟩ → pan ps st') :
  CallF ⟨Tryz.prog, Z, w0, cap, nt, rd, pan, df, dk, rg⟩ 68 [.one (.p (.sl (l.map row1))), .agg [ac]] ⟨fr, hp, nx⟩ fun _ _ => False := by
 have hll : (l.map row1).length = l.length := List.length_map _
 (refine callF_to (nt := 17) (rs := [.cell 4 3]) Tryz.func68 rfl rfl rfl (by simp) fun hcl tm Ds => ?_); simp only [initV]
 dsimp only [Kx.calleeT]
 have hlt := hcl.lt
 dsimp only at hlt
 refine tw fun QQ hQQ => ?_
 refine callS_ok rfl rfl 100 qN qN Tryz.func100 rfl (by decide) (CallF.mono c_back ?_)
 rintro _ _ ⟨rfl, rfl⟩
 (refine ts ?_; clear hQQ QQ)
 refine tw ?_
 refine aw_rangeFunc (nt := 19) rfl rfl (by simp (disch := first | decide | omega) only [go_sem, ↓reduceIte]; rfl) Tryz.func124 rfl (by decide) rfl rfl (by simp) fun r bb tm2 Ds2 hr1 hr1p hr2 hr3 hr4 hr5 hr6 hr7 => ?_
 dsimp only [Kx.iter] at hr5 hr7 ⊢
 try clear hF
 have hF := hll
 refine twF ?_
 obtain ⟨cfr, hcfr⟩ : ∃ cfr, [(8, AV.one (AC.fn 124 [CC.box (nx + 1 + 1 + 1 + 1)])), (7, .one (.p (.sl (l.map row1)))), (4, .one (.box (nx + 1 + 1) 0)), (3, .one (.box (nx + 1) 0)), (0, .one (.p (.sl (l.map row1)))), (1, .agg [ac])] = cfr := ⟨_, rfl⟩
 let FX : List (Nat × Obj') → Nat → Prop := fun hpX nxX => nx + 6 < nxX ∧ (AL.get hpX (nx + 6) = some (.lp bb r) ∧ AL.get hpX (nx + 5) = some (.kept cfr tm2) ∧ AL.get hpX (nx + 4) = some (.box [.p (.sl (l.map row1))]) ∧ AL.get hpX (nx + 2) = some (.box [.p (iP 0)]) ∧ AL.get hpX (nx + 1) = some (.box [ac]) ∧ AL.get hpX nx = some (.kept fr tm)) ∧ ∀ id o, id < nx → AL.get hp id = some o → AL.get hpX id = some o
 refine aw_weak (weak_thr [0, 1, 3] (by simp only [go_sem, ↓reduceIte]; rfl)) ?_
 refine aw_loop_hp (ι := { k : Nat // k ≤ l.length }) (fun k => [(3, iA ((k.1 : Int) - 1))]) (fun _ => FX) (fun k => k.1) ⟨l.length, Nat.le_refl _⟩ (by first | rfl | (simp only [go_sem, ↓reduceIte]; rfl)) ?_ ?_
 ·refine ⟨by dsimp only; omega, ⟨qN, by subst hcfr; simp (disch := first | decide | omega) only [go_sem, ↓reduceIte]; try rfl, qN, qN, qN, qN⟩, fun id o hl h => by simp (disch := first | decide | omega) only [go_sem, ↓reduceIte]; exact h⟩
 rintro ⟨k, hk⟩ hpX nxX hFX
 obtain ⟨f0, ⟨f1, f2, f3, f4, f5, f6⟩, f7⟩ := id hFX
 refine tO ?_
 by_cases hk0 : k = 0
 ·subst hk0
  subst hcfr
  try clear hF
  have hF := And.intro f1 (And.intro f2 (And.intro f3 (And.intro f4 (And.intro f5 (And.intro f6 (hll))))))
  refine twF ?_
  refine tiF ?_
  refine twF ?_
  refine ⟨.inl rfl, qF, r, qF, by rw [hr1]; decide, ?_⟩
  rw [hr1p]
  (repeat (first | with_reducible refine then_n ?_ | with_reducible refine block_n ?_))
  refine twF fun QQ hQQ => ?_
  refine ⟨rfl, .inr ⟨rfl, callS_panic rfl (by (simp (disch := first | decide | omega) only [hF, go_sem, ↓reduceIte]); try rfl) ?_⟩⟩
  refine ⟨qF, ⟨fr, hp, nx⟩, ⟨rfl, hcl, fun id o ho => ?_⟩, hpan _ _ rfl rfl⟩
  have ho : AL.get hp id = some o := ho
  have hid := hlt id o ho
  simp (disch := first | decide | omega) only [hF, go_sem, ↓reduceIte]
  exact f7 id o hid ho
 ·obtain ⟨i, rfl⟩ : ∃ i, k = i + 1 := ⟨k - 1, by omega⟩
  have ei : ((i + 1 : Nat) : Int) - 1 = (i : Int) := by omega
  rw [ei]
  have hg : (l.map row1)[i]? = some [iP (l.getD i 0)] := by
   rw [List.getElem?_map, get_some1' (by omega)]; rfl
  try clear hF
  have hF := And.intro f1 (And.intro f2 (And.intro f3 (And.intro f4 (And.intro f5 (And.intro f6 (And.intro hg (hll)))))))
  refine twF ?_
  refine tiF ?_
  refine twF fun QQ hQQ => ?_
  have hmem := mem_of_getD (d := 0) (show i < l.length by omega)
  have hpz := hx i (by omega)
  generalize l.getD i 0 = z at *
  subst hcfr
  refine ⟨rfl, .inr ⟨rfl, callS_yield (L := nx + 6) (C := nx + 5) (avs := [.one (.p (iP (i : Int))), .one (.p (iP z))]) rfl rfl qF qF qF hr1 qF hr6 (by rw [hr5]; exact fun t av ht => hr7 t av ht |> fun h => by rw [hr5] at h; exact h) (by rw [hr2]; rfl) ?_ fun Ds tmi => ?_⟩⟩
  ·intro t ht
   rw [hr2] at ht
   rw [hr5]
   simp only [List.mem_cons, List.mem_nil_iff, or_false] at ht
   rcases ht with rfl | rfl <;> decide
  obtain ⟨rB, hrB⟩ : ∃ rB, ({ r with state := .busy } : Loop) = rB := ⟨_, rfl⟩
  rw [hrB, hr2, hr3, hr4, hr5]
  have hrr : ({ rB with state := .ready, pending := none } : Loop) = r := by
   rw [← hrB]
   cases r
   dsimp only at hr1 hr1p
   subst hr1 hr1p
   rfl
  simp only [Kx.round, setPs]
  refine twF ?_
  refine ⟨rfl, by simp (disch := first | decide | omega) only [hF, go_sem, ↓reduceIte], ?_⟩
  refine twF fun QQ hQQ => ?_
  refine ⟨rfl, .inr ⟨rfl, hp1 _ _ _ _ _ _ z _ rfl hmem rfl rfl qF qF (by intro id ob h1 h2; simp (disch := first | decide | omega) only [hF, go_sem, ↓reduceIte]; exact f7 id ob h1 h2) ?_⟩⟩
  rw [hpz]
  have hin : (none : Option Code).isNone = true := rfl
  try clear hF
  have hF := And.intro f1 (And.intro f2 (And.intro f3 (And.intro f4 (And.intro f5 (And.intro f6 (And.intro hg (And.intro hll (And.intro hin (hrr)))))))))
  (refine tsF ?_; clear hQQ QQ)
  refine twF ?_
  refine tiF ?_
  refine twF ?_
  refine ⟨qF, none, .inl ⟨rfl, rfl⟩, rB, qF, ?_⟩
  (refine tsF ?_; clear hQQ QQ)
  refine twF ?_
  refine tiF ?_
  refine twF ?_
  refine ⟨⟨i, by omega⟩, by dsimp only; omega, ⟨by dsimp only; omega, ⟨qF, qF, qF, qF, qF, qF⟩, fun id o h1 h2 => by simp (disch := first | decide | omega) only [hF, go_sem, ↓reduceIte]; exact f7 id o h1 h2⟩, by first | rfl | (simp only [hF, go_sem, ↓reduceIte]; rfl)⟩
end
end Go.Proofs.YthedkfiebmnghaaGreat
