/- Texts of the proof, joined. -/
import Derived.Shelf.Spec.SlicesGrow
import Derived.Shelf.Lay
import Derived.Test.YthedkfiebmnghaaGreatProg
import Derived.Test.YthedkfiebmnghaaGreatKya26
import Derived.Sort.AssemblyPlain
set_option linter.all false
set_option maxHeartbeats 16000000
set_option maxRecDepth 20000
namespace Go.Proofs.YthedkfiebmnghaaGreat
open Go Go.RowKit Go.Sh Go.Pv Go.Shelf Go.Lib
shelf_lay_g Lays8.n4 Nm8 4 at Tryz 123 as grow123
theorem c_grow {K : Kx} (hP : K.P = Tryz.prog) {n : Nat} (hn : n ≤ 100000) {st : St} : CallF K 123 [.one .nil, .one (.p (iP (n : Int)))] st fun st' av => st' = ⟨st.fr, (st.nx, .arr 3 1 [] false) :: st.hp, st.nx + 1⟩ ∧ av = .one (.own st.nx 0) := by
 intro σ a w us hr hus
 have e : us = #[.slice none 0 0, .int .i64 (n : Int)] := by
  obtain ⟨h1, h2⟩ := hus
  obtain ⟨v, h3, h4⟩ := h2 0 _ rfl
  obtain ⟨v2, h5, h6⟩ := h2 1 _ rfl
  have h4 : v = .slice none 0 0 := h4
  have h6 : RelP _ _ (iP (n : Int)) v2 := h6
  cases h6
  apply Array.ext'
  obtain ⟨l⟩ := us
  match l, h1, h3, h5 with
  | [y, z], _, h3, h5 => simp at h3 h5; rw [h3, h5, h4]
 subst e
 have hbase : K.w0.heap.size ≤ w.heap.size := hr.frm.size
 have hnone := hr.fresh (Nat.le_refl st.nx)
 have hst : ∀ o, st.upd (some (st.nx, o)) = ⟨st.fr, (st.nx, o) :: st.hp, st.nx + 1⟩ := fun o => by simp [St.upd, AL.set]
 rw [hP]
 by_cases h0 : n = 0
 ·subst h0
  have hc := Any8.slices_Grow_room grow123 none 0 0 0 w (by omega) (by omega) (by omega) (by omega)
  change Calls Tryz.prog 123 _ _ _ at hc
  refine hc.mono ?_
  rintro e w' ⟨rfl, rfl⟩
  obtain ⟨p1, p2⟩ := new_arr hr.heap (id := st.nx) hnone hbase (E := 3) (k := 1) (rows := []) false (val := .slice none 0 0) (xs := []) (w' := w') (World.ownsRow_nil w' _ 3 1) ⟨rfl, rfl, rfl, Nat.le_refl _, fun _ _ _ => rfl⟩ (fun b hb => by cases hb) (fun i row hi => by simp at hi) (fun i row j c hi => by simp at hi)
  have hu := hr.upd (id := st.nx) (Turn.put (w' := w') p1 p2 (fun _ _ => rfl) (Nat.le_refl _) rfl rfl rfl)
  rw [hst] at hu
  exact .inl ⟨_, rfl, _, _, .one (.own st.nx 0), hu, ⟨3, 1, [], false, .slice none 0 0, by simp [sit, AL.get_eq], upd_same _ _ _, Nat.le_refl _, fun _ => rfl, fun hlt => absurd hlt (Nat.lt_irrefl _)⟩, rfl, rfl⟩
 ·obtain ⟨i0, hi0, hs1, hb8, hz0⟩ : ∃ i0, Tryz.prog.info? 3 = some i0 ∧ i0.size = 1 ∧ i0.bytes = 8 ∧ i0.zero = some (.int .i64 0) := by
   have q1 : (Tryz.prog.info? 3).map (fun i => (i.size, i.bytes)) = some (1, 8) := by kernel_rfl
   have q2 : (Tryz.prog.info? 3).bind (fun i => i.zero) = some (.int .i64 0) := by kernel_rfl
   cases h : Tryz.prog.info? 3 with
   | none => rw [h] at q1; cases q1
   | some i0 =>
    rw [h] at q1 q2
    have q1 : some (i0.size, i0.bytes) = some (1, 8) := q1
    simp only [Option.some.injEq, Prod.mk.injEq] at q1
    exact ⟨i0, rfl, q1.1, q1.2, q2⟩
  have hc := Any8.slices_Grow_grow grow123 i0 (.int .i64 0) hi0 hz0 (by omega) none 0 0 n [] w (by omega) (by omega) (by rw [hb8]; omega) (by omega) (by simp) (fun _ => rfl) (fun a ha => by cases ha)
  change Calls Tryz.prog 123 _ _ _ at hc
  have g1 := grownCap_ge w (0 + n) 0 3
  have g2 := grownCap_le_maxLen w (0 + n) 0 3 (by unfold maxLen; omega)
  have hsz : ∀ m, (Builtin.zeroCells (Value.int .i64 0).cells m).size = m := fun m => by rw [size_zeroCells]; simp [Value.cells]
  have e25 : grow123_ren.t 25 = 3 := rfl
  rw [e25] at hc
  generalize grownCap w (0 + n) 0 3 = gc at *
  obtain ⟨cur, hcur⟩ : ∃ cur, [].toArray ++ Builtin.zeroCells (Value.int .i64 0).cells (0 + n - 0) ++ Builtin.zeroCells (Value.int .i64 0).cells (gc - (0 + n)) = cur := ⟨_, rfl⟩
  have hcs : cur.size = gc := by rw [← hcur]; simp [hsz]; omega
  rw [hcur] at hc
  clear hcur
  refine hc.mono ?_
  rintro e w' ⟨rfl, rfl⟩
  obtain ⟨p1, p2⟩ := new_arr hr.heap (id := st.nx) hnone hbase (E := 3) (k := 1) (rows := []) false (val := .slice (some ⟨w.heap.size, 0, none⟩) 0 gc) (xs := []) (w' := w.drew.alloc (.cells cur 3))
   ⟨by simp, .inr ⟨w.heap.size, gc, cur, rfl, hbase, by (show (w.heap.push (Obj.cells cur 3))[w.heap.size]? = _; simp), Nat.zero_le _, g2, by rw [hcs]; omega, by simp⟩⟩ ⟨rfl, rfl, rfl, by (show w.heap.size ≤ (w.heap.push (Obj.cells cur 3)).size; simp), fun k hk _ => Below.heap_alloc w.drew _ _ (show k < w.heap.size from hk)⟩ (fun b hb => by simp [Value.ownBlock] at hb; subst hb; exact Nat.le_refl _) (fun i row hi => by simp at hi) (fun i row j c hi => by simp at hi)
  have hu := hr.upd (id := st.nx) (Turn.put (w' := w.drew.alloc (.cells cur 3)) p1 p2 (fun k hk => Below.heap_alloc w.drew _ _ (show k < w.heap.size from hk)) (by (show w.heap.size ≤ (w.heap.push (Obj.cells cur 3)).size; simp)) rfl rfl rfl)
  rw [hst] at hu
  exact .inl ⟨_, rfl, _, _, .one (.own st.nx 0), hu, ⟨3, 1, [], false, _, by simp [sit, AL.get_eq], upd_same _ _ _, Nat.le_refl _, fun _ => rfl, fun hlt => absurd hlt (Nat.lt_irrefl _)⟩, rfl, rfl⟩
end Go.Proofs.YthedkfiebmnghaaGreat
namespace Go.Proofs.YthedkfiebmnghaaGreat
open Go Go.RowKit Go.Sh Go.Pv Go.By
def lsR (ls : List (List Nat)) : List (List PV) := ls.map fun l => [PV.sl (l.map rowN)]
theorem lsR_len (ls : List (List Nat)) : (lsR ls).length = ls.length := List.length_map _
theorem lsR_get {ls : List (List Nat)} {i : Nat} (h : i < ls.length) : (lsR ls)[i]? = some [PV.sl ((ls.getD i []).map rowN)] := by
 unfold lsR
 rw [List.getElem?_map, getD_some (d := []) h]; rfl
theorem take_flat {ls : List (List Nat)} {i : Nat} (h : i < ls.length) : (ls.take (i + 1)).flatten = (ls.take i).flatten ++ ls.getD i [] := by
 rw [List.take_succ, getD_some (d := []) h, List.flatten_append]; simp
theorem flat_le (ls : List (List Nat)) (i : Nat) : (ls.take i).flatten.length ≤ ls.flatten.length := by
 have h : ls.flatten = (ls.take i).flatten ++ (ls.drop i).flatten := by rw [← List.flatten_append, List.take_append_drop]
 rw [h, List.length_append]; omega
theorem rowsK_N (p : List Nat) : rowsK 1 (p.map rowN) = True := eq_true fun i r h => by rw [List.getElem?_map] at h; obtain ⟨x, _, rfl⟩ := Option.map_eq_some_iff.1 h; rfl
theorem ok_concat (ls : List (List Nat)) (hl : ls.length ≤ 10) (hb : ls.flatten.length ≤ 1000) : FunOK Tryz.prog 99 [.one (.sl (lsR ls))] (.one (.one (.sl (ls.flatten.map rowN)))) := by
 have hll := lsR_len ls
 refine fun_ok (nt := 36) (rs := [.tmp 2]) Tryz.func99 rfl rfl rfl (by simp) fun Z w0 => ?_; refine tI ?_
 refine tw ?_
 refine aw_weak (weak_keep [0, 3, 9, 10, 11] (by simp only [go_sem, ↓reduceIte]; rfl)) ?_
 refine aw_loop_ov (ι := { i : Nat // i ≤ ls.length }) (fun i => [(3, iA (((ls.take i.1).flatten.length : Nat) : Int)), (11, iA i.1)]) (fun _ => []) (fun i => ls.length - i.1) ⟨0, by omega⟩ (by first | rfl | (simp only [go_sem, ↓reduceIte]; first | done | rfl | (simp; try rfl))) ?_
 rintro ⟨i, hi⟩
 refine tO ?_
 by_cases hil : i < ls.length
 ·have hg := lsR_get hil
  have e1 := take_flat hil
  have h1 := flat_le ls (i + 1)
  rw [e1, List.length_append] at h1
  have e2 : (((ls.take (i + 1)).flatten.length : Nat) : Int) = ((ls.take i).flatten.length : Int) + ((ls.getD i []).length : Int) := by rw [e1, List.length_append]; push_cast; rfl
  have hxl : ((ls.getD i []).map rowN).length = (ls.getD i []).length := List.length_map _
  generalize (ls.take i).flatten.length = s at *
  generalize ls.getD i [] = x at *
  try clear hF
  have hF := And.intro hg (And.intro hll (hxl))
  refine twF ?_
  refine tiF ?_
  refine twF ?_
  refine tiF ?_
  refine twF ?_
  refine ⟨⟨i + 1, by omega⟩, ?_, weak_round ?_ (by first | rfl | (simp only [hF, go_sem, ↓reduceIte]))⟩
  rotate_left
  ·simp only [e2]
   (simp only [hF, go_sem, ↓reduceIte]; try rfl)
  ·simp only; omega
 ·have hie : i = ls.length := by omega
  subst hie
  rw [List.take_length]
  refine tw ?_
  refine ti ?_
  refine tw fun QQ hQQ => ?_
  refine callS_ok rfl rfl 123 qN qN Tryz.func123 rfl (by decide) (CallF.mono (c_grow rfl (n := ls.flatten.length) (by omega)) ?_); rintro _ _ ⟨rfl, rfl⟩; refine ts ?_; clear hQQ QQ
  refine tw ?_
  refine aw_weak (weak_share 0 (E := 3) (k := 1) (rows := []) (sh := false) qN) ?_
  dsimp only [AL.set, Nat.reduceEqDiff, ↓reduceIte]
  refine aw_weak (weak_keep [6, 25, 26, 27] (by simp only [go_sem, ↓reduceIte]; rfl)) ?_
  refine aw_loop_ov (ι := { i : Nat // i ≤ ls.length }) (fun i => [(6, .one (.own 0 (ls.take i.1).flatten.length)), (27, iA i.1)]) (fun i => [(0, .arr 3 1 ((ls.take i.1).flatten.map rowN) true)]) (fun i => ls.length - i.1) ⟨0, by omega⟩ (by first | rfl | (simp only [go_sem, ↓reduceIte]; first | done | rfl | (simp; try rfl))) ?_
  rintro ⟨i, hi⟩
  refine tO ?_
  have hfl : ((ls.take i).flatten.map rowN).length = (ls.take i).flatten.length := List.length_map _
  by_cases hil : i < ls.length
  ·have hg := lsR_get hil
   have e1 := take_flat hil
   have h1 := flat_le ls (i + 1)
   rw [e1, List.length_append] at h1
   have hrow : (ls.take i).flatten.map rowN ++ (ls.getD i []).map rowN = (ls.take (i + 1)).flatten.map rowN := by rw [e1, List.map_append]
   have e2 : (ls.take (i + 1)).flatten.length = (ls.take i).flatten.length + (ls.getD i []).length := by rw [e1, List.length_append]
   have hxl : ((ls.getD i []).map rowN).length = (ls.getD i []).length := List.length_map _
   have hkx := rowsK_N (ls.getD i [])
   have hlb : ((ls.take i).flatten.length + (ls.getD i []).length) * 8 ≤ 140737488355328 := by omega
   generalize ls.getD i [] = x at *
   try clear hF
   have hF := And.intro hg (And.intro hll (And.intro hxl (And.intro hfl (And.intro hkx (hlb)))))
   refine twF ?_
   refine tiF ?_
   refine twF ?_
   refine ⟨⟨i + 1, by omega⟩, ?_, weak_round ?_ (by first | rfl | (simp only [hF, go_sem, ↓reduceIte]))⟩
   rotate_left
   ·simp only [← hrow, e2]
    (simp only [hF, go_sem, ↓reduceIte]; try rfl)
   ·simp only; omega
  ·have hie : i = ls.length := by omega
   subst hie
   rw [List.take_length] at hfl ⊢
   have hta : List.take ls.flatten.length (ls.flatten.map rowN) = ls.flatten.map rowN := List.take_of_length_le (by rw [hfl]; exact Nat.le_refl _)
   try clear hF
   have hF := And.intro hfl (hta)
   refine twF ?_
   refine tiF ?_
   refine twF ?_
   refine tRN ?_
   rw [hta]
open Go.Sort (swp insInner insOuter insertionSort)
def tA (d : Array (Nat × Nat)) (i : Nat) : Nat × Nat := d[i]!
def trR (x : Nat × Nat) : List PV := [iP (x.1 : Int), iP (x.2 : Int)]
def rowsT (d : Array (Nat × Nat)) : List (List PV) := d.toList.map trR
def arrT (d : Array (Nat × Nat)) : Obj' := .arr 94 2 (rowsT d) false
def putT (d : Array (Nat × Nat)) (i : Nat) (x : Nat × Nat) : Array (Nat × Nat) := d.setIfInBounds i x
theorem rowsT_len {d : Array (Nat × Nat)} : (rowsT d).length = d.size := by simp [rowsT]
theorem rowsT_get {d : Array (Nat × Nat)} {i : Nat} (h : i < d.size) : (rowsT d)[i]? = some [iP ((tA d i).1 : Int), iP ((tA d i).2 : Int)] := by
 simp [rowsT, tA, h, trR]
theorem rowsT_getP {d : Array (Nat × Nat)} {i j : Nat} {x : Nat × Nat} (h : j < d.size) : (rowsT (putT d i x))[j]? = some [iP ((tA (putT d i x) j).1 : Int), iP ((tA (putT d i x) j).2 : Int)] := rowsT_get (by simp [putT, h])
theorem rowsT_set {d : Array (Nat × Nat)} {i : Nat} (x : Nat × Nat) : (rowsT d).set i [iP (x.1 : Int), iP (x.2 : Int)] = rowsT (putT d i x) := by
 simp [rowsT, putT, trR, List.map_set]
theorem swpT (d : Array (Nat × Nat)) (i j : Nat) : putT (putT d i (tA d j)) j (tA d i) = swp d i j := rfl
theorem putT_size (d : Array (Nat × Nat)) (i : Nat) (x : Nat × Nat) : (putT d i x).size = d.size := by simp [putT]
theorem swp_size (d : Array (Nat × Nat)) (i j : Nat) : (swp d i j).size = d.size := by simp [swp]
theorem nadd1 (a : Nat) : (a : Int) + 1 = ((a + 1 : Nat) : Int) := rfl
theorem nsub {a b : Nat} (h : b ≤ a) : (a : Int) - (b : Int) = ((a - b : Nat) : Int) := by omega
theorem nsub1 {a : Nat} (h : 1 ≤ a) : (a : Int) - 1 = ((a - 1 : Nat) : Int) := by omega
def OkT (pr : Nat × Nat → Prop) (len : Nat) (d : Array (Nat × Nat)) : Prop := d.size = len ∧ ∀ i, i < len → pr (tA d i)
theorem OkT.sw {pr : Nat × Nat → Prop} {len : Nat} {d : Array (Nat × Nat)} (h : OkT pr len d) {i j : Nat} (hi : i < len) (hj : j < len) : OkT pr len (swp d i j) := by
 obtain ⟨hs, hp⟩ := h
 refine ⟨by rw [swp_size, hs], fun k hk => ?_⟩
 unfold tA
 rw [Go.Sort.swp_get d (by omega) (by omega)]
 split
 ·first | exact hp _ hj | exact hp _ hi
 ·split
  ·first | exact hp _ hi | exact hp _ hj
  ·exact hp _ hk
def ltT (cf : Nat × Nat → Nat × Nat → Int) (x y : Nat × Nat) : Bool := decide (cf x y < 0)
def CmpI (ac : AC) (cf : Nat × Nat → Nat × Nat → Int) (pr : Nat × Nat → Prop) (hp0 : List (Nat × Obj')) (nx0 t : Nat) : Prop :=
 ∃ (g : FuncId) (caps : List CC) (gn : Func), ac = .fn g caps ∧ Tryz.prog.funcs[g]? = some gn ∧ gn.body.isSome = true ∧ gn.name ≠ "runtime.NumGoroutine" ∧
  ∀ (K : Kx) (st : St) (x y : Nat × Nat), K.P = Tryz.prog → pr x → pr y → (∀ id ob, id < nx0 → id ≠ t → AL.get hp0 id = some ob → AL.get st.hp id = some ob) →
   CallF K g ([.agg [.p (iP (x.1 : Int)), .p (iP (x.2 : Int))], .agg [.p (iP (y.1 : Int)), .p (iP (y.2 : Int))]] ++ caps.map capV) st fun st' av => st' = st ∧ av = .one (.p (iP (cf x y)))
theorem CmpI.mono {ac : AC} {cf : Nat × Nat → Nat × Nat → Int} {pr : Nat × Nat → Prop} {hp0 hp1 : List (Nat × Obj')} {nx0 nx1 t : Nat} (h : CmpI ac cf pr hp0 nx0 t) (hh : ∀ id ob, id < nx0 → id ≠ t → AL.get hp0 id = some ob → id < nx1 ∧ AL.get hp1 id = some ob) : CmpI ac cf pr hp1 nx1 t := by
 obtain ⟨g, caps, gn, h1, h2, h3, h4, h5⟩ := h
 exact ⟨g, caps, gn, h1, h2, h3, h4, fun K st x y hK hx hy hs => h5 K st x y hK hx hy fun id ob hi ht ho => let ⟨g1, g2⟩ := hh id ob hi ht ho; hs id ob g1 ht g2⟩
def SF (fr : List (Nat × AV)) (tm : Nat → Value) (hp : List (Nat × Obj')) (nx t : Nat) (d : Array (Nat × Nat)) (hpX : List (Nat × Obj')) (nxX : Nat) : Prop :=
 nx < nxX ∧ AL.get hpX nx = some (.kept fr tm) ∧ AL.get hpX t = some (arrT d) ∧ ∀ id o, id < nx → id ≠ t → AL.get hp id = some o → AL.get hpX id = some o
section
variable {fr : List (Nat × AV)} {tm : Nat → Value} {hp hpX : List (Nat × Obj')} {nx nxX t : Nat} {d0 d : Array (Nat × Nat)}
theorem sf_start (hcl : Closed ⟨fr, hp, nx⟩) (ht : AL.get hp t = some (arrT d)) : SF fr tm hp nx t d ((nx, .kept fr tm) :: hp) (nx + 1) := by
 have hl := hcl.lt t _ ht
 refine ⟨Nat.lt_succ_self _, AL.get_eq _ _ _, ?_, fun id o h1 h2 h3 => ?_⟩
 ·rw [AL.get_ne _ _ (by dsimp only at hl; omega)]; exact ht
 ·rw [AL.get_ne _ _ (by omega)]; exact h3
theorem sf_set2 (d' : Array (Nat × Nat)) (o : Obj') (htn : t < nx) (h : SF fr tm hp nx t d hpX nxX) : SF fr tm hp nx t d' ((t, arrT d') :: (t, o) :: hpX) nxX := by
 obtain ⟨h1, h2, h3, h4⟩ := h
 refine ⟨h1, ?_, AL.get_eq _ _ _, fun id o g1 g2 g3 => ?_⟩
 ·rw [AL.get_ne _ _ (by omega), AL.get_ne _ _ (by omega)]; exact h2
 ·rw [AL.get_ne _ _ g2, AL.get_ne _ _ g2]; exact h4 id o g1 g2 g3
theorem sf_set' (d' : Array (Nat × Nat)) (htn : t < nx) (h : SF fr tm hp nx t d hpX nxX) : SF fr tm hp nx t d' (AL.set hpX t (arrT d')) nxX := by
 obtain ⟨h1, h2, h3, h4⟩ := h
 refine ⟨h1, ?_, ?_, fun id o g1 g2 g3 => ?_⟩
 ·rw [AL.get_set, if_neg (by omega)]; exact h2
 ·rw [AL.get_set, if_pos rfl]
 ·rw [AL.get_set, if_neg g2]; exact h4 id o g1 g2 g3
theorem sf_end (hcl : Closed ⟨fr, hp, nx⟩) (ht : AL.get hp t = some (arrT d0)) (h : SF fr tm hp nx t d hpX nxX) {av : AV} (hrf : refsV av = []) {Q : St → Prop} (hq : Q ⟨fr, AL.set hp t (arrT d), nx⟩) :
  AL.get hpX nx = some (.kept fr tm) ∧ ∃ T : St, T.fr = fr ∧ Closed T ∧ (∀ id o, AL.get T.hp id = some o → AL.get hpX id = some o) ∧ There (AL.get T.hp) (refsV av) ∧ Q T := by
 obtain ⟨h1, h2, h3, h4⟩ := h
 refine ⟨h2, ⟨fr, AL.set hp t (arrT d), nx⟩, rfl, hcl.set ht (fun _ _ h => by cases h) (fun i hi => by cases hi), fun id o ho => ?_, fun i hi => (by rw [hrf] at hi; cases hi), hq⟩
 have ho : AL.get (AL.set hp t (arrT d)) id = some o := ho
 rw [AL.get_set] at ho
 split at ho
 ·rename_i e; rw [e]; rw [← ho]; exact h3
 ·rename_i e; exact h4 id o (hcl.lt id o ho) e ho
theorem CmpI.sf {ac : AC} {cf : Nat × Nat → Nat × Nat → Int} {pr : Nat × Nat → Prop} (h : CmpI ac cf pr hp nx t) (hSF : SF fr tm hp nx t d hpX nxX) : CmpI ac cf pr hpX nxX t :=
 h.mono fun id ob hi ht ho => ⟨by have := hSF.1; omega, hSF.2.2.2 id ob hi ht ho⟩
end
attribute [go_sem] rowsT_len rowsT_get rowsT_getP rowsT_set swpT putT_size swp_size nadd1 nsub nsub1
section
variable {cf : Nat × Nat → Nat × Nat → Int} {d : Array (Nat × Nat)} {a j : Nat}
theorem insIn_t (h1 : a < j + 1) (h2 : cf (tA d (j + 1)) (tA d j) < 0) : insInner (ltT cf) a (j + 1) d = insInner (ltT cf) a j (swp d (j + 1) j) := by
 show (if _ then _ else _) = _
 rw [if_pos]
 simp only [Bool.and_eq_true, decide_eq_true_eq]
 exact ⟨h1, decide_eq_true h2⟩
theorem insIn_f (h : ¬ (a < j + 1 ∧ cf (tA d (j + 1)) (tA d j) < 0)) : insInner (ltT cf) a (j + 1) d = d := by
 show (if _ then _ else _) = _
 rw [if_neg]
 simp only [Bool.and_eq_true, decide_eq_true_eq]
 rintro ⟨h1, h2⟩
 exact h ⟨h1, of_decide_eq_true h2⟩
end
section
variable {Z : Zn} {w0 : World} {cap : Nat → Prop} {nt : Nat} {rd : Option Nat} {pan : List PanicEntry → St → Prop} {df : Option Nat} {dk : List Nat} {rg : Bool} {fr : List (Nat × AV)} {hp : List (Nat × Obj')} {nx t len : Nat} {ac : AC} {cf : Nat × Nat → Nat × Nat → Int} {pr : Nat × Nat → Prop}
theorem c_ins (hC : CmpI ac cf pr hp nx t) (hl : len ≤ 100000) (a b : Nat) (d : Array (Nat × Nat)) (ht : AL.get hp t = some (arrT d)) (hok : OkT pr len d) (ha : a ≤ len) (hb : b ≤ len) :
  CallF ⟨Tryz.prog, Z, w0, cap, nt, rd, pan, df, dk, rg⟩ 134 [.one (.own t len), iA a, iA b, .one ac] ⟨fr, hp, nx⟩ fun st' av => (st' = ⟨fr, AL.set hp t (arrT (insertionSort (ltT cf) d a b)), nx⟩ ∧ av = .tup []) ∧ OkT pr len (insertionSort (ltT cf) d a b) := by
 obtain ⟨g, caps, gn, rfl, g5, g6, g7, gC⟩ := id hC
 (refine callF_to (nt := 53) (rs := []) Tryz.func134 rfl rfl rfl (by simp) fun hcl tm Ds => ?_); simp only [initV]
 have htn := hcl.lt t _ ht
 dsimp only [Kx.calleeT] at htn ⊢
 generalize hR : insertionSort (ltT cf) d a b = R
 refine tw ?_
 refine aw_weak (weak_thr [0, 1, 2, 3, 8] (by simp only [go_sem, ↓reduceIte]; rfl)) ?_
 refine aw_loop_hp (ι := { p : Nat × Array (Nat × Nat) // (a + 1 ≤ p.1 ∧ p.1 ≤ max (a + 1) b) ∧ OkT pr len p.2 ∧ insOuter (ltT cf) a b p.1 p.2 = R }) (fun p => [(8, iA p.1.1)]) (fun p => SF fr tm hp nx t p.1.2) (fun p => b - p.1.1) ⟨(a + 1, d), by dsimp only; omega, hok, hR⟩ (by first | rfl | (simp only [go_sem, ↓reduceIte]; rfl)) (sf_start hcl ht) ?_
 rintro ⟨⟨i, d⟩, hi, hok, hs⟩ hpX nxX hSF
 refine tO ?_
 dsimp only at hi hs hSF hok
 by_cases hib : i < b
 ·rw [insOuter, if_pos hib] at hs
  refine tw ?_
  refine ti ?_
  refine tw ?_
  generalize hJ : insInner (ltT cf) a i d = J at hs
  refine aw_weak (weak_thr [0, 1, 2, 3, 8, 9] (by simp only [go_sem, ↓reduceIte]; rfl)) ?_
  refine aw_loop_hp (ι := { p : Nat × Array (Nat × Nat) // p.1 ≤ i ∧ OkT pr len p.2 ∧ insInner (ltT cf) a p.1 p.2 = J }) (fun p => [(9, iA p.1.1)]) (fun p => SF fr tm hp nx t p.1.2) (fun p => p.1.1) ⟨(i, d), by dsimp only; omega, hok, hJ⟩ (by first | rfl | (simp only [go_sem, ↓reduceIte]; rfl)) hSF ?_
  clear hSF hok
  rintro ⟨⟨j, d⟩, hj, hok, hq⟩ hpX2 nxX2 hSF
  refine tO ?_
  obtain ⟨f0, f1, f2, f3⟩ := id hSF
  obtain ⟨hsz, hpr⟩ := id hok
  dsimp only at hj hq f2 hSF hok hsz hpr
  unfold arrT at f2
  try clear hF
  have hF := And.intro f1 (And.intro f2 (hsz))
  by_cases haj : a < j
  ·obtain ⟨j, rfl⟩ : ∃ j', j = j' + 1 := ⟨j - 1, by omega⟩
   have hjj : j + 1 - 1 = j := rfl
   have hp1 := hpr (j + 1) (by omega)
   have hp2 := hpr j (by omega)
   try clear hF
   have hF := And.intro f1 (And.intro f2 (And.intro hjj (hsz)))
   by_cases hp : cf (tA d (j + 1)) (tA d j) < 0
   ·rw [insIn_t haj hp] at hq
    refine twF fun QQ hQQ => ?_
    refine callD_F [] (.one (.p (iP (cf (tA d (j + 1)) (tA d j))))) _ _ rfl rfl qF qF g5 g6 g7 (fun _ _ => rfl) (Nat.le_refl _) (fun _ h => by cases h) (fun fr' hk => gC _ _ _ _ rfl hp1 hp2 fun id ob h1 h2 h3 => f3 id ob h1 h2 h3) ?_
    (refine tdF ?_; clear hQQ QQ)
    refine twF ?_
    refine tiF ?_
    refine twF ?_
    exact ⟨⟨(j, swp d (j + 1) j), by dsimp only; omega, hok.sw (by omega) (by omega), hq⟩, by dsimp only; omega, sf_set2 _ _ htn hSF, by first | rfl | (simp only [hF, go_sem, ↓reduceIte]; rfl)⟩
   ·rw [insIn_f (by omega)] at hq
    subst hq
    refine twF fun QQ hQQ => ?_
    refine callD_F [] (.one (.p (iP (cf (tA d (j + 1)) (tA d j))))) _ _ rfl rfl qF qF g5 g6 g7 (fun _ _ => rfl) (Nat.le_refl _) (fun _ h => by cases h) (fun fr' hk => gC _ _ _ _ rfl hp1 hp2 fun id ob h1 h2 h3 => f3 id ob h1 h2 h3) ?_
    (refine tdF ?_; clear hQQ QQ)
    refine twF ?_
    refine tiF ?_
    refine twF ?_
    exact ⟨⟨(i + 1, d), by dsimp only; omega, hok, hs⟩, by dsimp only; omega, hSF, by first | rfl | (simp only [hF, go_sem, ↓reduceIte]; rfl)⟩
  ·have hq : d = J := by
    rw [← hq]
    cases j with
    | zero => rfl
    | succ j => exact (insIn_f (by omega)).symm
   subst hq
   try clear hF
   have hF := And.intro f1 (And.intro f2 (hsz))
   refine twF ?_
   refine tiF ?_
   refine twF ?_
   exact ⟨⟨(i + 1, d), by dsimp only; omega, hok, hs⟩, by dsimp only; omega, hSF, by first | rfl | (simp only [hF, go_sem, ↓reduceIte]; rfl)⟩
 ·have hsR : d = R := by rw [← hs, insOuter, if_neg hib]
  refine tw ?_
  refine ti ?_
  refine tw ?_
  refine ⟨.inl rfl, _, rfl, sf_end (d := R) hcl ht (by rw [← hsR]; exact hSF) rfl ?_⟩
  exact ⟨⟨rfl, rfl⟩, by rw [← hsR]; exact hok⟩
end
open Go.Sort (swp)
def cfT (D : Nat → List Int) (x y : Nat × Nat) : Int :=
 if dueT D x ≠ dueT D y then dueT D x - dueT D y else if x.1 ≠ y.1 then (x.1 : Int) - y.1 else (x.2 : Int) - y.2
theorem cfT_lt {D : Nat → List Int} {x y : Nat × Nat} : cfT D x y < 0 ↔ tripLt D x y := by
 unfold cfT tripLt
 split
 ·omega
 ·split <;> omega
theorem swoT (D : Nat → List Int) : Go.Sort.SWO (ltT (cfT D)) where
 irrefl x := by
  unfold ltT
  exact decide_eq_false (by rw [cfT_lt]; exact tripLt_irrefl D x)
 trans x y z h1 h2 := by
  unfold ltT at *
  have h1 := cfT_lt.1 (of_decide_eq_true h1)
  have h2 := cfT_lt.1 (of_decide_eq_true h2)
  refine decide_eq_true (cfT_lt.2 ?_)
  unfold tripLt at *
  omega
 ntrans x y z h1 h2 := by
  unfold ltT at *
  have h1 : ¬ tripLt D x y := fun h => of_decide_eq_false h1 (cfT_lt.2 h)
  have h2 : ¬ tripLt D y z := fun h => of_decide_eq_false h2 (cfT_lt.2 h)
  refine decide_eq_false fun h => ?_
  have h := cfT_lt.1 h
  unfold tripLt at *
  omega
section
variable {y : YD} {b : Nat}
theorem s_cmp (h : YOK y) {x z : Nat × Nat} (hx : x ∈ y.all) (hz : z ∈ y.all) : FunS Tryz.prog 97 [.agg [.p (iP (x.1 : Int)), .p (iP (x.2 : Int))], .agg [.p (iP (z.1 : Int)), .p (iP (z.2 : Int))], .one (.box 2 0)] ((2, .box [.box 0 0]) :: YF y b) 3 (.one (.one (iP (cfT y.D x z)))) := by
 have ax := all_at h hx
 have az := all_at h hz
 have dx := due_rng h hx
 have dz := due_rng h hz
 have hhx := toE_has (D := y.D) hx
 have hhz := toE_has (D := y.D) hz
 obtain ⟨lx, hlx⟩ := keyOf94 x (by omega) (by omega)
 obtain ⟨lz, hlz⟩ := keyOf94 z (by omega) (by omega)
 have hkeys : ∀ e ∈ (toE y.D y.all).toList, ∃ l, keyOf Tryz.prog 94 e.key = some l := toE_keys fun x hx => by have := all_at h hx; omega
 have hR : cfT y.D x z = if dueT y.D x ≠ dueT y.D z then dueT y.D x - dueT y.D z else if x.1 ≠ z.1 then (x.1 : Int) - z.1 else (x.2 : Int) - z.2 := rfl
 clear hx hz
 obtain ⟨s1, k1⟩ := x
 obtain ⟨s2, k2⟩ := z
 dsimp only at ax az hR ⊢
 generalize dueT y.D (s1, k1) = d1 at *
 generalize dueT y.D (s2, k2) = d2 at *
 generalize cfT y.D (s1, k1) (s2, k2) = R at *
 unfold YF YH
 refine funS_ok (nt := 47) (rs := [.tmp 5]) Tryz.func97 rfl rfl rfl (by simp) fun Z w0 cap pan dk tm => ?_; refine tV ?_
 refine tw fun QQ hQQ => ?_
 refine callD_findRaw rfl rfl key94 und73 zero3 (id := 1) (b := b) (ck := y.all.length) (es := toE y.D y.all) qN qN (kv := tkV (s1, k1)) qN hlx hkeys (v := .int .i64 d1) (is := true) (.inl ⟨rfl, hhx.1, hhx.2⟩) (rv := .one (iP d1)) (fun _ _ => .v _ rfl) ?_
 (refine td ?_)
 refine callD_findRaw rfl rfl key94 und73 zero3 (id := 1) (b := b) (ck := y.all.length) (es := toE y.D y.all) qN qN (kv := tkV (s2, k2)) qN hlz hkeys (v := .int .i64 d2) (is := true) (.inl ⟨rfl, hhz.1, hhz.2⟩) (rv := .one (iP d2)) (fun _ _ => .v _ rfl) ?_
 (refine td ?_; clear hQQ QQ)
 by_cases hd : d1 = d2
 ·rw [if_neg (by omega)] at hR
  refine ti ?_
  refine tw ?_
  by_cases hs : s1 = s2
  ·rw [if_neg (by omega)] at hR
   subst hR
   refine ti ?_
   refine tw ?_
   (refine aw_ret ⟨.inr rfl, qMN, qMN, qVN⟩)
  ·rw [if_pos hs] at hR
   subst hR
   refine ti ?_
   refine tw ?_
   (refine aw_ret ⟨.inr rfl, qMN, qMN, qVN⟩)
 ·rw [if_pos hd] at hR
  subst hR
  refine ti ?_
  refine tw fun QQ hQQ => ?_
  refine callD_findRaw rfl rfl key94 und73 zero3 (id := 1) (b := b) (ck := y.all.length) (es := toE y.D y.all) qN qN (kv := tkV (s1, k1)) qN hlx hkeys (v := .int .i64 d1) (is := true) (.inl ⟨rfl, hhx.1, hhx.2⟩) (rv := .one (iP d1)) (fun _ _ => .v _ rfl) ?_
  (refine td ?_)
  refine callD_findRaw rfl rfl key94 und73 zero3 (id := 1) (b := b) (ck := y.all.length) (es := toE y.D y.all) qN qN (kv := tkV (s2, k2)) qN hlz hkeys (v := .int .i64 d2) (is := true) (.inl ⟨rfl, hhz.1, hhz.2⟩) (rv := .one (iP d2)) (fun _ _ => .v _ rfl) ?_
  (refine td ?_; clear hQQ QQ)
  refine tw ?_
  (refine aw_ret ⟨.inr rfl, qMN, qMN, qVN⟩)
end
open Go.Sort (swp reverseLoop reverseRange siftDown heapBuild heapPop heapSort)
theorem naddT (a b : Nat) : (a : Int) + (b : Int) = ((a + b : Nat) : Int) := rfl
theorem nmul2 (a : Nat) : 2 * (a : Int) = ((2 * a : Nat) : Int) := rfl
attribute [go_sem] naddT nmul2
section
variable {Z : Zn} {w0 : World} {cap : Nat → Prop} {nt : Nat} {rd : Option Nat} {pan : List PanicEntry → St → Prop} {df : Option Nat} {dk : List Nat} {rg : Bool} {fr : List (Nat × AV)} {hp : List (Nat × Obj')} {nx t len : Nat} {ac : AC} {cf : Nat × Nat → Nat × Nat → Int} {pr : Nat × Nat → Prop}
theorem c_sift (hC : CmpI ac cf pr hp nx t) (hl : len ≤ 100000) (lo hi first : Nat) (d : Array (Nat × Nat)) (ht : AL.get hp t = some (arrT d)) (hok : OkT pr len d) (hlo : lo ≤ len) (hhi : first + hi ≤ len) :
  CallF ⟨Tryz.prog, Z, w0, cap, nt, rd, pan, df, dk, rg⟩ 149 [.one (.own t len), iA lo, iA hi, iA first, .one ac] ⟨fr, hp, nx⟩ fun st' av => (st' = ⟨fr, AL.set hp t (arrT (siftDown (ltT cf) hi first lo d)), nx⟩ ∧ av = .tup []) ∧ OkT pr len (siftDown (ltT cf) hi first lo d) := by
 obtain ⟨g, caps, gn, rfl, g5, g6, g7, gC⟩ := id hC
 (refine callF_to (nt := 82) (rs := []) Tryz.func149 rfl rfl rfl (by simp) fun hcl tm Ds => ?_); simp only [initV]
 have htn := hcl.lt t _ ht
 dsimp only [Kx.calleeT] at htn ⊢
 generalize hR : siftDown (ltT cf) hi first lo d = R
 refine tw ?_
 refine aw_weak (weak_thr [0, 2, 3, 4, 10] (by simp only [go_sem, ↓reduceIte]; rfl)) ?_
 refine aw_loop_hp (ι := { p : Nat × Array (Nat × Nat) // p.1 ≤ len ∧ OkT pr len p.2 ∧ siftDown (ltT cf) hi first p.1 p.2 = R }) (fun p => [(10, iA p.1.1)]) (fun p => SF fr tm hp nx t p.1.2) (fun p => hi - p.1.1) ⟨(lo, d), by dsimp only; omega, hok, hR⟩ (by first | rfl | (simp only [go_sem, ↓reduceIte]; rfl)) (sf_start hcl ht) ?_
 rintro ⟨⟨r, d⟩, hr, hok, hs⟩ hpX nxX hSF
 refine tO ?_
 obtain ⟨f0, f1, f2, f3⟩ := id hSF
 obtain ⟨hsz, hpr⟩ := id hok
 dsimp only at hr hs f2 hSF hok hsz hpr
 unfold arrT at f2
 try clear hF
 have hF := And.intro f1 (And.intro f2 (hsz))
 rw [siftDown] at hs
 by_cases h1 : 2 * r + 1 ≥ hi
 ·rw [dif_pos h1] at hs
  refine twF ?_
  refine tiF ?_
  refine twF ?_
  refine ⟨.inl rfl, _, rfl, sf_end (d := R) hcl ht (by rw [← hs]; exact hSF) rfl ?_⟩
  exact ⟨⟨rfl, rfl⟩, by rw [← hs]; exact hok⟩
 ·rw [dif_neg h1] at hs
  have q0 := hpr (first + r) (by omega)
  have q1 := hpr (first + (2 * r + 1)) (by omega)
  refine twF ?_
  refine tiF ?_
  by_cases h2 : 2 * r + 1 + 1 < hi ∧ cf (tA d (first + (2 * r + 1))) (tA d (first + (2 * r + 1) + 1)) < 0
  ·obtain ⟨h2, h3⟩ := h2
   have q1' := hpr (first + (2 * r + 1) + 1) (by omega)
   have e1 : 2 * r + 1 + 1 = 2 * r + 2 := rfl
   rw [if_pos (by rw [Bool.and_eq_true]; exact ⟨decide_eq_true h2, decide_eq_true h3⟩)] at hs
   refine twF fun QQ hQQ => ?_
   (refine callD_F [] (.one (.p (iP (cf (tA d (first + (2 * r + 1))) (tA d (first + (2 * r + 1) + 1)))))) _ _ rfl rfl qF qF g5 g6 g7 (fun _ _ => rfl) (Nat.le_refl _) (fun _ h => by cases h) (fun fr' hk => gC _ _ _ _ rfl q1 q1' fun id ob h1 h2 h3 => f3 id ob h1 h2 h3) ?_); (refine tdF ?_; clear hQQ QQ)
   refine twF ?_
   refine tiF ?_
   have e2 : first + (2 * r + 1) + 1 = first + (2 * r + 2) := by omega
   rw [e2] at q1'
   by_cases h4 : cf (tA d (first + r)) (tA d (first + (2 * r + 2))) < 0
   ·rw [if_neg (by rw [show ltT cf (d[first + r]!) (d[first + (2 * r + 2)]!) = true from decide_eq_true h4]; decide), dif_pos h2] at hs
    refine twF fun QQ hQQ => ?_
    (refine callD_F [] (.one (.p (iP (cf (tA d (first + r)) (tA d (first + (2 * r + 2))))))) _ _ rfl rfl qF qF g5 g6 g7 (fun _ _ => rfl) (Nat.le_refl _) (fun _ h => by cases h) (fun fr' hk => gC _ _ _ _ rfl q0 q1' fun id ob h1 h2 h3 => f3 id ob h1 h2 h3) ?_); (refine tdF ?_; clear hQQ QQ)
    refine twF ?_
    refine tiF ?_
    refine twF ?_
    exact ⟨⟨(2 * r + 2, swp d (first + r) (first + (2 * r + 2))), by dsimp only; omega, hok.sw (by omega) (by omega), hs⟩, by dsimp only; omega, sf_set2 _ _ htn hSF, by first | rfl | (simp only [hF, go_sem, ↓reduceIte]; rfl)⟩
   ·rw [if_pos (by rw [show ltT cf (d[first + r]!) (d[first + (2 * r + 2)]!) = false from decide_eq_false h4]; rfl)] at hs
    refine twF fun QQ hQQ => ?_
    (refine callD_F [] (.one (.p (iP (cf (tA d (first + r)) (tA d (first + (2 * r + 2))))))) _ _ rfl rfl qF qF g5 g6 g7 (fun _ _ => rfl) (Nat.le_refl _) (fun _ h => by cases h) (fun fr' hk => gC _ _ _ _ rfl q0 q1' fun id ob h1 h2 h3 => f3 id ob h1 h2 h3) ?_); (refine tdF ?_; clear hQQ QQ)
    refine twF ?_
    refine tiF ?_
    refine twF ?_
    refine aw_ret ⟨.inr rfl, _, rfl, sf_end (d := R) hcl ht (by rw [← hs]; exact hSF) rfl ?_⟩
    exact ⟨⟨rfl, rfl⟩, by rw [← hs]; exact hok⟩
  ·rw [if_neg (by rw [Bool.and_eq_true]; rintro ⟨g1, g2⟩; exact h2 ⟨of_decide_eq_true g1, of_decide_eq_true g2⟩)] at hs
   by_cases h3 : 2 * r + 1 + 1 < hi
   ·have q1' := hpr (first + (2 * r + 1) + 1) (by omega)
    have h5 : ¬ cf (tA d (first + (2 * r + 1))) (tA d (first + (2 * r + 1) + 1)) < 0 := fun h => h2 ⟨h3, h⟩
    refine twF fun QQ hQQ => ?_
    (refine callD_F [] (.one (.p (iP (cf (tA d (first + (2 * r + 1))) (tA d (first + (2 * r + 1) + 1)))))) _ _ rfl rfl qF qF g5 g6 g7 (fun _ _ => rfl) (Nat.le_refl _) (fun _ h => by cases h) (fun fr' hk => gC _ _ _ _ rfl q1 q1' fun id ob h1 h2 h3 => f3 id ob h1 h2 h3) ?_); (refine tdF ?_; clear hQQ QQ)
    refine twF ?_
    refine tiF ?_
    by_cases h4 : cf (tA d (first + r)) (tA d (first + (2 * r + 1))) < 0
    ·rw [if_neg (by rw [show ltT cf (d[first + r]!) (d[first + (2 * r + 1)]!) = true from decide_eq_true h4]; decide)] at hs
     refine twF fun QQ hQQ => ?_
     (refine callD_F [] (.one (.p (iP (cf (tA d (first + r)) (tA d (first + (2 * r + 1))))))) _ _ rfl rfl qF qF g5 g6 g7 (fun _ _ => rfl) (Nat.le_refl _) (fun _ h => by cases h) (fun fr' hk => gC _ _ _ _ rfl q0 q1 fun id ob h1 h2 h3 => f3 id ob h1 h2 h3) ?_); (refine tdF ?_; clear hQQ QQ)
     refine twF ?_
     refine tiF ?_
     refine twF ?_
     exact ⟨⟨(2 * r + 1, swp d (first + r) (first + (2 * r + 1))), by dsimp only; omega, hok.sw (by omega) (by omega), hs⟩, by dsimp only; omega, sf_set2 _ _ htn hSF, by first | rfl | (simp only [hF, go_sem, ↓reduceIte]; rfl)⟩
    ·rw [if_pos (by rw [show ltT cf (d[first + r]!) (d[first + (2 * r + 1)]!) = false from decide_eq_false h4]; rfl)] at hs
     refine twF fun QQ hQQ => ?_
     (refine callD_F [] (.one (.p (iP (cf (tA d (first + r)) (tA d (first + (2 * r + 1))))))) _ _ rfl rfl qF qF g5 g6 g7 (fun _ _ => rfl) (Nat.le_refl _) (fun _ h => by cases h) (fun fr' hk => gC _ _ _ _ rfl q0 q1 fun id ob h1 h2 h3 => f3 id ob h1 h2 h3) ?_); (refine tdF ?_; clear hQQ QQ)
     refine twF ?_
     refine tiF ?_
     refine twF ?_
     refine aw_ret ⟨.inr rfl, _, rfl, sf_end (d := R) hcl ht (by rw [← hs]; exact hSF) rfl ?_⟩
     exact ⟨⟨rfl, rfl⟩, by rw [← hs]; exact hok⟩
   ·refine twF ?_
    refine tiF ?_
    by_cases h4 : cf (tA d (first + r)) (tA d (first + (2 * r + 1))) < 0
    ·rw [if_neg (by rw [show ltT cf (d[first + r]!) (d[first + (2 * r + 1)]!) = true from decide_eq_true h4]; decide)] at hs
     refine twF fun QQ hQQ => ?_
     (refine callD_F [] (.one (.p (iP (cf (tA d (first + r)) (tA d (first + (2 * r + 1))))))) _ _ rfl rfl qF qF g5 g6 g7 (fun _ _ => rfl) (Nat.le_refl _) (fun _ h => by cases h) (fun fr' hk => gC _ _ _ _ rfl q0 q1 fun id ob h1 h2 h3 => f3 id ob h1 h2 h3) ?_); (refine tdF ?_; clear hQQ QQ)
     refine twF ?_
     refine tiF ?_
     refine twF ?_
     exact ⟨⟨(2 * r + 1, swp d (first + r) (first + (2 * r + 1))), by dsimp only; omega, hok.sw (by omega) (by omega), hs⟩, by dsimp only; omega, sf_set2 _ _ htn hSF, by first | rfl | (simp only [hF, go_sem, ↓reduceIte]; rfl)⟩
    ·rw [if_pos (by rw [show ltT cf (d[first + r]!) (d[first + (2 * r + 1)]!) = false from decide_eq_false h4]; rfl)] at hs
     refine twF fun QQ hQQ => ?_
     (refine callD_F [] (.one (.p (iP (cf (tA d (first + r)) (tA d (first + (2 * r + 1))))))) _ _ rfl rfl qF qF g5 g6 g7 (fun _ _ => rfl) (Nat.le_refl _) (fun _ h => by cases h) (fun fr' hk => gC _ _ _ _ rfl q0 q1 fun id ob h1 h2 h3 => f3 id ob h1 h2 h3) ?_); (refine tdF ?_; clear hQQ QQ)
     refine twF ?_
     refine tiF ?_
     refine twF ?_
     refine aw_ret ⟨.inr rfl, _, rfl, sf_end (d := R) hcl ht (by rw [← hs]; exact hSF) rfl ?_⟩
     exact ⟨⟨rfl, rfl⟩, by rw [← hs]; exact hok⟩
end
end Go.Proofs.YthedkfiebmnghaaGreat
