/- Texts of the proof, joined. -/
import Derived.Test.YthedkfiebmnghaaGreatKpv5
import Derived.Laws.Slices
import Derived.Maps.RangeRun
import Derived.Laws.OwnMore
set_option linter.all false
namespace Go.Pv
open Go Go.RowKit Go.Sh
variable {K : Kx}
def noG (Q : Exit → St → Prop) : Exit → St → Prop
 | .goto _, _ => False
 | e, st => Q e st
theorem nog_n {Q : Exit → St → Prop} {st : St} (h : Q .normal st) : noG Q .normal st := h
theorem nog_r {Q : Exit → St → Prop} {st : St} (h : Q .ret st) : noG Q .ret st := h
theorem aw_scope {c : Code} {Q : Exit → St → Prop} {st : St} (hrd : K.rd = none) (h : AW K c (noG Q) st) : AW K (.scope c) Q st := by
 intro σ a w hr
 have hF : K.F = Fence.wide := by unfold Kx.F; rw [hrd]; rfl
 have h1 := h σ a w hr
 rw [hF] at h1 ⊢
 refine wpIn_wide.2 (wp_scope_straight (Go.wp_mono (wpIn_wide.1 h1) fun e a' w' hp => ?_))
 rcases hp with ⟨σ', st', h1, h2⟩ | ⟨ps, rfl, hp⟩
 ·cases e <;> first
   | exact .inl ⟨σ', st', h1, h2⟩
   | exact h1.elim
 ·exact .inr ⟨ps, rfl, hp⟩
theorem Closed.put {st : St} (h : Closed st) (d : Option Tmp) {av : AV} (hr : There (AL.get st.hp) (refsV av)) : Closed (st.put d av) := by
 cases d with
 | none => exact h
 | some d =>
  refine ⟨h.lt, fun t x ht => ?_, h.obj, h.kept⟩
  have ht : AL.get (AL.set st.fr d av) t = some x := ht
  rw [AL.get_set] at ht
  split at ht
  ·cases ht; exact hr
  ·exact h.fr t x ht
theorem Closed.new {st : St} (h : Closed st) {id nx' : Nat} {o : Obj'} (hid : st.nx ≤ id) (hn : id < nx') (hk : ∀ fr tm, o ≠ .kept fr tm) (hr : There (AL.get st.hp) (refsO o)) : Closed ⟨st.fr, (id, o) :: st.hp, nx'⟩ := by
 have hd : ∀ {l : List Nat}, There (AL.get st.hp) l → There (AL.get ((id, o) :: st.hp)) l := by
  intro l hl i hi
  obtain ⟨x, hx⟩ := hl i hi
  rw [show AL.get ((id, o) :: st.hp) i = if i = id then some o else AL.get st.hp i from rfl]
  split
  ·exact ⟨_, rfl⟩
  ·exact ⟨x, hx⟩
 have key : ∀ {i : Nat} {x : Obj'}, AL.get ((id, o) :: st.hp) i = some x → (i = id ∧ x = o) ∨ AL.get st.hp i = some x := by
  intro i x hx
  rw [show AL.get ((id, o) :: st.hp) i = if i = id then some o else AL.get st.hp i from rfl] at hx
  split at hx
  ·cases hx; exact .inl ⟨by assumption, rfl⟩
  ·exact .inr hx
 refine ⟨fun i x hx => ?_, fun t av ht => hd (h.fr t av ht), fun i x hx hk' => ?_, fun i fr tm hx t av ht => ?_⟩
 ·rcases key hx with ⟨rfl, _⟩ | hx
  ·exact hn
  ·exact Nat.lt_trans (Nat.lt_of_lt_of_le (h.lt _ _ hx) hid) hn
 ·rcases key hx with ⟨_, rfl⟩ | hx
  ·exact hd hr
  ·exact hd (h.obj i x hx hk')
 ·rcases key hx with ⟨_, rfl⟩ | hx
  ·exact absurd rfl (hk fr tm)
  ·exact hd (h.kept i fr tm hx t av ht)
section
variable {l : List Oper} {rest : List Oper} {st : St} {o : Oper} {Q : St → Prop} {recs : List Rec} {f : Operand} {args : Array Operand} {argTypes : Array TypeId} {fid : FuncId} {caps : List CC} {avs : List AV} {fn : Func}
theorem callD_F (ch : List Nat) (av : AV) (hp2 : List (Nat × Obj')) (nx2 : Nat) (hd : dstOK K o.dst = true) (ho : o.op = .call { callee := .value f, args := args, argTypes := argTypes }) (h1 : (evalA (AL.get st.fr) f).bind fnA = some (fid, caps)) (h2 : mapO (evalA (AL.get st.fr)) args.toList = some avs)
  (h5 : K.P.funcs[fid]? = some fn) (h6 : fn.body.isSome = true) (h7 : fn.name ≠ "runtime.NumGoroutine") (hc : ∀ id, id ∉ ch → AL.get hp2 id = AL.get st.hp id) (hn : st.nx ≤ nx2) (hlt : ∀ id ∈ ch, id < nx2)
  (hF : ∀ fr, (∀ t, keepT l o t = true → AL.get fr t = AL.get st.fr t) → CallF K fid (avs ++ caps.map capV) ⟨fr, st.hp, st.nx⟩ fun st' av' => st' = ⟨fr, hp2, nx2⟩ ∧ av' = av)
  (h : evDraw K l rest (St.put ⟨st.fr, hp2, nx2⟩ o.dst av) (recs ++ [(none, ch)]) Q) : CallD K l o rest st recs Q :=
 callD_turn hd (by rw [ho]; rfl) ch av hp2 nx2 (turns_of ch av hp2 nx2 hd ho h1 h2 h5 h6 h7 hc hn hlt hF) h
theorem callD_FX (hd : dstOK K o.dst = true) (ho : o.op = .call { callee := .value f, args := args, argTypes := argTypes }) (h1 : (evalA (AL.get st.fr) f).bind fnA = some (fid, caps)) (h2 : mapO (evalA (AL.get st.fr)) args.toList = some avs)
  (h5 : K.P.funcs[fid]? = some fn) (h6 : fn.body.isSome = true) (h7 : fn.name ≠ "runtime.NumGoroutine")
  (hF : ∀ fr, (∀ t, keepD l recs.length o t = true → AL.get fr t = AL.get st.fr t) → CallF K fid (avs ++ caps.map capV) ⟨fr, st.hp, st.nx⟩ fun _ _ => False)
  (h : evDead K l recs.length rest st (recs ++ [(none, [])])) : CallD K l o rest st recs Q :=
 callD_pan hd (by rw [ho]; rfl) (fun fr hk => by
  obtain ⟨g1, g2⟩ := callee_keep (fun t h => hk t (keepD_of h)) ho h1 h2
  exact callS_of hd ho fid g1 g2 h5 h6 h7 ((hF fr hk).mono fun _ _ h => h.elim)) h
end
end Go.Pv
namespace Go.Pv
open Go Go.RowKit Go.Sh
variable {K : Kx}
theorem callD_X {l : List Oper} {o : Oper} {r : List Oper} {st : St} {recs : List Rec} {Q : St → Prop} {f : Operand} {args : Array Operand} {argTypes : Array TypeId} (hd : dstOK K o.dst = true) (ho : o.op = .call { callee := .value f, args := args, argTypes := argTypes }) (fid : FuncId) {rvs : List RV} {v : Value}
  (h1 : (evalA (AL.get st.fr) f).bind fnA = some (fid, [])) (h2 : (args.toList.mapM (arg1 (AL.get st.fr) (AL.get st.hp) true)) = some rvs) {fn : Func} (h5 : K.P.funcs[fid]? = some fn) (h6 : fn.body.isSome = true) (h7 : fn.name ≠ "runtime.NumGoroutine") (hf : FunX K.P fid rvs v)
  (hp : ∀ fr, (∀ t, keepD l recs.length o t = true → AL.get fr t = AL.get st.fr t) → K.pan [{ v, recovered := false }] ⟨fr, st.hp, st.nx⟩) (h : evDead K l recs.length r st (recs ++ [(none, [])])) : CallD K l o r st recs Q :=
 callD_pan hd (by rw [ho]; rfl) (fun fr hk => callS_x ho fid ⟨by rw [evalA_keep (fun t h => hk t (keepD_of h)) (by simp [ho, Op.operands, Call.operands])]; exact h1, by
  rw [← h2]
  exact mapM_local fun x hx => by
   unfold arg1
   rw [evalA_keep (fun t h => hk t (keepD_of h)) (by simp only [ho, Op.operands, Call.operands, Array.toList_append, List.mem_append]; exact .inr hx)]⟩ h5 h6 h7 hf (hp fr hk)) h
end Go.Pv
namespace Go.Pv
open Go Go.RowKit Go.Sh
variable {K : Kx}
theorem restrict_rel {st st' : St} (slots ids : List Nat) (nx : Nat) (h : restrict st slots ids nx = some st') {σ : Nat → Option Value} {a : Act} {w : World} (hr : Rel K σ st a w) : Rel K (fun i => if i ∈ ids then σ i else none) st' a w ∧ ∀ i, AL.get st'.hp i = if i ∈ ids then (sit K σ st w).h i else none := by
 unfold restrict at h
 simp only [Option.bind_eq_some_iff] at h
 obtain ⟨fr, hfr, hp, hhp, h⟩ := h
 split at h
 ·rename_i hc
  obtain ⟨hc1, hc2, hc3⟩ := hc
  cases h
  have hh : ∀ i, AL.get hp i = if i ∈ ids then (sit K σ st w).h i else none := takeAL_get hhp
  have hs : sit K (fun i => if i ∈ ids then σ i else none) ⟨fr, hp, nx⟩ w = (sit K σ st w).sub ids (AL.get hp) := rfl
  refine ⟨⟨⟨fun id o ho => ?_, fun id l hl => ?_, fun i i' l l' b hi hi' hb hb' => ?_, fun i l b hi hb => ?_⟩, fun t av ht => ?_, fun id o ho => ?_, hr.df, hr.nt, hr.frm⟩, hh⟩
  ·have ho' : AL.get hp id = some o := ho
   have hmem := takeAL_mem hhp id o ho'
   have hrefs := allRefs_spec (List.all_eq_true.1 hc2 _ hmem)
   rw [hh] at ho'
   split at ho'
   ·rename_i hid
    have h0 := hr.heap.objs id o ho'
    rw [hs]
    cases o with
    | box cs =>
     obtain ⟨blk, vs, ty, h1, h2, h3⟩ := h0
     exact ⟨blk, vs, ty, by show (if id ∈ ids then σ id else none) = _; rw [if_pos hid]; exact h1, h2, sub_relCs hh h3 hrefs⟩
    | arr E k rows sh =>
     obtain ⟨val, xs, h1, h2, h3, h4⟩ := h0
     exact ⟨val, xs, by show (if id ∈ ids then σ id else none) = _; rw [if_pos hid]; exact h1, h2, h3, fun i row j c hi hj => let ⟨u, hu, hru⟩ := h4 i row j c hi hj; ⟨u, hu, sub_relP hh hru⟩⟩
    | kept fr' tm =>
     refine ⟨by show (if id ∈ ids then σ id else none) = none; rw [if_pos hid]; exact h0.1, fun t av ht => ?_⟩
     exact sub_relV hh (h0.2 t av ht) fun i hi => hrefs i (List.mem_flatMap.2 ⟨(t, av), AL.get_mem ht, hi⟩)
    | memo P k I =>
     obtain ⟨b, h1, h2⟩ := h0
     exact ⟨b, by show (if id ∈ ids then σ id else none) = _; rw [if_pos hid]; exact h1, h2⟩
    | raw b o =>
     obtain ⟨l, h1, h2, h3⟩ := h0
     exact ⟨l, by show (if id ∈ ids then σ id else none) = _; rw [if_pos hid]; exact h1, h2, h3⟩
    | lp b r =>
     obtain ⟨h1, h2⟩ := h0
     exact ⟨by show (if id ∈ ids then σ id else none) = _; rw [if_pos hid]; exact h1, h2⟩
   ·cases ho'
  ·simp only [sit] at hl ⊢
   split at hl
   ·rename_i hid
    obtain ⟨o, ho⟩ := hr.heap.dom id l hl
    exact ⟨o, by rw [hh, if_pos hid]; exact ho⟩
   ·cases hl
  ·simp only [sit] at hi hi'
   split at hi
   ·split at hi'
    ·exact hr.heap.inj i i' l l' b hi hi' hb hb'
    ·cases hi'
   ·cases hi
  ·simp only [sit] at hi
   split at hi
   ·exact hr.heap.lt i l b hi hb
   ·cases hi
  ·have hmem := takeAL_mem hfr t av ht
   have hrefs := allRefs_spec (List.all_eq_true.1 hc1 _ hmem)
   have ht' : AL.get st.fr t = some av := by
    have h2 : AL.get fr t = some av := ht
    rw [takeAL_get hfr] at h2
    split at h2
    ·exact h2
    ·cases h2
   obtain ⟨h1, h2⟩ := hr.fr t av ht'
   refine ⟨h1, ?_⟩
   rw [hs]
   cases av with
   | one c => exact sub_relC hh h2 hrefs
   | agg cs => obtain ⟨us, h3, h4⟩ := h2; exact ⟨us, h3, sub_relCs hh h4 hrefs⟩
   | tup rs =>
    obtain ⟨us, h3, h4⟩ := h2
    exact ⟨us, h3, h4.mono fun _ _ _ hz hc => ⟨sub_safe hh hz, hc⟩⟩
   | any => trivial
   | und => exact h2
  ·have h2 : AL.get hp id = some o := ho
   rw [takeAL_get hhp] at h2
   split at h2
   ·rename_i hid
    have := List.all_eq_true.1 hc3 id hid
    simpa using this
   ·cases h2
 ·cases h
variable {K : Kx}
variable {K : Kx}
def bndA (fr : Nat → Option AV) (x : Option Operand) (dflt n : Nat) : Prop := match x with
 | none => n = dflt
 | some x => ∃ k, plain1 fr x = some (.int k (n : Int))
variable {P : Program}
variable {P : Program}
variable {K : Kx}
theorem locRaw_blk {o : Obj} {b : Nat} {l : Value} (h : locRaw o b = some l) : locBlk l = some b := by
 cases o <;> simp [locRaw] at h <;> subst h <;> rfl
theorem new_raw {s : Sit} (H : Heap0 s) {id : Nat} (hid : s.σ id = none) (hbase : s.base ≤ s.w.heap.size) {o : Obj} {l : Value} (hl : locRaw o s.w.heap.size = some l) :
  Heap0 (s.put id (.raw s.w.heap.size o) l (s.w.alloc o)) ∧ Ext s (s.put id (.raw s.w.heap.size o) l (s.w.alloc o)) := by
 have hT : Turn s id (.raw s.w.heap.size o) l (s.w.alloc o) :=
  Turn.new hid (fun k hk => Below.heap_alloc _ _ _ hk) (by simp) hbase (fun b hb => by rw [locRaw_blk hl] at hb; cases hb; simp)
 have he := hT.new_ext hid
 exact ⟨hT.heap H he ⟨l, by simp [Sit.put, upd_same], hl, World.alloc_heap_new s.w _⟩, he⟩
theorem set_raw {s : Sit} (H : Heap0 s) {id b : Nat} {o o' : Obj} {l : Value} (hid : s.h id = some (.raw b o)) (hσ : s.σ id = some l) (hl : locRaw o' b = some l) :
  Heap0 (s.put id (.raw b o') l (s.w.putObj b o')) ∧ Ext s (s.put id (.raw b o') l (s.w.putObj b o')) := by
 have hlt := H.lt id _ b hσ (locRaw_blk hl)
 have hT : Turn s id (.raw b o') l (s.w.putObj b o') :=
  ⟨fun k' _ hne => World.putObj_heap_other (fun e => hne _ hσ (by rw [e]; exact locRaw_blk hl)), by simp, fun b' hb' => by
   rw [locRaw_blk hl] at hb'; cases hb'; exact ⟨by simpa using hlt.1, hlt.2, .inl ⟨_, hσ, locRaw_blk hl⟩⟩, fun _ _ _ _ _ _ _ h => by rw [hid] at h; cases h⟩
 have he : Ext s (s.put id (.raw b o') l (s.w.putObj b o')) :=
  hT.ext (fun _ _ h _ => by rw [hid] at h; cases h) (fun _ _ _ _ _ h _ => by rw [hid] at h; cases h) (fun _ _ _ _ h1 _ => by rw [hid] at h1; cases h1) (fun _ _ _ h1 _ => by rw [hid] at h1; cases h1) (fun b0 r0 l0 h1 h2 => by
   rw [hid] at h1; cases h1
   rw [hσ] at h2; cases h2
   exact ⟨rfl, o', rfl⟩)
 exact ⟨hT.heap H he ⟨l, by simp [Sit.put, upd_same], hl, World.putObj_heap_same hlt.1⟩, he⟩
theorem Rel.raw {σ : Nat → Option Value} {st : St} {a : Act} {w : World} (hr : Rel K σ st a w) {x : Operand} {id b : Nat} {o : Obj} (h1 : evalA (AL.get st.fr) x = some (.one (.raw id))) (h2 : AL.get st.hp id = some (.raw b o)) :
  ∃ l, a.eval x = l ∧ σ id = some l ∧ locRaw o b = some l ∧ w.heap[b]? = some o := by
 obtain ⟨b1, o1, g1, g2, _⟩ := hr.evF x _ h1
 obtain ⟨l, g3, g4, g5⟩ := hr.heap.objs id _ h2
 have e : some l = some (a.eval x) := g3.symm.trans g2
 cases e
 exact ⟨_, rfl, g3, g4, g5⟩
theorem callS_makeRaw {st : St} {o : Oper} {Q : St → Prop} {T : TypeId} (hd : dstOK K o.dst = true) (ho : o.op = .makeMap T none) (h : ∀ b, Q ((st.upd (some (st.nx, .raw b (.map #[] 0)))).put o.dst (.one (.raw st.nx)))) : CallS K st o Q := by
 intro σ a w hr
 refine wpIn_of (by rw [ho]; intro c hc; cases hc) ?_
 have hrun : (execOp a.eval o).run K.P w = .ok (.value (.map (some w.heap.size))) (w.alloc (.map #[] 0)) := by
  simp [execOp, ho, Instr.makeMap, newObj, Sem.run_bind]
  rfl
 rw [hrun, Oper.uponIn_value]
 have hnone := hr.fresh (Nat.le_refl _)
 obtain ⟨p1, p2⟩ := new_raw hr.heap (id := st.nx) hnone hr.frm.size (o := .map #[] 0) (l := .map (some w.heap.size)) rfl
 have hp : Put (sit K σ st w) st.nx (.raw w.heap.size (.map #[] 0)) (.map (some w.heap.size)) (w.alloc (.map #[] 0)) := Turn.put p1 p2 (fun k hk => Below.heap_alloc _ _ _ hk) (by simp [sit]) rfl rfl rfl
 exact ⟨_, _, hr.put_upd hp hd (av := .one (.raw st.nx)) ⟨w.heap.size, .map #[] 0, by simp [Sit.put, upd_same], by simp [Sit.put, upd_same], rfl⟩, h _⟩
theorem callS_insertRaw {st : St} {o : Oper} {Q : St → Prop} {T k e : TypeId} {m kx vx : Operand} (hd : dstOK K o.dst = true) (ho : o.op = .mapUpdate T m kx vx) (KL : WideMaps.KeyLaw K.P k) (ht : K.P.underlying T = some (.map k e)) {id b ck : Nat} {es : Array MapEntry}
  (h1 : evalA (AL.get st.fr) m = some (.one (.raw id))) (h2 : AL.get st.hp id = some (.raw b (.map es ck))) {kv vv : Value} {l : Lit} (h3 : plain1 (AL.get st.fr) kx = some kv) (h4 : plain1 (AL.get st.fr) vx = some vv) (hk : keyOf K.P k kv = some l) (hes : ∀ x ∈ es.toList, ∃ l, keyOf K.P k x.key = some l) (hno : ∀ x ∈ es.toList, x.key ≠ kv)
  (h : Q ((st.upd (some (id, .raw b (.map (es.push { key := kv, val := vv, born := ck }) (ck + 1))))).put o.dst .und)) : CallS K st o Q := by
 intro σ a w hr
 refine wpIn_of (by rw [ho]; intro c hc; cases hc) ?_
 simp only [plain1, Option.bind_eq_some_iff] at h3 h4
 obtain ⟨ak, hak, hpk⟩ := h3
 obtain ⟨av, hav, hpv⟩ := h4
 have e1 := plainOf_rel (hr.evF kx ak hak) hpk
 have e2 := plainOf_rel (hr.evF vx av hav) hpv
 obtain ⟨lv, g1, g2, g3, g4⟩ := hr.raw h1 h2
 have g3' : lv = .map (some b) := by simp [locRaw] at g3; exact g3.symm
 subst g3'
 have hlt : b < w.heap.size := (Array.getElem?_eq_some_iff.1 g4).1
 have hc := KL.check w false hk
 have hu : (Instr.mapUpdate T (.map (some b)) kv vv).run K.P w = .ok () (w.putObj b (.map (es.push { key := kv, val := vv, born := ck }) (ck + 1))) := by
  rcases KL.find w hk es.toList hes with ⟨hf, _⟩ | ⟨j, e0, hf, hj, hkey⟩
  ·simp [Instr.mapUpdate, run_underlying ht, MapKept.run_getObj_map g4, hc, hf, setObj, Sem.run, g4, World.putObj]
  ·exact absurd hkey (hno e0 (List.mem_of_getElem? hj))
 have hrun : (execOp a.eval o).run K.P w = .ok .skip (w.putObj b (.map (es.push { key := kv, val := vv, born := ck }) (ck + 1))) := by
  simp only [execOp, ho, e1, e2, g1, Sem.run_bind, Sem.run_pure]
  rw [hu]
  rfl
 rw [hrun, Oper.uponIn_skip]
 obtain ⟨p1, p2⟩ := set_raw hr.heap (s := sit K σ st w) h2 g2 (o' := .map (es.push { key := kv, val := vv, born := ck }) (ck + 1)) rfl
 have hp : Put (sit K σ st w) id (.raw b (.map (es.push { key := kv, val := vv, born := ck }) (ck + 1))) (.map (some b)) (w.putObj b (.map (es.push { key := kv, val := vv, born := ck }) (ck + 1))) :=
  ⟨p1, p2, fun k hk hne => World.putObj_heap_other (fun e => hne _ g2 (by rw [e]; rfl)), by simp [sit], rfl, rfl, rfl⟩
 exact ⟨_, _, (hr.upd hp).put hd (av := .und) (v := undef) rfl, h⟩
theorem callS_rangeRaw {st : St} {o : Oper} {Q : St → Prop} {T k e : TypeId} {m : Operand} (hd : dstOK K o.dst = true) (ho : o.op = .range T m) (ht : K.P.underlying T = some (.map k e)) {id bm ck : Nat} {es : Array MapEntry}
  (h1 : evalA (AL.get st.fr) m = some (.one (.raw id))) (h2 : AL.get st.hp id = some (.raw bm (.map es ck))) (h : ∀ b, Q ((st.upd (some (st.nx, .raw b (.mapIter (some bm) ck #[] ck)))).put o.dst (.one (.raw st.nx)))) : CallS K st o Q := by
 intro σ a w hr
 refine wpIn_of (by rw [ho]; intro c hc; cases hc) ?_
 obtain ⟨lv, g1, g2, g3, g4⟩ := hr.raw h1 h2
 have g3' : lv = .map (some bm) := by simp [locRaw] at g3; exact g3.symm
 subst g3'
 have hrun : (execOp a.eval o).run K.P w = .ok (.value (.pointer (some ⟨w.heap.size, 0, none⟩))) (w.alloc (.mapIter (some bm) ck #[] ck)) := by
  simp only [execOp, ho, g1, Sem.run_bind]
  rw [run_range_map w T k e bm es ck ht g4]
  rfl
 rw [hrun, Oper.uponIn_value]
 have hnone := hr.fresh (Nat.le_refl _)
 obtain ⟨p1, p2⟩ := new_raw hr.heap (id := st.nx) hnone hr.frm.size (o := .mapIter (some bm) ck #[] ck) (l := .pointer (some ⟨w.heap.size, 0, none⟩)) rfl
 have hp : Put (sit K σ st w) st.nx (.raw w.heap.size (.mapIter (some bm) ck #[] ck)) (.pointer (some ⟨w.heap.size, 0, none⟩)) (w.alloc (.mapIter (some bm) ck #[] ck)) := Turn.put p1 p2 (fun k hk => Below.heap_alloc _ _ _ hk) (by simp [sit]) rfl rfl rfl
 exact ⟨_, _, hr.put_upd hp hd (av := .one (.raw st.nx)) ⟨w.heap.size, .mapIter (some bm) ck #[] ck, by simp [Sit.put, upd_same], by simp [Sit.put, upd_same], rfl⟩, h _⟩
theorem callS_nextRaw {st : St} {o : Oper} {Q : St → Prop} {x : Operand} (hd : dstOK K o.dst = true) (ho : o.op = .next x false) {id r im bm since c0 ck : Nat} {seen : Array Nat} {es : Array MapEntry}
  (h1 : evalA (AL.get st.fr) x = some (.one (.raw id))) (h2 : AL.get st.hp id = some (.raw r (.mapIter (some bm) since seen c0))) (h3 : AL.get st.hp im = some (.raw bm (.map es ck))) (hold : ∀ x ∈ es.toList, x.born < since) (hsc : since ≤ c0)
  (hno : (leftOf es seen).size = 0 → Q (st.put o.dst (.tup [.one (.v (.bool false))])))
  (hyes : ∀ e ∈ (leftOf es seen).toList, ∃ rk rv : RV, (∀ Z w, RelR Z w rk e.key) ∧ (∀ Z w, RelR Z w rv e.val) ∧ Q ((st.upd (some (id, .raw r (.mapIter (some bm) since (seen.push e.born) ck)))).put o.dst (.tup [.one (.v (.bool true)), rk, rv]))) : CallS K st o Q := by
 intro σ a w hr
 refine wpIn_of (by rw [ho]; intro c hc; cases hc) ?_
 obtain ⟨lv, g1, g2, g3, g4⟩ := hr.raw h1 h2
 have g3' : lv = .pointer (some ⟨r, 0, none⟩) := by simp [locRaw] at g3; exact g3.symm
 subst g3'
 obtain ⟨lm, _, _, g5⟩ := hr.heap.objs im _ h3
 rcases run_next_at (P := K.P) w o.type r bm since c0 seen es ck g4 g5 hold hsc with ⟨h0, hru⟩ | ⟨e, he, w1, hw1, hru⟩
 ·have hrun : (execOp a.eval o).run K.P w = .ok (.value (.tuple #[.bool false])) w := by
   simp only [execOp, ho, g1, Sem.run_bind]
   rw [hru]
   rfl
  rw [hrun, Oper.uponIn_value]
  refine ⟨σ, _, hr.put hd (av := .tup [.one (.v (.bool false))]) ⟨_, rfl, rfl, fun j q hj => ?_⟩, hno h0⟩
  rcases j with _ | j
  ·simp at hj; subst hj; exact ⟨_, rfl, .v _ rfl⟩
  ·simp at hj
 ·have hr1 : Rel K σ st a w1 := by
   rcases hw1 with rfl | rfl
   ·exact hr
   ·exact hr.at (Below.refl _ _).drew
  have hrun : (execOp a.eval o).run K.P w = .ok (.value (.tuple #[.bool true, e.key, e.val])) (w1.putObj r (.mapIter (some bm) since (seen.push e.born) ck)) := by
   simp only [execOp, ho, g1, Sem.run_bind]
   rw [hru]
   rfl
  rw [hrun, Oper.uponIn_value]
  obtain ⟨rk, rv, k1, k2, hq⟩ := hyes e he
  obtain ⟨p1, p2⟩ := set_raw hr1.heap (s := sit K σ st w1) h2 g2 (o' := .mapIter (some bm) since (seen.push e.born) ck) rfl
  have hp : Put (sit K σ st w1) id (.raw r (.mapIter (some bm) since (seen.push e.born) ck)) (.pointer (some ⟨r, 0, none⟩)) (w1.putObj r (.mapIter (some bm) since (seen.push e.born) ck)) :=
   ⟨p1, p2, fun k hk hne => World.putObj_heap_other (fun e => hne _ g2 (by rw [e]; rfl)), by simp [sit], rfl, rfl, rfl⟩
  refine ⟨_, _, hr1.put_upd hp hd (av := .tup [.one (.v (.bool true)), rk, rv]) ⟨_, rfl, rfl, fun j q hj => ?_⟩, hq⟩
  rcases j with _ | _ | _ | j
  ·simp at hj; subst hj; exact ⟨_, rfl, .v _ rfl⟩
  ·simp at hj; subst hj; exact ⟨_, rfl, k1 _ _⟩
  ·simp at hj; subst hj; exact ⟨_, rfl, k2 _ _⟩
  ·simp at hj
theorem callS_entryRaw {st : St} {o : Oper} {Q : St → Prop} {x : Operand} (hd : dstOK K o.dst = true) (ho : o.op = .entry x) {id r im bm since ck : Nat} {seen : Array Nat} {es : Array MapEntry} {e : MapEntry}
  (h1 : evalA (AL.get st.fr) x = some (.one (.raw id))) (h2 : AL.get st.hp id = some (.raw r (.mapIter (some bm) since (seen.push e.born) ck))) (h3 : AL.get st.hp im = some (.raw bm (.map es ck))) (he : e ∈ es.toList) (hn : (es.toList.map (·.born)).Nodup)
  {rk rv : RV} (k1 : ∀ Z w, RelR Z w rk e.key) (k2 : ∀ Z w, RelR Z w rv e.val) (h : Q (st.put o.dst (.tup [rk, rv]))) : CallS K st o Q := by
 intro σ a w hr
 refine wpIn_of (by rw [ho]; intro c hc; cases hc) ?_
 obtain ⟨lv, g1, g2, g3, g4⟩ := hr.raw h1 h2
 have g3' : lv = .pointer (some ⟨r, 0, none⟩) := by simp [locRaw] at g3; exact g3.symm
 subst g3'
 obtain ⟨lm, _, _, g5⟩ := hr.heap.objs im _ h3
 have hrun : (execOp a.eval o).run K.P w = .ok (.value (.tuple #[e.key, e.val])) w := by
  simp only [execOp, ho, g1, Sem.run_bind]
  rw [run_entry_at (P := K.P) w r bm since seen es ck e g4 g5 he hn]
  rfl
 rw [hrun, Oper.uponIn_value]
 refine ⟨σ, _, hr.put hd (av := .tup [rk, rv]) ⟨_, rfl, rfl, fun j q hj => ?_⟩, h⟩
 rcases j with _ | _ | j
 ·simp at hj; subst hj; exact ⟨_, rfl, k1 _ _⟩
 ·simp at hj; subst hj; exact ⟨_, rfl, k2 _ _⟩
 ·simp at hj
theorem callS_findRaw {st : St} {o : Oper} {Q : St → Prop} {T k e : TypeId} {m kx : Operand} {ok : Bool} (hd : dstOK K o.dst = true) (ho : o.op = .lookup T m kx ok) (KL : WideMaps.KeyLaw K.P k) (ht : K.P.underlying T = some (.map k e)) {z : Value} (hz : ∀ w, (zeroValue e).run K.P w = .ok z w) {id b ck : Nat} {es : Array MapEntry}
  (h1 : evalA (AL.get st.fr) m = some (.one (.raw id))) (h2 : AL.get st.hp id = some (.raw b (.map es ck))) {kv : Value} {l : Lit} (h3 : plain1 (AL.get st.fr) kx = some kv) (hk : keyOf K.P k kv = some l) (hes : ∀ x ∈ es.toList, ∃ l, keyOf K.P k x.key = some l) {v : Value} {is : Bool}
  (hv : (is = true ∧ (∃ x ∈ es.toList, x.key = kv) ∧ ∀ x ∈ es.toList, x.key = kv → x.val = v) ∨ (is = false ∧ v = z ∧ ∀ x ∈ es.toList, x.key ≠ kv)) {rv : RV} (hrv : ∀ Z w, RelR Z w rv v)
  (h : Q (st.put o.dst (if ok then .tup [rv, .one (.v (.bool is))] else avR rv))) : CallS K st o Q := by
 intro σ a w hr
 refine wpIn_of (by rw [ho]; intro c hc; cases hc) ?_
 simp only [plain1, Option.bind_eq_some_iff] at h3
 obtain ⟨ak, hak, hpk⟩ := h3
 have e1 := plainOf_rel (hr.evF kx ak hak) hpk
 obtain ⟨lv, g1, g2, g3, g4⟩ := hr.raw h1 h2
 have g3' : lv = .map (some b) := by simp [locRaw] at g3; exact g3.symm
 subst g3'
 have hc := KL.check w es.isEmpty hk
 have hu : (Instr.lookup T (.map (some b)) kv ok).run K.P w = .ok (if ok then .tuple #[v, .bool is] else v) w := by
  rcases KL.find w hk es.toList hes with ⟨hf, hn⟩ | ⟨j, e0, hf, hj, hkey⟩
  ·rcases hv with ⟨_, ⟨x, hx, e2⟩, _⟩ | ⟨rfl, rfl, _⟩
   ·exact absurd e2 (hn x hx)
   ·simp [Instr.lookup, run_underlying ht, MapKept.run_getObj_map g4, hc, hf, hz]
  ·have hm := List.mem_of_getElem? hj
   rcases hv with ⟨rfl, _, ha⟩ | ⟨_, _, hn⟩
   ·have := ha e0 hm hkey
    simp [Instr.lookup, run_underlying ht, MapKept.run_getObj_map g4, hc, hf, this]
   ·exact absurd hkey (hn e0 hm)
 have hrun : (execOp a.eval o).run K.P w = .ok (.value (if ok then .tuple #[v, .bool is] else v)) w := by
  simp only [execOp, ho, e1, g1, Sem.run_bind, Sem.run_pure]
  rw [hu]
  rfl
 rw [hrun, Oper.uponIn_value]
 refine ⟨σ, _, hr.put hd ?_, h⟩
 cases ok with
 | false => exact avR_rel (hrv _ _)
 | true =>
  refine ⟨#[v, .bool is], rfl, rfl, fun j r hj => ?_⟩
  rcases j with _ | _ | j
  ·simp at hj; subst hj; exact ⟨v, rfl, hrv _ _⟩
  ·simp at hj; subst hj; exact ⟨.bool is, rfl, .v _ rfl⟩
  ·simp at hj
end Go.Pv
namespace Go.Pv
open Go Go.RowKit Go.Sh
variable {K : Kx}
theorem turns_invoke {l : List Oper} {st : St} {o : Oper} {recv : Operand} {name : String} {args : Array Operand} {argTypes : Array TypeId} (hd : dstOK K o.dst = true) (ho : o.op = .call { callee := .invoke recv name, args := args, argTypes := argTypes })
  {T : TypeId} {v rv : Value} (h1 : plain1 (AL.get st.fr) recv = some (.iface T v)) (fid : FuncId) (hm : ∀ w, (method (K.P.types.size + Made.depth) T v name).run K.P w = .ok (fid, rv) w)
  {r0 : RV} {rvs : List RV} {res : RR} {any : Bool} (hr0 : ∀ Z w, RelR Z w r0 rv) (h2 : args.toList.mapM (arg1 (AL.get st.fr) (AL.get st.hp) any) = some rvs)
  {fn : Func} (h5 : K.P.funcs[fid]? = some fn) (h6 : fn.body.isSome = true) (h7 : fn.name ≠ "runtime.NumGoroutine") (hfl : any = true → flatRR res = true) (hf : FunOK K.P fid (r0 :: rvs) res) : TurnsA K l st o [] (avRR res) st.hp st.nx := by
 refine ⟨fun _ _ => rfl, Nat.le_refl _, fun i h => (List.not_mem_nil h).elim, fun fr hkp => callS_invoke (any := any) (st := ⟨fr, st.hp, st.nx⟩) hd ho (v := v) (T := T) ?_ fid hm hr0 ?_ h5 h6 h7 hfl hf rfl⟩
 ·show plain1 (AL.get fr) recv = _
  unfold plain1 at h1 ⊢
  rw [evalA_keep hkp (by simp [ho, Op.operands, Call.operands])]; exact h1
 ·show args.toList.mapM (arg1 (AL.get fr) (AL.get st.hp) any) = _
  rw [← h2]
  refine mapM_local fun x hx => ?_
  unfold arg1
  rw [evalA_keep hkp (by simp only [ho, Op.operands, Call.operands, Array.toList_append, List.mem_append]; exact .inr hx)]
theorem bndA_keep {l : List Oper} {st : St} {o : Oper} {fr : List (Nat × AV)} (hk : ∀ t, keepT l o t = true → AL.get fr t = AL.get st.fr t) {x : Option Operand} {d n : Nat} (hx : ∀ y, x = some y → y ∈ o.op.operands.toList) (h : bndA (AL.get st.fr) x d n) : bndA (AL.get fr) x d n := by
 cases x with
 | none => exact h
 | some y =>
  obtain ⟨k, hy⟩ := h
  refine ⟨k, ?_⟩
  unfold plain1 at hy ⊢
  rw [evalA_keep hk (hx y rfl)]; exact hy
end Go.Pv
namespace Go.Pv
open Go Go.RowKit Go.Sh Go.ChangeMaps
variable {K : Kx}
theorem plain1_keep {l : List Oper} {st : St} {o : Oper} {fr : List (Nat × AV)} (hk : ∀ t, keepT l o t = true → AL.get fr t = AL.get st.fr t) {x : Operand} (hx : x ∈ o.op.operands.toList) : plain1 (AL.get fr) x = plain1 (AL.get st.fr) x := by
 unfold plain1
 rw [evalA_keep hk hx]
theorem callD_findRaw {l : List Oper} {o : Oper} {r : List Oper} {st : St} {recs : List Rec} {Q : St → Prop} {T k e : TypeId} {m kx : Operand} {ok : Bool} (hd : dstOK K o.dst = true) (ho : o.op = .lookup T m kx ok) (KL : WideMaps.KeyLaw K.P k) (ht : K.P.underlying T = some (.map k e)) {z : Value} (hz : ∀ w, (zeroValue e).run K.P w = .ok z w) {id b ck : Nat} {es : Array MapEntry}
  (h1 : evalA (AL.get st.fr) m = some (.one (.raw id))) (h2 : AL.get st.hp id = some (.raw b (.map es ck))) {kv : Value} {lt : Lit} (h3 : plain1 (AL.get st.fr) kx = some kv) (hk : keyOf K.P k kv = some lt) (hes : ∀ x ∈ es.toList, ∃ l, keyOf K.P k x.key = some l) {v : Value} {is : Bool}
  (hv : (is = true ∧ (∃ x ∈ es.toList, x.key = kv) ∧ ∀ x ∈ es.toList, x.key = kv → x.val = v) ∨ (is = false ∧ v = z ∧ ∀ x ∈ es.toList, x.key ≠ kv)) {rv : RV} (hrv : ∀ Z w, RelR Z w rv v)
  (h : evDraw K l r (st.put o.dst (if ok then .tup [rv, .one (.v (.bool is))] else avR rv)) (recs ++ [(some [id], [])]) Q) : CallD K l o r st recs Q := by
 refine callD_read hd (by rw [ho]; rfl) [id] _ (fun fr hp nx hkp hids => ?_) h
 refine callS_findRaw (st := ⟨fr, hp, nx⟩) hd ho KL ht hz (id := id) (b := b) (ck := ck) (es := es) ?_ ?_ (kv := kv) ?_ hk hes hv hrv rfl
 ·show evalA (AL.get fr) m = _
  rw [evalA_keep hkp (by simp [ho, Op.operands])]; exact h1
 ·show AL.get hp id = _
  rw [hids id (by simp)]; exact h2
 ·show plain1 (AL.get fr) kx = _
  rw [plain1_keep hkp (by simp [ho, Op.operands])]; exact h3
theorem callD_insertRaw {l : List Oper} {o : Oper} {r : List Oper} {st : St} {recs : List Rec} {Q : St → Prop} {T k e : TypeId} {m kx vx : Operand} (hd : dstOK K o.dst = true) (ho : o.op = .mapUpdate T m kx vx) (KL : WideMaps.KeyLaw K.P k) (ht : K.P.underlying T = some (.map k e)) {id b ck : Nat} {es : Array MapEntry}
  (h1 : evalA (AL.get st.fr) m = some (.one (.raw id))) (h2 : AL.get st.hp id = some (.raw b (.map es ck))) (hlt : id < st.nx) {kv vv : Value} {lt : Lit} (h3 : plain1 (AL.get st.fr) kx = some kv) (h4 : plain1 (AL.get st.fr) vx = some vv) (hk : keyOf K.P k kv = some lt) (hes : ∀ x ∈ es.toList, ∃ l, keyOf K.P k x.key = some l) (hno : ∀ x ∈ es.toList, x.key ≠ kv)
  (h : evDraw K l r (St.put ⟨st.fr, AL.set st.hp id (.raw b (.map (es.push { key := kv, val := vv, born := ck }) (ck + 1))), st.nx⟩ o.dst .und) (recs ++ [(none, [id])]) Q) : CallD K l o r st recs Q := by
 refine callD_turn hd (by rw [ho]; rfl) [id] .und _ _ ⟨fun i hi => ?_, Nat.le_refl _, fun i hi => ?_, fun fr hkp => ?_⟩ h
 ·exact AL.get_ne _ _ (by rintro rfl; exact hi List.mem_cons_self)
 ·rw [List.mem_singleton.1 hi]; exact hlt
 ·refine callS_insertRaw (st := ⟨fr, st.hp, st.nx⟩) hd ho KL ht (id := id) (b := b) (ck := ck) (es := es) ?_ h2 (kv := kv) (vv := vv) ?_ ?_ hk hes hno ?_
  ·show evalA (AL.get fr) m = _
   rw [evalA_keep hkp (by simp [ho, Op.operands])]; exact h1
  ·show plain1 (AL.get fr) kx = _
   rw [plain1_keep hkp (by simp [ho, Op.operands])]; exact h3
  ·show plain1 (AL.get fr) vx = _
   rw [plain1_keep hkp (by simp [ho, Op.operands])]; exact h4
  ·show (St.put (St.upd ⟨fr, st.hp, st.nx⟩ (some (id, _))) o.dst .und) = _
   simp only [St.upd, if_pos hlt]
end Go.Pv
namespace Go.Pv
open Go Go.RowKit Go.Sh
variable {K : Kx}
theorem own_of {s : Sit} (H : Heap0 s) {t n : Nat} {E : TypeId} {k : Nat} {rows : List (List PV)} {sh : Bool} {u : Value} (ht : s.h t = some (.arr E k rows sh)) (hn : n = rows.length) (h : RelC s (.own t n) u) :
  ∃ xs, s.σ t = some u ∧ s.w.ownsRow s.base E k u rows.length xs ∧ rowsK k rows ∧ Cellwise s.Safe s.w k rows xs := by
 obtain ⟨E', k', rows', sh', l, h1, h2, h3, h4, h5⟩ := h
 rw [ht] at h1; cases h1
 have hu := h4 hn
 subst hu
 obtain ⟨val, xs, g1, g2, g3, g4⟩ := H.objs t _ ht
 rw [h2] at g1; cases g1
 exact ⟨xs, h2, g2, g3, g4⟩
theorem callS_copy {st : St} {o : Oper} {Q : St → Prop} {x y : Operand} {T T' : TypeId} (hd : dstOK K o.dst = true) (ho : o.op = .call { callee := .builtin .copy, args := #[x, y], argTypes := #[T, T'] }) {t n k : Nat} {E : TypeId} {rows xr : List (List PV)} {av : AV}
  (hT : sliceElem K.P T = some E) (hE : tySize K.P E = some k) (h0 : 0 < k) (hx : evalA (AL.get st.fr) x = some (.one (.own t n))) (ht : AL.get st.hp t = some (.arr E k rows false)) (hn : n = rows.length)
  (hy : evalA (AL.get st.fr) y = some av) (hr : rowsOfA (AL.get st.hp) av = some xr) (hk : rowsK k xr) (hl : xr.length = rows.length) (h : Q ((st.upd (some (t, .arr E k xr false))).put o.dst (.one (.p (.v (.int .i64 (n : Int))))))) : CallS K st o Q := by
 intro σ a w hrel
 obtain ⟨xs, hσ, hown, hrk, hcw⟩ := own_of hrel.heap (s := sit K σ st w) ht hn (hrel.evF x _ hx)
 obtain ⟨ao, cap, news, hyv, hnl, hcw2, hone, hnone, hsome⟩ := (rowsOfA_src hrel.heap h0 (hrel.evF y av hy) hr hk).ex
 have hu := underlying_slice hT
 have hsz : (K.P.info? E).map (·.size) = some k := hE
 have hbase : K.w0.heap.size ≤ w.heap.size := hrel.frm.size
 refine wpIn_of (by rw [ho]; intro c hc; cases hc) ?_
 have key : ∃ w', (Builtin.copy_ #[T, T'] o.type #[a.eval x, a.eval y]).run K.P w = .ok (.int .i64 (n : Int)) w' ∧ Put (sit K σ st w) t (.arr E k xr false) (a.eval x) w' := by
  rcases hown.2 with ⟨hval, hz⟩ | ⟨g, cap', cur, hval, hbg, hg, hcap, hmax, hcur, htk⟩
  ·have hxr : xr = [] := List.eq_nil_of_length_eq_zero (by omega)
   have hrw : rows = [] := List.eq_nil_of_length_eq_zero hz
   subst hxr hrw
   have hrun := run_copy_noneN (P := K.P) w T T' o.type E none ao 0 cap k hu hsz
   rw [← show a.eval x = .slice none 0 0 from hval] at hrun
   rw [hyv]
   refine ⟨w, by rw [show ([] : List (List PV)).length = 0 from rfl, hrun, hn]; rfl, ?_⟩
   obtain ⟨p1, p2⟩ := set_arr hrel.heap (s := sit K σ st w) (rows' := []) ht hσ (xs' := xs) (w' := w) rfl (fun _ _ => rfl) (locBlk_own hown) hown rfl hrk hcw
   exact ⟨p1, p2, fun _ _ _ => rfl, Nat.le_refl _, rfl, rfl, rfl⟩
  ·have hval : a.eval x = .slice (some ⟨g, 0, none⟩) rows.length cap' := hval
   by_cases hxe : xr = []
   ·have hrw : rows = [] := List.eq_nil_of_length_eq_zero (by rw [← hl, hxe]; rfl)
    subst hxe hrw
    have hrun := run_copy_noneN (P := K.P) w T T' o.type E (some ⟨g, 0, none⟩) ao cap' cap k hu hsz
    rw [hyv, hval]
    refine ⟨w, by rw [show ([] : List (List PV)).length = 0 from rfl, hrun, hn]; rfl, ?_⟩
    rw [← hval]
    obtain ⟨p1, p2⟩ := set_arr hrel.heap (s := sit K σ st w) (rows' := []) ht hσ (xs' := xs) (w' := w) rfl (fun _ _ => rfl) (locBlk_own hown) hown rfl hrk hcw
    exact ⟨p1, p2, fun _ _ _ => rfl, Nat.le_refl _, rfl, rfl, rfl⟩
   ·cases hao : ao with
    | none => exact absurd (hnone hao) hxe
    | some ad =>
     have hck : rows.length * k ≤ cap' * k := Nat.mul_le_mul_right k hcap
     have hmin : Nat.min xr.length rows.length = rows.length := by rw [hl]; exact Nat.min_self _
     have hsrc := hsome ad hao
     have hrun := run_copy_rowN (P := K.P) w T T' o.type E g 0 rows.length cap' ad xr.length cap k cur E news hu hsz hg (by rw [hmin, hnl, hl]) (fun j v hj => hsrc j v hj) (by rw [hnl, hl, hcur]; omega) hone
     rw [hyv, hao, hval]
     simp only [List.take_zero, List.nil_append, Nat.zero_add] at hrun
     obtain ⟨cur2, hcur2⟩ : ∃ c2, news ++ cur.toList.drop news.length = c2 := ⟨_, rfl⟩
     rw [hcur2] at hrun
     have hc2l : cur2.length = cap' * k := by
      rw [← hcur2, List.length_append, List.length_drop, hnl, hl]
      simp only [Array.length_toList, hcur]; omega
     refine ⟨_, by rw [hrun, hmin, hn]; rfl, ?_⟩
     rw [← hval]
     have hown2 : (w.setRow g cur2.toArray).ownsRow K.w0.heap.size E k (a.eval x) xr.length (cur2.take (xr.length * k)) := by
      rw [hl]
      refine ⟨by rw [List.length_take, hc2l]; exact Nat.min_eq_left hck, .inr ⟨g, cap', cur2.toArray, hval, hbg, setRow_heap w g cur _ E _ hg, hcap, hmax, by simpa using hc2l, by simp⟩⟩
     have htake : cur2.take (xr.length * k) = news := by
      rw [← hcur2, ← hnl, List.take_left]
     rw [htake] at hown2
     obtain ⟨p1, p2⟩ := set_arr hrel.heap (s := sit K σ st w) (rows' := xr) ht hσ (xs' := news) (w' := w.setRow g cur2.toArray) (setRow_size w g _) (fun b hb => setRow_other w g b _ (hb g (by rw [hval]; rfl))) (locBlk_own hown) hown2 hl hk hcw2
     exact ⟨p1, p2, fun b hb hl => setRow_other w g b _ (fun e => hl _ hσ (by rw [hval, e]; rfl)), by rw [setRow_size]; exact Nat.le_refl _, rfl, rfl, rfl⟩
 obtain ⟨w', hrun, hp⟩ := key
 have hrun2 : (execOp a.eval o).run K.P w = .ok (.value (.int .i64 (n : Int))) w' := by
  simp [execOp, ho, resolve, invoke, builtin, hrun, Result.andThen]
 rw [hrun2, Oper.uponIn_value]
 exact ⟨_, _, hrel.put_upd hp hd (av := .one (.p (.v (.int .i64 (n : Int))))) (.v _ rfl), h⟩
theorem zeros_at {zr : List PV} : ∀ (n i : Nat) (row : List PV), (List.replicate n zr)[i]? = some row → row = zr ∧ i < n := by
 intro n i row h
 rw [List.getElem?_replicate] at h
 split at h
 ·cases h; exact ⟨rfl, by assumption⟩
 ·cases h
variable {K : Kx}
end Go.Pv
