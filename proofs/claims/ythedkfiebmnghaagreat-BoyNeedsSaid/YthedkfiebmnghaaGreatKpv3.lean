/- Texts of the proof, joined. -/
import Derived.Test.YthedkfiebmnghaaGreatKpv2
import Derived.RangeFuncIn
set_option linter.all false
namespace Go.Pv
open Go Go.RowKit Go.Sh
variable {K : Kx}
theorem callS_panic {st : St} {o : Oper} {Q : St → Prop} {x : Operand} {T : TypeId} {v : Value} (ho : o.op = .panic x) (hx : plain1 (AL.get st.fr) x = some (.iface T v)) (h : K.pan [{ v := .iface T v, recovered := false }] st) : CallS K st o Q := by
 intro σ a w hr
 simp only [plain1, Option.bind_eq_some_iff] at hx
 obtain ⟨av, hav, hp⟩ := hx
 have h1 := plainOf_rel (hr.evF x av hav) hp
 refine wpIn_of (by rw [ho]; intro c hc; cases hc) ?_
 have hrun : (execOp a.eval o).run K.P w = .halt (.panic (.iface T v)) w := by
  simp [execOp, ho, h1, Instr.panic, goPanic, Sem.run_bind, Sem.run]
 rw [hrun, Oper.uponIn_panic]
 exact ⟨_, rfl, σ, st, hr, h⟩
theorem callS_data {st : St} {o : Oper} {Q : St → Prop} (hd : dstOK K o.dst = true) (hnd : ∀ c, o.op ≠ .defer c) {fid : FuncId} {rvs : List RV} {res : RR} {any : Bool}
  (hrun : ∀ σ a w, Rel K σ st a w → ∃ us, (execOp a.eval o).run K.P w = .ok (.enter fid us) w ∧ RelRs ((sit K σ st w).Zc any) w rvs us) (hfl : any = true → flatRR res = true) (hf : FunOK K.P fid rvs res) (h : Q (st.put o.dst (avRR res))) : CallS K st o Q := by
 intro σ a w hr
 obtain ⟨us, hu, hrs⟩ := hrun σ a w hr
 refine wpIn_of hnd ?_
 rw [hu, Oper.uponIn_enter]
 refine ⟨depth_K, callsIn_K ((hf _ w _ hrs).mono fun e w' he => ?_)⟩
 obtain ⟨u, rfl, hru, hbel⟩ := he
 exact ⟨σ, _, (hr.at hbel).put hd (avRR_rel (relRR_after hr hfl hru)), h⟩
theorem callS_x {st : St} {o : Oper} {Q : St → Prop} {f : Operand} {args : Array Operand} {argTypes : Array TypeId} (ho : o.op = .call { callee := .value f, args := args, argTypes := argTypes }) (fid : FuncId) {rvs : List RV} {v : Value}
  (h1 : callPre st args f fid rvs true) {fn : Func} (h5 : K.P.funcs[fid]? = some fn) (h6 : fn.body.isSome = true) (h7 : fn.name ≠ "runtime.NumGoroutine") (hf : FunX K.P fid rvs v) (h : K.pan [{ v, recovered := false }] st) : CallS K st o Q := by
 intro σ a w hr
 obtain ⟨us, hus, hs0, _⟩ := fn_rel hr.evF h1.1
 have hus0 : us = #[] := Array.eq_empty_of_size_eq_zero (by simpa using hs0)
 subst hus0
 have hargs := args_rel hr.heap hr.evF h1.2
 have hrun : (execOp a.eval o).run K.P w = .ok (.enter fid (args.map a.eval)) w := by
  simp [execOp, ho, resolve, invoke, hus, Deferred.ofValue, run_callFunc h5 h6 h7]
 refine wpIn_of (by rw [ho]; intro c hc; cases hc) ?_
 rw [hrun, Oper.uponIn_enter]
 refine ⟨depth_K, callsIn_K ((hf _ w _ hargs).mono fun e w' he => ?_)⟩
 obtain ⟨rfl, hbel⟩ := he
 exact ⟨_, rfl, σ, st, hr.at hbel, h⟩
theorem callS_invoke {st : St} {o : Oper} {Q : St → Prop} {recv : Operand} {name : String} {args : Array Operand} {argTypes : Array TypeId} (hd : dstOK K o.dst = true) (ho : o.op = .call { callee := .invoke recv name, args := args, argTypes := argTypes })
  {T : TypeId} {v rv : Value} (h1 : plain1 (AL.get st.fr) recv = some (.iface T v)) (fid : FuncId) (hm : ∀ w, (method (K.P.types.size + Made.depth) T v name).run K.P w = .ok (fid, rv) w)
  {r0 : RV} {rvs : List RV} {res : RR} {any : Bool} (hr0 : ∀ Z w, RelR Z w r0 rv) (h2 : args.toList.mapM (arg1 (AL.get st.fr) (AL.get st.hp) any) = some rvs)
  {fn : Func} (h5 : K.P.funcs[fid]? = some fn) (h6 : fn.body.isSome = true) (h7 : fn.name ≠ "runtime.NumGoroutine") (hfl : any = true → flatRR res = true) (hf : FunOK K.P fid (r0 :: rvs) res) (h : Q (st.put o.dst (avRR res))) : CallS K st o Q := by
 refine callS_data (any := any) hd (by rw [ho]; intro c hc; cases hc) (fid := fid) (rvs := r0 :: rvs) (fun σ a w hr => ?_) hfl hf h
 simp only [plain1, Option.bind_eq_some_iff] at h1
 obtain ⟨av, hav, hp⟩ := h1
 have hv := plainOf_rel (hr.evF recv av hav) hp
 have hargs := args_rel hr.heap hr.evF h2
 refine ⟨#[rv] ++ args.map a.eval, ?_, by simp [hargs.1]; omega, fun j r hj => ?_⟩
 ·have hx : (#[a.eval recv] ++ args.map a.eval).extract 1 (#[a.eval recv] ++ args.map a.eval).size = args.map a.eval := by
   generalize args.map a.eval = ys
   rcases ys with ⟨l⟩
   simp
  have hme : (callMethod (.iface T v) name (args.map a.eval)).run K.P w = .ok (.enter fid (#[rv] ++ args.map a.eval)) w := by
   have hprog : ∀ {β : Type} (f : Program → Sem β), (program >>= f).run K.P w = (f K.P).run K.P w := fun f => rfl
   unfold callMethod
   rw [hprog]
   rw [Sem.run_bind, hm w]
   simp only [Result.andThen_ok]
   exact run_callFunc h5 h6 h7 _ w
  have h0 : (#[a.eval recv] ++ args.map a.eval)[0]? = some (.iface T v) := by rw [Array.getElem?_append_left (by simp), hv]; rfl
  have hinv : (invoke (.fn (.method name) #[]) (#[a.eval recv] ++ args.map a.eval)).run K.P w = .ok (.enter fid (#[rv] ++ args.map a.eval)) w := by
   unfold invoke
   simp only [h0, hx]
   exact hme
  simp only [execOp, ho, resolve, Sem.run_bind, Sem.run_pure, Result.andThen_ok]
  exact hinv
 ·cases j with
  | zero => simp at hj; subst hj; exact ⟨rv, by rw [Array.getElem?_append_left (by simp)]; rfl, hr0 _ _⟩
  | succ j =>
   rw [List.getElem?_cons_succ] at hj
   obtain ⟨x, hx, hrx⟩ := hargs.2 j r hj
   exact ⟨x, by rw [Array.getElem?_append_right (by rw [Array.size_singleton]; omega)]; exact hx, hrx⟩
theorem Rel.same {σ σ' : Nat → Option Value} {st st' : St} {a : Act} {w : World} (h : Rel K σ st a w) (hσ : σ' = σ) (hf : st'.fr = st.fr) (hh : AL.get st'.hp = AL.get st.hp) (hn : st'.nx = st.nx) : Rel K σ' st' a w := by
 subst hσ
 have hs : sit K σ' st' w = sit K σ' st w := by unfold sit; rw [hh]
 exact ⟨by rw [hs]; exact h.heap, by rw [hs, hf]; exact h.fr, by rw [hh, hn]; exact h.lt, h.df, h.nt, h.frm⟩
variable {K : Kx}
structure AnswersOK (P : Program) (fid : FuncId) (pv : Int → Value) : Prop where
 idle : ∀ (p : Addr) (w : World), CallsDIn Fence.wide 0 P fid #[.pointer (some p)] .returning w fun e u' w' => e = .returned (.tuple #[]) ∧ u' = .returning ∧ Below w.heap.size w w'
 stop : ∀ (p : Addr) (x c : Int) (w : World), w.cell? p = some (.int .i64 x) → w.frozen? p = false → CallsDIn Fence.wide 0 P fid #[.pointer (some p)] (.panicking [{ v := pv c, recovered := false }]) w fun e u' w' =>
  e = .returned (.tuple #[]) ∧ u' = .panicking [{ v := pv c, recovered := true }] ∧ ∃ w1, Below w.heap.size w w1 ∧ w' = w1.setCell p (.int .i64 c)
theorem wpListIn_append {ops : Array Oper} {Qr : Exit → Act → World → Prop} {l2 : List Oper} : ∀ (l1 : List Oper) (a : Act) (w : World),
  wpListIn K.F 0 K.P ops (fun e a' w' => match e with | .normal => wpListIn K.F 0 K.P ops Qr l2 a' w' | e => Qr e a' w') l1 a w → wpListIn K.F 0 K.P ops Qr (l1 ++ l2) a w
 | [], a, w, h => h
 | o :: r, a, w, h => by
  simp only [List.cons_append]
  unfold wpListIn at h ⊢
  split at h
  ·rename_i hw
   rw [if_pos hw]
   refine ⟨h.1, ?_⟩
   have h2 := h.2
   revert h2
   generalize (o.semAt K.F.round a.eval).run K.P w = rr
   intro h2
   cases rr with
   | ok nx w' =>
    cases nx with
    | value v => exact wpListIn_append r _ _ h2
    | skip => exact wpListIn_append r _ _ h2
    | defer d => exact wpListIn_append r _ _ h2
    | enter f args => exact ⟨h2.1, h2.2.mono fun e w' he => by
      cases e with
      | returned v => exact wpListIn_append r _ _ he
      | panicked c => exact he
      | outgrown => exact he⟩
    | row row args => exact ⟨h2.1, RowsIn.mono h2.2 fun v w' h => wpListIn_append r _ _ h⟩
    | round l f tmps assign body => exact ⟨h2.1, h2.2.mono fun e w' he => by
      cases e with
      | returned v => exact wpListIn_append r _ _ he
      | panicked c => exact he
      | outgrown => exact he⟩
    | _ => exact h2
   | halt x w' => cases x <;> exact h2
  ·rename_i hw
   rw [if_neg hw]
   exact ⟨h.1, wpListIn_append r _ _ h.2⟩
theorem CallsDIn.mono' {F : Fence} {n : Nat} {P : Program} {f : FuncId} {args : Array Value} {u : FrameMode} {w : World} {R R' : Ending → FrameMode → World → Prop} (h : CallsDIn F n P f args u w R) (hr : ∀ e u' w', R e u' w' → R' e u' w') : CallsDIn F n P f args u w R' :=
 ⟨h.1, fun c cs hm hroom => let ⟨e, u', w', fr, r, x⟩ := h.2 c cs hm hroom; ⟨e, u', w', fr, hr _ _ _ r, x⟩⟩
theorem Rel.answer {σ : Nat → Option Value} {st : St} {a : Act} {w w1 : World} (h : Rel K σ st a w) {eb : Nat} {x c : Int} (hb : AL.get st.hp eb = some (.box [.p (.v (.int .i64 x))])) (hw : Below w.heap.size w w1) {blk : Nat} (hσ : σ eb = some (.pointer (some ⟨blk, 0, none⟩))) :
  Rel K σ ⟨st.fr, AL.set st.hp eb (.box [.p (.v (.int .i64 c))]), st.nx⟩ a (w1.setCell ⟨blk, 0, none⟩ (.int .i64 c)) := by
 have h1 := h.at hw
 obtain ⟨blk', vs, ty, e1, e2, e3⟩ := h1.heap.objs eb _ hb
 have e1' : σ eb = some (.pointer (some ⟨blk', 0, none⟩)) := e1
 rw [hσ] at e1'; cases e1'
 have hsz : vs.size = 1 := e3.1
 have hset := setCell_eq_setRow w1 blk 0 vs ty (0, 0) (.int .i64 c) e2
 rw [hset]
 obtain ⟨q1, q2⟩ := set_box h1.heap (s := sit K σ st w1) hb hσ (cs' := [.p (.v (.int .i64 c))]) (vs' := vs.setIfInBounds 0 (.int .i64 c)) (ty := ty) (w' := w1.setRow blk (vs.setIfInBounds 0 (.int .i64 c))) (setRow_size w1 blk _) (fun k hk => Go.setRow_other w1 blk k _ hk) (Go.setRow_heap w1 blk vs _ ty _ e2) (by
  refine ⟨by simp [hsz], fun j cc hj => ?_⟩
  rcases j with _ | j
  ·simp at hj; subst hj
   exact ⟨.int .i64 c, by simp [hsz], .v _ rfl⟩
  ·simp at hj)
 have hp : Put (sit K σ st w1) eb (.box [.p (.v (.int .i64 c))]) (.pointer (some ⟨blk, 0, none⟩)) (w1.setRow blk (vs.setIfInBounds 0 (.int .i64 c))) :=
  ⟨q1, q2, fun k hk hne => Go.setRow_other w1 blk k _ (fun e => hne _ hσ (by rw [e]; rfl)), by rw [setRow_size]; exact Nat.le_refl _, rfl, rfl, rfl⟩
 have h2 := h1.upd hp
 have hlt := h.lt eb _ hb
 refine h2.same ?_ rfl rfl ?_
 ·funext i
  unfold Pv.upd
  split
  ·rename_i hi; subst hi; exact hσ
  ·rfl
 ·simp [St.upd, hlt]
variable {K : Kx}
theorem set_lp {s : Sit} (H : Heap0 s) {id : Nat} {r r' : Loop} {b : Nat} (hid : s.h id = some (.lp b r)) (hσ : s.σ id = some (.func (.yield b) #[] #[])) (hb : s.w.heap[b]? = some (.loop r)) :
  Heap0 (s.put id (.lp b r') (.func (.yield b) #[] #[]) (s.w.putObj b (.loop r'))) ∧ Ext s (s.put id (.lp b r') (.func (.yield b) #[] #[]) (s.w.putObj b (.loop r'))) := by
 have hlt := H.lt id _ b hσ rfl
 have hT : Turn s id (.lp b r') (.func (.yield b) #[] #[]) (s.w.putObj b (.loop r')) :=
  ⟨fun k' _ hne => World.putObj_heap_other (fun e => hne _ hσ (by rw [e]; rfl)), by simp, fun b' hb' => by
   simp [locBlk] at hb'; subst hb'; exact ⟨by simpa using hlt.1, hlt.2, .inl ⟨_, hσ, rfl⟩⟩, fun _ _ _ _ _ _ _ h => by rw [hid] at h; cases h⟩
 have he : Ext s (s.put id (.lp b r') (.func (.yield b) #[] #[]) (s.w.putObj b (.loop r'))) :=
  hT.ext (fun _ _ h _ => by rw [hid] at h; cases h) (fun _ _ _ _ _ h _ => by rw [hid] at h; cases h) (fun _ _ _ _ h1 _ => by rw [hid] at h1; cases h1) (fun b0 r0 l h1 h2 => by
   rw [hid] at h1; cases h1
   rw [hσ] at h2; cases h2
   exact ⟨rfl, r', rfl⟩)
 exact ⟨hT.heap H he ⟨by simp [Sit.put, upd_same], World.putObj_heap_same (Array.getElem?_eq_some_iff.1 hb).1⟩, he⟩
theorem Rel.lp {σ : Nat → Option Value} {st : St} {a : Act} {w : World} (h : Rel K σ st a w) {id b : Nat} {r : Loop} (r' : Loop) (hl : AL.get st.hp id = some (.lp b r)) :
  w.heap[b]? = some (.loop r) ∧ Rel K σ ⟨st.fr, AL.set st.hp id (.lp b r'), st.nx⟩ a (w.putObj b (.loop r')) := by
 obtain ⟨e1, e2⟩ := h.heap.objs id _ hl
 have hσ : σ id = some (.func (.yield b) #[] #[]) := e1
 refine ⟨e2, ?_⟩
 obtain ⟨q1, q2⟩ := set_lp h.heap (s := sit K σ st w) hl hσ (r' := r') e2
 have hp : Put (sit K σ st w) id (.lp b r') (.func (.yield b) #[] #[]) (w.putObj b (.loop r')) :=
  ⟨q1, q2, fun k hk hne => World.putObj_heap_other (fun e => hne _ hσ (by rw [e]; rfl)), by simp [sit], rfl, rfl, rfl⟩
 have h2 := h.upd hp
 have hlt := h.lt id _ hl
 refine h2.same ?_ rfl rfl ?_
 ·funext i
  unfold Pv.upd
  split
  ·rename_i hi; subst hi; exact hσ
  ·rfl
 ·simp [St.upd, hlt]
def setPs (fr : List (Nat × AV)) : List Tmp → List AV → List (Nat × AV)
 | t :: ts, x :: xs => setPs (AL.set fr t x) ts xs
 | _, _ => fr
theorem setPs_rel {s : Sit} : ∀ (ts : List Tmp) (xs : List AV) (us : List Value) (fr : List (Nat × AV)) (tmps : Array Value), (∀ t av, AL.get fr t = some av → t < tmps.size ∧ RelV s av (tmps.getD t undef)) → (∀ t ∈ ts, t < tmps.size) → us.length = xs.length →
  (∀ (j : Nat) (x : AV), xs[j]? = some x → ∃ u, us[j]? = some u ∧ RelV s x u) →
  (∀ t av, AL.get (setPs fr ts xs) t = some av → t < ((ts.zip us).foldl (fun tm (p : Tmp × Value) => tm.setIfInBounds p.1 p.2) tmps).size ∧ RelV s av (((ts.zip us).foldl (fun tm (p : Tmp × Value) => tm.setIfInBounds p.1 p.2) tmps).getD t undef)) ∧
   ((ts.zip us).foldl (fun tm (p : Tmp × Value) => tm.setIfInBounds p.1 p.2) tmps).size = tmps.size
 | [], xs, us, fr, tmps, h, _, _, _ => ⟨by simpa [setPs] using h, by simp⟩
 | t :: ts, [], us, fr, tmps, h, _, hl, _ => by
  have : us = [] := List.eq_nil_of_length_eq_zero (by simpa using hl)
  subst this
  exact ⟨by simpa [setPs] using h, by simp⟩
 | t :: ts, x :: xs, us, fr, tmps, h, ht, hl, hx => by
  cases us with
  | nil => simp at hl
  | cons u us =>
   have hlt := ht t List.mem_cons_self
   have h0 : RelV s x u := by
    obtain ⟨u', e1, e2⟩ := hx 0 x rfl
    simp at e1; subst e1; exact e2
   have := setPs_rel ts xs us (AL.set fr t x) (tmps.setIfInBounds t u) (fun t' av ht' => by
    rw [AL.get_set] at ht'
    split at ht'
    ·rename_i e; subst e; cases ht'
     exact ⟨by simpa using hlt, by rw [getD_set hlt]; simpa using h0⟩
    ·rename_i e
     have := h t' av ht'
     exact ⟨by simpa using this.1, by rw [getD_set hlt, if_neg e]; exact this.2⟩) (fun t' ht' => by simpa using ht t' (List.mem_cons_of_mem _ ht')) (by simpa using hl) (fun j y hj => by
     obtain ⟨u', e1, e2⟩ := hx (j + 1) y (by simpa using hj)
     exact ⟨u', by simpa using e1, e2⟩)
   simpa [setPs] using this
theorem keep_ext {σ : Nat → Option Value} {st : St} {a : Act} {w : World} (hr : Rel K σ st a w) (fr' : List (Nat × AV)) (tm : Nat → Value) : Ext (sit K σ st w) (sit K σ ⟨fr', (st.nx, .kept st.fr tm) :: st.hp, st.nx + 1⟩ w) := by
 have hσ : σ st.nx = none := hr.fresh (Nat.le_refl _)
 have hget : ∀ id, id ≠ st.nx → AL.get ((st.nx, Obj'.kept st.fr tm) :: st.hp) id = AL.get st.hp id := fun id hid => by simp [AL.get, hid]
 refine ⟨fun _ _ _ _ h => h, fun b c _ hs => ⟨hs.1, fun id l hl hb => ?_⟩, fun id cs l h1 h2 => ?_, fun id E k rows sh l h1 h2 => ?_, fun id P k I l h1 h2 => ?_, fun id b r l h1 h2 => ?_, fun id b r l h1 h2 => ?_⟩
 ·have hid : id ≠ st.nx := by rintro rfl; simp only [sit] at hl; rw [hσ] at hl; cases hl
  obtain ⟨E, k, rows, h1, h2⟩ := hs.2 id l hl hb
  exact ⟨E, k, rows, by simp only [sit]; rw [hget id hid]; exact h1, h2⟩
 ·have hid : id ≠ st.nx := by rintro rfl; simp only [sit] at h2; rw [hσ] at h2; cases h2
  exact ⟨h2, cs, by simp only [sit]; rw [hget id hid]; exact h1⟩
 ·have hid : id ≠ st.nx := by rintro rfl; simp only [sit] at h2; rw [hσ] at h2; cases h2
  exact ⟨rows, sh, l, by simp only [sit]; rw [hget id hid]; exact h1, h2, .inl ⟨rfl, rfl, fun h => h⟩⟩
 ·have hid : id ≠ st.nx := by rintro rfl; simp only [sit] at h2; rw [hσ] at h2; cases h2
  exact ⟨h2, I, by simp only [sit]; rw [hget id hid]; exact h1⟩
 ·have hid : id ≠ st.nx := by rintro rfl; simp only [sit] at h2; rw [hσ] at h2; cases h2
  exact ⟨h2, r, by simp only [sit]; rw [hget id hid]; exact h1⟩
 ·have hid : id ≠ st.nx := by rintro rfl; simp only [sit] at h2; rw [hσ] at h2; cases h2
  exact ⟨h2, r, by simp only [sit]; rw [hget id hid]; exact h1⟩
theorem keep_heap {σ : Nat → Option Value} {st : St} {a : Act} {w : World} (hr : Rel K σ st a w) (fr' : List (Nat × AV)) : Heap0 (sit K σ ⟨fr', (st.nx, .kept st.fr fun t => a.tmps.getD t undef) :: st.hp, st.nx + 1⟩ w) ∧
  ∀ id o, AL.get ((st.nx, Obj'.kept st.fr fun t => a.tmps.getD t undef) :: st.hp) id = some o → id < st.nx + 1 := by
 have hσ : σ st.nx = none := hr.fresh (Nat.le_refl _)
 have he := keep_ext hr fr' fun t => a.tmps.getD t undef
 have hget : ∀ id, id ≠ st.nx → AL.get ((st.nx, Obj'.kept st.fr fun t => a.tmps.getD t undef) :: st.hp) id = AL.get st.hp id := fun id hid => by simp [AL.get, hid]
 refine ⟨⟨fun id o ho => ?_, fun id l hl => ?_, hr.heap.inj, hr.heap.lt⟩, fun id o ho => ?_⟩
 ·have ho' : AL.get ((st.nx, Obj'.kept st.fr fun t => a.tmps.getD t undef) :: st.hp) id = some o := ho
  by_cases hid : id = st.nx
  ·subst hid
   simp only [AL.get_eq, Option.some.injEq] at ho'
   subst ho'
   exact ⟨hσ, fun t av ht => he.relV (hr.fr t av ht).2⟩
  ·rw [hget id hid] at ho'
   exact (hr.heap.objs id o ho').ext he rfl rfl fun _ _ _ _ => rfl
 ·obtain ⟨o, ho⟩ := hr.heap.dom id l hl
  by_cases hid : id = st.nx
  ·exact ⟨_, by subst hid; simp only [sit]; exact AL.get_eq _ _ _⟩
  ·exact ⟨o, by simp only [sit]; rw [hget id hid]; exact ho⟩
 ·by_cases hid : id = st.nx
  ·subst hid; exact Nat.lt_succ_self _
  ·rw [hget id hid] at ho
   exact Nat.lt_succ_of_lt (hr.lt id o ho)
def Kx.round (K : Kx) (nt l : Nat) (Ds : List Nat) : Kx := { K with nt := nt, rd := some l, df := none, dk := Ds ++ K.dk, rg := false, pan := noPan }
def RoundEnd (e : Exit) (j : Option Code) : Prop := (e = .normal ∧ j = none) ∨ (e = .ret ∧ j = some .ret) ∨ ∃ i, e = .exit i ∧ j = some (.exit i)
theorem callS_yield {st : St} {o : Oper} {Q : St → Prop} {t0 : Tmp} {args : Array Operand} {argTypes : Array TypeId} (hd : dstOK K o.dst = true) (ho : o.op = .call { callee := .value (.tmp t0), args := args, argTypes := argTypes }) {L C b : Nat} {avs : List AV} {r : Loop} {cfr : List (Nat × AV)} {tm : Nat → Value}
  (h1 : AL.get st.fr t0 = some (.one (.yld L))) (h2 : mapO (evalA (AL.get st.fr)) args.toList = some avs) (hl : AL.get st.hp L = some (.lp b r)) (hst : r.state = .ready) (hk : AL.get st.hp C = some (.kept cfr tm)) (htm : tm = fun t => r.tmps.getD t undef)
  (hcf : ∀ t av, AL.get cfr t = some av → t < r.tmps.size) (hps : r.params.toList.length = avs.length) (hpt : ∀ t ∈ r.params.toList, t < r.tmps.size)
  (h : ∀ Ds tmi, AW (K.round r.tmps.size b Ds) r.assign (fun e st1 => e = .normal ∧ AL.get st1.hp L = some (.lp b r) ∧ AW (K.round r.tmps.size b Ds) r.body (fun e st2 => AL.get st2.hp st.nx = some (.kept st.fr tmi) ∧ ∃ j, RoundEnd e j ∧ ∃ r2, AL.get st2.hp L = some (.lp b r2) ∧
   Q (St.put ⟨st.fr, AL.set st2.hp L (.lp b { r2 with state := if j.isNone then .ready else .done, pending := j }), st2.nx⟩ o.dst (.one (.p (.v (.bool j.isNone)))))) ⟨st1.fr, AL.set st1.hp L (.lp b { r with state := .busy }), st1.nx⟩)
   ⟨setPs cfr r.params.toList avs, (st.nx, .kept st.fr tmi) :: st.hp, st.nx + 1⟩) : CallS K st o Q := by
 intro σ a w hr
 obtain ⟨r0, b0, e1, e2, e3⟩ := (hr.fr t0 _ h1).2
 have e1' : AL.get st.hp L = some (.lp b0 r0) := e1
 rw [hl] at e1'; cases e1'
 have e3 : a.eval (.tmp t0) = .func (.yield b) #[] #[] := e3
 have hLb := (hr.lp r hl).1
 rw [← mapM_eq] at h2
 obtain ⟨hlen, ha⟩ := mapM_get h2
 have hl' : args.size = avs.length := by simpa using hlen.symm
 have hsz : (args.map a.eval).size = r.params.size := by simp [hl', ← hps]
 refine wpIn_of (by rw [ho]; intro c hc; cases hc) ?_
 have hrun : (execOp a.eval o).run K.P w = .ok (.round b r.fn ((r.params.zip (args.map a.eval)).foldl (fun tmps (t, a) => tmps.setIfInBounds t a) r.tmps) r.assign r.body) w := by
  simp only [execOp, ho, resolve, Deferred.ofValue, e3, Sem.run_bind, Sem.run_pure, Result.andThen_ok, invoke]
  have : (#[] ++ args.map a.eval : Array Value) = args.map a.eval := by simp
  rw [this]
  exact run_yield hLb hsz
 rw [hrun, Oper.uponIn_round]
 obtain ⟨Ds, hDs1, hDs2, hDs3, hDs4, hDs5⟩ := hr.df
 have he := keep_ext hr (setPs cfr r.params.toList avs) fun t => a.tmps.getD t undef
 obtain ⟨hheap, hltn⟩ := keep_heap hr (setPs cfr r.params.toList avs)
 have hkept := hr.heap.objs C _ hk
 have hfold : ((r.params.zip (args.map a.eval)).foldl (fun tmps (p : Tmp × Value) => tmps.setIfInBounds p.1 p.2) r.tmps) = ((r.params.toList.zip (args.toList.map a.eval)).foldl (fun tmps (p : Tmp × Value) => tmps.setIfInBounds p.1 p.2) r.tmps) := by
  rw [← Array.foldl_toList]
  congr 1
  simp
 have hset := setPs_rel (s := sit K σ ⟨setPs cfr r.params.toList avs, (st.nx, .kept st.fr fun t => a.tmps.getD t undef) :: st.hp, st.nx + 1⟩ w) r.params.toList avs (args.toList.map a.eval) cfr r.tmps (fun t av ht => ⟨hcf t av ht, by
   have := hkept.2 t av ht
   rw [htm] at this
   exact he.relV this⟩) hpt (by simp [hl']) (fun j x hj => by
   obtain ⟨y, hy, hf⟩ := ha j x hj
   exact ⟨a.eval y, by simp [hy], he.relV (hr.evF y x hf)⟩)
 have hrel : Rel (K.round r.tmps.size b Ds) σ ⟨setPs cfr r.params.toList avs, (st.nx, .kept st.fr fun t => a.tmps.getD t undef) :: st.hp, st.nx + 1⟩ { tmps := (r.params.zip (args.map a.eval)).foldl (fun tmps (t, a) => tmps.setIfInBounds t a) r.tmps, defers := [] } w := by
  refine ⟨hheap, ?_, hltn, ⟨[], rfl, List.nodup_nil, fun D hD => (by cases hD), fun D hD => ?_, fun _ => rfl⟩, ?_, hr.frm⟩
  ·intro t av ht
   show t < Array.size _ ∧ RelV _ av (Array.getD _ t undef)
   rw [show ((r.params.zip (args.map a.eval)).foldl (fun tmps (t, a) => tmps.setIfInBounds t a) r.tmps) = _ from hfold]
   exact hset.1 t av ht
  ·rcases List.mem_append.1 hD with h1 | h1
   ·exact (hDs3 D h1).2.2
   ·exact hDs4 D h1
  ·show Array.size _ = r.tmps.size
   rw [show ((r.params.zip (args.map a.eval)).foldl (fun tmps (t, a) => tmps.setIfInBounds t a) r.tmps) = _ from hfold]
   exact hset.2
 have hback : ∀ {σ' : Nat → Option Value} {st' : St} {a' : Act} {w' : World}, Rel (K.round r.tmps.size b Ds) σ' st' a' w' → AL.get st'.hp st.nx = some (.kept st.fr fun t => a.tmps.getD t undef) → Rel K σ' ⟨st.fr, st'.hp, st'.nx⟩ a w' := by
  intro σ' st' a' w' hr' hkept
  have hk := hr'.heap.objs st.nx _ hkept
  obtain ⟨_, _, _, _, h4, _⟩ := hr'.df
  exact ⟨hr'.heap, fun t av ht => ⟨(hr.fr t av ht).1, hk.2 t av ht⟩, hr'.lt,
   ⟨Ds, hDs1, hDs2, fun D hD => ⟨(hDs3 D hD).1, (hDs3 D hD).2.1, h4 D (List.mem_append_left _ hD)⟩, fun D hD => h4 D (List.mem_append_right _ hD), hDs5⟩, hr.nt, hr'.frm⟩
 have hF : (K.F.inRound b) = (K.round r.tmps.size b Ds).F := rfl
 refine ⟨depth_K, roundIn_of_wpIn trivial ?_⟩
 rw [hF]
 refine wpIn_mono (h Ds _ σ _ w hrel) fun e a1 w1 hp => ?_
 rcases hp with ⟨σ1, st1, ⟨rfl, hl1, hbody⟩, hr1⟩ | ⟨ps, rfl, _, _, _, hp⟩
 rotate_left
 ·exact hp.elim
 obtain ⟨hb1, hr1'⟩ := hr1.lp { r with state := .busy } hl1
 refine ⟨_, run_beginRound hb1 hst, ?_⟩
 refine wpIn_mono (hbody σ1 a1 _ hr1') fun e a2 w2 hp => ?_
 rcases hp with ⟨σ2, st2, ⟨hk2, j, hj, r2, hl2, hq⟩, hr2⟩ | ⟨ps, rfl, _, _, _, hp⟩
 rotate_left
 ·exact hp.elim
 obtain ⟨hb2, _⟩ := hr2.lp r2 hl2
 have hend : ∃ v w', (Instr.endRound b j).run K.P w2 = .ok v w' ∧ nextA K Q (a.put o.dst v) w' := by
  refine ⟨_, _, run_endRound j hb2, ?_⟩
  obtain ⟨_, hr3⟩ := (hback hr2 hk2).lp { r2 with state := if j.isNone then .ready else .done, pending := j } hl2
  exact ⟨σ2, _, hr3.put hd (av := .one (.p (.v (.bool j.isNone)))) (.v _ rfl), hq⟩
 rcases hj with ⟨rfl, rfl⟩ | ⟨rfl, rfl⟩ | ⟨i, rfl, rfl⟩
 ·exact hend
 ·exact hend
 ·exact hend
theorem new_lp {s : Sit} (H : Heap0 s) {id : Nat} (hid : s.σ id = none) (hbase : s.base ≤ s.w.heap.size) (r : Loop) :
  Heap0 (s.put id (.lp s.w.heap.size r) (.func (.yield s.w.heap.size) #[] #[]) (s.w.alloc (.loop r))) ∧ Ext s (s.put id (.lp s.w.heap.size r) (.func (.yield s.w.heap.size) #[] #[]) (s.w.alloc (.loop r))) := by
 have hT : Turn s id (.lp s.w.heap.size r) (.func (.yield s.w.heap.size) #[] #[]) (s.w.alloc (.loop r)) :=
  Turn.new hid (fun k hk => Below.heap_alloc _ _ _ hk) (by simp) hbase (fun b hb => by simp [locBlk] at hb; subst hb; simp)
 have he := hT.new_ext hid
 exact ⟨hT.heap H he ⟨by simp [Sit.put, upd_same], World.alloc_heap_new s.w _⟩, he⟩
def Kx.iter (K : Kx) (nt : Nat) (st : St) (tm : Nat → Value) (Ds : List Nat) : Kx :=
 { K with nt := nt, rd := none, df := none, rg := true, dk := Ds ++ K.dk, pan := fun ps st' => AL.get st'.hp st.nx = some (.kept st.fr tm) ∧ K.pan ps ⟨st.fr, st'.hp, st'.nx⟩ }
def pendQ (Q : Exit → St → Prop) (st : St) : Option Code → Prop
 | none => Q .normal st
 | some .ret => Q .ret st
 | some (.exit i) => Q (.exit i) st
 | _ => False
theorem aw_rangeFunc {g : Operand} {ps : Array Tmp} {assign body : Code} {Q : Exit → St → Prop} {st : St} (hrd : K.rd = none) (hrg : K.rg = true) {gf : FuncId} {caps : List CC} (hg : evalA (AL.get st.fr) g = some (.one (.fn gf caps)))
  {fn : Func} {c : Code} {nt : Nat} (hf : K.P.funcs[gf]? = some fn) (hb : fn.body = some c) (hname : fn.name ≠ "runtime.NumGoroutine") (hnt : fn.ntmps = nt) (hrs : fn.results.toList = []) (hn : caps.length + 1 ≤ nt)
  (h : ∀ (r : Loop) (b : Nat) (tm : Nat → Value) (Ds : List Nat), r.state = .ready → r.pending = none → r.params = ps → r.assign = assign → r.body = body → r.tmps.size = K.nt → tm = (fun t => r.tmps.getD t undef) → (∀ t av, AL.get st.fr t = some av → t < r.tmps.size) →
   AW (K.iter nt st tm Ds) c (fun e st' => (e = .normal ∨ e = .ret) ∧ AL.get st'.hp st.nx = some (.kept st.fr tm) ∧ ∃ r2, AL.get st'.hp (st.nx + 1) = some (.lp b r2) ∧ r2.state ≠ .busy ∧ pendQ Q ⟨st.fr, AL.set st'.hp (st.nx + 1) (.lp b { r2 with state := .exhausted }), st'.nx⟩ r2.pending)
    ⟨initV 0 (.one (.yld (st.nx + 1)) :: caps.map capV), (st.nx + 1, .lp b r) :: (st.nx, .kept st.fr tm) :: st.hp, st.nx + 2⟩) : AW K (.rangeFunc g ps assign body) Q st := by
 subst hnt
 intro σ a w hr
 refine wpIn_rangeFunc fun fn0 _ => ?_
 have hround : K.F.round = none := hrd
 obtain ⟨us, hus, hs0, hcap⟩ := hr.evF g _ hg
 obtain ⟨r, hrec⟩ : ∃ r : Loop, r = { state := .ready, pending := none, fn := fn0, tmps := a.tmps, params := ps, assign, body, defers := w.heap.size } := ⟨_, rfl⟩
 obtain ⟨wA, hwA⟩ : ∃ wA, w.alloc (.deferred (some [])) = wA := ⟨_, rfl⟩
 have hsA : wA.heap.size = w.heap.size + 1 := by rw [← hwA]; simp
 have hDA : DfrAt wA w.heap.size := by rw [← hwA]; exact World.alloc_heap_new w _
 have hbA : Below w.heap.size w wA := by rw [← hwA]; exact (Below.refl _ w).alloc (Nat.le_refl _) _
 have hrA := hr.at hbA
 obtain ⟨Ds, hDs1, hDs2, hDs3, hDs4, hDs5⟩ := hrA.df
 have hDlt : ∀ D, (D ∈ Ds ∨ D ∈ K.dk) → D < w.heap.size := by
  intro D hD
  obtain ⟨Ds0, g1, g2, g3, g4, _⟩ := hr.df
  have hDsE : Ds0.map collD = Ds.map collD := by
   have := g1.symm.trans hDs1
   exact List.append_cancel_right this
  have : Ds0 = Ds := by
   have hinj : ∀ x y, collD x = collD y → x = y := fun x y h => by simpa [collD] using h
   exact (List.map_inj_right hinj).1 hDsE
  subst this
  rcases hD with hD | hD
  ·exact (Array.getElem?_eq_some_iff.1 (g3 D hD).2.2).1
  ·exact (Array.getElem?_eq_some_iff.1 (g4 D hD)).1
 let tm : Nat → Value := fun t => a.tmps.getD t undef
 let fr' := initV 0 (.one (.yld (st.nx + 1)) :: caps.map capV)
 have hk := keep_heap hrA fr'
 have hke := keep_ext hrA fr' tm
 have hσ1 : σ (st.nx + 1) = none := hrA.fresh (Nat.le_succ _)
 obtain ⟨q1, q2⟩ := new_lp (s := sit K σ ⟨fr', (st.nx, .kept st.fr tm) :: st.hp, st.nx + 1⟩ wA) hk.1 (id := st.nx + 1) hσ1 hrA.frm.size r
 have hsit : sit K (Pv.upd σ (st.nx + 1) (.func (.yield wA.heap.size) #[] #[])) ⟨fr', (st.nx + 1, .lp wA.heap.size r) :: (st.nx, .kept st.fr tm) :: st.hp, st.nx + 2⟩ (wA.alloc (.loop r)) = (sit K σ ⟨fr', (st.nx, .kept st.fr tm) :: st.hp, st.nx + 1⟩ wA).put (st.nx + 1) (.lp wA.heap.size r) (.func (.yield wA.heap.size) #[] #[]) (wA.alloc (.loop r)) := by
  unfold sit Sit.put
  simp only
  congr 1
 have hbB : Below wA.heap.size wA (wA.alloc (.loop r)) := (Below.refl _ wA).alloc (Nat.le_refl _) _
 have hrB := hrA.at hbB
 have hcapB : ∀ (j : Nat) (cc : CC), caps[j]? = some cc → ∃ x, us[j]? = some x ∧ RelCC (sit K σ st wA) cc x := by
  intro j cc hj
  obtain ⟨us', hus', _, hcap'⟩ := hrA.evF g _ hg
  rw [hus] at hus'; cases hus'
  exact hcap' j cc hj
 have hrel : Rel (K.iter fn.ntmps st tm (w.heap.size :: Ds)) (Pv.upd σ (st.nx + 1) (.func (.yield wA.heap.size) #[] #[])) ⟨fr', (st.nx + 1, .lp wA.heap.size r) :: (st.nx, .kept st.fr tm) :: st.hp, st.nx + 2⟩
   { tmps := (#[.func (.yield wA.heap.size) #[] #[]] ++ us) ++ Array.replicate (fn.ntmps - (#[.func (.yield wA.heap.size) #[] #[]] ++ us : Array Value).size) undef, defers := [] } (wA.alloc (.loop r)) := by
  have hsz : (#[.func (.yield wA.heap.size) #[] #[]] ++ us : Array Value).size = caps.length + 1 := by simp [hs0]; omega
  refine ⟨by show Heap0 (sit K _ _ _); rw [hsit]; exact q1, fun t av ht => ?_, fun id o ho => ?_, ⟨[], rfl, List.nodup_nil, fun D hD => (by cases hD), fun D hD => ?_, fun _ => rfl⟩, by simp [Kx.iter]; omega, hrB.frm⟩
  ·have ht' : AL.get fr' t = some av := ht
   rw [initV_get] at ht'
   split at ht'
   ·rename_i hc
    simp only [Nat.sub_zero] at ht'
    refine ⟨by simp only [Array.size_append, Array.size_replicate] at hsz ⊢; simp only [List.length_cons, List.length_map] at hc; omega, ?_⟩
    show RelV (sit K _ _ _) av _
    rw [hsit]
    rcases t with _ | t
    ·simp at ht'; subst ht'
     have : ((#[Value.func (.yield wA.heap.size) #[] #[]] ++ us) ++ Array.replicate (fn.ntmps - (#[Value.func (.yield wA.heap.size) #[] #[]] ++ us).size) undef).getD 0 undef = .func (.yield wA.heap.size) #[] #[] := by
      rw [Array.getD_eq_getD_getElem?, Array.getElem?_append_left (by rw [hsz]; omega), Array.getElem?_append_left (by simp)]; rfl
     rw [this]
     exact ⟨r, wA.heap.size, by simp [Sit.put, upd_same], by simp [Sit.put, upd_same], rfl⟩
    ·rw [List.getElem?_cons_succ, List.getElem?_map] at ht'
     obtain ⟨cc, hcc, rfl⟩ := Option.map_eq_some_iff.1 ht'
     obtain ⟨x, hx, hrx⟩ := hcapB t cc hcc
     have : ((#[Value.func (.yield wA.heap.size) #[] #[]] ++ us) ++ Array.replicate (fn.ntmps - (#[Value.func (.yield wA.heap.size) #[] #[]] ++ us).size) undef).getD (t + 1) undef = x := by
      have htl := (Array.getElem?_eq_some_iff.1 hx).1
      rw [Array.getD_eq_getD_getElem?, Array.getElem?_append_left (by simp; omega), Array.getElem?_append_right (by simp)]
      simp [hx]
     rw [this]
     exact capV_rel (q2.relCC (hke.relCC hrx))
   ·cases ht'
  ·have ho' : AL.get ((st.nx + 1, Obj'.lp wA.heap.size r) :: (st.nx, .kept st.fr tm) :: st.hp) id = some o := ho
   by_cases hid : id = st.nx + 1
   ·show id < st.nx + 2; omega
   ·rw [AL.get_ne _ _ hid] at ho'
    have := hk.2 id o ho'
    show id < st.nx + 2; omega
  ·have hold : ∀ D, DfrAt wA D → DfrAt (wA.alloc (.loop r)) D := dfr_below hbB
   rcases List.mem_append.1 hD with h1 | h1
   ·rcases List.mem_cons.1 h1 with rfl | h1
    ·exact hold _ hDA
    ·exact hold _ (hDs3 D h1).2.2
   ·exact hold _ (hDs4 D h1)
 have hback : ∀ {σ' : Nat → Option Value} {st' : St} {a' : Act} {w' : World}, Rel (K.iter fn.ntmps st tm (w.heap.size :: Ds)) σ' st' a' w' → AL.get st'.hp st.nx = some (.kept st.fr tm) → Rel K σ' ⟨st.fr, st'.hp, st'.nx⟩ { a with defers := [collD w.heap.size] ++ a.defers } w' := by
  intro σ' st' a' w' hr' hkept
  have hk := hr'.heap.objs st.nx _ hkept
  obtain ⟨_, _, _, _, h4, _⟩ := hr'.df
  have h4' : ∀ D, D ∈ (w.heap.size :: Ds) ++ K.dk → DfrAt w' D := h4
  refine ⟨hr'.heap, fun t av ht => ⟨(hr.fr t av ht).1, hk.2 t av ht⟩, hr'.lt, ⟨w.heap.size :: Ds, ?_, ?_, fun D hD => ?_, fun D hD => h4' D (List.mem_append_right _ hD), fun e => by rw [hrg] at e; cases e⟩, hr.nt, hr'.frm⟩
  ·show [collD w.heap.size] ++ a.defers = _
   rw [show a.defers = _ from hDs1]; rfl
  ·refine List.nodup_cons.2 ⟨fun hm => ?_, hDs2⟩
   have := hDlt _ (.inl hm); omega
  ·rcases List.mem_cons.1 hD with rfl | h1
   ·exact ⟨hr.frm.size, fun hm => by have := hDlt _ (.inr hm); omega, h4' _ (by simp)⟩
   ·exact ⟨(hDs3 D h1).1, (hDs3 D h1).2.1, h4' D (by simp [h1])⟩
 refine ⟨w.heap.size + 1, [collD w.heap.size], wA.alloc (.loop r), { target := .fn (.func gf) us, args := #[.func (.yield (w.heap.size + 1)) #[] #[]] }, wA.alloc (.loop r), gf, #[.func (.yield (w.heap.size + 1)) #[] #[]] ++ us, wA.alloc (.loop r), ?_, ?_, fun f' _ => trivial, ?_, depth_K, ?_⟩
 ·rw [hround, ← hwA, hrec]; exact run_enterLoop_outer _ _ _ _ _
 ·simp only [resolve, hus]
  simp [go_sem]
 ·simp [invoke, run_callFunc hf (by rw [hb]; rfl) hname]
 ·rw [hsA] at hrel
  have hh := h r wA.heap.size tm (w.heap.size :: Ds) (by rw [hrec]) (by rw [hrec]) (by rw [hrec]) (by rw [hrec]) (by rw [hrec]) (by rw [hrec]; exact hr.nt) (by rw [hrec]) (fun t av ht => by rw [hrec]; exact (hr.fr t av ht).1)
  rw [hsA] at hh
  refine callsIn_K (calls_of_aw (K := K.iter fn.ntmps st tm (w.heap.size :: Ds)) hf hb rfl rfl hrel hh (fun e st' hq => hq.1) (fun e σ' st' a' w' hq hr' => ?_) (fun ps σ' st' a' w' hp hr' => ?_))
  ·obtain ⟨_, hkept, r2, hl, hst, hpq⟩ := hq
   have hres : resV K.P st' fn.results.toList = some (.tup []) := by rw [hrs]; rfl
   obtain ⟨u, hu, _⟩ := resV_run (K := K.iter fn.ntmps st tm (w.heap.size :: Ds)) hr' hres
   obtain ⟨hb2, hr3⟩ := (hback hr' hkept).lp { r2 with state := .exhausted } hl
   refine ⟨u, hu, r2.pending, _, run_endLoop hb2 hst, ?_⟩
   have hend : ∀ pe, pendQ Q ⟨st.fr, AL.set st'.hp (st.nx + 1) (.lp (w.heap.size + 1) { r2 with state := .exhausted }), st'.nx⟩ pe → (match pe with
     | none => postA K Q .normal { a with defers := [collD w.heap.size] ++ a.defers } (w'.putObj (w.heap.size + 1) (.loop { r2 with state := .exhausted }))
     | some c => c.wpIn K.F 0 K.P (postA K Q) { a with defers := [collD w.heap.size] ++ a.defers } (w'.putObj (w.heap.size + 1) (.loop { r2 with state := .exhausted }))) := by
    intro pe hpe
    cases pe with
    | none => exact .inl ⟨σ', _, hpe, hr3⟩
    | some cd =>
     cases cd with
     | ret => exact wpIn_ret (.inl ⟨σ', _, hpe, hr3⟩)
     | exit i => exact wpIn_exit (.inl ⟨σ', _, hpe, hr3⟩)
     | _ => exact hpe.elim
   exact hend _ hpq
  ·exact .inr ⟨ps, rfl, σ', _, hback hr' hp.1, hp.2⟩
end Go.Pv
