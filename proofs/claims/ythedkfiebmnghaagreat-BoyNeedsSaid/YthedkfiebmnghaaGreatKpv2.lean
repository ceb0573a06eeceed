/- Texts of the proof, joined. -/
import Derived.Test.YthedkfiebmnghaaGreatPvY
set_option linter.all false
namespace Go.Pv
open Go Go.RowKit Go.Sh
variable {K : Kx}
def initV : Nat → List AV → List (Nat × AV)
 | _, [] => []
 | i, r :: rs => (i, r) :: initV (i + 1) rs
theorem initV_get : ∀ (rs : List AV) (i t : Nat), AL.get (initV i rs) t = if i ≤ t ∧ t < i + rs.length then rs[t - i]? else none
 | [], i, t => by simp [initV, AL.get]
 | r :: rs, i, t => by
  simp only [initV, AL.get, initV_get rs (i + 1) t, List.length_cons]
  by_cases h : t = i
  ·subst h; simp
  ·rw [if_neg h]
   by_cases h2 : i + 1 ≤ t ∧ t < i + 1 + rs.length
   ·rw [if_pos h2, if_pos (by omega), show t - i = (t - (i + 1)) + 1 by omega, List.getElem?_cons_succ]
   ·rw [if_neg h2, if_neg (by omega)]
def capV : CC → AV
 | .box b => .one (.box b 0)
 | .p x => .one (.p x)
theorem capV_rel {s : Sit} {c : CC} {u : Value} (h : RelCC s c u) : RelV s (capV c) u := by
 cases c with
 | box b => exact h
 | p x => exact h
def RelVs (s : Sit) (avs : List AV) (us : Array Value) : Prop := us.size = avs.length ∧ ∀ (j : Nat) (x : AV), avs[j]? = some x → ∃ u, us[j]? = some u ∧ RelV s x u
def CallF (K : Kx) (fid : FuncId) (avs : List AV) (st : St) (Q : St → AV → Prop) : Prop :=
 ∀ σ a w us, Rel K σ st a w → RelVs (sit K σ st w) avs us → Calls K.P fid us w fun e w' => (∃ u, e = .returned u ∧ ∃ σ' st' av, Rel K σ' st' a w' ∧ RelV (sit K σ' st' w') av u ∧ Q st' av) ∨ (∃ ps, e = .panicked ps ∧ ∃ σ' st', Rel K σ' st' a w' ∧ K.pan ps st')
theorem CallF.mono {fid : FuncId} {avs : List AV} {st : St} {Q Q' : St → AV → Prop} (h : CallF K fid avs st Q) (hq : ∀ st' av, Q st' av → Q' st' av) : CallF K fid avs st Q' :=
 fun σ a w us hr hv => (h σ a w us hr hv).mono fun _ _ he => he.imp (fun ⟨u, he, σ', st', av, h1, h2, h3⟩ => ⟨u, he, σ', st', av, h1, h2, hq _ _ h3⟩) id
theorem callS_of {st : St} {o : Oper} {Q : St → Prop} {f : Operand} {args : Array Operand} {argTypes : Array TypeId} (hd : dstOK K o.dst = true) (ho : o.op = .call { callee := .value f, args := args, argTypes := argTypes })
  (fid : FuncId) {caps : List CC} {avs : List AV} (h1 : (evalA (AL.get st.fr) f).bind fnA = some (fid, caps)) (h2 : mapO (evalA (AL.get st.fr)) args.toList = some avs)
  {fn : Func} (h5 : K.P.funcs[fid]? = some fn) (h6 : fn.body.isSome = true) (h7 : fn.name ≠ "runtime.NumGoroutine") (h : CallF K fid (avs ++ caps.map capV) st fun st' av => Q (st'.put o.dst av)) : CallS K st o Q := by
 intro σ a w hr
 obtain ⟨us, hus, hs0, hcap⟩ := fn_rel hr.evF h1
 rw [← mapM_eq] at h2
 obtain ⟨hl, ha⟩ := mapM_get h2
 have hrun : (execOp a.eval o).run K.P w = .ok (.enter fid (args.map a.eval ++ us)) w := by
  simp [execOp, ho, resolve, invoke, hus, Deferred.ofValue, run_callFunc h5 h6 h7]
 have hl' : args.size = avs.length := by simpa using hl.symm
 refine wpIn_of (by rw [ho]; intro c hc; cases hc) ?_
 rw [hrun, Oper.uponIn_enter]
 refine ⟨depth_K, callsIn_K ((h σ a w _ hr ⟨by simp [hs0, hl'], fun j x hj => ?_⟩).mono fun e w' he => ?_)⟩
 ·by_cases hjl : j < avs.length
  ·rw [List.getElem?_append_left hjl] at hj
   obtain ⟨y, hy, hf⟩ := ha j x hj
   have hy' : args[j]? = some y := by simpa using hy
   refine ⟨a.eval y, ?_, hr.evF y x hf⟩
   rw [Array.getElem?_append_left (by simp [hl']; exact hjl)]
   simp [hy']
  ·rw [List.getElem?_append_right (by omega), List.getElem?_map] at hj
   cases hq : caps[j - avs.length]? with
   | none => rw [hq] at hj; cases hj
   | some c =>
    rw [hq] at hj; cases hj
    obtain ⟨v, hv, hrv⟩ := hcap _ c hq
    refine ⟨v, ?_, capV_rel hrv⟩
    rw [Array.getElem?_append_right (by simp [hl']; omega)]
    simpa [hl'] using hv
 ·rcases he with ⟨u, rfl, σ', st', av, h1, h2, h3⟩ | ⟨ps, rfl, σ', st', h1, h2⟩
  ·exact ⟨σ', _, h1.put hd h2, h3⟩
  ·exact ⟨ps, rfl, σ', st', h1, h2⟩
theorem callS_ok {ops : Array Oper} {o : Oper} {r : List Oper} {st : St} {Q : St → Prop} {f : Operand} {args : Array Operand} {argTypes : Array TypeId} (hd : dstOK K o.dst = true) (ho : o.op = .call { callee := .value f, args := args, argTypes := argTypes })
  (fid : FuncId) {caps : List CC} {avs : List AV} (h1 : (evalA (AL.get st.fr) f).bind fnA = some (fid, caps)) (h2 : mapO (evalA (AL.get st.fr)) args.toList = some avs)
  {fn : Func} (h5 : K.P.funcs[fid]? = some fn) (h6 : fn.body.isSome = true) (h7 : fn.name ≠ "runtime.NumGoroutine") (h : CallF K fid (avs ++ caps.map capV) st fun st' av => evOps K ops r (st'.put o.dst av) Q) : CallO K ops o r st Q :=
 ⟨hd, .inr ⟨by rw [ho]; rfl, callS_of hd ho fid h1 h2 h5 h6 h7 h⟩⟩
def resV1 (P : Program) (st : St) : ResultVar → Option AV
 | .tmp t => AL.get st.fr t
 | .cell a ty => (AL.get st.fr a).bind fun av => loadA P (AL.get st.hp) ty av
def resV (P : Program) (st : St) : List ResultVar → Option AV
 | [r] => resV1 P st r
 | rs => (mapO (fun r => (resV1 P st r).bind (rvA false (AL.get st.hp))) rs).map .tup
theorem resV1_run {σ : Nat → Option Value} {st : St} {a : Act} {w : World} (h : Rel K σ st a w) {rv : ResultVar} {av : AV} (hr : resV1 K.P st rv = some av) :
  ∃ u, (resF a.tmps rv).run K.P w = .ok u w ∧ RelV (sit K σ st w) av u := by
 cases rv with
 | tmp t => exact ⟨_, rfl, (h.fr t av hr).2⟩
 | cell ad ty =>
  simp only [resV1, Option.bind_eq_some_iff] at hr
  obtain ⟨av0, hav, hv⟩ := hr
  obtain ⟨x, hx, hrx⟩ := loadA_run (P := K.P) h.heap (h.fr ad av0 hav).2 hv
  have hrow : ∃ row, rowAtA (sit K σ st w).h av0 = some row := by
   unfold loadA at hv
   simp only [Option.bind_eq_some_iff] at hv
   obtain ⟨row, h1, _⟩ := hv
   exact ⟨row, h1⟩
  obtain ⟨row, hrow⟩ := hrow
  obtain ⟨b, o, hp, _⟩ := rowAtA_rel h.heap (h.fr ad av0 hav).2 hrow
  refine ⟨x, ?_, hrx⟩
  simp only [resF]
  rw [hp] at hx ⊢
  simp only [Instr.loadAt, Instr.sureAddr, Sem.run_bind, Sem.run_pure, Result.andThen_ok] at hx
  simp only [asAddr, Sem.run_bind, Sem.run_pure, Result.andThen_ok]
  exact hx
theorem resV_run {σ : Nat → Option Value} {st : St} {a : Act} {w : World} (h : Rel K σ st a w) {fn : Func} {av : AV} (hr : resV K.P st fn.results.toList = some av) : ∃ u, (results fn a.tmps).run K.P w = .ok u w ∧ RelV (sit K σ st w) av u := by
 have hm : ∀ {w'}, (fn.results.mapM (resF a.tmps)).run K.P w' = (List.toArray <$> fn.results.toList.mapM (resF a.tmps)).run K.P w' := by
  intro w'; rw [Array.mapM_eq_mapM_toList]
 have key : ∀ (l : List ResultVar) (rs : List RV), mapO (fun r => (resV1 K.P st r).bind (rvA false (AL.get st.hp))) l = some rs → ∃ us : List Value, (l.mapM (resF a.tmps)).run K.P w = .ok us w ∧ RelRs (sit K σ st w).Safe w rs us.toArray := by
  intro l
  induction l with
  | nil => intro rs hrs; cases hrs; exact ⟨[], rfl, rfl, by simp⟩
  | cons rv l ih =>
   intro rs hrs
   rw [← mapM_eq] at hrs
   simp only [List.mapM_cons, Option.pure_def, Option.bind_eq_bind, Option.bind_eq_some_iff, Option.some.injEq] at hrs
   obtain ⟨r1, ⟨av1, h1, hrv⟩, rs', h2, rfl⟩ := hrs
   obtain ⟨u, hu, hru⟩ := resV1_run h h1
   obtain ⟨us, hus, hs, hrel⟩ := ih rs' (by rw [← mapM_eq]; exact h2)
   have hsafe : ∀ b c, (sit K σ st w).Zc false b c → (sit K σ st w).Safe b c := by
    intro b c hz
    rcases hz with hz | ⟨hz, _⟩
    ·exact hz
    ·cases hz
   have hru2 : RelR (sit K σ st w).Safe w r1 u := (rvA_rel h.heap hru hrv).mono fun b c x hz hc => ⟨hsafe b c hz, hc⟩
   refine ⟨u :: us, ?_, by simpa using hs, fun j r hj => ?_⟩
   ·simp only [List.mapM_cons, Sem.run_bind]
    rw [hu]
    simp only [Result.andThen_ok, Sem.run_bind]
    rw [hus]
    rfl
   ·cases j with
    | zero => simp at hj; subst hj; exact ⟨u, by simp, hru2⟩
    | succ j =>
     obtain ⟨x, hx, hrx⟩ := hrel j r (by simpa using hj)
     exact ⟨x, by simpa using hx, hrx⟩
 rcases hl : fn.results.toList with _ | ⟨r1, _ | ⟨r2, rs⟩⟩
 ·rw [hl] at hr
  cases hr
  rw [results_eq, Sem.run_bind, hm, hl, Sem.run_map]
  exact ⟨.tuple #[], rfl, #[], rfl, rfl, by simp⟩
 ·rw [hl] at hr
  obtain ⟨u, hu, hru⟩ := resV1_run h hr
  refine ⟨u, ?_, hru⟩
  rw [results_eq, Sem.run_bind, hm, hl, Sem.run_map]
  simp only [List.mapM_cons, List.mapM_nil, Sem.run_bind, hu, Result.andThen_ok]
  rfl
 ·rw [hl] at hr
  simp only [resV, Option.map_eq_some_iff] at hr
  obtain ⟨rs', hrs, rfl⟩ := hr
  obtain ⟨us, hus, hrel⟩ := key _ rs' hrs
  have hlen : us.length = rs'.length := by simpa using hrel.1
  have hlen2 : rs'.length = rs.length + 2 := by
   rw [← mapM_eq] at hrs
   have := (mapM_get hrs).1
   simpa using this
  refine ⟨.tuple us.toArray, ?_, us.toArray, rfl, hrel⟩
  rw [results_eq, Sem.run_bind, hm, hl, Sem.run_map, hus]
  simp only [Result.andThen]
  have hne : ¬ (us.toArray.size = 1) := by intro h1; rw [List.size_toArray, hlen] at h1; omega
  rw [dif_neg hne]
  rfl
def Kx.callee (K : Kx) (nt : Nat) (st : St) (tm : Nat → Value) (Ds : List Nat) : Kx :=
 { K with nt := nt, rd := none, df := none, rg := true, dk := Ds ++ K.dk, pan := fun ps st' => AL.get st'.hp st.nx = some (.kept st.fr tm) ∧ K.pan ps ⟨st.fr, st'.hp, st'.nx⟩ }
theorem callF_in {fid : FuncId} {avs : List AV} {st : St} {Q : St → AV → Prop} {fn : Func} {c : Code} {nt : Nat} {rs : List ResultVar} (hf : K.P.funcs[fid]? = some fn) (hb : fn.body = some c) (hnt : fn.ntmps = nt) (hrs : fn.results.toList = rs) (hn : avs.length ≤ nt)
  (h : ∀ tm Ds, AW (K.callee nt st tm Ds) c (fun e st' => (e = .normal ∨ e = .ret) ∧ ∃ av, resV K.P st' rs = some av ∧ AL.get st'.hp st.nx = some (.kept st.fr tm) ∧ Q ⟨st.fr, st'.hp, st'.nx⟩ av) ⟨initV 0 avs, (st.nx, .kept st.fr tm) :: st.hp, st.nx + 1⟩) : CallF K fid avs st Q := by
 subst hnt hrs
 intro σ a w us hr hus
 have hσ : σ st.nx = none := hr.fresh (Nat.le_refl _)
 obtain ⟨Ds, hDs1, hDs2, hDs3, hDs4, hDs5⟩ := hr.df
 let tm : Nat → Value := fun t => a.tmps.getD t undef
 let st0 : St := ⟨initV 0 avs, (st.nx, .kept st.fr tm) :: st.hp, st.nx + 1⟩
 have hget : ∀ id, id ≠ st.nx → AL.get st0.hp id = AL.get st.hp id := fun id hid => by simp [st0, AL.get, hid]
 have he : Ext (sit K σ st w) (sit K σ st0 w) := by
  refine ⟨fun _ _ _ _ h => h, fun b c _ hs => ⟨hs.1, fun id l hl hb => ?_⟩, fun id cs l h1 h2 => ?_, fun id E k rows sh l h1 h2 => ?_, fun id P k I l h1 h2 => ?_, fun id b r l h1 h2 => ?_, fun id b r l h1 h2 => ?_⟩
  ·have hid : id ≠ st.nx := by rintro rfl; simp only [sit] at hl; rw [hσ] at hl; cases hl
   obtain ⟨E, k, rows, h1, h2⟩ := hs.2 id l hl hb
   exact ⟨E, k, rows, by simp only [sit]; rw [hget id hid]; exact h1, h2⟩
  ·have hid : id ≠ st.nx := by rintro rfl; simp only [sit] at h2; rw [hσ] at h2; cases h2
   exact ⟨h2, cs, by simp only [sit]; rw [hget id hid]; exact h1⟩
  ·have hid : id ≠ st.nx := by rintro rfl; simp only [sit] at h2; rw [hσ] at h2; cases h2
   exact ⟨rows, sh, l, by simp only [sit]; rw [hget id hid]; exact h1, h2, .inl ⟨rfl, rfl, fun h => h⟩⟩
  ·have hid : id ≠ st.nx := by rintro rfl; simp only [sit] at h2; rw [hσ] at h2; cases h2
   exact ⟨h2, I, by simp only [sit]; rw [hget id hid]; exact h1⟩
  ·have hid : id ≠ st.nx := by rintro rfl; simp only [sit] at h2; rw [hσ] at h2; cases h2
   exact ⟨h2, r, by simp only [sit]; rw [hget id hid]; exact h1⟩
  ·have hid : id ≠ st.nx := by rintro rfl; simp only [sit] at h2; rw [hσ] at h2; cases h2
   exact ⟨h2, r, by simp only [sit]; rw [hget id hid]; exact h1⟩
 have hrel : Rel (K.callee fn.ntmps st tm Ds) σ st0 { tmps := us ++ Array.replicate (fn.ntmps - us.size) undef, defers := [] } w := by
  have hsz : us.size = avs.length := hus.1
  refine ⟨⟨fun id o ho => ?_, fun id l hl => ?_, hr.heap.inj, hr.heap.lt⟩, fun t av ht => ?_, fun id o ho => ?_, ⟨[], rfl, List.nodup_nil, fun D hD => (by cases hD), fun D hD => ?_, fun _ => rfl⟩, by simp [Kx.callee]; omega, hr.frm⟩
  ·have ho' : AL.get st0.hp id = some o := ho
   by_cases hid : id = st.nx
   ·subst hid
    simp only [st0, AL.get_eq, Option.some.injEq] at ho'
    subst ho'
    exact ⟨hσ, fun t av ht => he.relV (hr.fr t av ht).2⟩
   ·rw [hget id hid] at ho'
    exact (hr.heap.objs id o ho').ext he rfl rfl fun _ _ _ _ => rfl
  ·obtain ⟨o, ho⟩ := hr.heap.dom id l hl
   by_cases hid : id = st.nx
   ·exact ⟨_, by subst hid; simp only [sit, st0]; exact AL.get_eq _ _ _⟩
   ·exact ⟨o, by simp only [sit]; rw [hget id hid]; exact ho⟩
  ·have ht' : AL.get (initV 0 avs) t = some av := ht
   rw [initV_get] at ht'
   split at ht'
   ·obtain ⟨u, hu, hv⟩ := hus.2 t av (by simpa using ht')
    have hlt : t < us.size := (Array.getElem?_eq_some_iff.1 hu).1
    refine ⟨by simp; omega, ?_⟩
    have : (us ++ Array.replicate (fn.ntmps - us.size) undef).getD t undef = u := by
     rw [Array.getD_eq_getD_getElem?, Array.getElem?_append_left hlt, hu]; rfl
    rw [this]
    exact he.relV hv
   ·cases ht'
  ·by_cases hid : id = st.nx
   ·subst hid; exact Nat.lt_succ_self _
   ·rw [hget id hid] at ho
    exact Nat.lt_succ_of_lt (hr.lt id o ho)
  ·rcases List.mem_append.1 hD with h1 | h1
   ·exact (hDs3 D h1).2.2
   ·exact hDs4 D h1
 have hback : ∀ {σ' : Nat → Option Value} {st' : St} {a' : Act} {w' : World}, Rel (K.callee fn.ntmps st tm Ds) σ' st' a' w' → AL.get st'.hp st.nx = some (.kept st.fr tm) → Rel K σ' ⟨st.fr, st'.hp, st'.nx⟩ a w' := by
  intro σ' st' a' w' hr' hkept
  have hk := hr'.heap.objs st.nx _ hkept
  obtain ⟨_, _, _, _, h4, _⟩ := hr'.df
  exact ⟨hr'.heap, fun t av ht => ⟨(hr.fr t av ht).1, hk.2 t av ht⟩, hr'.lt,
   ⟨Ds, hDs1, hDs2, fun D hD => ⟨(hDs3 D hD).1, (hDs3 D hD).2.1, h4 D (List.mem_append_left _ hD)⟩, fun D hD => h4 D (List.mem_append_right _ hD), hDs5⟩, hr.nt, hr'.frm⟩
 refine calls_of_aw (K := K.callee fn.ntmps st tm Ds) hf hb rfl rfl hrel (h tm Ds) (fun e st' hq => hq.1) (fun e σ' st' a' w' hq hr' => ?_) (fun ps σ' st' a' w' hp hr' => ?_)
 ·obtain ⟨_, av, hres, hkept, hq⟩ := hq
  obtain ⟨u, hu, hru⟩ := resV_run (K := K.callee fn.ntmps st tm Ds) hr' hres
  exact ⟨u, hu, .inl ⟨u, rfl, σ', _, av, hback hr' hkept, hru, hq⟩⟩
 ·exact .inr ⟨ps, rfl, σ', _, hback hr' hp.1, hp.2⟩
theorem weak_ownB {st : St} (b j : Nat) (E k : Nat) {cs : List AC} (hb : AL.get st.hp b = some (.box cs)) (hc : cs[j]? = some .nil) :
  Weak K st ⟨st.fr, AL.set (AL.set st.hp st.nx (.arr E k [] true)) b (.box (cs.set j (.own st.nx 0))), st.nx + 1⟩ := by
 intro σ a w hr
 have hnone := hr.fresh (Nat.le_refl _)
 obtain ⟨p1, p2⟩ := new_arr hr.heap (id := st.nx) hnone hr.frm.size (E := E) (k := k) (rows := []) true (val := .slice none 0 0) (xs := []) (w' := w) (World.ownsRow_nil w _ E k) ⟨rfl, rfl, rfl, Nat.le_refl _, fun _ _ _ => rfl⟩ (fun b hb => by cases hb) (fun i row hi => by simp at hi) (fun i row j c hi => by simp at hi)
 have hu := hr.upd (id := st.nx) (Turn.put (w' := w) p1 p2 (fun _ _ => rfl) (Nat.le_refl _) rfl rfl rfl)
 simp only [St.upd, Nat.lt_irrefl, if_false] at hu
 have hbn : b ≠ st.nx := by have := hr.lt b _ hb; omega
 have hb' : AL.get (AL.set st.hp st.nx (.arr E k [] true)) b = some (.box cs) := by rw [AL.get_set, if_neg hbn]; exact hb
 obtain ⟨blk, vs, ty, h1, h2, h3⟩ := hu.heap.objs b _ hb'
 have hbox : RelCs (sit K (Pv.upd σ st.nx (.slice none 0 0)) ⟨st.fr, AL.set st.hp st.nx (.arr E k [] true), st.nx + 1⟩ w) (cs.set j (.own st.nx 0)) vs := by
  refine ⟨by simpa using h3.1, fun i c hi => ?_⟩
  by_cases hij : i = j
  ·subst hij
   have hlt : i < cs.length := (List.getElem?_eq_some_iff.1 hc).1
   rw [List.getElem?_set_self (by simpa using hlt)] at hi
   cases hi
   obtain ⟨x, hx, hrx⟩ := h3.2 i _ hc
   refine ⟨x, hx, ?_⟩
   rw [show x = .slice none 0 0 from hrx]
   exact ⟨E, k, [], true, .slice none 0 0, by simp [sit, AL.set, AL.get_eq], upd_same σ st.nx _, Nat.le_refl _, fun _ => rfl, fun hlt => by simp at hlt⟩
  ·rw [List.getElem?_set_ne (by omega)] at hi
   exact h3.2 i c hi
 have hlt := hu.heap.lt b _ blk h1 rfl
 obtain ⟨q1, q2⟩ := set_box hu.heap hb' h1 (cs' := cs.set j (.own st.nx 0)) (vs' := vs) (ty := ty) (w' := w) rfl (fun _ _ => rfl) h2 hbox
 have hu2 := hu.upd (id := b) (Turn.put (w' := w) q1 q2 (fun _ _ => rfl) (Nat.le_refl _) rfl rfl rfl)
 have hb1 : b < st.nx + 1 := by have := hr.lt b _ hb; omega
 simp only [St.upd, if_pos hb1] at hu2
 exact ⟨_, hu2⟩
theorem eqIn_bool {P : Program} {T : TypeId} {a b : Bool} {d : Nat} (h : P.underlying T = some .bool) : peek P (Op.equalIn (d + 1) T (.bool a) (.bool b)) = some (a == b) := by
 unfold Op.equalIn
 rw [peek_bind, peek_und h, Option.bind_some]
 rfl
theorem bin_eql_bool {P : Program} {T : TypeId} (h : P.underlying T = some .bool) (x y : Operand) (a b : Bool) : binA P .eql T x y (.bool a) (.bool b) = some (.bool (a == b)) := by
 have he : peek P (Op.equal T (.bool a) (.bool b)) = some (a == b) := by
  exact eqIn_bool (d := 9999) h
 unfold binA eqGuard binOp
 simp [peek_bind, peek_map, he, peek_pure]
theorem bin_neq_bool {P : Program} {T : TypeId} (h : P.underlying T = some .bool) (x y : Operand) (a b : Bool) : binA P .neq T x y (.bool a) (.bool b) = some (.bool (a != b)) := by
 have he : peek P (Op.equal T (.bool a) (.bool b)) = some (a == b) := by
  exact eqIn_bool (d := 9999) h
 unfold binA eqGuard binOp
 simp [peek_bind, peek_map, he, peek_pure]
 cases a <;> cases b <;> rfl
theorem bne_tf : (true != false) = true := rfl
theorem bne_ft : (false != true) = true := rfl
theorem beq_tf : (true == false) = false := rfl
theorem beq_ft : (false == true) = false := rfl
theorem beq_t_d {a b : Int} (h : a = b) : (a == b) = true := by simp [h]
theorem beq_f_d {a b : Int} (h : a ≠ b) : (a == b) = false := by simp [h]
theorem bne_t_d {a b : Int} (h : a ≠ b) : (a != b) = true := by simp [h]
theorem bne_f_d {a b : Int} (h : a = b) : (a != b) = false := by simp [h]
def reachL (hp : Nat → Option Obj') : Nat → List Nat → List Nat → List Nat
 | 0, _, seen => seen
 | _ + 1, [], seen => seen
 | n + 1, i :: todo, seen => if seen.contains i = true then reachL hp n todo seen else
   match hp i with
   | some o => reachL hp n (refsO o ++ todo) (seen ++ [i])
   | none => reachL hp n todo seen
def slotRefs (fr : List (Nat × AV)) : List Nat → List Nat
 | [] => []
 | t :: r => (match AL.get fr t with | some av => refsV av | none => []) ++ slotRefs fr r
def there (fr : List (Nat × AV)) : List Nat → List Nat
 | [] => []
 | t :: r => (match AL.get fr t with | some _ => [t] | none => []) ++ there fr r
def keep (st : St) (slots : List Nat) : Option St := restrict st (there st.fr slots) (reachL (AL.get st.hp) 200 (slotRefs st.fr slots) []) st.nx
theorem weak_keep {st st' : St} (slots : List Nat) (h : keep st slots = some st') : Weak K st st' := weak_restrict _ _ _ h
def keys {α : Type} : List (Nat × α) → List Nat
 | [] => []
 | (k, _) :: r => k :: keys r
theorem weak_round {st T : St} (h : restrict st (keys T.fr) (keys T.hp) (if T.nx < st.nx then st.nx else T.nx) = some ⟨T.fr, T.hp, if T.nx < st.nx then st.nx else T.nx⟩) (hT : ((keys T.hp).all fun i => decide (i < T.nx)) = true) : Weak K st T := by
 intro σ a w hr
 obtain ⟨σ', hr'⟩ := weak_restrict _ _ _ h σ a w hr
 refine ⟨σ', hr'.heap, hr'.fr, fun id o ho => ?_, hr'.df, hr'.nt, hr'.frm⟩
 have : ∀ (l : List (Nat × Obj')), AL.get l id = some o → id ∈ keys l := by
  intro l
  induction l with
  | nil => intro h; simp [AL.get] at h
  | cons p l ih =>
   obtain ⟨k, x⟩ := p
   intro h
   simp only [AL.get] at h
   split at h
   ·rename_i hk; subst hk; exact List.mem_cons_self
   ·exact List.mem_cons_of_mem _ (ih h)
 have := List.all_eq_true.1 hT id (this _ ho)
 simpa using this
def ovL {α : Type} (f : List (Nat × α)) : List (Nat × α) → List (Nat × α)
 | [] => []
 | (k, x) :: r => (k, (AL.get f k).getD x) :: ovL f r
def ov (st : St) (f : List (Nat × AV)) (h : List (Nat × Obj')) : St := ⟨ovL f st.fr, ovL h st.hp, st.nx⟩
theorem aw_loop_ov {ι : Type} {body : Code} {Q : Exit → St → Prop} {st : St} (fo : ι → List (Nat × AV)) (ho : ι → List (Nat × Obj')) (μ : ι → Nat) (i : ι) (h0 : ov st (fo i) (ho i) = st)
  (h : ∀ j, AW K body (thenA (fun st' => ∃ j', μ j' < μ j ∧ Weak K st' (ov st (fo j') (ho j'))) Q) (ov st (fo j) (ho j))) : AW K (.loop body) Q st := by
 have := aw_loop (fun j => ov st (fo j) (ho j)) μ h i
 rw [h0] at this
 exact this
variable {K : Kx}
def There (h : Nat → Option Obj') (l : List Nat) : Prop := ∀ i ∈ l, ∃ o, h i = some o
theorem there_C {s : Sit} {c : AC} {u : Value} (h : RelC s c u) : There s.h (refsC c) := by
 intro i hi
 cases c with
 | own t n => simp [refsC] at hi; subst hi; obtain ⟨E, k, rows, sh, l, h1, _⟩ := h; exact ⟨_, h1⟩
 | box b o => simp [refsC] at hi; subst hi; obtain ⟨cs, blk, h1, _⟩ := h; exact ⟨_, h1⟩
 | oix t j o => simp [refsC] at hi; subst hi; obtain ⟨E, k, rows, sh, l, h1, _⟩ := h; exact ⟨_, h1⟩
 | fn f caps =>
  obtain ⟨us, rfl, hs, h⟩ := h
  simp only [refsC, List.mem_flatMap] at hi
  obtain ⟨cc, hcc, hi⟩ := hi
  obtain ⟨j, hj, he⟩ := List.getElem_of_mem hcc
  obtain ⟨x, hx, hr⟩ := h j cc (by rw [← he]; simp [hj])
  cases cc with
  | box b => simp [refsCC] at hi; subst hi; obtain ⟨cs, blk, h1, _⟩ := hr; exact ⟨_, h1⟩
  | p x => simp [refsCC] at hi
 | memo m => simp [refsC] at hi; subst hi; obtain ⟨P, k, I, b, h1, _⟩ := h; exact ⟨_, h1⟩
 | ifc T b => simp [refsC] at hi; subst hi; obtain ⟨cs, blk, h1, _⟩ := h; exact ⟨_, h1⟩
 | bfx f b => simp [refsC] at hi; subst hi; obtain ⟨cs, blk, h1, _⟩ := h; exact ⟨_, h1⟩
 | yld l => simp [refsC] at hi; subst hi; obtain ⟨r, b, h1, _⟩ := h; exact ⟨_, h1⟩
 | raw l => simp [refsC] at hi; subst hi; obtain ⟨b, o, h1, _⟩ := h; exact ⟨_, h1⟩
 | _ => simp [refsC] at hi
theorem there_Cs {s : Sit} {cs : List AC} {us : Array Value} (h : RelCs s cs us) : There s.h (cs.flatMap refsC) := by
 intro i hi
 obtain ⟨c, hc, hi⟩ := List.mem_flatMap.1 hi
 obtain ⟨j, hj, he⟩ := List.getElem_of_mem hc
 obtain ⟨x, _, hr⟩ := h.2 j c (by rw [← he]; simp [hj])
 exact there_C hr i hi
theorem there_V {s : Sit} {av : AV} {u : Value} (h : RelV s av u) : There s.h (refsV av) := by
 intro i hi
 cases av with
 | one c => exact there_C h i hi
 | agg cs => obtain ⟨us, rfl, h⟩ := h; exact there_Cs h i hi
 | _ => simp [refsV] at hi
theorem there_O {s : Sit} {id : Nat} {o : Obj'} (h : RelO s id o) (hn : ∀ fr tm, o = .kept fr tm → ∀ p ∈ fr, AL.get fr p.1 = some p.2) : There s.h (refsO o) := by
 intro i hi
 cases o with
 | box cs => obtain ⟨blk, vs, ty, _, _, h⟩ := h; exact there_Cs h i hi
 | arr E k rows sh => simp [refsO] at hi
 | kept fr tm =>
  simp only [refsO, List.mem_flatMap] at hi
  obtain ⟨p, hp, hi⟩ := hi
  exact there_V (h.2 p.1 p.2 (hn fr tm rfl p hp)) i hi
 | memo P k I => simp [refsO] at hi
 | lp b r => simp [refsO] at hi
 | raw b r => simp [refsO] at hi
theorem rel_sub {σ : Nat → Option Value} {st T : St} {a : Act} {w : World} (hr : Rel K σ st a w) (hfr : ∀ t av, AL.get T.fr t = some av → AL.get st.fr t = some av) (hhp : ∀ id o, AL.get T.hp id = some o → AL.get st.hp id = some o)
  (hnx : ∀ id o, AL.get T.hp id = some o → id < T.nx) (hcf : ∀ t av, AL.get T.fr t = some av → There (AL.get T.hp) (refsV av))
  (hco : ∀ id o, AL.get T.hp id = some o → (∀ fr tm, o ≠ .kept fr tm) → There (AL.get T.hp) (refsO o)) (hck : ∀ id fr tm, AL.get T.hp id = some (.kept fr tm) → ∀ t av, AL.get fr t = some av → There (AL.get T.hp) (refsV av)) :
  ∃ σ', Rel K σ' T a w ∧ ∀ av u, There (AL.get T.hp) (refsV av) → RelV (sit K σ st w) av u → RelV (sit K σ' T w) av u := by
 let ids : List Nat := (List.range T.nx).filter fun i => (AL.get T.hp i).isSome
 have hids : ∀ i, i ∈ ids ↔ ∃ o, AL.get T.hp i = some o := by
  intro i
  simp only [ids, List.mem_filter, List.mem_range]
  constructor
  ·rintro ⟨_, h⟩; exact Option.isSome_iff_exists.1 h
  ·rintro ⟨o, ho⟩; exact ⟨hnx i o ho, by rw [ho]; rfl⟩
 have hh : ∀ i, AL.get T.hp i = if i ∈ ids then (sit K σ st w).h i else none := by
  intro i
  split
  ·rename_i h
   obtain ⟨o, ho⟩ := (hids i).1 h
   rw [ho]; exact (hhp i o ho).symm
  ·rename_i h
   cases hg : AL.get T.hp i with
   | none => rfl
   | some o => exact absurd ((hids i).2 ⟨o, hg⟩) h
 have hin : ∀ {l : List Nat}, There (AL.get T.hp) l → ∀ i ∈ l, i ∈ ids := fun h i hi => (hids i).2 (h i hi)
 refine ⟨fun i => if i ∈ ids then σ i else none, ⟨⟨fun id o ho => ?_, fun id l hl => ?_, fun i i' l l' b hi hi' hb hb' => ?_, fun i l b hi hb => ?_⟩, fun t av ht => ?_, hnx, hr.df, hr.nt, hr.frm⟩, fun av u hth hv => ?_⟩
 ·have ho' : AL.get T.hp id = some o := ho
  have hid : id ∈ ids := (hids id).2 ⟨o, ho'⟩
  have h0 := hr.heap.objs id o (hhp id o ho')
  have hs : sit K (fun i => if i ∈ ids then σ i else none) T w = (sit K σ st w).sub ids (AL.get T.hp) := rfl
  rw [hs]
  cases o with
  | box cs =>
   obtain ⟨blk, vs, ty, h1, h2, h3⟩ := h0
   exact ⟨blk, vs, ty, by show (if id ∈ ids then σ id else none) = _; rw [if_pos hid]; exact h1, h2, sub_relCs hh h3 (hin (hco id _ ho' (fun _ _ h => by cases h)))⟩
  | arr E k rows sh =>
   obtain ⟨val, xs, h1, h2, h3, h4⟩ := h0
   exact ⟨val, xs, by show (if id ∈ ids then σ id else none) = _; rw [if_pos hid]; exact h1, h2, h3, fun i row j c hi hj => let ⟨u, hu, hru⟩ := h4 i row j c hi hj; ⟨u, hu, sub_relP hh hru⟩⟩
  | kept fr' tm =>
   refine ⟨by show (if id ∈ ids then σ id else none) = none; rw [if_pos hid]; exact h0.1, fun t av ht => ?_⟩
   exact sub_relV hh (h0.2 t av ht) (hin (hck id fr' tm ho' t av ht))
  | memo P k I =>
   obtain ⟨b, h1, h2⟩ := h0
   exact ⟨b, by show (if id ∈ ids then σ id else none) = _; rw [if_pos hid]; exact h1, h2⟩
  | raw b o =>
   obtain ⟨l, h1, h2, h3⟩ := h0
   exact ⟨l, by show (if id ∈ ids then σ id else none) = _; rw [if_pos hid]; exact h1, h2, h3⟩
  | lp b r =>
   obtain ⟨h1, h2⟩ := h0
   exact ⟨by show (if id ∈ ids then σ id else none) = _; rw [if_pos hid]; exact h1, h2⟩
 ·simp only [sit] at hl ⊢
  split at hl
  ·rename_i hid
   exact (hids id).1 hid
  ·cases hl
 ·simp only [sit] at hi hi'
  split at hi
  ·split at hi'
   ·exact hr.heap.inj i i' l l' b hi hi' hb hb'
   ·cases hi'
  ·cases hi
 ·simp only [sit] at hi
  split at hi
  ·exact hr.heap.lt i l b hi hb
  ·cases hi
 ·obtain ⟨h1, h2⟩ := hr.fr t av (hfr t av ht)
  exact ⟨h1, sub_relV hh h2 (hin (hcf t av ht))⟩
 ·exact sub_relV hh hv (hin hth)
structure Closed (st : St) : Prop where
 lt : ∀ id o, AL.get st.hp id = some o → id < st.nx
 fr : ∀ t av, AL.get st.fr t = some av → There (AL.get st.hp) (refsV av)
 obj : ∀ id o, AL.get st.hp id = some o → (∀ fr tm, o ≠ .kept fr tm) → There (AL.get st.hp) (refsO o)
 kept : ∀ id fr tm, AL.get st.hp id = some (.kept fr tm) → ∀ t av, AL.get fr t = some av → There (AL.get st.hp) (refsV av)
theorem Rel.closed {σ : Nat → Option Value} {st : St} {a : Act} {w : World} (h : Rel K σ st a w) : Closed st :=
 ⟨h.lt, fun t av ht => there_V (h.fr t av ht).2, fun id o ho hk => there_O (h.heap.objs id o ho) fun fr tm e => absurd e (hk fr tm), fun id fr tm ho t av ht => there_V ((h.heap.objs id _ ho).2 t av ht)⟩
theorem Closed.set {st : St} (h : Closed st) {b : Nat} {o o' : Obj'} (hb : AL.get st.hp b = some o) (hn : ∀ fr tm, o' ≠ .kept fr tm) (hr : There (AL.get st.hp) (refsO o')) : Closed ⟨st.fr, AL.set st.hp b o', st.nx⟩ := by
 have hd : ∀ {l : List Nat}, There (AL.get st.hp) l → There (AL.get (AL.set st.hp b o')) l := by
  intro l hl i hi
  obtain ⟨x, hx⟩ := hl i hi
  rw [AL.get_set]
  split
  ·exact ⟨_, rfl⟩
  ·exact ⟨x, hx⟩
 refine ⟨fun id x hx => ?_, fun t av ht => hd (h.fr t av ht), fun id x hx hk => ?_, fun id fr tm hx t av ht => ?_⟩
 ·have hx : AL.get (AL.set st.hp b o') id = some x := hx
  rw [AL.get_set] at hx
  split at hx
  ·rename_i e; subst e; exact h.lt _ _ hb
  ·exact h.lt _ _ hx
 ·have hx : AL.get (AL.set st.hp b o') id = some x := hx
  rw [AL.get_set] at hx
  split at hx
  ·cases hx; exact hd hr
  ·exact hd (h.obj id x hx hk)
 ·have hx : AL.get (AL.set st.hp b o') id = some (.kept fr tm) := hx
  rw [AL.get_set] at hx
  split at hx
  ·cases hx; exact absurd rfl (hn fr tm)
  ·exact hd (h.kept id fr tm hx t av ht)
theorem Rel.pan {σ : Nat → Option Value} {st : St} {a : Act} {w : World} {p : List PanicEntry → St → Prop} (h : Rel K σ st a w) : Rel { K with pan := p } σ st a w := ⟨h.heap, h.fr, h.lt, h.df, h.nt, h.frm⟩
def Left (st st' T : St) : Prop := T.fr = st.fr ∧ Closed T ∧ ∀ id o, AL.get T.hp id = some o → AL.get st'.hp id = some o
def Kx.calleeT (K : Kx) (nt : Nat) (st : St) (tm : Nat → Value) (Ds : List Nat) : Kx :=
 { K with nt := nt, rd := none, df := none, rg := true, dk := Ds ++ K.dk, pan := fun ps st' => AL.get st'.hp st.nx = some (.kept st.fr tm) ∧ ∃ T : St, Left st st' T ∧ K.pan ps T }
theorem callF_to {fid : FuncId} {avs : List AV} {st : St} {Q : St → AV → Prop} {fn : Func} {c : Code} {nt : Nat} {rs : List ResultVar} (hf : K.P.funcs[fid]? = some fn) (hb : fn.body = some c) (hnt : fn.ntmps = nt) (hrs : fn.results.toList = rs) (hn : avs.length ≤ nt)
  (h : Closed st → ∀ tm Ds, AW (K.calleeT nt st tm Ds) c (fun e st' => (e = .normal ∨ e = .ret) ∧ ∃ av, resV K.P st' rs = some av ∧ AL.get st'.hp st.nx = some (.kept st.fr tm) ∧
   ∃ T : St, T.fr = st.fr ∧ Closed T ∧ (∀ id o, AL.get T.hp id = some o → AL.get st'.hp id = some o) ∧ There (AL.get T.hp) (refsV av) ∧ Q T av) ⟨initV 0 avs, (st.nx, .kept st.fr tm) :: st.hp, st.nx + 1⟩) : CallF K fid avs st Q := by
 intro σ a w us hr hus
 have hc := hr.closed
 have := callF_in (K := { K with pan := fun ps st' => ∃ T : St, T.fr = st.fr ∧ st'.fr = st.fr ∧ Closed T ∧ (∀ id o, AL.get T.hp id = some o → AL.get st'.hp id = some o) ∧ K.pan ps T })
  (Q := fun st' av => ∃ T : St, T.fr = st.fr ∧ st'.fr = st.fr ∧ Closed T ∧ (∀ id o, AL.get T.hp id = some o → AL.get st'.hp id = some o) ∧ There (AL.get T.hp) (refsV av) ∧ Q T av) hf hb hnt hrs hn
  (fun tm Ds σ a w hr => by
   have hr' : Rel (K.calleeT nt st tm Ds) σ _ a w := ⟨hr.heap, hr.fr, hr.lt, hr.df, hr.nt, hr.frm⟩
   refine wpIn_mono (h hc tm Ds σ a w hr') fun e a' w' hp => ?_
   rcases hp with ⟨σ', st', ⟨h1, av, h2, h3, T, h4, h5, h6, h7, h8⟩, hr2⟩ | ⟨ps, he, σ', st', hr2, h3, T, ⟨h4, h5, h6⟩, h7⟩
   ·exact .inl ⟨σ', st', ⟨h1, av, h2, h3, T, h4, rfl, h5, h6, h7, h8⟩, ⟨hr2.heap, hr2.fr, hr2.lt, hr2.df, hr2.nt, hr2.frm⟩⟩
   ·exact .inr ⟨ps, he, σ', st', ⟨hr2.heap, hr2.fr, hr2.lt, hr2.df, hr2.nt, hr2.frm⟩, h3, T, h4, rfl, h5, h6, h7⟩) σ a w us hr.pan hus
 refine this.mono fun e w' he => ?_
 rcases he with ⟨u, he, σ', st', av, h1, h2, T, h3, h3', h4, h5, h6, h7⟩ | ⟨ps, he, σ', st', h1, T, h3, h3', h4, h5, h7⟩
 ·obtain ⟨σ'', hrel, hv⟩ := rel_sub (K := K) ⟨h1.heap, h1.fr, h1.lt, h1.df, h1.nt, h1.frm⟩ (T := T) (fun t av ht => by rw [h3']; rw [h3] at ht; exact ht) h5 h4.lt h4.fr h4.obj h4.kept
  exact .inl ⟨u, he, σ'', T, av, hrel, hv av u h6 h2, h7⟩
 ·obtain ⟨σ'', hrel, _⟩ := rel_sub (K := K) ⟨h1.heap, h1.fr, h1.lt, h1.df, h1.nt, h1.frm⟩ (T := T) (fun t av ht => by rw [h3']; rw [h3] at ht; exact ht) h5 h4.lt h4.fr h4.obj h4.kept
  exact .inr ⟨ps, he, σ'', T, hrel, h7⟩
theorem weak_fr {st : St} {fr' : List (Nat × AV)} (slots : List Nat) (h : takeAL st.fr slots = some fr') : Weak K st ⟨fr', st.hp, st.nx⟩ := by
 intro σ a w hr
 refine ⟨σ, hr.heap, fun t av ht => ?_, hr.lt, hr.df, hr.nt, hr.frm⟩
 have ht' : AL.get fr' t = some av := ht
 rw [takeAL_get h] at ht'
 split at ht'
 ·exact hr.fr t av ht'
 ·cases ht'
theorem weak_thr {st : St} {fr' : List (Nat × AV)} (slots : List Nat) (h : takeAL st.fr (there st.fr slots) = some fr') : Weak K st ⟨fr', st.hp, st.nx⟩ := weak_fr _ h
theorem aw_loop_hp {ι : Type} {body : Code} {Q : Exit → St → Prop} {st : St} (fo : ι → List (Nat × AV)) (F : ι → List (Nat × Obj') → Nat → Prop) (μ : ι → Nat) (i : ι) (h0 : ovL (fo i) st.fr = st.fr) (hF : F i st.hp st.nx)
  (h : ∀ j hp nx, F j hp nx → AW K body (thenA (fun st' => ∃ j', μ j' < μ j ∧ F j' st'.hp st'.nx ∧ takeAL st'.fr (keys (ovL (fo j') st.fr)) = some (ovL (fo j') st.fr)) Q) ⟨ovL (fo j) st.fr, hp, nx⟩) : AW K (.loop body) Q st := by
 have := aw_loop (K := K) (body := body) (Q := Q) (ι := { p : ι × List (Nat × Obj') × Nat // F p.1 p.2.1 p.2.2 }) (fun p => ⟨ovL (fo p.1.1) st.fr, p.1.2.1, p.1.2.2⟩) (fun p => μ p.1.1)
  (fun ⟨⟨j, hp, nx⟩, hf⟩ => (h j hp nx hf).mono fun e st' hq => by
   cases e with
   | normal =>
    obtain ⟨j', h1, h2, h3⟩ := hq
    exact ⟨⟨(j', st'.hp, st'.nx), h2⟩, h1, weak_fr _ h3⟩
   | _ => exact hq) ⟨(i, st.hp, st.nx), hF⟩
 simp only [h0] at this
 exact this
variable {K : Kx}
theorem aw_join {ι : Type} {c rest : Code} {Q0 : Exit → St → Prop} {st : St} (S : ι → St) (h2 : ∀ j, AW K rest Q0 (S j)) (h1 : AW K c (thenA (fun st' => ∃ j, Weak K st' (S j)) Q0) st) : AW K c (thenA (AW K rest Q0) Q0) st :=
 h1.mono fun e st' h => by
  cases e with
  | normal => obtain ⟨j, hj⟩ := h; exact aw_weak hj (h2 j)
  | _ => exact h
theorem aw_join_ov {ι : Type} {c rest : Code} {Q0 : Exit → St → Prop} {st : St} (fo : ι → List (Nat × AV)) (ho : ι → List (Nat × Obj')) (h1 : AW K c (thenA (fun st' => ∃ j, Weak K st' (ov st (fo j) (ho j))) Q0) st) (h2 : ∀ j, AW K rest Q0 (ov st (fo j) (ho j))) : AW K c (thenA (AW K rest Q0) Q0) st :=
 aw_join _ h2 h1
theorem aw_join_keep {ι : Type} {c rest : Code} {Q0 : Exit → St → Prop} {st st0 : St} (slots : List Nat) (_ : keep st slots = some st0) (fo : ι → List (Nat × AV)) (ho : ι → List (Nat × Obj')) (h1 : AW K c (thenA (fun st' => ∃ j, Weak K st' (ov st0 (fo j) (ho j))) Q0) st) (h2 : ∀ j, AW K rest Q0 (ov st0 (fo j) (ho j))) : AW K c (thenA (AW K rest Q0) Q0) st :=
 aw_join _ h2 h1
theorem own_data {s : Sit} (H : Heap0 s) {t n : Nat} {u : Value} {E : TypeId} {k : Nat} {rows : List (List PV)} (ht : s.h t = some (.arr E k rows true)) (h : RelC s (.own t n) u) : RelP s.Safe s.w (.sl (rows.take n)) u := by
 obtain ⟨E', k', rows', sh, l, h1, h2, h3, h4, h5⟩ := h
 rw [ht] at h1; cases h1
 rcases Nat.lt_or_ge n rows.length with hlt | hge
 ·exact (h5 hlt).2
 ·have hn : n = rows.length := by omega
  subst hn
  obtain ⟨val, xs, h6, h7, h8, h9⟩ := H.objs _ _ ht
  rw [h2] at h6; cases h6
  rw [h4 rfl]
  exact relP_take (own_shared H ht h2 h7 h8 h9)
theorem weak_dataB {st : St} (b j : Nat) {cs : List AC} {t n : Nat} {E : TypeId} {k : Nat} {rows : List (List PV)} (hb : AL.get st.hp b = some (.box cs)) (hc : cs[j]? = some (.own t n)) (ht : AL.get st.hp t = some (.arr E k rows true)) :
  Weak K st { st with hp := AL.set st.hp b (.box (cs.set j (.p (.sl (rows.take n))))) } := by
 intro σ a w hr
 obtain ⟨blk, vs, ty, h1, h2, h3⟩ := hr.heap.objs b _ hb
 have hbox : RelCs (sit K σ st w) (cs.set j (.p (.sl (rows.take n)))) vs := by
  refine ⟨by simpa using h3.1, fun i c hi => ?_⟩
  by_cases hij : i = j
  ·subst hij
   have hlt : i < cs.length := (List.getElem?_eq_some_iff.1 hc).1
   rw [List.getElem?_set_self (by simpa using hlt)] at hi
   cases hi
   obtain ⟨x, hx, hrx⟩ := h3.2 i _ hc
   exact ⟨x, hx, own_data hr.heap ht hrx⟩
  ·rw [List.getElem?_set_ne (by omega)] at hi
   exact h3.2 i c hi
 obtain ⟨q1, q2⟩ := set_box hr.heap hb h1 (cs' := cs.set j (.p (.sl (rows.take n)))) (vs' := vs) (ty := ty) (w' := w) rfl (fun _ _ => rfl) h2 hbox
 have hu2 := hr.upd (id := b) (Turn.put (w' := w) q1 q2 (fun _ _ => rfl) (Nat.le_refl _) rfl rfl rfl)
 have hb1 := hr.lt b _ hb
 simp only [St.upd, if_pos hb1] at hu2
 exact ⟨_, hu2⟩
theorem weak_dataS {st : St} (d : Nat) {t n : Nat} {E : TypeId} {k : Nat} {rows : List (List PV)} (hd : AL.get st.fr d = some (.one (.own t n))) (ht : AL.get st.hp t = some (.arr E k rows true)) :
  Weak K st { st with fr := AL.set st.fr d (.one (.p (.sl (rows.take n)))) } := by
 intro σ a w hr
 refine ⟨σ, hr.heap, fun t' av ht' => ?_, hr.lt, hr.df, hr.nt, hr.frm⟩
 have ht' : AL.get (AL.set st.fr d (.one (.p (.sl (rows.take n))))) t' = some av := ht'
 rw [AL.get_set] at ht'
 split at ht'
 ·rename_i he
  cases ht'
  subst he
  exact ⟨(hr.fr t' _ hd).1, own_data hr.heap ht (hr.fr t' _ hd).2⟩
 ·exact hr.fr t' av ht'
end Go.Pv
