/- Kd: texts joined (PvZ PvW PvV PvU PvD PvR). -/
import Derived.Test.YtknikcpeacmpmaaPvY
import Derived.RangeFuncIn
set_option linter.all false
/- The logic of plain data, third part: calls walked in place, loops over a state's own entries. Seat-independent. -/
namespace Go.Pv
open Go Go.RowKit Go.Sh
variable {K : Kx}

def initV : Nat → List AV → List (Nat × AV)
  | _, [] => []
  | i, r :: rs => (i, r) :: initV (i + 1) rs
theorem initV_get : ∀ (rs : List AV) (i t : Nat), AL.get (initV i rs) t = if i ≤ t ∧ t < i + rs.length then rs[t - i]? else none
  | [], i, t => by simp [initV, AL.get]
  | r :: rs, i, t => by
    simp only [initV, AL.get, initV_get rs (i + 1) t, List.length_cons]
    by_cases h : t = i
    · subst h; simp
    · rw [if_neg h]
      by_cases h2 : i + 1 ≤ t ∧ t < i + 1 + rs.length
      · rw [if_pos h2, if_pos (by omega), show t - i = (t - (i + 1)) + 1 by omega, List.getElem?_cons_succ]
      · rw [if_neg h2, if_neg (by omega)]

def capV : CC → AV
  | .box b => .one (.box b 0)
  | .p x => .one (.p x)
theorem capV_rel {s : Sit} {c : CC} {u : Value} (h : RelCC s c u) : RelV s (capV c) u := by
  cases c with
  | box b => exact h
  | p x => exact h

def RelVs (s : Sit) (avs : List AV) (us : Array Value) : Prop := us.size = avs.length ∧ ∀ (j : Nat) (x : AV), avs[j]? = some x → ∃ u, us[j]? = some u ∧ RelV s x u

/-- A call of a function, in a state: what it leaves. -/
def CallF (K : Kx) (fid : FuncId) (avs : List AV) (st : St) (Q : St → AV → Prop) : Prop :=
  ∀ σ a w us, Rel K σ st a w → RelVs (sit K σ st w) avs us → Calls K.P fid us w fun e w' => (∃ u, e = .returned u ∧ ∃ σ' st' av, Rel K σ' st' a w' ∧ RelV (sit K σ' st' w') av u ∧ Q st' av) ∨ (∃ ps, e = .panicked ps ∧ ∃ σ' st', Rel K σ' st' a w' ∧ K.pan ps st')

theorem CallF.mono {fid : FuncId} {avs : List AV} {st : St} {Q Q' : St → AV → Prop} (h : CallF K fid avs st Q) (hq : ∀ st' av, Q st' av → Q' st' av) : CallF K fid avs st Q' :=
  fun σ a w us hr hv => (h σ a w us hr hv).mono fun _ _ he => he.imp (fun ⟨u, he, σ', st', av, h1, h2, h3⟩ => ⟨u, he, σ', st', av, h1, h2, hq _ _ h3⟩) id

theorem callS_of {st : St} {o : Oper} {Q : St → Prop} {f : Operand} {args : Array Operand} {argTypes : Array TypeId} (hd : dstOK K o.dst = true) (ho : o.op = .call { callee := .value f, args := args, argTypes := argTypes })
    (fid : FuncId) {caps : List CC} {avs : List AV} (h1 : (evalA (AL.get st.fr) f).bind fnA = some (fid, caps)) (h2 : mapO (evalA (AL.get st.fr)) args.toList = some avs)
    {fn : Func} (h5 : K.P.funcs[fid]? = some fn) (h6 : fn.body.isSome = true) (h7 : fn.name ≠ "runtime.NumGoroutine") (h : CallF K fid (avs ++ caps.map capV) st fun st' av => Q (st'.put o.dst av)) : CallS K st o Q := by
  intro σ a w hr
  obtain ⟨us, hus, hs0, hcap⟩ := fn_rel hr.evF h1
  rw [← mapM_eq] at h2
  obtain ⟨hl, ha⟩ := mapM_get h2
  have hrun : (execOp a.eval o).run K.P w = .ok (.enter fid (args.map a.eval ++ us)) w := by
    simp [execOp, ho, resolve, invoke, hus, Deferred.ofValue, run_callFunc h5 h6 h7]
  have hl' : args.size = avs.length := by simpa using hl.symm
  refine wpIn_of (by rw [ho]; intro c hc; cases hc) ?_
  rw [hrun, Oper.uponIn_enter]
  refine ⟨depth_K, callsIn_K ((h σ a w _ hr ⟨by simp [hs0, hl'], fun j x hj => ?_⟩).mono fun e w' he => ?_)⟩
  · by_cases hjl : j < avs.length
    · rw [List.getElem?_append_left hjl] at hj
      obtain ⟨y, hy, hf⟩ := ha j x hj
      have hy' : args[j]? = some y := by simpa using hy
      refine ⟨a.eval y, ?_, hr.evF y x hf⟩
      rw [Array.getElem?_append_left (by simp [hl']; exact hjl)]
      simp [hy']
    · rw [List.getElem?_append_right (by omega), List.getElem?_map] at hj
      cases hq : caps[j - avs.length]? with
      | none => rw [hq] at hj; cases hj
      | some c =>
        rw [hq] at hj; cases hj
        obtain ⟨v, hv, hrv⟩ := hcap _ c hq
        refine ⟨v, ?_, capV_rel hrv⟩
        rw [Array.getElem?_append_right (by simp [hl']; omega)]
        simpa [hl'] using hv
  · rcases he with ⟨u, rfl, σ', st', av, h1, h2, h3⟩ | ⟨ps, rfl, σ', st', h1, h2⟩
    · exact ⟨σ', _, h1.put hd h2, h3⟩
    · exact ⟨ps, rfl, σ', st', h1, h2⟩

theorem callS_ok {ops : Array Oper} {o : Oper} {r : List Oper} {st : St} {Q : St → Prop} {f : Operand} {args : Array Operand} {argTypes : Array TypeId} (hd : dstOK K o.dst = true) (ho : o.op = .call { callee := .value f, args := args, argTypes := argTypes })
    (fid : FuncId) {caps : List CC} {avs : List AV} (h1 : (evalA (AL.get st.fr) f).bind fnA = some (fid, caps)) (h2 : mapO (evalA (AL.get st.fr)) args.toList = some avs)
    {fn : Func} (h5 : K.P.funcs[fid]? = some fn) (h6 : fn.body.isSome = true) (h7 : fn.name ≠ "runtime.NumGoroutine") (h : CallF K fid (avs ++ caps.map capV) st fun st' av => evOps K ops r (st'.put o.dst av) Q) : CallO K ops o r st Q :=
  ⟨hd, .inr ⟨by rw [ho]; rfl, callS_of hd ho fid h1 h2 h5 h6 h7 h⟩⟩

def resV1 (P : Program) (st : St) : ResultVar → Option AV
  | .tmp t => AL.get st.fr t
  | .cell a ty => (AL.get st.fr a).bind fun av => loadA P (AL.get st.hp) ty av
def resV (P : Program) (st : St) : List ResultVar → Option AV
  | [r] => resV1 P st r
  | rs => (mapO (fun r => (resV1 P st r).bind (rvA false (AL.get st.hp))) rs).map .tup

theorem resV1_run {σ : Nat → Option Value} {st : St} {a : Act} {w : World} (h : Rel K σ st a w) {rv : ResultVar} {av : AV} (hr : resV1 K.P st rv = some av) :
    ∃ u, (resF a.tmps rv).run K.P w = .ok u w ∧ RelV (sit K σ st w) av u := by
  cases rv with
  | tmp t => exact ⟨_, rfl, (h.fr t av hr).2⟩
  | cell ad ty =>
    simp only [resV1, Option.bind_eq_some_iff] at hr
    obtain ⟨av0, hav, hv⟩ := hr
    obtain ⟨x, hx, hrx⟩ := loadA_run (P := K.P) h.heap (h.fr ad av0 hav).2 hv
    have hrow : ∃ row, rowAtA (sit K σ st w).h av0 = some row := by
      unfold loadA at hv
      simp only [Option.bind_eq_some_iff] at hv
      obtain ⟨row, h1, _⟩ := hv
      exact ⟨row, h1⟩
    obtain ⟨row, hrow⟩ := hrow
    obtain ⟨b, o, hp, _⟩ := rowAtA_rel h.heap (h.fr ad av0 hav).2 hrow
    refine ⟨x, ?_, hrx⟩
    simp only [resF]
    rw [hp] at hx ⊢
    simp only [Instr.loadAt, Instr.sureAddr, Sem.run_bind, Sem.run_pure, Result.andThen_ok] at hx
    simp only [asAddr, Sem.run_bind, Sem.run_pure, Result.andThen_ok]
    exact hx

theorem resV_run {σ : Nat → Option Value} {st : St} {a : Act} {w : World} (h : Rel K σ st a w) {fn : Func} {av : AV} (hr : resV K.P st fn.results.toList = some av) : ∃ u, (results fn a.tmps).run K.P w = .ok u w ∧ RelV (sit K σ st w) av u := by
  have hm : ∀ {w'}, (fn.results.mapM (resF a.tmps)).run K.P w' = (List.toArray <$> fn.results.toList.mapM (resF a.tmps)).run K.P w' := by
    intro w'; rw [Array.mapM_eq_mapM_toList]
  have key : ∀ (l : List ResultVar) (rs : List RV), mapO (fun r => (resV1 K.P st r).bind (rvA false (AL.get st.hp))) l = some rs → ∃ us : List Value, (l.mapM (resF a.tmps)).run K.P w = .ok us w ∧ RelRs (sit K σ st w).Safe w rs us.toArray := by
    intro l
    induction l with
    | nil => intro rs hrs; cases hrs; exact ⟨[], rfl, rfl, by simp⟩
    | cons rv l ih =>
      intro rs hrs
      rw [← mapM_eq] at hrs
      simp only [List.mapM_cons, Option.pure_def, Option.bind_eq_bind, Option.bind_eq_some_iff, Option.some.injEq] at hrs
      obtain ⟨r1, ⟨av1, h1, hrv⟩, rs', h2, rfl⟩ := hrs
      obtain ⟨u, hu, hru⟩ := resV1_run h h1
      obtain ⟨us, hus, hs, hrel⟩ := ih rs' (by rw [← mapM_eq]; exact h2)
      have hsafe : ∀ b c, (sit K σ st w).Zc false b c → (sit K σ st w).Safe b c := by
        intro b c hz
        rcases hz with hz | ⟨hz, _⟩
        · exact hz
        · cases hz
      have hru2 : RelR (sit K σ st w).Safe w r1 u := (rvA_rel h.heap hru hrv).mono fun b c x hz hc => ⟨hsafe b c hz, hc⟩
      refine ⟨u :: us, ?_, by simpa using hs, fun j r hj => ?_⟩
      · simp only [List.mapM_cons, Sem.run_bind]
        rw [hu]
        simp only [Result.andThen_ok, Sem.run_bind]
        rw [hus]
        rfl
      · cases j with
        | zero => simp at hj; subst hj; exact ⟨u, by simp, hru2⟩
        | succ j =>
          obtain ⟨x, hx, hrx⟩ := hrel j r (by simpa using hj)
          exact ⟨x, by simpa using hx, hrx⟩
  rcases hl : fn.results.toList with _ | ⟨r1, _ | ⟨r2, rs⟩⟩
  · rw [hl] at hr
    cases hr
    rw [results_eq, Sem.run_bind, hm, hl, Sem.run_map]
    exact ⟨.tuple #[], rfl, #[], rfl, rfl, by simp⟩
  · rw [hl] at hr
    obtain ⟨u, hu, hru⟩ := resV1_run h hr
    refine ⟨u, ?_, hru⟩
    rw [results_eq, Sem.run_bind, hm, hl, Sem.run_map]
    simp only [List.mapM_cons, List.mapM_nil, Sem.run_bind, hu, Result.andThen_ok]
    rfl
  · rw [hl] at hr
    simp only [resV, Option.map_eq_some_iff] at hr
    obtain ⟨rs', hrs, rfl⟩ := hr
    obtain ⟨us, hus, hrel⟩ := key _ rs' hrs
    have hlen : us.length = rs'.length := by simpa using hrel.1
    have hlen2 : rs'.length = rs.length + 2 := by
      rw [← mapM_eq] at hrs
      have := (mapM_get hrs).1
      simpa using this
    refine ⟨.tuple us.toArray, ?_, us.toArray, rfl, hrel⟩
    rw [results_eq, Sem.run_bind, hm, hl, Sem.run_map, hus]
    simp only [Result.andThen]
    have hne : ¬ (us.toArray.size = 1) := by intro h1; rw [List.size_toArray, hlen] at h1; omega
    rw [dif_neg hne]
    rfl

/-- In a callee. -/
def Kx.callee (K : Kx) (nt : Nat) (st : St) (tm : Nat → Value) (Ds : List Nat) : Kx :=
  { K with nt := nt, rd := none, df := none, rg := true, dk := Ds ++ K.dk, pan := fun ps st' => AL.get st'.hp st.nx = some (.kept st.fr tm) ∧ K.pan ps ⟨st.fr, st'.hp, st'.nx⟩ }
/-- A call, walked in place: the caller's frame is kept. -/
theorem callF_in {fid : FuncId} {avs : List AV} {st : St} {Q : St → AV → Prop} {fn : Func} {c : Code} {nt : Nat} {rs : List ResultVar} (hf : K.P.funcs[fid]? = some fn) (hb : fn.body = some c) (hnt : fn.ntmps = nt) (hrs : fn.results.toList = rs) (hn : avs.length ≤ nt)
    (h : ∀ tm Ds, AW (K.callee nt st tm Ds) c (fun e st' => (e = .normal ∨ e = .ret) ∧ ∃ av, resV K.P st' rs = some av ∧ AL.get st'.hp st.nx = some (.kept st.fr tm) ∧ Q ⟨st.fr, st'.hp, st'.nx⟩ av) ⟨initV 0 avs, (st.nx, .kept st.fr tm) :: st.hp, st.nx + 1⟩) : CallF K fid avs st Q := by
  subst hnt hrs
  intro σ a w us hr hus
  have hσ : σ st.nx = none := hr.fresh (Nat.le_refl _)
  obtain ⟨Ds, hDs1, hDs2, hDs3, hDs4, hDs5⟩ := hr.df
  let tm : Nat → Value := fun t => a.tmps.getD t undef
  let st0 : St := ⟨initV 0 avs, (st.nx, .kept st.fr tm) :: st.hp, st.nx + 1⟩
  have hget : ∀ id, id ≠ st.nx → AL.get st0.hp id = AL.get st.hp id := fun id hid => by simp [st0, AL.get, hid]
  have he : Ext (sit K σ st w) (sit K σ st0 w) := by
    refine ⟨fun _ _ _ _ h => h, fun b c _ hs => ⟨hs.1, fun id l hl hb => ?_⟩, fun id cs l h1 h2 => ?_, fun id E k rows sh l h1 h2 => ?_, fun id P k I l h1 h2 => ?_, fun id b r l h1 h2 => ?_⟩
    · have hid : id ≠ st.nx := by rintro rfl; simp only [sit] at hl; rw [hσ] at hl; cases hl
      obtain ⟨E, k, rows, h1, h2⟩ := hs.2 id l hl hb
      exact ⟨E, k, rows, by simp only [sit]; rw [hget id hid]; exact h1, h2⟩
    · have hid : id ≠ st.nx := by rintro rfl; simp only [sit] at h2; rw [hσ] at h2; cases h2
      exact ⟨h2, cs, by simp only [sit]; rw [hget id hid]; exact h1⟩
    · have hid : id ≠ st.nx := by rintro rfl; simp only [sit] at h2; rw [hσ] at h2; cases h2
      exact ⟨rows, sh, l, by simp only [sit]; rw [hget id hid]; exact h1, h2, .inl ⟨rfl, rfl, fun h => h⟩⟩
    · have hid : id ≠ st.nx := by rintro rfl; simp only [sit] at h2; rw [hσ] at h2; cases h2
      exact ⟨h2, I, by simp only [sit]; rw [hget id hid]; exact h1⟩
    · have hid : id ≠ st.nx := by rintro rfl; simp only [sit] at h2; rw [hσ] at h2; cases h2
      exact ⟨h2, r, by simp only [sit]; rw [hget id hid]; exact h1⟩
  have hrel : Rel (K.callee fn.ntmps st tm Ds) σ st0 { tmps := us ++ Array.replicate (fn.ntmps - us.size) undef, defers := [] } w := by
    have hsz : us.size = avs.length := hus.1
    refine ⟨⟨fun id o ho => ?_, fun id l hl => ?_, hr.heap.inj, hr.heap.lt⟩, fun t av ht => ?_, fun id o ho => ?_, ⟨[], rfl, List.nodup_nil, fun D hD => (by cases hD), fun D hD => ?_, fun _ => rfl⟩, by simp [Kx.callee]; omega, hr.frm⟩
    · have ho' : AL.get st0.hp id = some o := ho
      by_cases hid : id = st.nx
      · subst hid
        simp only [st0, AL.get_eq, Option.some.injEq] at ho'
        subst ho'
        exact ⟨hσ, fun t av ht => he.relV (hr.fr t av ht).2⟩
      · rw [hget id hid] at ho'
        exact (hr.heap.objs id o ho').ext he rfl rfl fun _ _ _ _ => rfl
    · obtain ⟨o, ho⟩ := hr.heap.dom id l hl
      by_cases hid : id = st.nx
      · exact ⟨_, by subst hid; simp only [sit, st0]; exact AL.get_eq _ _ _⟩
      · exact ⟨o, by simp only [sit]; rw [hget id hid]; exact ho⟩
    · have ht' : AL.get (initV 0 avs) t = some av := ht
      rw [initV_get] at ht'
      split at ht'
      · obtain ⟨u, hu, hv⟩ := hus.2 t av (by simpa using ht')
        have hlt : t < us.size := (Array.getElem?_eq_some_iff.1 hu).1
        refine ⟨by simp; omega, ?_⟩
        have : (us ++ Array.replicate (fn.ntmps - us.size) undef).getD t undef = u := by
          rw [Array.getD_eq_getD_getElem?, Array.getElem?_append_left hlt, hu]; rfl
        rw [this]
        exact he.relV hv
      · cases ht'
    · by_cases hid : id = st.nx
      · subst hid; exact Nat.lt_succ_self _
      · rw [hget id hid] at ho
        exact Nat.lt_succ_of_lt (hr.lt id o ho)
    · rcases List.mem_append.1 hD with h1 | h1
      · exact (hDs3 D h1).2.2
      · exact hDs4 D h1
  have hback : ∀ {σ' : Nat → Option Value} {st' : St} {a' : Act} {w' : World}, Rel (K.callee fn.ntmps st tm Ds) σ' st' a' w' → AL.get st'.hp st.nx = some (.kept st.fr tm) → Rel K σ' ⟨st.fr, st'.hp, st'.nx⟩ a w' := by
    intro σ' st' a' w' hr' hkept
    have hk := hr'.heap.objs st.nx _ hkept
    obtain ⟨_, _, _, _, h4, _⟩ := hr'.df
    exact ⟨hr'.heap, fun t av ht => ⟨(hr.fr t av ht).1, hk.2 t av ht⟩, hr'.lt,
      ⟨Ds, hDs1, hDs2, fun D hD => ⟨(hDs3 D hD).1, (hDs3 D hD).2.1, h4 D (List.mem_append_left _ hD)⟩, fun D hD => h4 D (List.mem_append_right _ hD), hDs5⟩, hr.nt, hr'.frm⟩
  refine calls_of_aw (K := K.callee fn.ntmps st tm Ds) hf hb rfl rfl hrel (h tm Ds) (fun e st' hq => hq.1) (fun e σ' st' a' w' hq hr' => ?_) (fun ps σ' st' a' w' hp hr' => ?_)
  · obtain ⟨_, av, hres, hkept, hq⟩ := hq
    obtain ⟨u, hu, hru⟩ := resV_run (K := K.callee fn.ntmps st tm Ds) hr' hres
    exact ⟨u, hu, .inl ⟨u, rfl, σ', _, av, hback hr' hkept, hru, hq⟩⟩
  · exact .inr ⟨ps, rfl, σ', _, hback hr' hp.1, hp.2⟩

/-- A nil slice in a box, taken as one's own. -/
theorem weak_ownB {st : St} (b j : Nat) (E k : Nat) {cs : List AC} (hb : AL.get st.hp b = some (.box cs)) (hc : cs[j]? = some .nil) :
    Weak K st ⟨st.fr, AL.set (AL.set st.hp st.nx (.arr E k [] true)) b (.box (cs.set j (.own st.nx 0))), st.nx + 1⟩ := by
  intro σ a w hr
  have hnone := hr.fresh (Nat.le_refl _)
  obtain ⟨p1, p2⟩ := new_arr hr.heap (id := st.nx) hnone hr.frm.size (E := E) (k := k) (rows := []) true (val := .slice none 0 0) (xs := []) (w' := w) (World.ownsRow_nil w _ E k) ⟨rfl, rfl, rfl, Nat.le_refl _, fun _ _ _ => rfl⟩ (fun b hb => by cases hb) (fun i row hi => by simp at hi) (fun i row j c hi => by simp at hi)
  have hu := hr.upd (id := st.nx) (Turn.put (w' := w) p1 p2 (fun _ _ => rfl) (Nat.le_refl _) rfl rfl rfl)
  simp only [St.upd, Nat.lt_irrefl, if_false] at hu
  have hbn : b ≠ st.nx := by have := hr.lt b _ hb; omega
  have hb' : AL.get (AL.set st.hp st.nx (.arr E k [] true)) b = some (.box cs) := by rw [AL.get_set, if_neg hbn]; exact hb
  obtain ⟨blk, vs, ty, h1, h2, h3⟩ := hu.heap.objs b _ hb'
  have hbox : RelCs (sit K (Pv.upd σ st.nx (.slice none 0 0)) ⟨st.fr, AL.set st.hp st.nx (.arr E k [] true), st.nx + 1⟩ w) (cs.set j (.own st.nx 0)) vs := by
    refine ⟨by simpa using h3.1, fun i c hi => ?_⟩
    by_cases hij : i = j
    · subst hij
      have hlt : i < cs.length := (List.getElem?_eq_some_iff.1 hc).1
      rw [List.getElem?_set_self (by simpa using hlt)] at hi
      cases hi
      obtain ⟨x, hx, hrx⟩ := h3.2 i _ hc
      refine ⟨x, hx, ?_⟩
      rw [show x = .slice none 0 0 from hrx]
      exact ⟨E, k, [], true, .slice none 0 0, by simp [sit, AL.set, AL.get_eq], upd_same σ st.nx _, Nat.le_refl _, fun _ => rfl, fun hlt => by simp at hlt⟩
    · rw [List.getElem?_set_ne (by omega)] at hi
      exact h3.2 i c hi
  have hlt := hu.heap.lt b _ blk h1 rfl
  obtain ⟨q1, q2⟩ := set_box hu.heap hb' h1 (cs' := cs.set j (.own st.nx 0)) (vs' := vs) (ty := ty) (w' := w) rfl (fun _ _ => rfl) h2 hbox
  have hu2 := hu.upd (id := b) (Turn.put (w' := w) q1 q2 (fun _ _ => rfl) (Nat.le_refl _) rfl rfl rfl)
  have hb1 : b < st.nx + 1 := by have := hr.lt b _ hb; omega
  simp only [St.upd, if_pos hb1] at hu2
  exact ⟨_, hu2⟩
theorem eqIn_bool {P : Program} {T : TypeId} {a b : Bool} {d : Nat} (h : P.underlying T = some .bool) : peek P (Op.equalIn (d + 1) T (.bool a) (.bool b)) = some (a == b) := by
  unfold Op.equalIn
  rw [peek_bind, peek_und h, Option.bind_some]
  rfl
theorem bin_eql_bool {P : Program} {T : TypeId} (h : P.underlying T = some .bool) (x y : Operand) (a b : Bool) : binA P .eql T x y (.bool a) (.bool b) = some (.bool (a == b)) := by
  have he : peek P (Op.equal T (.bool a) (.bool b)) = some (a == b) := by
    exact eqIn_bool (d := 9999) h
  unfold binA eqGuard binOp
  simp [peek_bind, peek_map, he, peek_pure]
theorem bin_neq_bool {P : Program} {T : TypeId} (h : P.underlying T = some .bool) (x y : Operand) (a b : Bool) : binA P .neq T x y (.bool a) (.bool b) = some (.bool (a != b)) := by
  have he : peek P (Op.equal T (.bool a) (.bool b)) = some (a == b) := by
    exact eqIn_bool (d := 9999) h
  unfold binA eqGuard binOp
  simp [peek_bind, peek_map, he, peek_pure]
  cases a <;> cases b <;> rfl
theorem bne_tf : (true != false) = true := rfl
theorem bne_ft : (false != true) = true := rfl
theorem beq_tf : (true == false) = false := rfl
theorem beq_ft : (false == true) = false := rfl

theorem beq_t_d {a b : Int} (h : a = b) : (a == b) = true := by simp [h]
theorem beq_f_d {a b : Int} (h : a ≠ b) : (a == b) = false := by simp [h]
theorem bne_t_d {a b : Int} (h : a ≠ b) : (a != b) = true := by simp [h]
theorem bne_f_d {a b : Int} (h : a = b) : (a != b) = false := by simp [h]

/-! ### Loops over a state's own entries -/

/-- The objects that are to be reached. -/
def reachL (hp : Nat → Option Obj') : Nat → List Nat → List Nat → List Nat
  | 0, _, seen => seen
  | _ + 1, [], seen => seen
  | n + 1, i :: todo, seen => if seen.contains i = true then reachL hp n todo seen else
      match hp i with
      | some o => reachL hp n (refsO o ++ todo) (seen ++ [i])
      | none => reachL hp n todo seen
def slotRefs (fr : List (Nat × AV)) : List Nat → List Nat
  | [] => []
  | t :: r => (match AL.get fr t with | some av => refsV av | none => []) ++ slotRefs fr r
/-- The slots that are there. -/
def there (fr : List (Nat × AV)) : List Nat → List Nat
  | [] => []
  | t :: r => (match AL.get fr t with | some _ => [t] | none => []) ++ there fr r
def keep (st : St) (slots : List Nat) : Option St := restrict st (there st.fr slots) (reachL (AL.get st.hp) 200 (slotRefs st.fr slots) []) st.nx
theorem weak_keep {st st' : St} (slots : List Nat) (h : keep st slots = some st') : Weak K st st' := weak_restrict _ _ _ h
def keys {α : Type} : List (Nat × α) → List Nat
  | [] => []
  | (k, _) :: r => k :: keys r
theorem weak_round {st T : St} (h : restrict st (keys T.fr) (keys T.hp) (if T.nx < st.nx then st.nx else T.nx) = some ⟨T.fr, T.hp, if T.nx < st.nx then st.nx else T.nx⟩) (hT : ((keys T.hp).all fun i => decide (i < T.nx)) = true) : Weak K st T := by
  intro σ a w hr
  obtain ⟨σ', hr'⟩ := weak_restrict _ _ _ h σ a w hr
  refine ⟨σ', hr'.heap, hr'.fr, fun id o ho => ?_, hr'.df, hr'.nt, hr'.frm⟩
  have : ∀ (l : List (Nat × Obj')), AL.get l id = some o → id ∈ keys l := by
    intro l
    induction l with
    | nil => intro h; simp [AL.get] at h
    | cons p l ih =>
      obtain ⟨k, x⟩ := p
      intro h
      simp only [AL.get] at h
      split at h
      · rename_i hk; subst hk; exact List.mem_cons_self
      · exact List.mem_cons_of_mem _ (ih h)
  have := List.all_eq_true.1 hT id (this _ ho)
  simpa using this
def ovL {α : Type} (f : List (Nat × α)) : List (Nat × α) → List (Nat × α)
  | [] => []
  | (k, x) :: r => (k, (AL.get f k).getD x) :: ovL f r
/-- The state with some entries turned. -/
def ov (st : St) (f : List (Nat × AV)) (h : List (Nat × Obj')) : St := ⟨ovL f st.fr, ovL h st.hp, st.nx⟩
theorem aw_loop_ov {ι : Type} {body : Code} {Q : Exit → St → Prop} {st : St} (fo : ι → List (Nat × AV)) (ho : ι → List (Nat × Obj')) (μ : ι → Nat) (i : ι) (h0 : ov st (fo i) (ho i) = st)
    (h : ∀ j, AW K body (thenA (fun st' => ∃ j', μ j' < μ j ∧ Weak K st' (ov st (fo j') (ho j'))) Q) (ov st (fo j) (ho j))) : AW K (.loop body) Q st := by
  have := aw_loop (fun j => ov st (fo j) (ho j)) μ h i
  rw [h0] at this
  exact this
end Go.Pv
/- The logic of plain data, fourth part: contracts of functions that look at the caller's objects. Seat-independent. -/
namespace Go.Pv
open Go Go.RowKit Go.Sh
variable {K : Kx}

/-- What something names is there. -/
def There (h : Nat → Option Obj') (l : List Nat) : Prop := ∀ i ∈ l, ∃ o, h i = some o
theorem there_C {s : Sit} {c : AC} {u : Value} (h : RelC s c u) : There s.h (refsC c) := by
  intro i hi
  cases c with
  | own t n => simp [refsC] at hi; subst hi; obtain ⟨E, k, rows, sh, l, h1, _⟩ := h; exact ⟨_, h1⟩
  | box b o => simp [refsC] at hi; subst hi; obtain ⟨cs, blk, h1, _⟩ := h; exact ⟨_, h1⟩
  | oix t j o => simp [refsC] at hi; subst hi; obtain ⟨E, k, rows, sh, l, h1, _⟩ := h; exact ⟨_, h1⟩
  | fn f caps =>
    obtain ⟨us, rfl, hs, h⟩ := h
    simp only [refsC, List.mem_flatMap] at hi
    obtain ⟨cc, hcc, hi⟩ := hi
    obtain ⟨j, hj, he⟩ := List.getElem_of_mem hcc
    obtain ⟨x, hx, hr⟩ := h j cc (by rw [← he]; simp [hj])
    cases cc with
    | box b => simp [refsCC] at hi; subst hi; obtain ⟨cs, blk, h1, _⟩ := hr; exact ⟨_, h1⟩
    | p x => simp [refsCC] at hi
  | memo m => simp [refsC] at hi; subst hi; obtain ⟨P, k, I, b, h1, _⟩ := h; exact ⟨_, h1⟩
  | ifc T b => simp [refsC] at hi; subst hi; obtain ⟨cs, blk, h1, _⟩ := h; exact ⟨_, h1⟩
  | yld l => simp [refsC] at hi; subst hi; obtain ⟨r, b, h1, _⟩ := h; exact ⟨_, h1⟩
  | _ => simp [refsC] at hi
theorem there_Cs {s : Sit} {cs : List AC} {us : Array Value} (h : RelCs s cs us) : There s.h (cs.flatMap refsC) := by
  intro i hi
  obtain ⟨c, hc, hi⟩ := List.mem_flatMap.1 hi
  obtain ⟨j, hj, he⟩ := List.getElem_of_mem hc
  obtain ⟨x, _, hr⟩ := h.2 j c (by rw [← he]; simp [hj])
  exact there_C hr i hi
theorem there_V {s : Sit} {av : AV} {u : Value} (h : RelV s av u) : There s.h (refsV av) := by
  intro i hi
  cases av with
  | one c => exact there_C h i hi
  | agg cs => obtain ⟨us, rfl, h⟩ := h; exact there_Cs h i hi
  | _ => simp [refsV] at hi
theorem there_O {s : Sit} {id : Nat} {o : Obj'} (h : RelO s id o) (hn : ∀ fr tm, o = .kept fr tm → ∀ p ∈ fr, AL.get fr p.1 = some p.2) : There s.h (refsO o) := by
  intro i hi
  cases o with
  | box cs => obtain ⟨blk, vs, ty, _, _, h⟩ := h; exact there_Cs h i hi
  | arr E k rows sh => simp [refsO] at hi
  | kept fr tm =>
    simp only [refsO, List.mem_flatMap] at hi
    obtain ⟨p, hp, hi⟩ := hi
    exact there_V (h.2 p.1 p.2 (hn fr tm rfl p hp)) i hi
  | memo P k I => simp [refsO] at hi
  | lp b r => simp [refsO] at hi

/-- A situation of some objects only, all of whose references stay among them. -/
theorem rel_sub {σ : Nat → Option Value} {st T : St} {a : Act} {w : World} (hr : Rel K σ st a w) (hfr : ∀ t av, AL.get T.fr t = some av → AL.get st.fr t = some av) (hhp : ∀ id o, AL.get T.hp id = some o → AL.get st.hp id = some o)
    (hnx : ∀ id o, AL.get T.hp id = some o → id < T.nx) (hcf : ∀ t av, AL.get T.fr t = some av → There (AL.get T.hp) (refsV av))
    (hco : ∀ id o, AL.get T.hp id = some o → (∀ fr tm, o ≠ .kept fr tm) → There (AL.get T.hp) (refsO o)) (hck : ∀ id fr tm, AL.get T.hp id = some (.kept fr tm) → ∀ t av, AL.get fr t = some av → There (AL.get T.hp) (refsV av)) :
    ∃ σ', Rel K σ' T a w ∧ ∀ av u, There (AL.get T.hp) (refsV av) → RelV (sit K σ st w) av u → RelV (sit K σ' T w) av u := by
  let ids : List Nat := (List.range T.nx).filter fun i => (AL.get T.hp i).isSome
  have hids : ∀ i, i ∈ ids ↔ ∃ o, AL.get T.hp i = some o := by
    intro i
    simp only [ids, List.mem_filter, List.mem_range]
    constructor
    · rintro ⟨_, h⟩; exact Option.isSome_iff_exists.1 h
    · rintro ⟨o, ho⟩; exact ⟨hnx i o ho, by rw [ho]; rfl⟩
  have hh : ∀ i, AL.get T.hp i = if i ∈ ids then (sit K σ st w).h i else none := by
    intro i
    split
    · rename_i h
      obtain ⟨o, ho⟩ := (hids i).1 h
      rw [ho]; exact (hhp i o ho).symm
    · rename_i h
      cases hg : AL.get T.hp i with
      | none => rfl
      | some o => exact absurd ((hids i).2 ⟨o, hg⟩) h
  have hin : ∀ {l : List Nat}, There (AL.get T.hp) l → ∀ i ∈ l, i ∈ ids := fun h i hi => (hids i).2 (h i hi)
  refine ⟨fun i => if i ∈ ids then σ i else none, ⟨⟨fun id o ho => ?_, fun id l hl => ?_, fun i i' l l' b hi hi' hb hb' => ?_, fun i l b hi hb => ?_⟩, fun t av ht => ?_, hnx, hr.df, hr.nt, hr.frm⟩, fun av u hth hv => ?_⟩
  · have ho' : AL.get T.hp id = some o := ho
    have hid : id ∈ ids := (hids id).2 ⟨o, ho'⟩
    have h0 := hr.heap.objs id o (hhp id o ho')
    have hs : sit K (fun i => if i ∈ ids then σ i else none) T w = (sit K σ st w).sub ids (AL.get T.hp) := rfl
    rw [hs]
    cases o with
    | box cs =>
      obtain ⟨blk, vs, ty, h1, h2, h3⟩ := h0
      exact ⟨blk, vs, ty, by show (if id ∈ ids then σ id else none) = _; rw [if_pos hid]; exact h1, h2, sub_relCs hh h3 (hin (hco id _ ho' (fun _ _ h => by cases h)))⟩
    | arr E k rows sh =>
      obtain ⟨val, xs, h1, h2, h3, h4⟩ := h0
      exact ⟨val, xs, by show (if id ∈ ids then σ id else none) = _; rw [if_pos hid]; exact h1, h2, h3, fun i row j c hi hj => let ⟨u, hu, hru⟩ := h4 i row j c hi hj; ⟨u, hu, sub_relP hh hru⟩⟩
    | kept fr' tm =>
      refine ⟨by show (if id ∈ ids then σ id else none) = none; rw [if_pos hid]; exact h0.1, fun t av ht => ?_⟩
      exact sub_relV hh (h0.2 t av ht) (hin (hck id fr' tm ho' t av ht))
    | memo P k I =>
      obtain ⟨b, h1, h2⟩ := h0
      exact ⟨b, by show (if id ∈ ids then σ id else none) = _; rw [if_pos hid]; exact h1, h2⟩
    | lp b r =>
      obtain ⟨h1, h2⟩ := h0
      exact ⟨by show (if id ∈ ids then σ id else none) = _; rw [if_pos hid]; exact h1, h2⟩
  · simp only [sit] at hl ⊢
    split at hl
    · rename_i hid
      exact (hids id).1 hid
    · cases hl
  · simp only [sit] at hi hi'
    split at hi
    · split at hi'
      · exact hr.heap.inj i i' l l' b hi hi' hb hb'
      · cases hi'
    · cases hi
  · simp only [sit] at hi
    split at hi
    · exact hr.heap.lt i l b hi hb
    · cases hi
  · obtain ⟨h1, h2⟩ := hr.fr t av (hfr t av ht)
    exact ⟨h1, sub_relV hh h2 (hin (hcf t av ht))⟩
  · exact sub_relV hh hv (hin hth)

/-- All that a state names is there. -/
structure Closed (st : St) : Prop where
  lt : ∀ id o, AL.get st.hp id = some o → id < st.nx
  fr : ∀ t av, AL.get st.fr t = some av → There (AL.get st.hp) (refsV av)
  obj : ∀ id o, AL.get st.hp id = some o → (∀ fr tm, o ≠ .kept fr tm) → There (AL.get st.hp) (refsO o)
  kept : ∀ id fr tm, AL.get st.hp id = some (.kept fr tm) → ∀ t av, AL.get fr t = some av → There (AL.get st.hp) (refsV av)
theorem Rel.closed {σ : Nat → Option Value} {st : St} {a : Act} {w : World} (h : Rel K σ st a w) : Closed st :=
  ⟨h.lt, fun t av ht => there_V (h.fr t av ht).2, fun id o ho hk => there_O (h.heap.objs id o ho) fun fr tm e => absurd e (hk fr tm), fun id fr tm ho t av ht => there_V ((h.heap.objs id _ ho).2 t av ht)⟩
/-- One object turned. -/
theorem Closed.set {st : St} (h : Closed st) {b : Nat} {o o' : Obj'} (hb : AL.get st.hp b = some o) (hn : ∀ fr tm, o' ≠ .kept fr tm) (hr : There (AL.get st.hp) (refsO o')) : Closed ⟨st.fr, AL.set st.hp b o', st.nx⟩ := by
  have hd : ∀ {l : List Nat}, There (AL.get st.hp) l → There (AL.get (AL.set st.hp b o')) l := by
    intro l hl i hi
    obtain ⟨x, hx⟩ := hl i hi
    rw [AL.get_set]
    split
    · exact ⟨_, rfl⟩
    · exact ⟨x, hx⟩
  refine ⟨fun id x hx => ?_, fun t av ht => hd (h.fr t av ht), fun id x hx hk => ?_, fun id fr tm hx t av ht => ?_⟩
  · have hx : AL.get (AL.set st.hp b o') id = some x := hx
    rw [AL.get_set] at hx
    split at hx
    · rename_i e; subst e; exact h.lt _ _ hb
    · exact h.lt _ _ hx
  · have hx : AL.get (AL.set st.hp b o') id = some x := hx
    rw [AL.get_set] at hx
    split at hx
    · cases hx; exact hd hr
    · exact hd (h.obj id x hx hk)
  · have hx : AL.get (AL.set st.hp b o') id = some (.kept fr tm) := hx
    rw [AL.get_set] at hx
    split at hx
    · cases hx; exact absurd rfl (hn fr tm)
    · exact hd (h.kept id fr tm hx t av ht)

theorem Rel.pan {σ : Nat → Option Value} {st : St} {a : Act} {w : World} {p : List PanicEntry → St → Prop} (h : Rel K σ st a w) : Rel { K with pan := p } σ st a w := ⟨h.heap, h.fr, h.lt, h.df, h.nt, h.frm⟩
/-- What a call leaves of the caller's state. -/
def Left (st st' T : St) : Prop := T.fr = st.fr ∧ Closed T ∧ ∀ id o, AL.get T.hp id = some o → AL.get st'.hp id = some o
/-- In a callee, whose making is let go. -/
def Kx.calleeT (K : Kx) (nt : Nat) (st : St) (tm : Nat → Value) (Ds : List Nat) : Kx :=
  { K with nt := nt, rd := none, df := none, rg := true, dk := Ds ++ K.dk, pan := fun ps st' => AL.get st'.hp st.nx = some (.kept st.fr tm) ∧ ∃ T : St, Left st st' T ∧ K.pan ps T }
/-- A call, walked in place, that leaves the caller's objects as T has them, and what it made is let go. -/
theorem callF_to {fid : FuncId} {avs : List AV} {st : St} {Q : St → AV → Prop} {fn : Func} {c : Code} {nt : Nat} {rs : List ResultVar} (hf : K.P.funcs[fid]? = some fn) (hb : fn.body = some c) (hnt : fn.ntmps = nt) (hrs : fn.results.toList = rs) (hn : avs.length ≤ nt)
    (h : Closed st → ∀ tm Ds, AW (K.calleeT nt st tm Ds) c (fun e st' => (e = .normal ∨ e = .ret) ∧ ∃ av, resV K.P st' rs = some av ∧ AL.get st'.hp st.nx = some (.kept st.fr tm) ∧
      ∃ T : St, T.fr = st.fr ∧ Closed T ∧ (∀ id o, AL.get T.hp id = some o → AL.get st'.hp id = some o) ∧ There (AL.get T.hp) (refsV av) ∧ Q T av) ⟨initV 0 avs, (st.nx, .kept st.fr tm) :: st.hp, st.nx + 1⟩) : CallF K fid avs st Q := by
  intro σ a w us hr hus
  have hc := hr.closed
  have := callF_in (K := { K with pan := fun ps st' => ∃ T : St, T.fr = st.fr ∧ st'.fr = st.fr ∧ Closed T ∧ (∀ id o, AL.get T.hp id = some o → AL.get st'.hp id = some o) ∧ K.pan ps T })
    (Q := fun st' av => ∃ T : St, T.fr = st.fr ∧ st'.fr = st.fr ∧ Closed T ∧ (∀ id o, AL.get T.hp id = some o → AL.get st'.hp id = some o) ∧ There (AL.get T.hp) (refsV av) ∧ Q T av) hf hb hnt hrs hn
    (fun tm Ds σ a w hr => by
      have hr' : Rel (K.calleeT nt st tm Ds) σ _ a w := ⟨hr.heap, hr.fr, hr.lt, hr.df, hr.nt, hr.frm⟩
      refine wpIn_mono (h hc tm Ds σ a w hr') fun e a' w' hp => ?_
      rcases hp with ⟨σ', st', ⟨h1, av, h2, h3, T, h4, h5, h6, h7, h8⟩, hr2⟩ | ⟨ps, he, σ', st', hr2, h3, T, ⟨h4, h5, h6⟩, h7⟩
      · exact .inl ⟨σ', st', ⟨h1, av, h2, h3, T, h4, rfl, h5, h6, h7, h8⟩, ⟨hr2.heap, hr2.fr, hr2.lt, hr2.df, hr2.nt, hr2.frm⟩⟩
      · exact .inr ⟨ps, he, σ', st', ⟨hr2.heap, hr2.fr, hr2.lt, hr2.df, hr2.nt, hr2.frm⟩, h3, T, h4, rfl, h5, h6, h7⟩) σ a w us hr.pan hus
  refine this.mono fun e w' he => ?_
  rcases he with ⟨u, he, σ', st', av, h1, h2, T, h3, h3', h4, h5, h6, h7⟩ | ⟨ps, he, σ', st', h1, T, h3, h3', h4, h5, h7⟩
  · obtain ⟨σ'', hrel, hv⟩ := rel_sub (K := K) ⟨h1.heap, h1.fr, h1.lt, h1.df, h1.nt, h1.frm⟩ (T := T) (fun t av ht => by rw [h3']; rw [h3] at ht; exact ht) h5 h4.lt h4.fr h4.obj h4.kept
    exact .inl ⟨u, he, σ'', T, av, hrel, hv av u h6 h2, h7⟩
  · obtain ⟨σ'', hrel, _⟩ := rel_sub (K := K) ⟨h1.heap, h1.fr, h1.lt, h1.df, h1.nt, h1.frm⟩ (T := T) (fun t av ht => by rw [h3']; rw [h3] at ht; exact ht) h5 h4.lt h4.fr h4.obj h4.kept
    exact .inr ⟨ps, he, σ'', T, hrel, h7⟩

/-- Slots left out. -/
theorem weak_fr {st : St} {fr' : List (Nat × AV)} (slots : List Nat) (h : takeAL st.fr slots = some fr') : Weak K st ⟨fr', st.hp, st.nx⟩ := by
  intro σ a w hr
  refine ⟨σ, hr.heap, fun t av ht => ?_, hr.lt, hr.df, hr.nt, hr.frm⟩
  have ht' : AL.get fr' t = some av := ht
  rw [takeAL_get h] at ht'
  split at ht'
  · exact hr.fr t av ht'
  · cases ht'
theorem weak_thr {st : St} {fr' : List (Nat × AV)} (slots : List Nat) (h : takeAL st.fr (there st.fr slots) = some fr') : Weak K st ⟨fr', st.hp, st.nx⟩ := weak_fr _ h
/-- A loop whose objects are known by facts alone. -/
theorem aw_loop_hp {ι : Type} {body : Code} {Q : Exit → St → Prop} {st : St} (fo : ι → List (Nat × AV)) (F : ι → List (Nat × Obj') → Nat → Prop) (μ : ι → Nat) (i : ι) (h0 : ovL (fo i) st.fr = st.fr) (hF : F i st.hp st.nx)
    (h : ∀ j hp nx, F j hp nx → AW K body (thenA (fun st' => ∃ j', μ j' < μ j ∧ F j' st'.hp st'.nx ∧ takeAL st'.fr (keys (ovL (fo j') st.fr)) = some (ovL (fo j') st.fr)) Q) ⟨ovL (fo j) st.fr, hp, nx⟩) : AW K (.loop body) Q st := by
  have := aw_loop (K := K) (body := body) (Q := Q) (ι := { p : ι × List (Nat × Obj') × Nat // F p.1 p.2.1 p.2.2 }) (fun p => ⟨ovL (fo p.1.1) st.fr, p.1.2.1, p.1.2.2⟩) (fun p => μ p.1.1)
    (fun ⟨⟨j, hp, nx⟩, hf⟩ => (h j hp nx hf).mono fun e st' hq => by
      cases e with
      | normal =>
        obtain ⟨j', h1, h2, h3⟩ := hq
        exact ⟨⟨(j', st'.hp, st'.nx), h2⟩, h1, weak_fr _ h3⟩
      | _ => exact hq) ⟨(i, st.hp, st.nx), hF⟩
  simp only [h0] at this
  exact this
end Go.Pv
/- The logic of plain data: joins of branches, slices of one's own taken as data. Seat-independent. -/
namespace Go.Pv
open Go Go.RowKit Go.Sh
variable {K : Kx}

/-- Where branches meet. -/
theorem aw_join {ι : Type} {c rest : Code} {Q0 : Exit → St → Prop} {st : St} (S : ι → St) (h2 : ∀ j, AW K rest Q0 (S j)) (h1 : AW K c (thenA (fun st' => ∃ j, Weak K st' (S j)) Q0) st) : AW K c (thenA (AW K rest Q0) Q0) st :=
  h1.mono fun e st' h => by
    cases e with
    | normal => obtain ⟨j, hj⟩ := h; exact aw_weak hj (h2 j)
    | _ => exact h

theorem own_data {s : Sit} (H : Heap0 s) {t n : Nat} {u : Value} {E : TypeId} {k : Nat} {rows : List (List PV)} (ht : s.h t = some (.arr E k rows true)) (h : RelC s (.own t n) u) : RelP s.Safe s.w (.sl (rows.take n)) u := by
  obtain ⟨E', k', rows', sh, l, h1, h2, h3, h4, h5⟩ := h
  rw [ht] at h1; cases h1
  rcases Nat.lt_or_ge n rows.length with hlt | hge
  · exact (h5 hlt).2
  · have hn : n = rows.length := by omega
    subst hn
    obtain ⟨val, xs, h6, h7, h8, h9⟩ := H.objs _ _ ht
    rw [h2] at h6; cases h6
    rw [h4 rfl]
    exact relP_take (own_shared H ht h2 h7 h8 h9)

/-- A slice of one's own in a box's cell, taken as data. -/
theorem weak_dataB {st : St} (b j : Nat) {cs : List AC} {t n : Nat} {E : TypeId} {k : Nat} {rows : List (List PV)} (hb : AL.get st.hp b = some (.box cs)) (hc : cs[j]? = some (.own t n)) (ht : AL.get st.hp t = some (.arr E k rows true)) :
    Weak K st { st with hp := AL.set st.hp b (.box (cs.set j (.p (.sl (rows.take n))))) } := by
  intro σ a w hr
  obtain ⟨blk, vs, ty, h1, h2, h3⟩ := hr.heap.objs b _ hb
  have hbox : RelCs (sit K σ st w) (cs.set j (.p (.sl (rows.take n)))) vs := by
    refine ⟨by simpa using h3.1, fun i c hi => ?_⟩
    by_cases hij : i = j
    · subst hij
      have hlt : i < cs.length := (List.getElem?_eq_some_iff.1 hc).1
      rw [List.getElem?_set_self (by simpa using hlt)] at hi
      cases hi
      obtain ⟨x, hx, hrx⟩ := h3.2 i _ hc
      exact ⟨x, hx, own_data hr.heap ht hrx⟩
    · rw [List.getElem?_set_ne (by omega)] at hi
      exact h3.2 i c hi
  obtain ⟨q1, q2⟩ := set_box hr.heap hb h1 (cs' := cs.set j (.p (.sl (rows.take n)))) (vs' := vs) (ty := ty) (w' := w) rfl (fun _ _ => rfl) h2 hbox
  have hu2 := hr.upd (id := b) (Turn.put (w' := w) q1 q2 (fun _ _ => rfl) (Nat.le_refl _) rfl rfl rfl)
  have hb1 := hr.lt b _ hb
  simp only [St.upd, if_pos hb1] at hu2
  exact ⟨_, hu2⟩

/-- A slice of one's own in a slot, taken as data. -/
theorem weak_dataS {st : St} (d : Nat) {t n : Nat} {E : TypeId} {k : Nat} {rows : List (List PV)} (hd : AL.get st.fr d = some (.one (.own t n))) (ht : AL.get st.hp t = some (.arr E k rows true)) :
    Weak K st { st with fr := AL.set st.fr d (.one (.p (.sl (rows.take n)))) } := by
  intro σ a w hr
  refine ⟨σ, hr.heap, fun t' av ht' => ?_, hr.lt, hr.df, hr.nt, hr.frm⟩
  have ht' : AL.get (AL.set st.fr d (.one (.p (.sl (rows.take n))))) t' = some av := ht'
  rw [AL.get_set] at ht'
  split at ht'
  · rename_i he
    cases ht'
    subst he
    exact ⟨(hr.fr t' _ hd).1, own_data hr.heap ht (hr.fr t' _ hd).2⟩
  · exact hr.fr t' av ht'
end Go.Pv
/- The logic of plain data: panics, methods behind interfaces, bound functions, memories. Seat-independent. -/
namespace Go.Pv
open Go Go.RowKit Go.Sh
variable {K : Kx}

/-- A panic. -/
theorem callS_panic {st : St} {o : Oper} {Q : St → Prop} {x : Operand} {T : TypeId} {v : Value} (ho : o.op = .panic x) (hx : plain1 (AL.get st.fr) x = some (.iface T v)) (h : K.pan [{ v := .iface T v, recovered := false }] st) : CallS K st o Q := by
  intro σ a w hr
  simp only [plain1, Option.bind_eq_some_iff] at hx
  obtain ⟨av, hav, hp⟩ := hx
  have h1 := plainOf_rel (hr.evF x av hav) hp
  refine wpIn_of (by rw [ho]; intro c hc; cases hc) ?_
  have hrun : (execOp a.eval o).run K.P w = .halt (.panic (.iface T v)) w := by
    simp [execOp, ho, h1, Instr.panic, goPanic, Sem.run_bind, Sem.run]
  rw [hrun, Oper.uponIn_panic]
  exact ⟨_, rfl, σ, st, hr, h⟩

/-- A call of a function of data, whichever way it is called. -/
theorem callS_data {st : St} {o : Oper} {Q : St → Prop} (hd : dstOK K o.dst = true) (hnd : ∀ c, o.op ≠ .defer c) {fid : FuncId} {rvs : List RV} {res : RR} {any : Bool}
    (hrun : ∀ σ a w, Rel K σ st a w → ∃ us, (execOp a.eval o).run K.P w = .ok (.enter fid us) w ∧ RelRs ((sit K σ st w).Zc any) w rvs us) (hfl : any = true → flatRR res = true) (hf : FunOK K.P fid rvs res) (h : Q (st.put o.dst (avRR res))) : CallS K st o Q := by
  intro σ a w hr
  obtain ⟨us, hu, hrs⟩ := hrun σ a w hr
  refine wpIn_of hnd ?_
  rw [hu, Oper.uponIn_enter]
  refine ⟨depth_K, callsIn_K ((hf _ w _ hrs).mono fun e w' he => ?_)⟩
  obtain ⟨u, rfl, hru, hbel⟩ := he
  exact ⟨σ, _, (hr.at hbel).put hd (avRR_rel (relRR_after hr hfl hru)), h⟩
/-- A call of a function of data that panics. -/
theorem callS_x {st : St} {o : Oper} {Q : St → Prop} {f : Operand} {args : Array Operand} {argTypes : Array TypeId} (ho : o.op = .call { callee := .value f, args := args, argTypes := argTypes }) (fid : FuncId) {rvs : List RV} {v : Value}
    (h1 : callPre st args f fid rvs true) {fn : Func} (h5 : K.P.funcs[fid]? = some fn) (h6 : fn.body.isSome = true) (h7 : fn.name ≠ "runtime.NumGoroutine") (hf : FunX K.P fid rvs v) (h : K.pan [{ v, recovered := false }] st) : CallS K st o Q := by
  intro σ a w hr
  obtain ⟨us, hus, hs0, _⟩ := fn_rel hr.evF h1.1
  have hus0 : us = #[] := Array.eq_empty_of_size_eq_zero (by simpa using hs0)
  subst hus0
  have hargs := args_rel hr.heap hr.evF h1.2
  have hrun : (execOp a.eval o).run K.P w = .ok (.enter fid (args.map a.eval)) w := by
    simp [execOp, ho, resolve, invoke, hus, Deferred.ofValue, run_callFunc h5 h6 h7]
  refine wpIn_of (by rw [ho]; intro c hc; cases hc) ?_
  rw [hrun, Oper.uponIn_enter]
  refine ⟨depth_K, callsIn_K ((hf _ w _ hargs).mono fun e w' he => ?_)⟩
  obtain ⟨rfl, hbel⟩ := he
  exact ⟨_, rfl, σ, st, hr.at hbel, h⟩
/-- A bound function of data. -/
theorem callS_bound {st : St} {o : Oper} {Q : St → Prop} {f : Operand} {args : Array Operand} {argTypes : Array TypeId} (hd : dstOK K o.dst = true) (ho : o.op = .call { callee := .value f, args := args, argTypes := argTypes })
    (fid : FuncId) {first rvs : List RV} {res : RR} {any : Bool} (h1 : evalA (AL.get st.fr) f = some (.one (.bfn fid first))) (h2 : args.toList.mapM (arg1 (AL.get st.fr) (AL.get st.hp) any) = some rvs)
    {fn : Func} (h5 : K.P.funcs[fid]? = some fn) (h6 : fn.body.isSome = true) (h7 : fn.name ≠ "runtime.NumGoroutine") (hfl : any = true → flatRR res = true) (hf : FunOK K.P fid (first ++ rvs) res) (h : Q (st.put o.dst (avRR res))) : CallS K st o Q := by
  refine callS_data (any := any) hd (by rw [ho]; intro c hc; cases hc) (fid := fid) (rvs := first ++ rvs) (fun σ a w hr => ?_) hfl hf h
  obtain ⟨us, hus, hfi⟩ := hr.evF f _ h1
  have hargs := args_rel hr.heap hr.evF h2
  refine ⟨us ++ args.map a.eval, ?_, by simp [hargs.1, hfi.1], fun j r hj => ?_⟩
  · simp [execOp, ho, resolve, invoke, hus, Deferred.ofValue, run_callFunc h5 h6 h7]
  · by_cases hjl : j < first.length
    · rw [List.getElem?_append_left hjl] at hj
      obtain ⟨x, hx, hrx⟩ := hfi.2 j r hj
      exact ⟨x, by rw [Array.getElem?_append_left (by rw [hfi.1]; exact hjl)]; exact hx, hrx.mono fun _ _ _ hz hc => ⟨.inl hz, hc⟩⟩
    · rw [List.getElem?_append_right (by omega)] at hj
      obtain ⟨x, hx, hrx⟩ := hargs.2 _ r hj
      exact ⟨x, by rw [Array.getElem?_append_right (by rw [hfi.1]; omega), hfi.1]; exact hx, hrx⟩

/-! ### Memories: maps each of whose entries meets I -/

theorem set_memo {s : Sit} (H : Heap0 s) {id : Nat} {P : Program} {k : TypeId} {I I' : MI} (hid : s.h id = some (.memo P k I)) {b : Nat} (hσ : s.σ id = some (.map (some b))) {o : Obj} (hm : MapInv P k (s.w.putObj b o) b I') :
    Heap0 (s.put id (.memo P k I') (.map (some b)) (s.w.putObj b o)) ∧ Ext s (s.put id (.memo P k I') (.map (some b)) (s.w.putObj b o)) := by
  have hlt := H.lt id _ b hσ rfl
  have hT : Turn s id (.memo P k I') (.map (some b)) (s.w.putObj b o) :=
    ⟨fun k' _ hne => World.putObj_heap_other (fun e => hne _ hσ (by rw [e]; rfl)), by simp, fun b' hb' => by
      simp [locBlk] at hb'; subst hb'; exact ⟨by simpa using hlt.1, hlt.2, .inl ⟨_, hσ, rfl⟩⟩, fun _ _ _ _ _ _ _ h => by rw [hid] at h; cases h⟩
  have he : Ext s (s.put id (.memo P k I') (.map (some b)) (s.w.putObj b o)) :=
    hT.ext (fun _ _ h _ => by rw [hid] at h; cases h) (fun _ _ _ _ _ h _ => by rw [hid] at h; cases h) (fun P' k' I0 l h1 h2 => by
      rw [hid] at h1; cases h1
      rw [hσ] at h2; cases h2
      exact ⟨rfl, I', rfl⟩)
  exact ⟨hT.heap H he ⟨b, by simp [Sit.put, upd_same], hm⟩, he⟩
theorem new_memo {s : Sit} (H : Heap0 s) {id : Nat} (hid : s.σ id = none) (hbase : s.base ≤ s.w.heap.size) (P : Program) (k : TypeId) (I : MI) (h0 : ∀ a b, ¬ I.all a b) :
    Heap0 (s.put id (.memo P k I) (.map (some s.w.heap.size)) (s.w.alloc (.map #[] 0))) ∧ Ext s (s.put id (.memo P k I) (.map (some s.w.heap.size)) (s.w.alloc (.map #[] 0))) := by
  have hT : Turn s id (.memo P k I) (.map (some s.w.heap.size)) (s.w.alloc (.map #[] 0)) :=
    Turn.new hid (fun k hk => Below.heap_alloc _ _ _ hk) (by simp) hbase (fun b hb => by simp [locBlk] at hb; subst hb; simp)
  have he := hT.new_ext hid
  exact ⟨hT.heap H he ⟨s.w.heap.size, by simp [Sit.put, upd_same], MapInv.made s.w h0⟩, he⟩
theorem Rel.same {σ σ' : Nat → Option Value} {st st' : St} {a : Act} {w : World} (h : Rel K σ st a w) (hσ : σ' = σ) (hf : st'.fr = st.fr) (hh : AL.get st'.hp = AL.get st.hp) (hn : st'.nx = st.nx) : Rel K σ' st' a w := by
  subst hσ
  have hs : sit K σ' st' w = sit K σ' st w := by unfold sit; rw [hh]
  exact ⟨by rw [hs]; exact h.heap, by rw [hs, hf]; exact h.fr, by rw [hh, hn]; exact h.lt, h.df, h.nt, h.frm⟩

theorem callS_makeMap {st : St} {o : Oper} {Q : St → Prop} {T : TypeId} (hd : dstOK K o.dst = true) (ho : o.op = .makeMap T none) (k : TypeId) (I : MI) (h0 : ∀ a b, ¬ I.all a b) (h : Q ((st.upd (some (st.nx, .memo K.P k I))).put o.dst (.one (.memo st.nx)))) : CallS K st o Q := by
  intro σ a w hr
  refine wpIn_of (by rw [ho]; intro c hc; cases hc) ?_
  have hrun : (execOp a.eval o).run K.P w = .ok (.value (.map (some w.heap.size))) (w.alloc (.map #[] 0)) := by
    simp [execOp, ho, Instr.makeMap, newObj, Sem.run_bind]
    rfl
  rw [hrun, Oper.uponIn_value]
  have hnone := hr.fresh (Nat.le_refl _)
  obtain ⟨p1, p2⟩ := new_memo hr.heap (id := st.nx) hnone hr.frm.size K.P k I h0
  have hp : Put (sit K σ st w) st.nx (.memo K.P k I) (.map (some w.heap.size)) (w.alloc (.map #[] 0)) := Turn.put p1 p2 (fun k hk => Below.heap_alloc _ _ _ hk) (by simp [sit]) rfl rfl rfl
  exact ⟨_, _, hr.put_upd hp hd (av := .one (.memo st.nx)) ⟨K.P, k, I, w.heap.size, by simp [Sit.put, upd_same], by simp [Sit.put, upd_same], rfl⟩, h⟩

theorem callS_update {st : St} {o : Oper} {Q : St → Prop} {T k e : TypeId} {m kx vx : Operand} (hd : dstOK K o.dst = true) (ho : o.op = .mapUpdate T m kx vx) (KL : WideMaps.KeyLaw K.P k) (ht : K.P.underlying T = some (.map k e)) {id : Nat} {I : MI} (I' : MI)
    (h1 : evalA (AL.get st.fr) m = some (.one (.memo id))) (h2 : AL.get st.hp id = some (.memo K.P k I)) {kv vv : Value} {l : Lit} (h3 : plain1 (AL.get st.fr) kx = some kv) (h4 : plain1 (AL.get st.fr) vx = some vv) (hk : keyOf K.P k kv = some l) (hI : I'.yes kv vv) (hy : ∀ a b, a ≠ kv → I.yes a b → I'.yes a b) (ha : ∀ a b, I'.all a b → (a = kv ∧ b = vv) ∨ (a ≠ kv ∧ I.all a b))
    (h : Q ((st.upd (some (id, .memo K.P k I'))).put o.dst .und)) : CallS K st o Q := by
  intro σ a w hr
  refine wpIn_of (by rw [ho]; intro c hc; cases hc) ?_
  simp only [plain1, Option.bind_eq_some_iff] at h3 h4
  obtain ⟨ak, hak, hpk⟩ := h3
  obtain ⟨av, hav, hpv⟩ := h4
  have e1 := plainOf_rel (hr.evF kx ak hak) hpk
  have e2 := plainOf_rel (hr.evF vx av hav) hpv
  obtain ⟨P', k', I', b, g1, g2, g3⟩ := hr.evF m _ h1
  have g1' : AL.get st.hp id = some (.memo P' k' I') := g1
  rw [h2] at g1'; cases g1'
  obtain ⟨b', g4, g5⟩ := hr.heap.objs id _ h2
  have g4' : σ id = some (.map (some b')) := g4
  have g2' : σ id = some (.map (some b)) := g2
  rw [g2'] at g4'; cases g4'
  obtain ⟨ob, hu, hm⟩ := MapInv.update KL ht g5 hk hI hy ha
  have hrun : (execOp a.eval o).run K.P w = .ok .skip (w.putObj b ob) := by
    simp only [execOp, ho, e1, e2, g3, Sem.run_bind, Sem.run_pure]
    rw [show (Instr.mapUpdate T (.map (some b)) kv vv).run K.P w = .ok () (w.putObj b ob) from hu]
    rfl
  rw [hrun, Oper.uponIn_skip]
  obtain ⟨p1, p2⟩ := set_memo hr.heap (s := sit K σ st w) h2 g2 (o := ob) hm
  have hp : Put (sit K σ st w) id (.memo K.P k I') (.map (some b)) (w.putObj b ob) :=
    ⟨p1, p2, fun k hk hne => World.putObj_heap_other (fun e => hne _ g2 (by rw [e]; rfl)), by simp [sit], rfl, rfl, rfl⟩
  exact ⟨_, _, (hr.upd hp).put hd (av := .und) (v := undef) rfl, h⟩

theorem callS_lookup {st : St} {o : Oper} {Q : St → Prop} {T k e : TypeId} {m kx : Operand} (hd : dstOK K o.dst = true) (ho : o.op = .lookup T m kx true) (KL : WideMaps.KeyLaw K.P k) (ht : K.P.underlying T = some (.map k e)) {z : Value} (hz : ∀ w, (zeroValue e).run K.P w = .ok z w) {id : Nat} {I : MI}
    (h1 : evalA (AL.get st.fr) m = some (.one (.memo id))) (h2 : AL.get st.hp id = some (.memo K.P k I)) {kv : Value} {l : Lit} (h3 : plain1 (AL.get st.fr) kx = some kv) (hk : keyOf K.P k kv = some l)
    (hyes : ∀ v, I.yes kv v → ∃ rv, (∀ Z w, RelR Z w rv v) ∧ Q (st.put o.dst (.tup [rv, .one (.v (.bool true))]))) (hno : (∀ b, ¬ I.all kv b) → ∃ rv, (∀ Z w, RelR Z w rv z) ∧ Q (st.put o.dst (.tup [rv, .one (.v (.bool false))]))) : CallS K st o Q := by
  intro σ a w hr
  refine wpIn_of (by rw [ho]; intro c hc; cases hc) ?_
  simp only [plain1, Option.bind_eq_some_iff] at h3
  obtain ⟨ak, hak, hpk⟩ := h3
  have e1 := plainOf_rel (hr.evF kx ak hak) hpk
  obtain ⟨P', k', I', b, g1, g2, g3⟩ := hr.evF m _ h1
  have g1' : AL.get st.hp id = some (.memo P' k' I') := g1
  rw [h2] at g1'; cases g1'
  obtain ⟨b', g4, g5⟩ := hr.heap.objs id _ h2
  have g4' : σ id = some (.map (some b')) := g4
  have g2' : σ id = some (.map (some b)) := g2
  rw [g2'] at g4'; cases g4'
  obtain ⟨v, ok, hrunl, hcase⟩ := MapInv.lookup KL ht hz g5 hk
  have hrun : (execOp a.eval o).run K.P w = .ok (.value (.tuple #[v, .bool ok])) w := by
    simp only [execOp, ho, e1, g3, Sem.run_bind, Sem.run_pure]
    rw [show (Instr.lookup T (.map (some b)) kv true).run K.P w = .ok (.tuple #[v, .bool ok]) w from hrunl w rfl]
    rfl
  rw [hrun, Oper.uponIn_value]
  have fin : ∀ (rv : RV) (t : Bool), (∀ Z w, RelR Z w rv v) → RelV (sit K σ st w) (.tup [rv, .one (.v (.bool t))]) (.tuple #[v, .bool t]) := by
    intro rv t hrv
    refine ⟨#[v, .bool t], rfl, rfl, fun j r hj => ?_⟩
    rcases j with _ | _ | j
    · simp at hj; subst hj; exact ⟨v, rfl, hrv _ _⟩
    · simp at hj; subst hj; exact ⟨.bool t, rfl, .v _ rfl⟩
    · simp at hj
  rcases hcase with ⟨rfl, hi⟩ | ⟨rfl, rfl, hi⟩
  · obtain ⟨rv, hrv, hq⟩ := hyes v hi
    exact ⟨σ, _, hr.put hd (fin rv true hrv), hq⟩
  · obtain ⟨rv, hrv, hq⟩ := hno hi
    exact ⟨σ, _, hr.put hd (fin rv false hrv), hq⟩
end Go.Pv
/- The logic of plain data: functions that answer a panic by a deferred call. Seat-independent. -/
namespace Go.Pv
open Go Go.RowKit Go.Sh
variable {K : Kx}

/-- The deferred answer: nothing without a panic; the panic's code is laid into the error. -/
structure AnswersOK (P : Program) (fid : FuncId) (pv : Int → Value) : Prop where
  idle : ∀ (p : Addr) (w : World), CallsDIn Fence.wide 0 P fid #[.pointer (some p)] .returning w fun e u' w' => e = .returned (.tuple #[]) ∧ u' = .returning ∧ Below w.heap.size w w'
  stop : ∀ (p : Addr) (x c : Int) (w : World), w.cell? p = some (.int .i64 x) → w.frozen? p = false → CallsDIn Fence.wide 0 P fid #[.pointer (some p)] (.panicking [{ v := pv c, recovered := false }]) w fun e u' w' =>
    e = .returned (.tuple #[]) ∧ u' = .panicking [{ v := pv c, recovered := true }] ∧ ∃ w1, Below w.heap.size w w1 ∧ w' = w1.setCell p (.int .i64 c)

theorem wpListIn_append {ops : Array Oper} {Qr : Exit → Act → World → Prop} {l2 : List Oper} : ∀ (l1 : List Oper) (a : Act) (w : World),
    wpListIn K.F 0 K.P ops (fun e a' w' => match e with | .normal => wpListIn K.F 0 K.P ops Qr l2 a' w' | e => Qr e a' w') l1 a w → wpListIn K.F 0 K.P ops Qr (l1 ++ l2) a w
  | [], a, w, h => h
  | o :: r, a, w, h => by
    simp only [List.cons_append]
    unfold wpListIn at h ⊢
    split at h
    · rename_i hw
      rw [if_pos hw]
      refine ⟨h.1, ?_⟩
      have h2 := h.2
      revert h2
      generalize (o.semAt K.F.round a.eval).run K.P w = rr
      intro h2
      cases rr with
      | ok nx w' =>
        cases nx with
        | value v => exact wpListIn_append r _ _ h2
        | skip => exact wpListIn_append r _ _ h2
        | defer d => exact wpListIn_append r _ _ h2
        | enter f args => exact ⟨h2.1, h2.2.mono fun e w' he => by
            cases e with
            | returned v => exact wpListIn_append r _ _ he
            | panicked c => exact he
            | outgrown => exact he⟩
        | row row args => exact ⟨h2.1, RowsIn.mono h2.2 fun v w' h => wpListIn_append r _ _ h⟩
        | round l f tmps assign body => exact ⟨h2.1, h2.2.mono fun e w' he => by
            cases e with
            | returned v => exact wpListIn_append r _ _ he
            | panicked c => exact he
            | outgrown => exact he⟩
        | _ => exact h2
      | halt x w' => cases x <;> exact h2
    · rename_i hw
      rw [if_neg hw]
      exact ⟨h.1, wpListIn_append r _ _ h.2⟩

theorem CallsDIn.mono' {F : Fence} {n : Nat} {P : Program} {f : FuncId} {args : Array Value} {u : FrameMode} {w : World} {R R' : Ending → FrameMode → World → Prop} (h : CallsDIn F n P f args u w R) (hr : ∀ e u' w', R e u' w' → R' e u' w') : CallsDIn F n P f args u w R' :=
  ⟨h.1, fun c cs hm hroom => let ⟨e, u', w', fr, r, x⟩ := h.2 c cs hm hroom; ⟨e, u', w', fr, hr _ _ _ r, x⟩⟩

/-- The box of the error takes the code. -/
theorem Rel.answer {σ : Nat → Option Value} {st : St} {a : Act} {w w1 : World} (h : Rel K σ st a w) {eb : Nat} {x c : Int} (hb : AL.get st.hp eb = some (.box [.p (.v (.int .i64 x))])) (hw : Below w.heap.size w w1) {blk : Nat} (hσ : σ eb = some (.pointer (some ⟨blk, 0, none⟩))) :
    Rel K σ ⟨st.fr, AL.set st.hp eb (.box [.p (.v (.int .i64 c))]), st.nx⟩ a (w1.setCell ⟨blk, 0, none⟩ (.int .i64 c)) := by
  have h1 := h.at hw
  obtain ⟨blk', vs, ty, e1, e2, e3⟩ := h1.heap.objs eb _ hb
  have e1' : σ eb = some (.pointer (some ⟨blk', 0, none⟩)) := e1
  rw [hσ] at e1'; cases e1'
  have hsz : vs.size = 1 := e3.1
  have hset := setCell_eq_setRow w1 blk 0 vs ty (0, 0) (.int .i64 c) e2
  rw [hset]
  obtain ⟨q1, q2⟩ := set_box h1.heap (s := sit K σ st w1) hb hσ (cs' := [.p (.v (.int .i64 c))]) (vs' := vs.setIfInBounds 0 (.int .i64 c)) (ty := ty) (w' := w1.setRow blk (vs.setIfInBounds 0 (.int .i64 c))) (setRow_size w1 blk _) (fun k hk => Go.setRow_other w1 blk k _ hk) (Go.setRow_heap w1 blk vs _ ty _ e2) (by
    refine ⟨by simp [hsz], fun j cc hj => ?_⟩
    rcases j with _ | j
    · simp at hj; subst hj
      exact ⟨.int .i64 c, by simp [hsz], .v _ rfl⟩
    · simp at hj)
  have hp : Put (sit K σ st w1) eb (.box [.p (.v (.int .i64 c))]) (.pointer (some ⟨blk, 0, none⟩)) (w1.setRow blk (vs.setIfInBounds 0 (.int .i64 c))) :=
    ⟨q1, q2, fun k hk hne => Go.setRow_other w1 blk k _ (fun e => hne _ hσ (by rw [e]; rfl)), by rw [setRow_size]; exact Nat.le_refl _, rfl, rfl, rfl⟩
  have h2 := h1.upd hp
  have hlt := h.lt eb _ hb
  refine h2.same ?_ rfl rfl ?_
  · funext i
    unfold Pv.upd
    split
    · rename_i hi; subst hi; exact hσ
    · rfl
  · simp [St.upd, hlt]

theorem fun_exp {P : Program} {f : FuncId} {fn : Func} {r0 rest : Code} {id : Nat} {l : List Oper} {od : Oper} {args : List RV} {res : RR} {nt t eb : Nat} {fid : FuncId} {rs : List ResultVar} {argTypes : Array TypeId} {pv : Int → Value} (hD : AnswersOK P fid pv)
    (hf : P.funcs[f]? = some fn) (hb : fn.body = some (.seq r0 (.seq (.region id (l ++ [od]).toArray false) rest))) (hnt : fn.ntmps = nt) (hrs : fn.results.toList = rs) (hn : args.length ≤ nt)
    (hod : od.op = .defer { callee := .value (.tmp t), args := #[], argTypes := argTypes }) (hg : od.guard = none) (hdd : od.dst = none)
    {fa : Func} (h5 : P.funcs[fid]? = some fa) (h6 : fa.body.isSome = true) (h7 : fa.name ≠ "runtime.NumGoroutine")
    (h : ∀ Z w0, AW ⟨P, Z, w0, fun _ => False, nt, none, noPan, none, [], false⟩ r0 (fun e st1 => e = .normal ∧ evOps ⟨P, Z, w0, fun _ => False, nt, none, noPan, none, [], false⟩ (l ++ [od]).toArray l st1 fun st2 =>
      AL.get st2.fr t = some (.one (.fn fid [.box eb])) ∧ AW ⟨P, Z, w0, fun _ => False, nt, none,
        fun ps st' => ∃ c x, ps = [{ v := pv c, recovered := false }] ∧ AL.get st'.fr t = some (.one (.fn fid [.box eb])) ∧ AL.get st'.hp eb = some (.box [.p (.v (.int .i64 x))]) ∧ resA P ⟨st'.fr, AL.set st'.hp eb (.box [.p (.v (.int .i64 c))]), st'.nx⟩ rs = some res, some t, [], true⟩ rest
        (fun e st' => (e = .normal ∨ e = .ret) ∧ AL.get st'.fr t = some (.one (.fn fid [.box eb])) ∧ resA P st' rs = some res) st2) ⟨initFr 0 args, [], 0⟩) : FunOK P f args res := by
  subst hnt hrs
  intro Z w us hus
  refine callsIn_wide.1 (callsIn_of_wp_marks (n := 0) hf hb trivial ?_)
  have hr0 := rel_init (P := P) (Z := Z) (w := w) (pan := noPan) (rg := false) hus hn
  refine wpIn_seq (wpIn_mono (h Z w _ _ _ hr0) fun e a1 w1 hp => ?_)
  rcases hp with ⟨σ1, st1, ⟨rfl, hev⟩, hr1⟩ | ⟨ps, rfl, _, _, _, hp⟩
  rotate_left
  · exact hp.elim
  refine wpIn_seq (wpIn_region_lit (F := Fence.wide) ?_)
  refine wpListIn_append (K := ⟨P, Z, w, fun _ => False, fn.ntmps, none, noPan, none, [], false⟩) l a1 w1 ?_
  refine evOps_sound (K := ⟨P, Z, w, fun _ => False, fn.ntmps, none, noPan, none, [], false⟩) (fun e a' w' hp => ?_) l st1 σ1 a1 w1 _ hev hr1 (fun σ2 st2 a2 w2 hq hr2 => ?_)
  · obtain ⟨ps, rfl, _, _, _, hp⟩ := hp
    exact hp.elim
  obtain ⟨ht, haw⟩ := hq
  show wpListIn Fence.wide 0 P _ _ [od] a2 w2
  unfold wpListIn
  rw [if_pos (by simp [Region.wanted, hg])]
  obtain ⟨us2, hus2, hs2, hc2⟩ := (hr2.fr t _ ht).2
  obtain ⟨Ds, hds, hd2, hd3, hd4, hd5⟩ := hr2.df
  have hDs := hd5 rfl
  subst hDs
  have hdl : dfL ⟨P, Z, w, fun _ => False, fn.ntmps, none, noPan, none, [], false⟩ a2 = [] := rfl
  rw [hdl] at hds
  refine ⟨fun _ _ => trivial, ?_⟩
  have hrun : (od.semAt Fence.wide.round a2.eval).run P w2 = .ok (.defer { target := .fn (.func fid) us2, args := #[] }) w2 := by
    rw [show Fence.wide.round = none from rfl, Oper.semAt_none]
    have hev2 : a2.eval (.tmp t) = .func (.func fid) #[] us2 := hus2
    simp [execOp, hod, resolve, hev2, Deferred.ofValue]
  rw [hrun, Oper.uponIn_defer, hdd]
  have ha2 : a2.defers = [] := hds
  let K1 : Kx := ⟨P, Z, w, fun _ => False, fn.ntmps, none,
        fun ps st' => ∃ c x, ps = [{ v := pv c, recovered := false }] ∧ AL.get st'.fr t = some (.one (.fn fid [.box eb])) ∧ AL.get st'.hp eb = some (.box [.p (.v (.int .i64 x))]) ∧ resA P ⟨st'.fr, AL.set st'.hp eb (.box [.p (.v (.int .i64 c))]), st'.nx⟩ fn.results.toList = some res, some t, [], true⟩
  have hr3 : Rel K1 σ2 st2 { a2 with defers := { target := .fn (.func fid) us2, args := #[] } :: a2.defers } w2 := by
    refine ⟨hr2.heap, hr2.fr, hr2.lt, ⟨[], ?_, List.nodup_nil, fun D hD => (by cases hD), fun D hD => (by cases hD), fun _ => rfl⟩, hr2.nt, hr2.frm⟩
    simp only [List.map_nil, List.nil_append, dfL, K1]
    rw [ha2]
    show _ = [dfOf (a2.tmps.getD t undef)]
    rw [hus2]; rfl
  have hend : ∀ (a' : Act) (Ds : List Nat) (σ' : Nat → Option Value) (st' : St) (w' : World), Rel K1 σ' st' a' w' → AL.get st'.fr t = some (.one (.fn fid [.box eb])) → a'.defers = Ds.map collD ++ dfL K1 a' → ∃ blk, dfL K1 a' = [{ target := .fn (.func fid) #[.pointer (some ⟨blk, 0, none⟩)], args := #[] }] ∧ σ' eb = some (.pointer (some ⟨blk, 0, none⟩)) := by
    intro a' Ds σ' st' w' hr' ht' _
    obtain ⟨us, hus, hs, hc⟩ := (hr'.fr t _ ht').2
    obtain ⟨x, hx, cs, blk, e1, e2, e3⟩ := hc 0 (.box eb) rfl
    refine ⟨blk, ?_, e2⟩
    have husx : us = #[.pointer (some ⟨blk, 0, none⟩)] := by
      rw [e3] at hx
      apply Array.ext_getElem?
      intro j
      rcases j with _ | j
      · exact hx
      · have : us.size = 1 := hs
        rw [Array.getElem?_eq_none (by omega)]; simp
    show [dfOf (a'.tmps.getD t undef)] = _
    rw [hus, husx]; rfl
  have hinv : ∀ (blk : Nat) (w' : World), (invoke (.fn (.func fid) #[.pointer (some ⟨blk, 0, none⟩)]) #[]).run P w' = .ok (.enter fid #[.pointer (some ⟨blk, 0, none⟩)]) w' := by
    intro blk w'
    simp [invoke, run_callFunc h5 h6 h7]
  have hres : ∀ (σ' : Nat → Option Value) (st' : St) (a' : Act) (w' : World), Rel K1 σ' st' a' w' → resA P st' fn.results.toList = some res → ∃ v, (results fn a'.tmps).run P w' = .ok v w' ∧ ∃ u, Ending.returned v = .returned u ∧ RelRR (fun b c => Z b c ∨ w.heap.size ≤ b) w' res u ∧ Below w.heap.size w w' := by
    intro σ' st' a' w' hr' hq
    obtain ⟨u, hu, hru⟩ := results_run (K := K1) hr' hq
    refine ⟨u, hu, u, rfl, hru.mono fun b c x hz hc => ⟨?_, hc⟩, rel_below hr' fun _ h => h⟩
    rcases hz with hz | ⟨_, id, l, h1, h2⟩
    · exact hz.1
    · rcases (hr'.heap.lt id l b h1 h2).2 with h3 | h3
      · exact .inr h3
      · exact h3.elim
  let R : Ending → World → Prop := fun e w' => ∃ u, e = .returned u ∧ RelRR (fun b c => Z b c ∨ w.heap.size ≤ b) w' res u ∧ Below w.heap.size w w'
  refine wpIn_mono (haw σ2 _ w2 hr3) fun e a' w' hp => ?_
  rcases hp with ⟨σ', st', ⟨he, ht', hq⟩, hr'⟩ | ⟨ps, rfl, σ', st', hr', c, x, rfl, ht', hbx, hq⟩
  · obtain ⟨Ds, hDs, _⟩ := hr'.df
    obtain ⟨blk, hdl, hσ⟩ := hend a' Ds σ' st' w' hr' ht' hDs
    have key : LeavesInM Fence.wide 0 P fn a'.tmps R a'.defers .returning w' := by
      rw [hDs, hdl]
      rw [hdl] at hDs
      refine leaves_rests (K := K1) (by simp) Ds a' w' hr' hDs rfl fun w3 hr4 => ⟨by simp, .inr ⟨fun h => (by cases h), _, _, fid, _, rfl, hinv blk w3, fun _ _ => trivial, ?_⟩⟩
      refine CallsDIn.mono' (hD.idle ⟨blk, 0, none⟩ w3) fun e u' w4 hh => ?_
      obtain ⟨rfl, rfl, hbel⟩ := hh
      have hh := hres _ _ _ _ (hr4.at hbel) hq
      exact hh
    rcases he with rfl | rfl
    · exact key
    · exact key
  · obtain ⟨Ds, hDs, _⟩ := hr'.df
    obtain ⟨blk, hdl, hσ⟩ := hend a' Ds σ' st' w' hr' ht' hDs
    show LeavesInM Fence.wide 0 P fn a'.tmps R a'.defers (.panicking _) w'
    rw [hDs, hdl]
    rw [hdl] at hDs
    refine leaves_rests (K := K1) (by simp) Ds a' w' hr' hDs rfl fun w3 hr4 => ⟨by simp, .inr ⟨fun h => (by cases h), _, _, fid, _, rfl, hinv blk w3, fun _ _ => trivial, ?_⟩⟩
    obtain ⟨blk', vs, ty, e1, e2, e3⟩ := hr4.heap.objs eb _ hbx
    have e1' : σ' eb = some (.pointer (some ⟨blk', 0, none⟩)) := e1
    rw [hσ] at e1'; cases e1'
    have e2' : w3.heap[blk]? = some (.cells vs ty (0, 0)) := e2
    obtain ⟨v0, hv0, hrv⟩ := e3.2 0 _ rfl
    have hv0' : v0 = .int .i64 x := by
      have : RelP _ _ (.v (.int .i64 x)) v0 := hrv
      cases this; rfl
    subst hv0'
    have hcell : w3.cell? ⟨blk, 0, none⟩ = some (.int .i64 x) := by rw [cell_of_row w3 blk 0 vs ty (0, 0) e2']; exact hv0
    have hfro : w3.frozen? ⟨blk, 0, none⟩ = false := by simp [World.frozen?, e2']
    refine CallsDIn.mono' (hD.stop ⟨blk, 0, none⟩ x c w3 hcell hfro) fun e u' w4 hh => ?_
    obtain ⟨rfl, rfl, w5, hbel, rfl⟩ := hh
    have hh := hres _ _ _ _ (hr4.answer hbx hbel hσ) hq
    exact hh
end Go.Pv
/- The logic of plain data: ranges over functions; the iterator is walked in place, the body at each of its yields. Seat-independent. -/
namespace Go.Pv
open Go Go.RowKit Go.Sh
variable {K : Kx}

theorem set_lp {s : Sit} (H : Heap0 s) {id : Nat} {r r' : Loop} {b : Nat} (hid : s.h id = some (.lp b r)) (hσ : s.σ id = some (.func (.yield b) #[] #[])) (hb : s.w.heap[b]? = some (.loop r)) :
    Heap0 (s.put id (.lp b r') (.func (.yield b) #[] #[]) (s.w.putObj b (.loop r'))) ∧ Ext s (s.put id (.lp b r') (.func (.yield b) #[] #[]) (s.w.putObj b (.loop r'))) := by
  have hlt := H.lt id _ b hσ rfl
  have hT : Turn s id (.lp b r') (.func (.yield b) #[] #[]) (s.w.putObj b (.loop r')) :=
    ⟨fun k' _ hne => World.putObj_heap_other (fun e => hne _ hσ (by rw [e]; rfl)), by simp, fun b' hb' => by
      simp [locBlk] at hb'; subst hb'; exact ⟨by simpa using hlt.1, hlt.2, .inl ⟨_, hσ, rfl⟩⟩, fun _ _ _ _ _ _ _ h => by rw [hid] at h; cases h⟩
  have he : Ext s (s.put id (.lp b r') (.func (.yield b) #[] #[]) (s.w.putObj b (.loop r'))) :=
    hT.ext (fun _ _ h _ => by rw [hid] at h; cases h) (fun _ _ _ _ _ h _ => by rw [hid] at h; cases h) (fun _ _ _ _ h1 _ => by rw [hid] at h1; cases h1) (fun b0 r0 l h1 h2 => by
      rw [hid] at h1; cases h1
      rw [hσ] at h2; cases h2
      exact ⟨rfl, r', rfl⟩)
  exact ⟨hT.heap H he ⟨by simp [Sit.put, upd_same], World.putObj_heap_same (Array.getElem?_eq_some_iff.1 hb).1⟩, he⟩

/-- The record of a loop is turned. -/
theorem Rel.lp {σ : Nat → Option Value} {st : St} {a : Act} {w : World} (h : Rel K σ st a w) {id b : Nat} {r : Loop} (r' : Loop) (hl : AL.get st.hp id = some (.lp b r)) :
    w.heap[b]? = some (.loop r) ∧ Rel K σ ⟨st.fr, AL.set st.hp id (.lp b r'), st.nx⟩ a (w.putObj b (.loop r')) := by
  obtain ⟨e1, e2⟩ := h.heap.objs id _ hl
  have hσ : σ id = some (.func (.yield b) #[] #[]) := e1
  refine ⟨e2, ?_⟩
  obtain ⟨q1, q2⟩ := set_lp h.heap (s := sit K σ st w) hl hσ (r' := r') e2
  have hp : Put (sit K σ st w) id (.lp b r') (.func (.yield b) #[] #[]) (w.putObj b (.loop r')) :=
    ⟨q1, q2, fun k hk hne => World.putObj_heap_other (fun e => hne _ hσ (by rw [e]; rfl)), by simp [sit], rfl, rfl, rfl⟩
  have h2 := h.upd hp
  have hlt := h.lt id _ hl
  refine h2.same ?_ rfl rfl ?_
  · funext i
    unfold Pv.upd
    split
    · rename_i hi; subst hi; exact hσ
    · rfl
  · simp [St.upd, hlt]

/-- A frame whose parameters are set. -/
def setPs (fr : List (Nat × AV)) : List Tmp → List AV → List (Nat × AV)
  | t :: ts, x :: xs => setPs (AL.set fr t x) ts xs
  | _, _ => fr
theorem setPs_rel {s : Sit} : ∀ (ts : List Tmp) (xs : List AV) (us : List Value) (fr : List (Nat × AV)) (tmps : Array Value), (∀ t av, AL.get fr t = some av → t < tmps.size ∧ RelV s av (tmps.getD t undef)) → (∀ t ∈ ts, t < tmps.size) → us.length = xs.length →
    (∀ (j : Nat) (x : AV), xs[j]? = some x → ∃ u, us[j]? = some u ∧ RelV s x u) →
    (∀ t av, AL.get (setPs fr ts xs) t = some av → t < ((ts.zip us).foldl (fun tm (p : Tmp × Value) => tm.setIfInBounds p.1 p.2) tmps).size ∧ RelV s av (((ts.zip us).foldl (fun tm (p : Tmp × Value) => tm.setIfInBounds p.1 p.2) tmps).getD t undef)) ∧
      ((ts.zip us).foldl (fun tm (p : Tmp × Value) => tm.setIfInBounds p.1 p.2) tmps).size = tmps.size
  | [], xs, us, fr, tmps, h, _, _, _ => ⟨by simpa [setPs] using h, by simp⟩
  | t :: ts, [], us, fr, tmps, h, _, hl, _ => by
    have : us = [] := List.eq_nil_of_length_eq_zero (by simpa using hl)
    subst this
    exact ⟨by simpa [setPs] using h, by simp⟩
  | t :: ts, x :: xs, us, fr, tmps, h, ht, hl, hx => by
    cases us with
    | nil => simp at hl
    | cons u us =>
      have hlt := ht t List.mem_cons_self
      have h0 : RelV s x u := by
        obtain ⟨u', e1, e2⟩ := hx 0 x rfl
        simp at e1; subst e1; exact e2
      have := setPs_rel ts xs us (AL.set fr t x) (tmps.setIfInBounds t u) (fun t' av ht' => by
        rw [AL.get_set] at ht'
        split at ht'
        · rename_i e; subst e; cases ht'
          exact ⟨by simpa using hlt, by rw [getD_set hlt]; simpa using h0⟩
        · rename_i e
          have := h t' av ht'
          exact ⟨by simpa using this.1, by rw [getD_set hlt, if_neg e]; exact this.2⟩) (fun t' ht' => by simpa using ht t' (List.mem_cons_of_mem _ ht')) (by simpa using hl) (fun j y hj => by
          obtain ⟨u', e1, e2⟩ := hx (j + 1) y (by simpa using hj)
          exact ⟨u', by simpa using e1, e2⟩)
      simpa [setPs] using this

/-- A frame is kept: what stands for something stands for it still. -/
theorem keep_ext {σ : Nat → Option Value} {st : St} {a : Act} {w : World} (hr : Rel K σ st a w) (fr' : List (Nat × AV)) (tm : Nat → Value) : Ext (sit K σ st w) (sit K σ ⟨fr', (st.nx, .kept st.fr tm) :: st.hp, st.nx + 1⟩ w) := by
  have hσ : σ st.nx = none := hr.fresh (Nat.le_refl _)
  have hget : ∀ id, id ≠ st.nx → AL.get ((st.nx, Obj'.kept st.fr tm) :: st.hp) id = AL.get st.hp id := fun id hid => by simp [AL.get, hid]
  refine ⟨fun _ _ _ _ h => h, fun b c _ hs => ⟨hs.1, fun id l hl hb => ?_⟩, fun id cs l h1 h2 => ?_, fun id E k rows sh l h1 h2 => ?_, fun id P k I l h1 h2 => ?_, fun id b r l h1 h2 => ?_⟩
  · have hid : id ≠ st.nx := by rintro rfl; simp only [sit] at hl; rw [hσ] at hl; cases hl
    obtain ⟨E, k, rows, h1, h2⟩ := hs.2 id l hl hb
    exact ⟨E, k, rows, by simp only [sit]; rw [hget id hid]; exact h1, h2⟩
  · have hid : id ≠ st.nx := by rintro rfl; simp only [sit] at h2; rw [hσ] at h2; cases h2
    exact ⟨h2, cs, by simp only [sit]; rw [hget id hid]; exact h1⟩
  · have hid : id ≠ st.nx := by rintro rfl; simp only [sit] at h2; rw [hσ] at h2; cases h2
    exact ⟨rows, sh, l, by simp only [sit]; rw [hget id hid]; exact h1, h2, .inl ⟨rfl, rfl, fun h => h⟩⟩
  · have hid : id ≠ st.nx := by rintro rfl; simp only [sit] at h2; rw [hσ] at h2; cases h2
    exact ⟨h2, I, by simp only [sit]; rw [hget id hid]; exact h1⟩
  · have hid : id ≠ st.nx := by rintro rfl; simp only [sit] at h2; rw [hσ] at h2; cases h2
    exact ⟨h2, r, by simp only [sit]; rw [hget id hid]; exact h1⟩
theorem keep_heap {σ : Nat → Option Value} {st : St} {a : Act} {w : World} (hr : Rel K σ st a w) (fr' : List (Nat × AV)) : Heap0 (sit K σ ⟨fr', (st.nx, .kept st.fr fun t => a.tmps.getD t undef) :: st.hp, st.nx + 1⟩ w) ∧
    ∀ id o, AL.get ((st.nx, Obj'.kept st.fr fun t => a.tmps.getD t undef) :: st.hp) id = some o → id < st.nx + 1 := by
  have hσ : σ st.nx = none := hr.fresh (Nat.le_refl _)
  have he := keep_ext hr fr' fun t => a.tmps.getD t undef
  have hget : ∀ id, id ≠ st.nx → AL.get ((st.nx, Obj'.kept st.fr fun t => a.tmps.getD t undef) :: st.hp) id = AL.get st.hp id := fun id hid => by simp [AL.get, hid]
  refine ⟨⟨fun id o ho => ?_, fun id l hl => ?_, hr.heap.inj, hr.heap.lt⟩, fun id o ho => ?_⟩
  · have ho' : AL.get ((st.nx, Obj'.kept st.fr fun t => a.tmps.getD t undef) :: st.hp) id = some o := ho
    by_cases hid : id = st.nx
    · subst hid
      simp only [AL.get_eq, Option.some.injEq] at ho'
      subst ho'
      exact ⟨hσ, fun t av ht => he.relV (hr.fr t av ht).2⟩
    · rw [hget id hid] at ho'
      exact (hr.heap.objs id o ho').ext he rfl rfl fun _ _ _ _ => rfl
  · obtain ⟨o, ho⟩ := hr.heap.dom id l hl
    by_cases hid : id = st.nx
    · exact ⟨_, by subst hid; simp only [sit]; exact AL.get_eq _ _ _⟩
    · exact ⟨o, by simp only [sit]; rw [hget id hid]; exact ho⟩
  · by_cases hid : id = st.nx
    · subst hid; exact Nat.lt_succ_self _
    · rw [hget id hid] at ho
      exact Nat.lt_succ_of_lt (hr.lt id o ho)

/-- In a round of a range over a function. -/
def Kx.round (K : Kx) (nt l : Nat) (Ds : List Nat) : Kx := { K with nt := nt, rd := some l, df := none, dk := Ds ++ K.dk, rg := false, pan := noPan }
/-- How a round ends. -/
def RoundEnd (e : Exit) (j : Option Code) : Prop := (e = .normal ∧ j = none) ∨ (e = .ret ∧ j = some .ret) ∨ ∃ i, e = .exit i ∧ j = some (.exit i)

theorem callS_yield {st : St} {o : Oper} {Q : St → Prop} {t0 : Tmp} {args : Array Operand} {argTypes : Array TypeId} (hd : dstOK K o.dst = true) (ho : o.op = .call { callee := .value (.tmp t0), args := args, argTypes := argTypes }) {L C b : Nat} {avs : List AV} {r : Loop} {cfr : List (Nat × AV)} {tm : Nat → Value}
    (h1 : AL.get st.fr t0 = some (.one (.yld L))) (h2 : mapO (evalA (AL.get st.fr)) args.toList = some avs) (hl : AL.get st.hp L = some (.lp b r)) (hst : r.state = .ready) (hk : AL.get st.hp C = some (.kept cfr tm)) (htm : tm = fun t => r.tmps.getD t undef)
    (hcf : ∀ t av, AL.get cfr t = some av → t < r.tmps.size) (hps : r.params.toList.length = avs.length) (hpt : ∀ t ∈ r.params.toList, t < r.tmps.size)
    (h : ∀ Ds tmi, AW (K.round r.tmps.size b Ds) r.assign (fun e st1 => e = .normal ∧ AL.get st1.hp L = some (.lp b r) ∧ AW (K.round r.tmps.size b Ds) r.body (fun e st2 => AL.get st2.hp st.nx = some (.kept st.fr tmi) ∧ ∃ j, RoundEnd e j ∧ ∃ r2, AL.get st2.hp L = some (.lp b r2) ∧
      Q (St.put ⟨st.fr, AL.set st2.hp L (.lp b { r2 with state := if j.isNone then .ready else .done, pending := j }), st2.nx⟩ o.dst (.one (.p (.v (.bool j.isNone)))))) ⟨st1.fr, AL.set st1.hp L (.lp b { r with state := .busy }), st1.nx⟩)
      ⟨setPs cfr r.params.toList avs, (st.nx, .kept st.fr tmi) :: st.hp, st.nx + 1⟩) : CallS K st o Q := by
  intro σ a w hr
  obtain ⟨r0, b0, e1, e2, e3⟩ := (hr.fr t0 _ h1).2
  have e1' : AL.get st.hp L = some (.lp b0 r0) := e1
  rw [hl] at e1'; cases e1'
  have e3 : a.eval (.tmp t0) = .func (.yield b) #[] #[] := e3
  have hLb := (hr.lp r hl).1
  rw [← mapM_eq] at h2
  obtain ⟨hlen, ha⟩ := mapM_get h2
  have hl' : args.size = avs.length := by simpa using hlen.symm
  have hsz : (args.map a.eval).size = r.params.size := by simp [hl', ← hps]
  refine wpIn_of (by rw [ho]; intro c hc; cases hc) ?_
  have hrun : (execOp a.eval o).run K.P w = .ok (.round b r.fn ((r.params.zip (args.map a.eval)).foldl (fun tmps (t, a) => tmps.setIfInBounds t a) r.tmps) r.assign r.body) w := by
    simp only [execOp, ho, resolve, Deferred.ofValue, e3, Sem.run_bind, Sem.run_pure, Result.andThen_ok, invoke]
    have : (#[] ++ args.map a.eval : Array Value) = args.map a.eval := by simp
    rw [this]
    exact run_yield hLb hsz
  rw [hrun, Oper.uponIn_round]
  obtain ⟨Ds, hDs1, hDs2, hDs3, hDs4, hDs5⟩ := hr.df
  have he := keep_ext hr (setPs cfr r.params.toList avs) fun t => a.tmps.getD t undef
  obtain ⟨hheap, hltn⟩ := keep_heap hr (setPs cfr r.params.toList avs)
  have hkept := hr.heap.objs C _ hk
  have hfold : ((r.params.zip (args.map a.eval)).foldl (fun tmps (p : Tmp × Value) => tmps.setIfInBounds p.1 p.2) r.tmps) = ((r.params.toList.zip (args.toList.map a.eval)).foldl (fun tmps (p : Tmp × Value) => tmps.setIfInBounds p.1 p.2) r.tmps) := by
    rw [← Array.foldl_toList]
    congr 1
    simp
  have hset := setPs_rel (s := sit K σ ⟨setPs cfr r.params.toList avs, (st.nx, .kept st.fr fun t => a.tmps.getD t undef) :: st.hp, st.nx + 1⟩ w) r.params.toList avs (args.toList.map a.eval) cfr r.tmps (fun t av ht => ⟨hcf t av ht, by
      have := hkept.2 t av ht
      rw [htm] at this
      exact he.relV this⟩) hpt (by simp [hl']) (fun j x hj => by
      obtain ⟨y, hy, hf⟩ := ha j x hj
      exact ⟨a.eval y, by simp [hy], he.relV (hr.evF y x hf)⟩)
  have hrel : Rel (K.round r.tmps.size b Ds) σ ⟨setPs cfr r.params.toList avs, (st.nx, .kept st.fr fun t => a.tmps.getD t undef) :: st.hp, st.nx + 1⟩ { tmps := (r.params.zip (args.map a.eval)).foldl (fun tmps (t, a) => tmps.setIfInBounds t a) r.tmps, defers := [] } w := by
    refine ⟨hheap, ?_, hltn, ⟨[], rfl, List.nodup_nil, fun D hD => (by cases hD), fun D hD => ?_, fun _ => rfl⟩, ?_, hr.frm⟩
    · intro t av ht
      show t < Array.size _ ∧ RelV _ av (Array.getD _ t undef)
      rw [show ((r.params.zip (args.map a.eval)).foldl (fun tmps (t, a) => tmps.setIfInBounds t a) r.tmps) = _ from hfold]
      exact hset.1 t av ht
    · rcases List.mem_append.1 hD with h1 | h1
      · exact (hDs3 D h1).2.2
      · exact hDs4 D h1
    · show Array.size _ = r.tmps.size
      rw [show ((r.params.zip (args.map a.eval)).foldl (fun tmps (t, a) => tmps.setIfInBounds t a) r.tmps) = _ from hfold]
      exact hset.2
  have hback : ∀ {σ' : Nat → Option Value} {st' : St} {a' : Act} {w' : World}, Rel (K.round r.tmps.size b Ds) σ' st' a' w' → AL.get st'.hp st.nx = some (.kept st.fr fun t => a.tmps.getD t undef) → Rel K σ' ⟨st.fr, st'.hp, st'.nx⟩ a w' := by
    intro σ' st' a' w' hr' hkept
    have hk := hr'.heap.objs st.nx _ hkept
    obtain ⟨_, _, _, _, h4, _⟩ := hr'.df
    exact ⟨hr'.heap, fun t av ht => ⟨(hr.fr t av ht).1, hk.2 t av ht⟩, hr'.lt,
      ⟨Ds, hDs1, hDs2, fun D hD => ⟨(hDs3 D hD).1, (hDs3 D hD).2.1, h4 D (List.mem_append_left _ hD)⟩, fun D hD => h4 D (List.mem_append_right _ hD), hDs5⟩, hr.nt, hr'.frm⟩
  have hF : (K.F.inRound b) = (K.round r.tmps.size b Ds).F := rfl
  refine ⟨depth_K, roundIn_of_wpIn trivial ?_⟩
  rw [hF]
  refine wpIn_mono (h Ds _ σ _ w hrel) fun e a1 w1 hp => ?_
  rcases hp with ⟨σ1, st1, ⟨rfl, hl1, hbody⟩, hr1⟩ | ⟨ps, rfl, _, _, _, hp⟩
  rotate_left
  · exact hp.elim
  obtain ⟨hb1, hr1'⟩ := hr1.lp { r with state := .busy } hl1
  refine ⟨_, run_beginRound hb1 hst, ?_⟩
  refine wpIn_mono (hbody σ1 a1 _ hr1') fun e a2 w2 hp => ?_
  rcases hp with ⟨σ2, st2, ⟨hk2, j, hj, r2, hl2, hq⟩, hr2⟩ | ⟨ps, rfl, _, _, _, hp⟩
  rotate_left
  · exact hp.elim
  obtain ⟨hb2, _⟩ := hr2.lp r2 hl2
  have hend : ∃ v w', (Instr.endRound b j).run K.P w2 = .ok v w' ∧ nextA K Q (a.put o.dst v) w' := by
    refine ⟨_, _, run_endRound j hb2, ?_⟩
    obtain ⟨_, hr3⟩ := (hback hr2 hk2).lp { r2 with state := if j.isNone then .ready else .done, pending := j } hl2
    exact ⟨σ2, _, hr3.put hd (av := .one (.p (.v (.bool j.isNone)))) (.v _ rfl), hq⟩
  rcases hj with ⟨rfl, rfl⟩ | ⟨rfl, rfl⟩ | ⟨i, rfl, rfl⟩
  · exact hend
  · exact hend
  · exact hend

theorem new_lp {s : Sit} (H : Heap0 s) {id : Nat} (hid : s.σ id = none) (hbase : s.base ≤ s.w.heap.size) (r : Loop) :
    Heap0 (s.put id (.lp s.w.heap.size r) (.func (.yield s.w.heap.size) #[] #[]) (s.w.alloc (.loop r))) ∧ Ext s (s.put id (.lp s.w.heap.size r) (.func (.yield s.w.heap.size) #[] #[]) (s.w.alloc (.loop r))) := by
  have hT : Turn s id (.lp s.w.heap.size r) (.func (.yield s.w.heap.size) #[] #[]) (s.w.alloc (.loop r)) :=
    Turn.new hid (fun k hk => Below.heap_alloc _ _ _ hk) (by simp) hbase (fun b hb => by simp [locBlk] at hb; subst hb; simp)
  have he := hT.new_ext hid
  exact ⟨hT.heap H he ⟨by simp [Sit.put, upd_same], World.alloc_heap_new s.w _⟩, he⟩

/-- In an iterator. -/
def Kx.iter (K : Kx) (nt : Nat) (st : St) (tm : Nat → Value) (Ds : List Nat) : Kx :=
  { K with nt := nt, rd := none, df := none, rg := true, dk := Ds ++ K.dk, pan := fun ps st' => AL.get st'.hp st.nx = some (.kept st.fr tm) ∧ K.pan ps ⟨st.fr, st'.hp, st'.nx⟩ }
/-- What comes behind the loop: on, or where a round has jumped. -/
def pendQ (Q : Exit → St → Prop) (st : St) : Option Code → Prop
  | none => Q .normal st
  | some .ret => Q .ret st
  | some (.exit i) => Q (.exit i) st
  | _ => False

theorem aw_rangeFunc {g : Operand} {ps : Array Tmp} {assign body : Code} {Q : Exit → St → Prop} {st : St} (hrd : K.rd = none) (hrg : K.rg = true) {gf : FuncId} {caps : List CC} (hg : evalA (AL.get st.fr) g = some (.one (.fn gf caps)))
    {fn : Func} {c : Code} {nt : Nat} (hf : K.P.funcs[gf]? = some fn) (hb : fn.body = some c) (hname : fn.name ≠ "runtime.NumGoroutine") (hnt : fn.ntmps = nt) (hrs : fn.results.toList = []) (hn : caps.length + 1 ≤ nt)
    (h : ∀ (r : Loop) (b : Nat) (tm : Nat → Value) (Ds : List Nat), r.state = .ready → r.pending = none → r.params = ps → r.assign = assign → r.body = body → r.tmps.size = K.nt → tm = (fun t => r.tmps.getD t undef) → (∀ t av, AL.get st.fr t = some av → t < r.tmps.size) →
      AW (K.iter nt st tm Ds) c (fun e st' => (e = .normal ∨ e = .ret) ∧ AL.get st'.hp st.nx = some (.kept st.fr tm) ∧ ∃ r2, AL.get st'.hp (st.nx + 1) = some (.lp b r2) ∧ r2.state ≠ .busy ∧ pendQ Q ⟨st.fr, AL.set st'.hp (st.nx + 1) (.lp b { r2 with state := .exhausted }), st'.nx⟩ r2.pending)
        ⟨initV 0 (.one (.yld (st.nx + 1)) :: caps.map capV), (st.nx + 1, .lp b r) :: (st.nx, .kept st.fr tm) :: st.hp, st.nx + 2⟩) : AW K (.rangeFunc g ps assign body) Q st := by
  subst hnt
  intro σ a w hr
  refine wpIn_rangeFunc fun fn0 _ => ?_
  have hround : K.F.round = none := hrd
  obtain ⟨us, hus, hs0, hcap⟩ := hr.evF g _ hg
  obtain ⟨r, hrec⟩ : ∃ r : Loop, r = { state := .ready, pending := none, fn := fn0, tmps := a.tmps, params := ps, assign, body, defers := w.heap.size } := ⟨_, rfl⟩
  obtain ⟨wA, hwA⟩ : ∃ wA, w.alloc (.deferred (some [])) = wA := ⟨_, rfl⟩
  have hsA : wA.heap.size = w.heap.size + 1 := by rw [← hwA]; simp
  have hDA : DfrAt wA w.heap.size := by rw [← hwA]; exact World.alloc_heap_new w _
  have hbA : Below w.heap.size w wA := by rw [← hwA]; exact (Below.refl _ w).alloc (Nat.le_refl _) _
  have hrA := hr.at hbA
  obtain ⟨Ds, hDs1, hDs2, hDs3, hDs4, hDs5⟩ := hrA.df
  have hDlt : ∀ D, (D ∈ Ds ∨ D ∈ K.dk) → D < w.heap.size := by
    intro D hD
    obtain ⟨Ds0, g1, g2, g3, g4, _⟩ := hr.df
    have hDsE : Ds0.map collD = Ds.map collD := by
      have := g1.symm.trans hDs1
      exact List.append_cancel_right this
    have : Ds0 = Ds := by
      have hinj : ∀ x y, collD x = collD y → x = y := fun x y h => by simpa [collD] using h
      exact (List.map_inj_right hinj).1 hDsE
    subst this
    rcases hD with hD | hD
    · exact (Array.getElem?_eq_some_iff.1 (g3 D hD).2.2).1
    · exact (Array.getElem?_eq_some_iff.1 (g4 D hD)).1
  let tm : Nat → Value := fun t => a.tmps.getD t undef
  let fr' := initV 0 (.one (.yld (st.nx + 1)) :: caps.map capV)
  have hk := keep_heap hrA fr'
  have hke := keep_ext hrA fr' tm
  have hσ1 : σ (st.nx + 1) = none := hrA.fresh (Nat.le_succ _)
  obtain ⟨q1, q2⟩ := new_lp (s := sit K σ ⟨fr', (st.nx, .kept st.fr tm) :: st.hp, st.nx + 1⟩ wA) hk.1 (id := st.nx + 1) hσ1 hrA.frm.size r
  have hsit : sit K (Pv.upd σ (st.nx + 1) (.func (.yield wA.heap.size) #[] #[])) ⟨fr', (st.nx + 1, .lp wA.heap.size r) :: (st.nx, .kept st.fr tm) :: st.hp, st.nx + 2⟩ (wA.alloc (.loop r)) = (sit K σ ⟨fr', (st.nx, .kept st.fr tm) :: st.hp, st.nx + 1⟩ wA).put (st.nx + 1) (.lp wA.heap.size r) (.func (.yield wA.heap.size) #[] #[]) (wA.alloc (.loop r)) := by
    unfold sit Sit.put
    simp only
    congr 1
  have hbB : Below wA.heap.size wA (wA.alloc (.loop r)) := (Below.refl _ wA).alloc (Nat.le_refl _) _
  have hrB := hrA.at hbB
  have hcapB : ∀ (j : Nat) (cc : CC), caps[j]? = some cc → ∃ x, us[j]? = some x ∧ RelCC (sit K σ st wA) cc x := by
    intro j cc hj
    obtain ⟨us', hus', _, hcap'⟩ := hrA.evF g _ hg
    rw [hus] at hus'; cases hus'
    exact hcap' j cc hj
  have hrel : Rel (K.iter fn.ntmps st tm (w.heap.size :: Ds)) (Pv.upd σ (st.nx + 1) (.func (.yield wA.heap.size) #[] #[])) ⟨fr', (st.nx + 1, .lp wA.heap.size r) :: (st.nx, .kept st.fr tm) :: st.hp, st.nx + 2⟩
      { tmps := (#[.func (.yield wA.heap.size) #[] #[]] ++ us) ++ Array.replicate (fn.ntmps - (#[.func (.yield wA.heap.size) #[] #[]] ++ us : Array Value).size) undef, defers := [] } (wA.alloc (.loop r)) := by
    have hsz : (#[.func (.yield wA.heap.size) #[] #[]] ++ us : Array Value).size = caps.length + 1 := by simp [hs0]; omega
    refine ⟨by show Heap0 (sit K _ _ _); rw [hsit]; exact q1, fun t av ht => ?_, fun id o ho => ?_, ⟨[], rfl, List.nodup_nil, fun D hD => (by cases hD), fun D hD => ?_, fun _ => rfl⟩, by simp [Kx.iter]; omega, hrB.frm⟩
    · have ht' : AL.get fr' t = some av := ht
      rw [initV_get] at ht'
      split at ht'
      · rename_i hc
        simp only [Nat.sub_zero] at ht'
        refine ⟨by simp only [Array.size_append, Array.size_replicate] at hsz ⊢; simp only [List.length_cons, List.length_map] at hc; omega, ?_⟩
        show RelV (sit K _ _ _) av _
        rw [hsit]
        rcases t with _ | t
        · simp at ht'; subst ht'
          have : ((#[Value.func (.yield wA.heap.size) #[] #[]] ++ us) ++ Array.replicate (fn.ntmps - (#[Value.func (.yield wA.heap.size) #[] #[]] ++ us).size) undef).getD 0 undef = .func (.yield wA.heap.size) #[] #[] := by
            rw [Array.getD_eq_getD_getElem?, Array.getElem?_append_left (by rw [hsz]; omega), Array.getElem?_append_left (by simp)]; rfl
          rw [this]
          exact ⟨r, wA.heap.size, by simp [Sit.put, upd_same], by simp [Sit.put, upd_same], rfl⟩
        · rw [List.getElem?_cons_succ, List.getElem?_map] at ht'
          obtain ⟨cc, hcc, rfl⟩ := Option.map_eq_some_iff.1 ht'
          obtain ⟨x, hx, hrx⟩ := hcapB t cc hcc
          have : ((#[Value.func (.yield wA.heap.size) #[] #[]] ++ us) ++ Array.replicate (fn.ntmps - (#[Value.func (.yield wA.heap.size) #[] #[]] ++ us).size) undef).getD (t + 1) undef = x := by
            have htl := (Array.getElem?_eq_some_iff.1 hx).1
            rw [Array.getD_eq_getD_getElem?, Array.getElem?_append_left (by simp; omega), Array.getElem?_append_right (by simp)]
            simp [hx]
          rw [this]
          exact capV_rel (q2.relCC (hke.relCC hrx))
      · cases ht'
    · have ho' : AL.get ((st.nx + 1, Obj'.lp wA.heap.size r) :: (st.nx, .kept st.fr tm) :: st.hp) id = some o := ho
      by_cases hid : id = st.nx + 1
      · show id < st.nx + 2; omega
      · rw [AL.get_ne _ _ hid] at ho'
        have := hk.2 id o ho'
        show id < st.nx + 2; omega
    · have hold : ∀ D, DfrAt wA D → DfrAt (wA.alloc (.loop r)) D := dfr_below hbB
      rcases List.mem_append.1 hD with h1 | h1
      · rcases List.mem_cons.1 h1 with rfl | h1
        · exact hold _ hDA
        · exact hold _ (hDs3 D h1).2.2
      · exact hold _ (hDs4 D h1)
  have hback : ∀ {σ' : Nat → Option Value} {st' : St} {a' : Act} {w' : World}, Rel (K.iter fn.ntmps st tm (w.heap.size :: Ds)) σ' st' a' w' → AL.get st'.hp st.nx = some (.kept st.fr tm) → Rel K σ' ⟨st.fr, st'.hp, st'.nx⟩ { a with defers := [collD w.heap.size] ++ a.defers } w' := by
    intro σ' st' a' w' hr' hkept
    have hk := hr'.heap.objs st.nx _ hkept
    obtain ⟨_, _, _, _, h4, _⟩ := hr'.df
    have h4' : ∀ D, D ∈ (w.heap.size :: Ds) ++ K.dk → DfrAt w' D := h4
    refine ⟨hr'.heap, fun t av ht => ⟨(hr.fr t av ht).1, hk.2 t av ht⟩, hr'.lt, ⟨w.heap.size :: Ds, ?_, ?_, fun D hD => ?_, fun D hD => h4' D (List.mem_append_right _ hD), fun e => by rw [hrg] at e; cases e⟩, hr.nt, hr'.frm⟩
    · show [collD w.heap.size] ++ a.defers = _
      rw [show a.defers = _ from hDs1]; rfl
    · refine List.nodup_cons.2 ⟨fun hm => ?_, hDs2⟩
      have := hDlt _ (.inl hm); omega
    · rcases List.mem_cons.1 hD with rfl | h1
      · exact ⟨hr.frm.size, fun hm => by have := hDlt _ (.inr hm); omega, h4' _ (by simp)⟩
      · exact ⟨(hDs3 D h1).1, (hDs3 D h1).2.1, h4' D (by simp [h1])⟩
  refine ⟨w.heap.size + 1, [collD w.heap.size], wA.alloc (.loop r), { target := .fn (.func gf) us, args := #[.func (.yield (w.heap.size + 1)) #[] #[]] }, wA.alloc (.loop r), gf, #[.func (.yield (w.heap.size + 1)) #[] #[]] ++ us, wA.alloc (.loop r), ?_, ?_, fun f' _ => trivial, ?_, depth_K, ?_⟩
  · rw [hround, ← hwA, hrec]; exact run_enterLoop_outer _ _ _ _ _
  · simp only [resolve, hus]
    simp [go_sem]
  · simp [invoke, run_callFunc hf (by rw [hb]; rfl) hname]
  · rw [hsA] at hrel
    have hh := h r wA.heap.size tm (w.heap.size :: Ds) (by rw [hrec]) (by rw [hrec]) (by rw [hrec]) (by rw [hrec]) (by rw [hrec]) (by rw [hrec]; exact hr.nt) (by rw [hrec]) (fun t av ht => by rw [hrec]; exact (hr.fr t av ht).1)
    rw [hsA] at hh
    refine callsIn_K (calls_of_aw (K := K.iter fn.ntmps st tm (w.heap.size :: Ds)) hf hb rfl rfl hrel hh (fun e st' hq => hq.1) (fun e σ' st' a' w' hq hr' => ?_) (fun ps σ' st' a' w' hp hr' => ?_))
    · obtain ⟨_, hkept, r2, hl, hst, hpq⟩ := hq
      have hres : resV K.P st' fn.results.toList = some (.tup []) := by rw [hrs]; rfl
      obtain ⟨u, hu, _⟩ := resV_run (K := K.iter fn.ntmps st tm (w.heap.size :: Ds)) hr' hres
      obtain ⟨hb2, hr3⟩ := (hback hr' hkept).lp { r2 with state := .exhausted } hl
      refine ⟨u, hu, r2.pending, _, run_endLoop hb2 hst, ?_⟩
      have hend : ∀ pe, pendQ Q ⟨st.fr, AL.set st'.hp (st.nx + 1) (.lp (w.heap.size + 1) { r2 with state := .exhausted }), st'.nx⟩ pe → (match pe with
          | none => postA K Q .normal { a with defers := [collD w.heap.size] ++ a.defers } (w'.putObj (w.heap.size + 1) (.loop { r2 with state := .exhausted }))
          | some c => c.wpIn K.F 0 K.P (postA K Q) { a with defers := [collD w.heap.size] ++ a.defers } (w'.putObj (w.heap.size + 1) (.loop { r2 with state := .exhausted }))) := by
        intro pe hpe
        cases pe with
        | none => exact .inl ⟨σ', _, hpe, hr3⟩
        | some cd =>
          cases cd with
          | ret => exact wpIn_ret (.inl ⟨σ', _, hpe, hr3⟩)
          | exit i => exact wpIn_exit (.inl ⟨σ', _, hpe, hr3⟩)
          | _ => exact hpe.elim
      exact hend _ hpq
    · exact .inr ⟨ps, rfl, σ', _, hback hr' hp.1, hp.2⟩
end Go.Pv
